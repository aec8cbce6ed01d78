/- What the theorem of this claim leans on, part 4. -/
import Derived.Test.YthipdlhknbhiiaaGreatKC
import Derived.WalkKit
import Derived.SizedLaws
import Derived.IntWalk
import Derived.Test.YthipdlhknbhiiaaGreatProg
import Derived.KernelRfl
set_option linter.unusedVariables false
set_option linter.unusedSimpArgs false
set_option linter.unusedSectionVars false
section
namespace Go.Proofs.YthipdlhknbhiiaaGreat.Ev
open Go
section
variable {P:Program} {R:Rel} {cf:Cfg} {X:TX} {g:FuncId}
def EntsOK (R:Rel) (cf:Cfg) (X:TX):Prop:=∀ g E,findF X.ents g=some E→EntOK R E∧E.a.g=g∧cf.byref g=(slotsA E.a.params).map refA
theorem AJ0 {α:Type} {op:Op} {b:Nat} {tm:TTm} {m:Tm} {hp hpm:THp} {hvm:Hp} {K:SV→THp→Cls→Option α} {z : α} (hX:XOK P X) (hisr:isR op=true) (hr:RT hp tm m) (hh:RHm hpm hp hvm) (h:wtOp X op b tm hpm K=some z):Looks P R cf op b m hp hpm hvm K z:=by
 cases op with
 | load t a=>exact AF9 hX hr hh h
 | indexAddr t x i=>exact AO5 hX hr hh h
 | convert s d x=>exact AH6 hX hr hh h
 | slice t x lo hi mx =>
  cases mx with
  | none=>exact Ap1 hX hr hh h
  | some m' =>
   cases hi with
   | none=>simp[wtOp] at h
   | some h'=>exact Zw hX hr h
 | _=>simp[isR] at hisr
theorem AJ9 {α:Type} {op:Op} {b:Nat} {tm:TTm} {m:Tm} {hp:THp} {hv:Hp} {K:SV→THp→Cls→Option α} {z : α} (hX:XOK P X) (hE:EntsOK R cf X) (hh:RH hp hv) (hr:RT hp tm m) (h:wtOp X op b tm hp K=some z):Done P R cf op b tm m hv K z:=by
 cases op with
 | move x=>exact (AQ5 hr h).done hh hr
 | assign x=>exact (AF0 hr h).done hh hr
 | pick c x y=>exact (AR5 hr h).done hh hr
 | alloc t=>exact AM0 hX hh hr h
 | box t x=>exact AS8 hX hh hr h
 | build t parts=>exact (AN6 hX hr h).done hh hr
 | buildSlice t len parts=>exact AL8 hX hh hr h
 | load t a=>exact (AF9 hX hr hh.toM h).done hh hr
 | store t a x=>exact AK7 hX hh hr h
 | nilCheck x=>exact (AS9 hr h).done hh hr
 | binOp op t x y yt=>exact (AS7 hX hr h).done hh hr
 | unOp u t x=>exact (l_un hr h).done hh hr
 | convert s d x=>exact (AH6 hX hr hh.toM h).done hh hr
 | makeSlice t l c=>exact AR4 hX hh hr h
 | slice t x lo hi mx =>
  cases mx with
  | none=>exact (Ap1 hX hr hh.toM h).done hh hr
  | some m' =>
   cases hi with
   | none=>simp[wtOp] at h
   | some h'=>exact (Zw hX hr h).done hh hr
 | fieldAddr t x k=>exact (Z7 hX hr h).done hh hr
 | field t x k=>exact (AN0 hX hr h).done hh hr
 | indexAddr t x i=>exact (AO5 hX hr hh.toM h).done hh hr
 | index t x i=>exact (AL2 hX hr h).done hh hr
 | extract x k=>exact (Av2 hr h).done hh hr
 | makeFunc fn first caps =>
  cases fn with
  | func f=>exact (AP7 hr h).done hh hr
  | _=>simp[wtOp] at h
 | call c =>
  obtain ⟨callee,args,ts⟩:=c
  cases callee with
  | builtin bi =>
   cases bi with
   | append=>exact AG4 hX hh hr h
   | len=>exact (AS5 hX hr hh.toM h).done hh hr
   | min=>exact (AT1 hr h).done hh hr
   | max=>exact (AS4 hr h).done hh hr
   | _=>simp[wtOp] at h
  | value f =>
   simp only[wtOp] at h
   split at h
   ·rename_i g caps hf
    have hc:=Az hr f
    rw[hf] at hc
    obtain ⟨us,hfv,hcs⟩:=Ap8 hc
    obtain ⟨x,hp',cls,y,hv',h1,h2,h3,h4,h5⟩:=Az5 hE hh hr (RC.append (Hu hr args.toList) (hcs.mono fun _ _ _ h=>h.to1.to2)) h
    refine ⟨x,hp',cls,y,hv',h1,h2,h3,h4,fun KV hk=>?_⟩
    show (match opnd m f with | .cl g caps=>weInv R cf g (args.toList.map (opnd m)++caps) hv b KV | _=>False)
    rw[hfv]
    exact h5 KV hk
   ·cases h
  | _=>simp[wtOp] at h
 | _=>simp[wtOp] at h
theorem AG2 {b:Nat}:∀ (hp:THp) (id:Nat),getB (maskT b hp) id=if id<b then getB hp id else none
 | [],id=>by simp[maskT,getB]
 | (k,x)::l,id=>by
  have ih:=AG2 (b:=b) l id
  unfold maskT at ih ⊢
  rw[List.filter_cons]
  by_cases hk:k<b
  ·have:Nat.blt k b=true:=Nat.ble_eq_true_of_le hk
   simp only[this,if_true]
   rw[Ao,Ao]
   by_cases hi:id=k
   ·subst hi; rw[if_pos rfl,if_pos rfl,if_pos hk]
   ·rw[if_neg hi,if_neg hi]; exact ih
  ·have:Nat.blt k b=false:=by
    cases hb:Nat.blt k b with
    | false=>rfl
    | true=>exact absurd (Nat.lt_of_succ_le (Nat.le_of_ble_eq_true hb)) hk
   simp only[this,Bool.false_eq_true,if_false]
   rw[Ao]
   by_cases hi:id=k
   ·subst hi; rw[if_neg hk] at ih ⊢; exact ih
   ·rw[if_neg hi]; exact ih
theorem AJ4 {α:Type} {draw:Bool} {op:Op} {b:Nat} {tm:TTm} {m:Tm} {hp:THp} {hv:Hp} {K:SV→THp→Cls→Option α} {z : α} (hX:XOK P X) (hE:EntsOK R cf X) (hh:RH hp hv) (hr:RT hp tm m) (h:wtAt X draw op b tm hp K=some z) :
  ∃ x hp' cls y hv',K x hp' cls=some z∧RV2 hp' x y∧RH hp' hv'∧RT hp' tm m∧∀ KV:Cont,KV y hv' cls→opAt P R cf draw op b (opnd m) hv KV:=by
 unfold wtAt at h
 cases hd:draw&&isR op with
 | true =>
  rw[hd] at h
  have hi:isR op=true:=by simp only[Bool.and_eq_true] at hd; exact hd.2
  obtain ⟨x,y,cls,h1,h2,h3⟩:=AJ0 (R:=R) (cf:=cf) (hp:=hp) (hpm:=maskT b hp) (hvm:=mask b hv) hX hi hr (fun id bb hb=>by
   rw[AG2] at hb
   split at hb
   ·rename_i hlt
    obtain ⟨k,hk,hrb⟩:=hh id bb hb
    exact ⟨hb,k,by simp only[mask,if_pos hlt,hk],hrb⟩
   ·cases hb) h
  refine ⟨x,hp,cls,y,hv,h1,h2,hh,hr,fun KV hk=>?_⟩
  unfold opAt
  rw[hd]
  exact h3 (fun x _ cls=>KV x hv cls) hk
 | false =>
  rw[hd] at h
  obtain ⟨x,hp',cls,y,hv',h1,h2,h3,h4,h5⟩:=AJ9 hX hE hh hr h
  refine ⟨x,hp',cls,y,hv',h1,h2,h3,h4,fun KV hk=>?_⟩
  unfold opAt
  rw[hd]
  exact h5 KV hk
theorem Al4 {hp:THp} {tm:TTm} {m:Tm} {x:SV} {y:V} (h:RT hp tm m) (hx:RV2 hp x y) (dst:Option Tmp):RT hp (putTm tm dst x) (put m dst y):=by
 cases dst with
 | none=>exact h
 | some d =>
  intro t
  simp only[putTm,put]
  rw[EC]
  unfold upd
  split
  ·exact hx
  ·exact h t
theorem AD3 {hp:THp} {tm:TTm} {m:Tm} {op:Op} (hr:RT hp tm m) (h:sureOp tm op=true):opIds m op=idsOp tm op:=by
 unfold opIds idsOp
 unfold sureOp at h
 generalize op.operands.toList=l at h ⊢
 induction l with
 | nil=>rfl
 | cons y l ih =>
  simp only[List.map_cons,List.all_cons,Bool.and_eq_true] at h
  simp only[List.flatMap_cons,List.map_cons]
  rw[ih h.2,(Fw h.1 (Az hr y)).2.2.1]
theorem NJ {α β:Type} {f g : α→List β}:∀ {l:List α},(∀ x∈l,f x=g x)→l.flatMap f=l.flatMap g
 | [],_=>rfl
 | x::l,h=>by
  rw[List.flatMap_cons,List.flatMap_cons,h x (List.mem_cons_self ..),NJ fun y hy=>h y (List.mem_cons_of_mem _ hy)]
theorem ZZ {hp:THp} {hv:Hp} {tm:TTm} {m:Tm} {op:Op} {ids:List Nat} (hE:EntsOK R cf X) (hh:RH hp hv) (hr:RT hp tm m) (h:touchedT X op tm hp=some ids):touched cf op (opnd m) hv=some ids:=by
 unfold touchedT at h
 split at h
 ·rename_i t a x
  split at h
  ·rename_i hc
   cases h
   simp only[Bool.and_eq_true] at hc
   simp only[touched]
   rw[(Fw hc.1 (Az hr a)).2.2.1,(Fw hc.2 (Az hr x)).2.2.1]
  ·cases h
 ·rename_i f args tys
  split at h
  case h_2=>cases h
  rename_i g caps hf
  split at h
  case h_2=>cases h
  rename_i E hfe
  obtain ⟨_,_,hbr⟩:=hE g E hfe
  split at h
  case h_2=>cases h
  rename_i args' hargs'
  split at h
  case isFalse=>cases h
  rename_i s1
  split at h
  case h_2=>cases h
  rename_i o ho
  cases h
  have hc:=Az hr f
  rw[hf] at hc
  obtain ⟨us,hfv,hcs⟩:=Ap8 hc
  obtain ⟨ys',hV,hargs2,hlent⟩:=Mn hh hargs' (RC.append (Hu hr args.toList) (hcs.mono fun _ _ _ h=>h.to1.to2))
  obtain ⟨a1,a2,a3,a4⟩:=RC.all1 s1 hargs2
  rw[←hbr] at hV hlent
  have hclose:close hv 64 (ys'.flatMap refs1) []=some o:=by rw[a2]; exact Fo hh _ _ _ ho
  have hcloseC:closeC hv (ys'.flatMap refs1)=some o:=by
   unfold closeC
   rw[hclose]
   simp only
   rw[if_pos (by rw[a2]; exact Nn hh ho)]
  simp only[touched,hfv,hV,hcloseC,hlent]
 ·rename_i t n parts
  split at h
  ·rename_i hc
   cases h
   simp only[touched]
   congr 1
   refine NJ fun p hp=>?_
   exact (Fw (List.all_eq_true.1 hc p hp) (Az hr p.2)).2.2.1
  ·cases h
 ·cases h
theorem AL9 {hp:THp} {hv:Hp} {tm:TTm} {m:Tm} {all:List Oper} {i:Nat} (hE:EntsOK R cf X) (hh:RH hp hv) (hr:RT hp tm m) (h:farT X all tm hp i=true):farOK cf all m hv i=true:=by
 unfold farT at h
 unfold farOK
 cases ha:all[i]? with
 | none=>rw[ha] at h; cases h
 | some a =>
  rw[ha] at h
  simp only[Bool.and_eq_true] at h ⊢
  refine ⟨h.1,?_⟩
  replace h:=h.2
  cases ht:touchedT X a.op tm hp with
  | none=>rw[ht] at h; cases h
  | some ids =>
   rw[ht] at h
   rw[ZZ hE hh hr ht]
   simp only at h ⊢
   refine List.all_eq_true.2 fun j hj=>?_
   have h4:=List.all_eq_true.1 h j hj
   cases ho:all[j]? with
   | none=>simp
   | some o =>
    rw[ho] at h4
    simp only[Bool.or_eq_true,Bool.and_eq_true] at h4 ⊢
    rcases h4 with h4 | h4 | ⟨h4,h5,h6⟩
    ·exact .inl h4
    ·exact .inr (.inl h4)
    ·exact .inr (.inr ⟨h4,by rw[AD3 hr h5]; exact h6⟩)
theorem AR7 {hp:THp} {hv:Hp} {tm:TTm} {m:Tm} {all:List Oper} {i:Nat} (hE:EntsOK R cf X) (hh:RH hp hv) (hr:RT hp tm m) (h:(eOK all i || farT X all tm hp i)=true):(eOK all i || farOK cf all m hv i)=true:=by
 simp only[Bool.or_eq_true] at h ⊢
 exact h.imp (fun h=>h) (AL9 hE hh hr)
theorem AB9 {α:Type} {draw ok ok':Bool} {cls:Cls} {A:Option α} {z : α} (hok:ok=true→ok'=true) (h:drawnT draw ok cls A=some z):A=some z∧∀ B:Prop,B→drawn draw ok' cls B:=by
 cases draw <;> cases cls <;> first | exact ⟨h,fun B hb=>hb⟩ | (obtain ⟨h1,h2⟩:=BR h; exact ⟨h2,fun B hb=>⟨hok h1,hb⟩⟩)
theorem SP {α:Type} {all:List Oper} {draw:Bool} (hX:XOK P X) (hE:EntsOK R cf X):∀ (l:List Oper) (i:Nat) {st:TSt} {s:St} {K:TSt→Option α} {z : α},RS st s→wtOps X all draw l i st K=some z →
  ∃ st' s',K st'=some z∧RS st' s'∧st'.c=st.c∧∀ KV:St→Prop,KV s'→weOps P R cf all draw l i s KV
 | [],i,st,s,K,z,hs,h=>⟨st,s,h,hs,rfl,fun KV hk=>hk⟩
 | o::l,i,st,s,K,z,hs,h=>by
  have go:∀ (tm:TTm),RT st.hp tm s.tm→(wtAt X draw o.op (16*(st.c + i)) tm st.hp fun x hp cls=>drawnT draw (eOK all i || farT X all tm st.hp i) cls (wtOps X all draw l (i + 1) { tm:=putTm tm o.dst x,hp:=hp,c:=st.c } K))=some z →
    ∃ st' s',K st'=some z∧RS st' s'∧st'.c=st.c∧∀ KV:St→Prop,KV s'→opAt P R cf draw o.op (16*(s.c + i)) (opnd s.tm) s.hp fun x hp cls=>drawn draw (eOK all i || farOK cf all s.tm s.hp i) cls (weOps P R cf all draw l (i + 1) { tm:=put s.tm o.dst x,hp:=hp,c:=s.c } KV):=by
   intro tm hr h
   obtain ⟨x,hp',cls,y,hv',h1,h2,h3,h4,h5⟩:=AJ4 (R:=R) (cf:=cf) hX hE hs.hp hr h
   obtain ⟨h6,h7⟩:=AB9 (AR7 hE hs.hp hr) h1
   obtain ⟨st',s',q1,q2,q3,q4⟩:=SP hX hE l (i + 1) (st:={ tm:=putTm tm o.dst x,hp:=hp',c:=st.c }) (s:={ tm:=put s.tm o.dst y,hp:=hv',c:=s.c }) ⟨Al4 h4 h2 o.dst,h3,hs.c⟩ h6
   exact ⟨st',s',q1,q2,q3,fun KV hk=>by rw[hs.c]; exact h5 _ (by have:=h7 _ (q4 KV hk); rw[hs.c] at this; exact this)⟩
  have no:∀ (tm:TTm),RT st.hp tm s.tm→wtOps X all draw l (i + 1) { tm:=putTm tm o.dst (.tup []),hp:=st.hp,c:=st.c } K=some z →
    ∃ st' s',K st'=some z∧RS st' s'∧st'.c=st.c∧∀ KV:St→Prop,KV s'→weOps P R cf all draw l (i + 1) { tm:=put s.tm o.dst (.tup []),hp:=s.hp,c:=s.c } KV:=by
   intro tm hr h
   exact SP hX hE l (i + 1) (st:={ tm:=putTm tm o.dst (.tup []),hp:=st.hp,c:=st.c }) (s:={ tm:=put s.tm o.dst (.tup []),hp:=s.hp,c:=s.c }) ⟨Al4 (x:=.tup []) (y:=.tup []) hr ⟨[],rfl,trivial⟩ o.dst,hs.hp,hs.c⟩ h
  simp only[wtOps] at h
  cases hg:o.guard with
  | none =>
   rw[hg] at h
   obtain ⟨st',s',q1,q2,q3,q4⟩:=go st.tm hs.tm h
   exact ⟨st',s',q1,q2,q3,fun KV hk=>by unfold weOps; rw[hg]; exact q4 KV hk⟩
  | some jw =>
   obtain ⟨j,want⟩:=jw
   rw[hg] at h
   simp only at h
   cases hd:(all[j]?).bind (·.dst) with
   | none=>rw[hd] at h; cases h
   | some d =>
    rw[hd] at h
    simp only at h
    have htd:=hs.tm d
    have fin:∀ w:Bool,guardC (s.tm d) want=some w→(∃ st' s',K st'=some z∧RS st' s'∧st'.c=st.c∧∀ KV:St→Prop,KV s'→(if w=true then opAt P R cf draw o.op (16*(s.c + i)) (opnd s.tm) s.hp fun x hp cls=>drawn draw (eOK all i || farOK cf all s.tm s.hp i) cls (weOps P R cf all draw l (i + 1) { tm:=put s.tm o.dst x,hp:=hp,c:=s.c } KV) else weOps P R cf all draw l (i + 1) { tm:=put s.tm o.dst (.tup []),hp:=s.hp,c:=s.c } KV)) →
      ∃ st' s',K st'=some z∧RS st' s'∧st'.c=st.c∧∀ KV:St→Prop,KV s'→weOps P R cf all draw (o::l) i s KV:=by
     intro w hw ⟨st',s',q1,q2,q3,q4⟩
     refine ⟨st',s',q1,q2,q3,fun KV hk=>?_⟩
     unfold weOps
     rw[hg]
     simp only[hd,Option.map_some,Ai,hw]
     exact q4 KV hk
    have same:∀ t:Bool,s.tm d = .v (.bool t)→RT st.hp ((d,.bool t)::st.tm) s.tm:=by
     intro t ht t'
     rw[EC]
     split
     ·rename_i he; rw[he,ht]; rfl
     ·exact hs.tm t'
    split at h
    ·rename_i t hv
     rw[hv] at htd
     have htd:=LQ htd
     cases want with
     | true =>
      simp only at h
      cases t with
      | true =>
       obtain ⟨st',s',q1,q2,q3,q4⟩:=go _ (same true htd) h
       exact fin true (by rw[htd]; rfl) ⟨st',s',q1,q2,q3,fun KV hk=>by rw[if_pos rfl]; exact q4 KV hk⟩
      | false =>
       obtain ⟨st',s',q1,q2,q3,q4⟩:=no _ (same false htd) h
       exact fin false (by rw[htd]; rfl) ⟨st',s',q1,q2,q3,fun KV hk=>by rw[if_neg (by simp)]; exact q4 KV hk⟩
     | false =>
      simp only at h
      cases t with
      | true =>
       obtain ⟨st',s',q1,q2,q3,q4⟩:=no _ (same true htd) h
       exact fin false (by rw[htd]; rfl) ⟨st',s',q1,q2,q3,fun KV hk=>by rw[if_neg (by simp)]; exact q4 KV hk⟩
      | false =>
       obtain ⟨st',s',q1,q2,q3,q4⟩:=go _ (same false htd) h
       exact fin true (by rw[htd]; rfl) ⟨st',s',q1,q2,q3,fun KV hk=>by rw[if_pos rfl]; exact q4 KV hk⟩
    ·rename_i hv
     rw[hv] at htd
     obtain ⟨us,hus,hc⟩:=(show ∃ us,s.tm d = .tup us∧RC (RV1 st.hp) [] us from htd)
     cases us with
     | cons a l=>exact hc.elim
     | nil =>
      obtain ⟨st',s',q1,q2,q3,q4⟩:=no _ hs.tm h
      exact fin false (by rw[hus]; rfl) ⟨st',s',q1,q2,q3,fun KV hk=>by rw[if_neg (by simp)]; exact q4 KV hk⟩
    ·cases h
structure CfOK (cf:Cfg) (g:FuncId) (X:TX):Prop where
 live:∀ r an,findN X.ann.heads r=some an→cf.live g r=keepI an
 out:∀ r outs ex an,findN X.ann.outs r=some outs→findE outs ex=some an→cf.out g r ex=keepI an
 join:∀ r an,findN X.ann.joins r=some an→cf.join g r=some (keepI an)
 nojoin:∀ r,findN X.ann.joins r=none→cf.join g r=none
 res:cf.res g=(keepI X.ann.res).map (·.2)
 par:cf.par g=keepI X.ann.params
 rts:cf.rts g=mdsL (rtsT (blksI X.ann.res) X.ann.e 0 (blksI X.ann.res))
theorem VT {a b:Ex} (h:exEq a b=true):a=b:=by
 cases a <;> cases b <;> simp[exEq] at h
 ·rfl
 ·rw[h]
 ·rfl
theorem Ap9 {α:Type} {e:Nat} {Q:TPost α} {ex:Ex} {st:TSt} {z : α}:∀ {l:List (Ex×List Item)} {d:denX l},injX e l ex st=some d→elimX Q l d=some z→∃ an dd,findE l ex=some an∧decSt e an st=some dd∧Q ex (encSt an dd)=some z
 | [],d,h,_=>by cases h
 | [a],d,h,hz=>by
  simp only[injX] at h
  obtain ⟨h1,h2⟩:=BR h
  have:=VT h1
  subst this
  refine ⟨a.2,d,?_,h2,hz⟩
  show cond (exEq a.1 a.1) (some a.2) _=_
  rw[h1]; rfl
 | a::b::l,d,h,hz=>by
  simp only[injX] at h
  cases hc:exEq a.1 ex with
  | true =>
   rw[hc] at h
   simp only[cond_true,Option.map_eq_some_iff] at h
   obtain ⟨dd,h1,rfl⟩:=h
   have:=VT hc
   subst this
   refine ⟨a.2,dd,?_,h1,hz⟩
   show cond (exEq a.1 a.1) (some a.2) _=_
   rw[hc]; rfl
  | false =>
   rw[hc] at h
   simp only[cond_false,Option.map_eq_some_iff] at h
   obtain ⟨dd,h1,rfl⟩:=h
   obtain ⟨an,d2,q1,q2,q3⟩:=Ap9 (l:=b::l) h1 hz
   refine ⟨an,d2,?_,q2,q3⟩
   show cond (exEq a.1 ex) (some a.2) (findE (b::l) ex)=_
   rw[hc]; exact q1
theorem DF (hX:XOK P X) (hE:EntsOK R cf X) (hcf:CfOK cf g X):∀ (c:Code) {α:Type} {st:TSt} {s:St} {Q:TPost α} {z : α},RS st s→wtC X c st Q=some z →
  ∃ ex st' s',Q ex st'=some z∧RS st' s'∧∀ QV:Post,QV ex s'→we P R cf g X.e c s QV
 | .skip,α,st,s,Q,z,hs,h=>⟨.normal,st,s,h,hs,fun QV hq=>hq⟩
 | .exit id,α,st,s,Q,z,hs,h=>⟨.exit id,st,s,h,hs,fun QV hq=>hq⟩
 | .ret,α,st,s,Q,z,hs,h=>⟨.ret,st,s,h,hs,fun QV hq=>hq⟩
 | .region id ops draw,α,st,s,Q,z,hs,h=>by
  obtain ⟨st',s',h1,h2,h3,h4⟩:=SP (R:=R) (cf:=cf) hX hE _ 0 hs h
  refine ⟨.normal,_,{ s' with c:=s'.c + ops.size },h1,⟨h2.tm,h2.hp,by show s'.c + _=st'.c + _; rw[h2.c]⟩,fun QV hq=>?_⟩
  unfold we
  exact h4 _ hq
 | .seq a b,α,st,s,Q,z,hs,h=>by
  unfold wtC at h
  cases hj:findN X.ann.joins (rid b) with
  | none =>
   rw[hj] at h
   simp only at h
   obtain ⟨ex,st1,s1,h1,h2,h3⟩:=DF hX hE hcf a hs h
   cases ex with
   | normal =>
    obtain ⟨ex,st2,s2,q1,q2,q3⟩:=DF hX hE hcf b h2 h1
    exact ⟨ex,st2,s2,q1,q2,fun QV hq=>by unfold we; exact h3 _ (by show meet _ _ _ _; rw[hcf.nojoin _ hj]; exact q3 QV hq)⟩
   | exit id=>exact ⟨.exit id,st1,s1,h1,h2,fun QV hq=>by unfold we; exact h3 _ hq⟩
   | ret=>exact ⟨.ret,st1,s1,h1,h2,fun QV hq=>by unfold we; exact h3 _ hq⟩
  | some an =>
   rw[hj] at h
   simp only at h
   obtain ⟨w,hw,hz⟩:=AM h
   obtain ⟨ex,st1,s1,h1,h2,h3⟩:=DF hX hE hcf a hs hw
   have other:∀ ex',ex'≠.normal→ex=ex'→(Q ex' st1).map Sum.inl=some w→∃ ex st' s',Q ex st'=some z∧RS st' s'∧∀ QV:Post,QV ex s'→we P R cf g X.e (a.seq b) s QV:=by
    intro ex' hne he h1
    subst he
    simp only[Option.map_eq_some_iff] at h1
    obtain ⟨r,hr,rfl⟩:=h1
    simp only[Sum.elim_inl,Option.some.injEq] at hz
    subst hz
    refine ⟨ex,st1,s1,hr,h2,fun QV hq=>?_⟩
    unfold we
    refine h3 _ ?_
    cases ex with
    | normal=>exact absurd rfl hne
    | exit id=>exact hq
    | ret=>exact hq
   cases ex with
   | normal =>
    simp only[Option.map_eq_some_iff] at h1
    obtain ⟨d,hd,rfl⟩:=h1
    simp only[Sum.elim_inr] at hz
    obtain ⟨s2,c1,c2⟩:=Ij h2 hd
    obtain ⟨ex,st3,s3,q1,q2,q3⟩:=DF hX hE hcf b c2 hz
    exact ⟨ex,st3,s3,q1,q2,fun QV hq=>by unfold we; exact h3 _ (by show meet _ _ _ _; rw[hcf.join _ _ hj]; exact c1 _ (q3 QV hq))⟩
   | exit id=>exact other (.exit id) (by simp) rfl h1
   | ret=>exact other .ret (by simp) rfl h1
 | .cond c x y,α,st,s,Q,z,hs,h=>by
  unfold wtC at h
  have hc:=Az hs.tm c
  split at h
  ·rename_i t ht
   rw[ht] at hc
   have hc:=LQ hc
   cases t with
   | true =>
    obtain ⟨ex,st1,s1,h1,h2,h3⟩:=DF hX hE hcf x hs h
    exact ⟨ex,st1,s1,h1,h2,fun QV hq=>by unfold we; rw[hc]; exact h3 QV hq⟩
   | false =>
    obtain ⟨ex,st1,s1,h1,h2,h3⟩:=DF hX hE hcf y hs h
    exact ⟨ex,st1,s1,h1,h2,fun QV hq=>by unfold we; rw[hc]; exact h3 QV hq⟩
  ·cases h
 | .block id c,α,st,s,Q,z,hs,h=>by
  unfold wtC at h
  obtain ⟨ex,st1,s1,h1,h2,h3⟩:=DF hX hE hcf c hs h
  cases ex with
  | normal=>exact ⟨.normal,st1,s1,h1,h2,fun QV hq=>by unfold we; exact h3 _ hq⟩
  | ret=>exact ⟨.ret,st1,s1,h1,h2,fun QV hq=>by unfold we; exact h3 _ hq⟩
  | exit j =>
   simp only at h1
   cases hj:Nat.beq j id with
   | true =>
    rw[hj] at h1
    have hji:=Nat.eq_of_beq_eq_true hj
    exact ⟨.normal,st1,s1,h1,h2,fun QV hq=>by unfold we; exact h3 _ (by show (if j=id then _ else _); rw[if_pos hji]; exact hq)⟩
   | false =>
    rw[hj] at h1
    have hji:j≠id:=fun he=>by subst he; rw[Nat.beq_refl] at hj; cases hj
    exact ⟨.exit j,st1,s1,h1,h2,fun QV hq=>by unfold we; exact h3 _ (by show (if j=id then _ else _); rw[if_neg hji]; exact hq)⟩
 | .loop c,α,st,s,Q,z,hs,h=>by
  unfold wtC at h
  split at h
  ·rename_i an outs ha ho
   obtain ⟨d0,hd0,h⟩:=AM h
   obtain ⟨w,hw,hz⟩:=AM h
   obtain ⟨n,hn⟩:=IG hw
   obtain ⟨s0,c1,c2⟩:=Ij hs hd0
   have key:∀ (n:Nat) (d:denI an) (s0:St),loopF (fun d=>wtC X c (encSt an d) fun ex s=>match ex with | .normal=>(decSt X.e an s).map .inl | ex=>(injX X.e outs ex s).map .inr) n d=some w→RS (encSt an d) s0 →
     ∃ ex st' s',Q ex st'=some z∧RS st' s'∧∀ QV:Post,QV ex s'→loopAt P R cf g X.e c s0 QV:=by
    intro n
    induction n with
    | zero=>intro d s0 h _; cases h
    | succ n ih =>
     intro d s0 h hs0
     simp only[loopF] at h
     obtain ⟨o,hb,h⟩:=AM h
     obtain ⟨ex,st1,s1,h1,h2,h3⟩:=DF hX hE hcf c hs0 hb
     have other:∀ ex',ex'≠.normal→ex=ex'→(injX X.e outs ex' st1).map Sum.inr=some o→∃ ex st' s',Q ex st'=some z∧RS st' s'∧∀ QV:Post,QV ex s'→loopAt P R cf g X.e c s0 QV:=by
      intro ex' hne he h1
      subst he
      simp only[Option.map_eq_some_iff] at h1
      obtain ⟨w',hw',rfl⟩:=h1
      simp only[Sum.elim_inr,Option.some.injEq] at h
      subst h
      obtain ⟨an2,dd,q1,q2,q3⟩:=Ap9 hw' hz
      obtain ⟨s2,e1,e2⟩:=Ij h2 q2
      refine ⟨ex,_,s2,q3,e2,fun QV hq=>?_⟩
      rw[UH]
      refine h3 _ ?_
      cases ex with
      | normal=>exact absurd rfl hne
      | exit id=>show canon _ _ _ _; rw[hcf.out _ _ _ _ ho q1]; exact e1 _ hq
      | ret=>show canon _ _ _ _; rw[hcf.out _ _ _ _ ho q1]; exact e1 _ hq
     cases ex with
     | normal =>
      simp only[Option.map_eq_some_iff] at h1
      obtain ⟨d',hd',rfl⟩:=h1
      simp only[Sum.elim_inl] at h
      obtain ⟨s2,e1,e2⟩:=Ij h2 hd'
      obtain ⟨ex,st3,s3,q1,q2,q3⟩:=ih d' s2 h e2
      refine ⟨ex,st3,s3,q1,q2,fun QV hq=>?_⟩
      rw[UH]
      refine h3 _ ?_
      show canon _ _ _ _
      rw[hcf.live _ _ ha]
      exact e1 _ (q3 QV hq)
     | exit id=>exact other (.exit id) (by simp) rfl h1
     | ret=>exact other .ret (by simp) rfl h1
   obtain ⟨ex,st',s',q1,q2,q3⟩:=key n d0 s0 hn c2
   exact ⟨ex,st',s',q1,q2,fun QV hq=>by rw[AN8,hcf.live _ _ ha]; exact c1 _ (q3 QV hq)⟩
  ·cases h
 | .scope c,α,st,s,Q,z,hs,h=>by simp[wtC] at h
 | .label l,α,st,s,Q,z,hs,h=>by simp[wtC] at h
 | .goto l,α,st,s,Q,z,hs,h=>by simp[wtC] at h
 | .rangeFunc ..,α,st,s,Q,z,hs,h=>by simp[wtC] at h
 | .refuse _,α,st,s,Q,z,hs,h=>by simp[wtC] at h
end
end Go.Proofs.YthipdlhknbhiiaaGreat.Ev

end
section
namespace Go.Proofs.YthipdlhknbhiiaaGreat.Ev
open Go
section
variable {P:Program} {X:TX} {g:FuncId}
structure FnOK (P:Program) (cf:Cfg) (X:TX) (fn:Func) (c:Code):Prop where
 get:P.funcs[X.ann.g]? = some fn
 body:fn.body=some c
 ok:bodyOK fn c (slotsI X.ann.params).length=true
 ext:cf.isExt X.ann.g=false
theorem Ab {cf:Cfg} {ext:Rel} {fn:Func} {c:Code} {F:denI X.ann.params→Option (denI X.ann.res)} (hX:XOK P X) (hE:EntsOK (Runs P cf ext) cf X) (hcf:CfOK cf X.ann.g X) (hf:FnOK P cf X fn c)
  (hF:∀ x,wtF X fn x=F x):EntOK (Runs P cf ext) ⟨X.ann,F⟩:=by
 intro x y args blks st0 hy hs0 hd hid hl he _
 have hy:wtF X fn x=some y:=by rw[hF]; exact hy
 unfold wtF at hy
 rw[hf.body] at hy
 simp only at hy
 have he:(args.flatMap refs1).eraseDups.length=X.e:=he
 obtain ⟨s0,k1,hs⟩:=Ij hs0 hd
 obtain ⟨ex,st',s',h1,h2,h3⟩:=DF hX hE hcf c hs hy
 have main:∀ ex',ex=ex'→(∀ i,ex'≠.exit i)→(tRes X st'.tm st'.hp fn.results.toList fun xs=>outT X.ann.res X.e st' xs)=some y →
   ∃ r blks',Runs P cf ext X.ann.g args blks r blks'∧ResRel X.ann.res y r blks':=by
  intro ex' hex hno h1
  obtain ⟨r,blks',q1,q2⟩:=AH2 (e:=X.e) (res:=X.ann.res) (rs:=fn.results.toList) (y:=y) hX h2 h1
  refine ⟨r,blks',Runs.intro hf.ext hf.get hf.body (by rw[hl]; exact hf.ok) hid ?_,q2⟩
  rw[he,hcf.par]
  refine k1 _ (h3 _ ?_)
  rw[hcf.res,hcf.rts]
  subst hex
  cases ex with
  | exit i=>exact absurd rfl (hno i)
  | normal=>exact q1
  | ret=>exact q1
 cases ex with
 | exit i=>cases h1
 | normal=>exact main .normal rfl (by simp) h1
 | ret=>exact main .ret rfl (by simp) h1
theorem AH0 {R:Rel} {cf:Cfg} {X:TX} (h:X.ents = []):EntsOK R cf X:=by
 intro g E hE
 rw[h] at hE
 cases hE
def AllEnt (R:Rel) (cf:Cfg):List Ent→Prop
 | []=>True
 | E::l=>(EntOK R E∧cf.byref E.a.g=(slotsA E.a.params).map refA)∧AllEnt R cf l
theorem Ad {R:Rel} {cf:Cfg} {X:TX} (h:AllEnt R cf X.ents):EntsOK R cf X:=by
 intro g E hE
 generalize X.ents=l at h hE
 induction l with
 | nil=>cases hE
 | cons a l ih =>
  simp only[findF] at hE
  cases hg:Nat.beq a.a.g g with
  | true =>
   rw[hg] at hE
   simp only[cond_true,Option.some.injEq] at hE
   subst hE
   have:=Nat.eq_of_beq_eq_true hg
   subst this
   exact ⟨h.1.1,rfl,h.1.2⟩
  | false =>
   rw[hg] at hE
   exact ih h.2 hE
theorem Af {tab:List FAnn} {ext:FuncId→Bool} {X:TX} (h:findA tab X.ann.g=some X.ann):CfOK (cfOf tab ext) X.ann.g X where
 live r an hr:=by simp only[cfOf,h,Option.bind_some,hr]
 out r outs ex an hr he:=by simp only[cfOf,h,Option.bind_some,hr,he]
 join r an hr:=by simp only[cfOf,h,Option.bind_some,hr]
 nojoin r hr:=by simp only[cfOf,h,Option.bind_some,hr]
 res:=by simp only[cfOf,h]
 par:=by simp only[cfOf,h]
 rts:=by simp only[cfOf,h]
end
end Go.Proofs.YthipdlhknbhiiaaGreat.Ev

end
section
namespace Go.Proofs.YthipdlhknbhiiaaGreat.Ev
open Go Go.RowKit
def shT:Sh→Ty
 | .int k=>.int k
 | .str=>.str
 | .bool=>.bool
 | .sl _ e=>.sl (shT e)
 | .pair a b=>.pair (shT a) (shT b)
def WFS:(s:Sh)→(shT s).den→Prop
 | .int k,n=>(Lit.int k n).wf=true
 | .str,s=>s.length≤maxBytes
 | .bool,_=>True
 | .sl bytes e,l=>(∀ a∈(show List (shT e).den from l),WFS e a)∧(show List (shT e).den from l).length*bytes≤maxBytes
 | .pair a b,x=>WFS a (show (shT a).den×(shT b).den from x).1∧WFS b (show (shT a).den×(shT b).den from x).2
theorem Ak5:∀ {s:Sh} {xs:List V},DV s xs→∃ x,RE (shT s) x xs∧WFS s x
 | .int k,xs,h=>by obtain ⟨n,rfl,hn⟩:=h; exact ⟨n,rfl,hn⟩
 | .str,xs,h=>by obtain ⟨s,rfl,hs⟩:=h; exact ⟨s.data.toList,by simp[RE,shT],by show s.data.toList.length≤maxBytes; rw[Array.length_toList]; exact hs⟩
 | .bool,xs,h=>by obtain ⟨b,rfl⟩:=h; exact ⟨b,rfl,trivial⟩
 | .sl bytes e,xs,h=>by
  obtain ⟨rows,rfl,hr,hb⟩:=h
  have key:∀ rows:List (List V),(∀ r∈rows,DV e r)→∃ l:List (shT e).den,RLx (RE (shT e)) l rows∧∀ a∈l,WFS e a:=by
   intro rows
   induction rows with
   | nil=>intro _; exact ⟨[],RLx.nil,by simp⟩
   | cons r rows ih =>
    intro h
    obtain ⟨a,h1,h2⟩:=Ak5 (h r (by simp))
    obtain ⟨l,h3,h4⟩:=ih fun r' hr'=>h r' (by simp[hr'])
    refine ⟨a::l,RLx.cons h1 h3,fun b hb=>?_⟩
    rcases List.mem_cons.1 hb with rfl | hb
    ·exact h2
    ·exact h4 b hb
  obtain ⟨l,h1,h2⟩:=key rows hr
  exact ⟨l,.inr ⟨rows,rfl,h1⟩,h2,by rw[←h1.1]; exact hb⟩
 | .pair a b,xs,h=>by
  obtain ⟨l,r,rfl,h1,h2⟩:=h
  obtain ⟨x,q1,q2⟩:=Ak5 h1
  obtain ⟨y,q3,q4⟩:=Ak5 h2
  exact ⟨(x,y),⟨l,r,rfl,q1,q3⟩,q2,q4⟩
def acOf:Sh→AC
 | .int k=>.int k
 | .str=>.str
 | .bool=>.bool
 | .sl _ e=>.im (shT e)
 | .pair _ _=>.bool
def oneS:Sh→Bool
 | .pair _ _=>false
 | _=>true
def WFC:(s:Sh)→(acOf s).den→Prop
 | .int k,n=>WFS (.int k) n
 | .str,s=>WFS .str s
 | .bool,b=>True
 | .sl n e,l=>WFS (.sl n e) l
 | .pair _ _,_=>True
theorem AN9 {s:Sh} {x:V} (ho:oneS s=true) (h:DV s [x]):∃ d:(acOf s).den,WFC s d∧∀ hp,RV2 hp (encC (acOf s) d) x:=by
 obtain ⟨d,h1,h2⟩:=Ak5 h
 cases s with
 | int k =>
  have h1:[x] = [V.v (.int k d)]:=h1
  cases h1
  exact ⟨d,h2,fun hp=>rfl⟩
 | str =>
  have h1:[x] = [V.v (.string ⟨Array.mk d⟩)]:=h1
  cases h1
  exact ⟨d,h2,fun hp=>rfl⟩
 | bool =>
  have h1:[x] = [V.v (.bool d)]:=h1
  cases h1
  exact ⟨d,trivial,fun hp=>rfl⟩
 | sl n e =>
  refine ⟨d,h2,fun hp=>?_⟩
  rcases h1 with ⟨e1,e2⟩ | ⟨rows,e2,e3⟩
  ·cases e2; exact .inl ⟨e1,rfl⟩
  ·cases e2; exact .inr ⟨rows,rfl,e3⟩
 | pair a b=>cases ho
def parI:Nat→List Sh→List Item
 | _,[]=>[]
 | i,s::l=>.slot i (.cell (acOf s))::parI (i + 1) l
def WFP:(i:Nat)→(l:List Sh)→denI (parI i l)→Prop
 | _,[],_=>True
 | i,s::l,d=>WFC s (hdI (.slot i (.cell (acOf s))) (parI (i + 1) l) d)∧WFP (i + 1) l (tlI (.slot i (.cell (acOf s))) (parI (i + 1) l) d)
def DVs:List Sh→List V→Prop
 | [],[]=>True
 | s::l,x::xs=>DV s [x]∧DVs l xs
 | _,_=>False
theorem DVs.length:∀ {l:List Sh} {xs:List V},DVs l xs→xs.length=l.length
 | [],[],_=>rfl
 | _::l,_::xs,h=>by simp[DVs.length h.2]
 | [],_::_,h=>h.elim
 | _::_,[],h=>h.elim
theorem Am4:∀ (l:List Sh) (i:Nat) {xs:List V},l.all oneS=true→DVs l xs→∃ d:denI (parI i l),WFP i l d∧(∀ k,(encI k (parI i l) d).2 = [])∧∀ k hp,RT hp (encI k (parI i l) d).1 (lk .any (enum i xs))
 | [],i,[],_,_=>⟨(),trivial,fun _=>rfl,fun k hp t=>trivial⟩
 | s::l,i,x::xs,ho,h=>by
  simp only[List.all_cons,Bool.and_eq_true] at ho
  obtain ⟨a,h1,h2⟩:=AN9 ho.1 h.1
  obtain ⟨d,h3,h4,h5⟩:=Am4 l (i + 1) ho.2 h.2
  refine ⟨consI (.slot i (.cell (acOf s))) (parI (i + 1) l) a d,⟨?_,?_⟩,fun k=>?_,fun k hp=>?_⟩
  ·rw[RO (.slot i (.cell (acOf s)))]; exact h1
  ·rw[Ox (.slot i (.cell (acOf s)))]; exact h3
  ·simp only[parI,encI]
   rw[Ox (.slot i (.cell (acOf s)))]
   exact h4 k
  ·simp only[parI,encI]
   rw[Ox (.slot i (.cell (acOf s))),RO (.slot i (.cell (acOf s)))]
   intro t
   show RV2 hp (getV ((i,encSV (.cell (acOf s)) a)::_) t) (if t=i then x else lk .any (enum (i + 1) xs) t)
   rw[EC]
   split
   ·exact h2 hp
   ·exact h5 k hp t
 | [],_,_::_,_,h=>h.elim
 | _::_,_,[],_,h=>h.elim
section
variable {P:Program}
def FitsL (P:Program):List TypeId→List Sh→Prop
 | [],[]=>True
 | t::ts,s::l=>Fits P t s∧FitsL P ts l
 | _,_=>False
theorem Wk {H:Type} {enc:TypeId×Value→H} {W:World}:∀ {ts:List TypeId} {l:List Sh} {vs:List Value} {ds:List (DataW H)} {p:List MemPlace},FitsL P ts l→l.all oneS=true→DataW.TrodAll enc P W 0 (fun _=>true) true ts vs ds p →
  (∀ (j:Nat) t v,ts[j]? = some t→vs[j]? = some v→∃ base,Value.okWide P W .any base t v)→(∀ n∈DataW.weightsEach P ts ds,n≤reachBytes)→∃ xs,DVs l xs∧Told W xs vs
 | [],[],vs,ds,p,_,_,h,_,_=>by
  obtain ⟨rfl,rfl,rfl⟩:=ChangeShapes.trodAll_nil h
  exact ⟨[],trivial,trivial⟩
 | t::ts,s::l,vs,ds,p,hf,ho,h,hv,hw=>by
  obtain ⟨v,vs',d,ds',p1,q,rfl,rfl,rfl,⟨fuel,h1⟩,h2⟩:=ChangeShapes.trodAll_cons h
  simp only[List.all_cons,Bool.and_eq_true] at ho
  obtain ⟨xs,q1,q2,q3⟩:=Lj fuel t s _ _ hf.1 h1 fun n hn=>hw n (by simp[DataW.weightsEach,hn])
  obtain ⟨ys,q4,q5⟩:=Wk hf.2 ho.2 h2 (fun j t v h1 h2=>hv (j + 1) t v (by simpa using h1) (by simpa using h2)) fun n hn=>hw n (by simp[DataW.weightsEach,hn])
  have hs1:s.size=1:=by cases s <;> first | rfl | (cases ho.1)
  obtain ⟨x,rfl⟩:=List.length_eq_one_iff.1 (by rw[q2,hs1])
  refine ⟨x::ys,⟨q1,q4⟩,?_,q5⟩
  obtain ⟨base,hok⟩:=hv 0 t v rfl rfl
  have hc:v.cells.toList = [v]:=by
   cases hf.1 with
   | int ht=>simp only[Value.okWide,ht,Cell.okWide] at hok; cases v <;> simp_all [Cell.ok,Value.cells]
   | str ht=>simp only[Value.okWide,ht,Cell.okWide] at hok; cases v <;> simp_all [Cell.ok,Value.cells]
   | bool ht=>simp only[Value.okWide,ht,Cell.okWide] at hok; cases v <;> simp_all [Cell.ok,Value.cells]
   | sl ht=>obtain ⟨a,n,c,rfl⟩:=WideShapes.okWide_slice ht hok; rfl
   | st=>cases ho.1
  rw[hc] at q3
  exact q3.1
 | [],_::_,_,_,_,h,_,_,_,_=>h.elim
 | _::_,[],_,_,_,h,_,_,_,_=>h.elim
theorem UG {H:Type} {enc:TypeId×Value→H} {W W':World} (hl:laidOutB P=true) (hb:Below W.heap.size W W'):∀ {ts:List TypeId} {vs:List Value} {ds:List (DataW H)} {p:List MemPlace},(∀ t∈ts,P.readableRec t=true∧t<P.types.size)→DataW.TrodAll enc P W 0 (fun _=>true) true ts vs ds p →
  ∃ q,DataW.TrodAll enc P W' 0 (fun b=>decide (b<W.heap.size)) true ts vs ds q
 | [],vs,ds,p,_,h=>by
  obtain ⟨rfl,rfl,rfl⟩:=ChangeShapes.trodAll_nil h
  exact ⟨[],ChangeShapes.trodAll_mk0⟩
 | t::ts,vs,ds,p,hr,h=>by
  obtain ⟨v,vs',d,ds',p1,q,rfl,rfl,rfl,h1,h2⟩:=ChangeShapes.trodAll_cons h
  obtain ⟨q',h3⟩:=UG hl hb (fun t ht=>hr t (by simp[ht])) h2
  have hlt:∀ x∈p1,x.block<W.heap.size:=by obtain ⟨m,hm⟩:=h1; exact DataW.trod_lt m _ _ _ hm
  obtain ⟨r1,r2⟩:=hr t (by simp)
  exact ⟨_,trodAll_cons_mk (Below.trod hl r1 r2 h1 hb hlt) h3⟩
end
end Go.Proofs.YthipdlhknbhiiaaGreat.Ev

end
section
namespace Go.Proofs.YthipdlhknbhiiaaGreat.Ev
open Go Go.RowKit
theorem WH:∀ (l:List Sh) (i:Nat),(slotsI (parI i l)).length=l.length
 | [],_=>rfl
 | s::l,i=>by simp[parI,slotsI,WH l (i + 1)]
section
variable {P:Program} {J:Tabs}
def TabOK (P:Program):List (Nat×TyD)→Prop
 | []=>True
 | x::l=>tyOf P x.1=some x.2∧TabOK P l
theorem AQ7 {l:List (Nat×TyD)} (h:TabOK P l):∀ t d,getD l t=some d→tyOf P t=some d:=by
 intro t d hd
 induction l with
 | nil=>cases hd
 | cons x l ih =>
  obtain ⟨k,y⟩:=x
  simp only[getD] at hd
  cases hk:Nat.beq t k with
  | true =>
   rw[hk] at hd
   simp only[cond_true,Option.some.injEq] at hd
   have:=Nat.eq_of_beq_eq_true hk
   subst this
   subst hd
   exact h.1
  | false =>
   rw[hk] at hd
   exact ih h.2 hd
theorem AG6 {cf:Cfg} {ext:Rel} {g:FuncId} {shs:List Sh} {heads joins:List (Nat×List Item)} {outs:List (Nat×List (Ex×List Item))} {F:denI (parI 0 shs)→Option Bool}
  (hm:P.follows .mixedOrders=true) (hext:∀ g args blks r blks',ext g args blks r blks'→CSpec P J g args blks r blks')
  (hE:EntOK (Runs P cf ext) ⟨⟨g,0,parI 0 shs,[.slot 0 (.cell .bool)],heads,outs,joins⟩,F⟩) (hD:∀ d,decSt 0 (parI 0 shs) (encSt (parI 0 shs) d)=some d) (hF:∀ d,WFP 0 shs d→F d=some true) (ho:shs.all oneS=true)
  {w:World} (hJ:∀ x∈J,w.heap[x.1]? = some x.2) {xs:List V} {vals:Array Value} (hx:DVs shs xs) (hv:Told w xs vals.toList):Calls P g vals w fun e w'=>e = .returned (.bool true)∧Below w.heap.size w w':=by
 obtain ⟨d,h1,h2,h3⟩:=Am4 shs 0 ho hx
 have hrefs:=VV hv
 obtain ⟨r,blks',q1,q2⟩:=hE d true xs [] (encSt (parI 0 shs) d) (hF d h1) ⟨h3 0 _,(fun id b hb=>by
  rw[show (encSt (parI 0 shs) d).hp=(encI 0 (parI 0 shs) d).2 from rfl,h2] at hb
  exact absurd hb (by simp[getB])),rfl⟩ (hD d) (ZL hv) (by rw[hx.length]; exact (WH shs 0).symm) (by rw[hrefs]; rfl) (fun _=>rfl)
 have hr:r = .v (.bool true):=q2.val
 have hb:blks' = []:=List.eq_nil_of_length_eq_zero q2.len
 subst hr
 subst hb
 exact At6 hm hext hJ hv q1
theorem X1 {H:Type} {enc:TypeId×Value→H} {cf:Cfg} {ext:Rel} {g:FuncId} {shs:List Sh} {heads joins:List (Nat×List Item)} {outs:List (Nat×List (Ex×List Item))} {F:denI (parI 0 shs)→Option Bool} {fn:Func} {s:ChangeSpec} {ts:List TypeId} {rt:TypeId}
  (hm:P.follows .mixedOrders=true) (hext:∀ g args blks r blks',ext g args blks r blks'→CSpec P J g args blks r blks')
  (hE:EntOK (Runs P cf ext) ⟨⟨g,0,parI 0 shs,[.slot 0 (.cell .bool)],heads,outs,joins⟩,F⟩) (hD:∀ d,decSt 0 (parI 0 shs) (encSt (parI 0 shs) d)=some d) (hF:∀ d,WFP 0 shs d→F d=some true) (ho:shs.all oneS=true)
  (hp:fn.params.toList=ts) (hr:fn.resultTypes.toList = [rt]) (hrt:P.underlying rt=some .bool) (hf:FitsL P ts shs) (hl:laidOutB P=true) (hread:∀ t∈ts,P.readableRec t=true∧t<P.types.size) (hvars:s.vars = [])
  (hs:∀ ds:List (DataW H),ds.length=ts.length→s.fn H (ds ++ []) = { results:=[.lit (.bool true)],args:=ds,vars:=[] })
  {W:World} (hJ:∀ x∈J,W.heap[x.1]? = some x.2) {base:Nat} {args:Array Value} {ds gs:List (DataW H)} {before:List MemPlace}
  (hval:∀ (j:Nat) t v,fn.params[j]? = some t→args[j]? = some v→Value.okWide P W .any base t v) (hW:DataW.Whole enc P fn.params.toList s.vars false W args.toList ds gs before)
  (hsz:(DataW.weightsEach P (fn.params.toList++s.plain.varTypes P) (ds++gs)).all (· ≤ reachBytes)=true) :
  Calls P g args W fun e W'=>∃ v,e = .returned v∧s.post enc P fn false true false false W args v W':=by
 have hW':=hW
 obtain ⟨p,q,hA,hV,rfl,hfz,hnd⟩:=hW
 rw[hvars] at hV
 obtain ⟨rfl,rfl⟩:=ChangeShapes.trodVars_none hV
 rw[hp] at hA
 have hlen:∀ {ts:List TypeId} {vs:List Value} {ds:List (DataW H)} {p:List MemPlace},DataW.TrodAll enc P W 0 (fun _=>true) true ts vs ds p→ds.length=ts.length:=by
  intro ts
  induction ts with
  | nil=>intro vs ds p h; obtain ⟨_,rfl,_⟩:=ChangeShapes.trodAll_nil h; rfl
  | cons t ts ih=>intro vs ds p h; obtain ⟨v,vs',d,ds',p1,q,rfl,rfl,rfl,h1,h2⟩:=ChangeShapes.trodAll_cons h; simp[ih h2]
 have hdl:=hlen hA
 have hwt:∀ n∈DataW.weightsEach P ts ds,n≤reachBytes:=by
  intro n hn
  have hmem:∀ (a b:List TypeId) (c d:List (DataW H)),∀ n∈DataW.weightsEach P a c,c.length=a.length→n∈DataW.weightsEach P (a++b) (c++d):=by
   intro a
   induction a with
   | nil=>intro b c d n hn hl; cases c <;> simp[DataW.weightsEach] at hn hl
   | cons t a ih =>
    intro b c d n hn hl
    cases c with
    | nil=>simp[DataW.weightsEach] at hn
    | cons x c =>
     simp only[DataW.weightsEach,List.mem_append,List.cons_append] at hn ⊢
     rcases hn with hn | hn
     ·exact .inl hn
     ·exact .inr (ih b c d n hn (by simpa using hl))
  rw[hp] at hsz
  have:=List.all_eq_true.1 hsz n (hmem ts _ ds _ n hn hdl)
  simpa using this
 obtain ⟨xs,h1,h2⟩:=Wk hf ho hA (fun j t v h1 h2=>⟨base,hval j t v (by rw[←hp] at h1; simpa using h1) (by simpa using h2)⟩) hwt
 refine (AG6 hm hext hE hD hF ho hJ h1 h2).mono fun e W' ⟨he,bel⟩=>?_
 subst he
 obtain ⟨q',hq⟩:=UG hl bel hread hA
 refine ⟨_,rfl,ds,[],_,[],q',[],hW',?_,?_,?_,bel.frame _,fun h=>by cases h⟩
 ·rw[hs ds hdl,hr]
  have:((Value.bool true).resultList fn.resultTypes.size) = [.bool true]:=by
   have:fn.resultTypes.size=1:=by rw[←Array.length_toList,hr]; rfl
   rw[this]; rfl
  rw[this]
  exact ChangeShapes.trodAll_mk1 (shut_bool hrt true)
 ·rw[hs ds hdl,hp]
  exact hq
 ·rw[hs ds hdl,hvars]
  rfl
end
end Go.Proofs.YthipdlhknbhiiaaGreat.Ev

end
section
namespace Go.Proofs.YthipdlhknbhiiaaGreat.Ev
open Go
theorem wrapI {n:Int} (h1 : -9223372036854775808≤n) (h2:n≤9223372036854775807):IntKind.wrap .i64 n=n:=by rw[IntKind.wrap_i64]; omega
section
variable {σ τ ρ ρ':Type} {f : σ→Option (σ ⊕ ρ)} {g : τ→Option (τ ⊕ ρ')}
theorem AH {s s' : σ} (h:f s=some (.inl s')):loopM f s=loopM f s':=by rw[Zp,h]; rfl
theorem Am {s : σ} {r : ρ} (h:f s=some (.inr r)):loopM f s=some r:=by rw[Zp,h]; rfl
theorem EQ {I : σ→Prop} {R : ρ→Prop} (m : σ→Nat) (h:∀ s,I s→(∃ s',f s=some (.inl s')∧I s'∧m s'<m s)∨∃ r,f s=some (.inr r)∧R r):∀ s,I s→∃ r,loopM f s=some r∧R r:=by
 have:∀ n s,m s<n→I s→∃ r,loopM f s=some r∧R r:=by
  intro n
  induction n with
  | zero=>intro s h; omega
  | succ n ih =>
   intro s hn hs
   rcases h s hs with ⟨s',h1,h2,h3⟩ | ⟨r,h1,h2⟩
   ·obtain ⟨r,h4,h5⟩:=ih s' (by omega) h2
    exact ⟨r,by rw[AH h1,h4],h5⟩
   ·exact ⟨r,Am h1,h2⟩
 exact fun s hs=>this (m s + 1) s (by omega) hs
end
section
variable {α β γ:Type}
theorem Ak (l:List α) (i:Nat):getI l (i:Int)=l[i]? := by
 unfold getI
 rw[if_pos (by omega)]
 simp
theorem An8 {l:List α} {i:Int} (h0 : 0≤i) (h1:i<l.length):∃ a,getI l i=some a∧l[i.toNat]? = some a:=by
 unfold getI
 rw[if_pos h0]
 have:i.toNat<l.length:=by omega
 exact ⟨l[i.toNat],List.getElem?_eq_getElem this,List.getElem?_eq_getElem this⟩
theorem AN {i n:Nat} (h:i<n):idxI (i:Int) n=some i:=by
 unfold idxI
 rw[if_pos (by omega)]
 simp
theorem FQ {n b s:Nat} (h1:n*b≤maxBytes) (h2:n*s≤maxBytes):lenI (n:Int) b s=some n:=by
 unfold lenI
 rw[if_pos (by simp; omega)]
 simp
end
section
variable {α σ ρ:Type} {body : σ→Option (σ ⊕ ρ)}
theorem HY {l:List α} {st:Nat→σ} {p : α→Bool} {fin : ρ} {bad:Nat→ρ} (hgo:∀ k a,l[k]? = some a→p a=true→body (st k)=some (.inl (st (k + 1)))) (hbad:∀ k a,l[k]? = some a→p a=false→body (st k)=some (.inr (bad k))) (hend:body (st l.length)=some (.inr fin)) :
  (l.all p=true→loopM body (st 0)=some fin)∧(l.all p=false→∃ k,k<l.length∧loopM body (st 0)=some (bad k)):=by
 have key:∀ (n k:Nat),k + n=l.length→((l.drop k).all p=true→loopM body (st k)=some fin)∧((l.drop k).all p=false→∃ j,j<l.length∧loopM body (st k)=some (bad j)):=by
  intro n
  induction n with
  | zero =>
   intro k hk
   have:k=l.length:=by omega
   subst this
   rw[List.drop_length]
   exact ⟨fun _=>Am hend,(fun h=>by cases h)⟩
  | succ n ih =>
   intro k hk
   have hlt:k<l.length:=by omega
   have hd:l.drop k=l[k]::l.drop (k + 1):=List.drop_eq_getElem_cons hlt
   have he:l[k]? = some l[k]:=List.getElem?_eq_getElem hlt
   rw[hd,List.all_cons]
   cases hp:p l[k] with
   | true =>
    have h1:=hgo k _ he hp
    obtain ⟨q1,q2⟩:=ih (k + 1) (by omega)
    rw[Bool.true_and,AH h1]
    exact ⟨q1,q2⟩
   | false =>
    rw[Bool.false_and]
    exact ⟨(fun h=>by cases h),fun _=>⟨k,hlt,Am (hbad k _ he hp)⟩⟩
 have:=key l.length 0 (by omega)
 rwa [List.drop_zero] at this
end
section
theorem wrap1 {k:Nat} (h:k<4611686018427387904):IntKind.wrap .i64 ((k:Int) + 1)=((k + 1:Nat):Int):=by rw[wrapI (by omega) (by omega)]; omega
end
theorem Na {β:Type} {b s:Nat} {l m:List β} (h1:(l.length + m.length)*b≤maxBytes) (h2:(l.length + m.length)*s≤maxBytes):appL b s l m=some (l++m):=by
 unfold appL
 rw[if_pos ⟨h1,h2⟩]
end Go.Proofs.YthipdlhknbhiiaaGreat.Ev

end
section
namespace Go.Proofs.YthipdlhknbhiiaaGreat.Ev
open Go
variable {P:Program} {J:Tabs}
def nilS:Value:=.slice none 0 0
def cloneBody (t tb:TypeId):Code :=
 .seq (.region 0 #[⟨some 2,.assign (.const nilS),t, "slices.go:355", #[],none⟩] false)
  (.seq (.seq (.region 1 #[⟨some 3,.move (.tmp 0),t, "slices.go:357", #[],none⟩,⟨some 4,.binOp .eql t (.tmp 3) (.const nilS) t,tb, "slices.go:357", #[⟨0,.data⟩],none⟩] false)
    (.cond (.tmp 4) (.seq (.region 2 #[⟨some 2,.assign (.const nilS),t, "slices.go:358", #[],none⟩] false) .ret) .skip))
   (.seq (.region 3 #[⟨some 5,.buildSlice t 0 #[],t, "slices.go:362", #[],none⟩,⟨some 6,.move (.tmp 0),t, "slices.go:362", #[],none⟩,
     ⟨some 7,.call ⟨.builtin .append,#[.tmp 5,.tmp 6],#[t,t]⟩,t, "slices.go:362", #[⟨0,.data⟩,⟨1,.data⟩],none⟩,
     ⟨some 2,.assign (.tmp 7),t, "slices.go:362", #[⟨2,.data⟩,⟨2,.chain⟩,⟨0,.phase⟩,⟨1,.phase⟩,⟨2,.phase⟩],none⟩] false) .ret))
def cfN (e size:Nat) (deep:Bool):Cfg:={ live:=fun _ _=>[],out:=fun _ _ _=>[],join:=fun _ _=>none,res:=fun _=>[.one (.own e size deep)],par:=fun _=>[(0,.one .keep)],rts:=fun _=>[],byref:=fun _=>[],isExt:=fun _=>false }
theorem AA3 {g:FuncId} {fn:Func} {t tb e:TypeId} {d de:TyD} (hfn:P.funcs[g]? = some fn) (hb:fn.body=some (cloneBody t tb)) (hok:bodyOK fn (cloneBody t tb) 1=true) (hr:fn.results.toList = [.tmp 2])
  (hd:tyOf P t=some d) (he:d.elem=some e) (hde:tyOf P e=some de) (hst:isStr P t=false) (a:Option Addr) (c:Nat) :
  Runs P (cfN e de.size (de.zero.all isVB)) (fun _ _ _ _ _=>False) g [.v (.slice a 0 c)] [] (.ar 0 0 0) [arrOf e de.size (de.zero.all isVB) []]:=by
 refine Runs.intro rfl hfn hb hok rfl ?_
 rw[hr]
 have hsl:isSl P t=true:=by unfold isSl; rw[hd]; simp[he]
 cases a with
 | none =>
  simp[canon,normS,normV,normC,caseO,entry,enum,lk,upd,canon0,close,refs2,refs1,refs0,ren2,ren1,ren0,lkB,blksOf,cloneBody,we,reo,weOps,opAt,isR,weOp,nevT,nilEq,opnd,Ev.put,drawn,ofConst,ofCell,nilS,hsl,meet,caseB,toVal,cfN,outs,rootsOK,resVs,resV,normR,rootVs,outL,out1,idx,renB,arrOf,refsB]
 | some a =>
  simp[canon,normS,normV,normC,caseO,entry,enum,lk,upd,canon0,close,refs2,refs1,refs0,ren2,ren1,ren0,lkB,blksOf,cloneBody,we,reo,weOps,opAt,isR,weOp,nevT,nilEq,opnd,Ev.put,drawn,ofConst,ofCell,nilS,hsl,meet,caseB,toVal,cfN,outs,rootsOK,resVs,resV,normR,rootVs,outL,out1,idx,renB,arrOf,refsB,weBuildSlice,hd,he,hde,weAppend,srcRows,nodupB]
structure CloneOK (P:Program) (x:FuncId×TypeId×Nat×Bool):Prop where
 ok:∃ (fn:Func) (t tb:TypeId) (d de:TyD),P.funcs[x.1]? = some fn∧fn.body=some (cloneBody t tb)∧bodyOK fn (cloneBody t tb) 1=true∧fn.results.toList = [.tmp 2] ∧
  tyOf P t=some d∧d.elem=some x.2.1∧tyOf P x.2.1=some de∧isStr P t=false∧de.size=x.2.2.1∧de.zero.all isVB=x.2.2.2
theorem Rf (hm:P.follows .mixedOrders=true) {x:FuncId×TypeId×Nat×Bool} (h:CloneOK P x) {v:V} (hv:v = .em∨v = .im []):CSpec P J x.1 [v] [] (.ar 0 0 0) [arrOf x.2.1 x.2.2.1 x.2.2.2 []]:=by
 obtain ⟨fn,t,tb,d,de,h1,h2,h3,h4,h5,h6,h7,h8,h9,h10⟩:=h.ok
 have key:∀ (a:Option Addr) (c:Nat),CSpec P J x.1 [.v (.slice a 0 c)] [] (.ar 0 0 0) [arrOf x.2.1 x.2.2.1 x.2.2.2 []]:=by
  intro a c
  obtain ⟨k,hk⟩:=AA3 h1 h2 h3 h4 h5 h6 h7 h8 a c
  rw[←h9,←h10]
  exact Lp hm (fun _ _ _ _ _ h=>h.elim) k _ _ _ _ _ hk
 refine ⟨(key none 0).enter,fun _ w A E vals hT hI hvl=>?_⟩
 obtain ⟨y,hy⟩:∃ y,vals.toList = [y]:=by
  match hl:vals.toList with
  | []=>rw[hl] at hvl; exact hvl.elim
  | [y]=>exact ⟨y,rfl⟩
  | _::_::_=>rw[hl] at hvl; exact hvl.2.elim
 rw[hy] at hvl
 have hv1:=hvl.1
 obtain ⟨a,c,hyc⟩:∃ a c,y = .slice a 0 c:=by
  rcases hv with rfl | rfl
  ·have hv1:Rep w A .em y:=hv1
   cases hv1 with
   | em a=>exact ⟨a,0,rfl⟩
  ·have hv1:Rep w A (.im []) y:=hv1
   cases hv1 with
   | im0 a c=>exact ⟨a,c,rfl⟩
   | im b off cap=>exact ⟨some ⟨b,off,none⟩,cap,rfl⟩
 subst hyc
 have hk:=(key a c).calls rfl w A E vals hT hI (by rw[hy]; exact ⟨.v _ rfl,trivial⟩)
 refine hk.mono fun e w' he=>?_
 obtain ⟨y',E',G',q1,q2,q3,q4⟩:=he
 refine ⟨y',E',G',q1,q2,q3,fun j hj=>?_⟩
 rcases hv with rfl | rfl <;> simp[refs1,refs0] at hj
def cloneRel (Rc:Rel) (tab:List (FuncId×TypeId×Nat×Bool)):Rel:=fun g args blks r blks' =>
 Rc g args blks r blks'∨∃ x∈tab,g=x.1∧(args = [.em]∨args = [.im []])∧blks = []∧r = .ar 0 0 0∧blks' = [arrOf x.2.1 x.2.2.1 x.2.2.2 []]
theorem UO {cf:Cfg} {tab:List (FuncId×TypeId×Nat×Bool)} (hm:P.follows .mixedOrders=true) (ht:∀ x∈tab,CloneOK P x) :
  ∀ g args blks r blks',cloneRel (Runs P cf fun _ _ _ _ _=>False) tab g args blks r blks'→CSpec P J g args blks r blks':=by
 intro g args blks r blks' h
 rcases h with ⟨k,hk⟩ | ⟨x,hx,rfl,ha,rfl,rfl,rfl⟩
 ·exact Lp hm (fun _ _ _ _ _ h=>h.elim) k _ _ _ _ _ hk
 ·rcases ha with rfl | rfl
  ·exact Rf hm (ht x hx) (.inl rfl)
  ·exact Rf hm (ht x hx) (.inr rfl)
theorem AP6 {t:Ty} {st:TSt} {x:denI [.slot 0 (.cell (.im t))]} (h:decSt 0 [.slot 0 (.cell (.im t))] st=some x):asLh st.hp t (getV st.tm 0)=some (show List t.den from x):=by
 unfold decSt at h
 split at h
 case isFalse=>cases h
 simp only[keepT,blksI,tmS,tmC,tnS,tnV,tnC] at h
 cases ha:asLh st.hp t (getV st.tm 0) with
 | none=>rw[ha] at h; cases h
 | some l =>
  rw[ha] at h
  simp only[Nat.zero_le,Nat.ble_eq,if_true] at h
  have hc:∀ c,canonT 0 (slotsI [.slot 0 (.cell (.im t))]) { tm:=(0,.im t l)::st.tm,hp:=freezeT st.hp (frV (getV st.tm 0)),c:=c }=some { tm:=[(0,.im t l)],hp:=[],c:=1 }:=fun c=>rfl
  rw[hc] at h
  simp only[rdI,rdS,rdC,Nat.beq_refl,if_true,dite_true] at h
  rw[←Option.some.inj h]
  rfl
def orNil {α β:Type} (F:List α→Option (List β)) (l:List α):Option (List β):=match l with | []=>some [] | a::l=>F (a::l)
theorem Ab1 {ext:Rel} {cf:Cfg} {Rc:Rel} {tab:List (FuncId×TypeId×Nat×Bool)} {g:FuncId} {e:TypeId} {deep:Bool} {t:Ty} {heads joins:List (Nat×List Item)} {outs:List (Nat×List (Ex×List Item))} {F:List t.den→Option (List t.den)}
  (h:EntOK Rc ⟨⟨g,0,[.slot 0 (.cell (.im t))],[.blk (.arr e deep t),.slot 0 (.ref 0 false)],heads,outs,joins⟩,F⟩) (hmem:(g,e,t.size,deep)∈tab) (hext:∀ g args blks r blks',cloneRel Rc tab g args blks r blks'→ext g args blks r blks') :
  EntOK (Runs P cf ext) ⟨⟨g,0,[.slot 0 (.cell (.im t))],[.blk (.arr e deep t),.slot 0 (.ref 0 false)],heads,outs,joins⟩,fun l=>orNil F l⟩:=by
 intro x y args blks st hF hs hd hid hlen href hb0
 have ha:=AP6 hd
 cases hx:(show List t.den from x) with
 | cons a l =>
  have hx':x=(show denI [.slot 0 (.cell (.im t))] from (a::l:List t.den)):=hx
  subst hx'
  obtain ⟨r,blks',q1,q2⟩:=h _ y args blks st hF hs hd hid hlen href hb0
  exact ⟨r,blks',Runs.ext (hext _ _ _ _ _ (.inl q1)),q2⟩
 | nil =>
  have hx':x=(show denI [.slot 0 (.cell (.im t))] from ([]:List t.den)):=hx
  subst hx'
  have hy:y=(show denI [.blk (.arr e deep t),.slot 0 (.ref 0 false)] from ([]:List t.den)):=(Option.some.inj hF).symm
  subst hy
  obtain ⟨v,rfl⟩:∃ v,args = [v]:=by
   match args,hlen with
   | [v],_=>exact ⟨v,rfl⟩
  have hrefs:([v]:List V).flatMap refs1 = []:=by
   cases hr:([v]:List V).flatMap refs1 with
   | nil=>rfl
   | cons i l=>rw[hr] at href; simp[List.eraseDups_cons] at href
  have hv:=hs.tm 0
  have hv:RV2 st.hp (getV st.tm 0) v:=hv
  have hcase:v = .em∨v = .im []:=by
   generalize getV st.tm 0=u at ha hv
   cases u with
   | em=>exact .inl hv
   | im t' l =>
    simp only[asLh,asL] at ha
    rcases hv with ⟨_,hv⟩ | ⟨rows,hv,hl⟩
    ·exact .inl hv
    ·split at ha
     ·rename_i ht
      subst ht
      have h0:l = []:=by have:=Option.some.inj ha; exact this
      subst h0
      have:rows = []:=List.eq_nil_of_length_eq_zero (by have:=hl.1; simpa using this)
      subst this
      exact .inr hv
     ·cases ha
   | ow id =>
    obtain ⟨n,rfl,_⟩:=hv
    simp[refs1,refs0] at hrefs
   | ar id lo n =>
    have hv:v = .ar id lo n:=hv
    subst hv
    simp[refs1,refs0] at hrefs
   | _=>simp[asLh,asL] at ha
  have hblks:blks = []:=hb0 rfl
  subst hblks
  refine ⟨.ar 0 0 0,[arrOf e t.size deep []],Runs.ext (hext _ _ _ _ _ (.inr ⟨_,hmem,rfl,?_,rfl,rfl,rfl⟩)),?_,?_,rfl⟩
  ·rcases hcase with rfl | rfl
   ·exact .inl rfl
   ·exact .inr rfl
  ·exact ⟨0,rfl,fun b hb=>by cases hb; rfl⟩
  ·intro id b hb
   have hb:getB [(0,some (TB.arr e deep t []))] id=some b:=hb
   simp only[getB] at hb
   cases hi:Nat.beq id 0 with
   | false=>rw[hi] at hb; cases hb
   | true =>
    rw[hi] at hb
    have hb:some (TB.arr e deep t [])=some b:=hb
    cases hb
    have:id=0:=Nat.eq_of_beq_eq_true hi
    subst this
    exact ⟨_,rfl,rfl,rfl,rfl,rfl,RLx.nil⟩
theorem Aw1 {cf:Cfg} {Rc:Rel} {tab:List (FuncId×TypeId×Nat×Bool)} {g:FuncId} {e:TypeId} {deep:Bool} {t:Ty} {heads joins:List (Nat×List Item)} {outs:List (Nat×List (Ex×List Item))} {F:List t.den→Option (List t.den)}
  (h:EntOK Rc ⟨⟨g,0,[.slot 0 (.cell (.im t))],[.blk (.arr e deep t),.slot 0 (.ref 0 false)],heads,outs,joins⟩,F⟩) (hmem:(g,e,t.size,deep)∈tab) :
  EntOK (Runs P cf (cloneRel Rc tab)) ⟨⟨g,0,[.slot 0 (.cell (.im t))],[.blk (.arr e deep t),.slot 0 (.ref 0 false)],heads,outs,joins⟩,fun l=>orNil F l⟩:=Ab1 h hmem fun _ _ _ _ _ h=>h
end Go.Proofs.YthipdlhknbhiiaaGreat.Ev

end
section
namespace Go.Proofs.YthipdlhknbhiiaaGreat.Ev
open Go
set_option maxRecDepth 100000
def tyD3:TyD:=⟨1,8,false,[(.v (.int .i64 0))],none,false,(some .i64),[],false⟩
def tyD4:TyD:=⟨1,1,false,[(.v (.bool false))],none,false,none,[],false⟩
def tyD5:TyD:=⟨1,1,false,[(.v (.int .u8 0))],none,false,(some .u8),[],false⟩
def tyD22:TyD:=⟨1,24,false,[.em],(some 5),false,none,[],false⟩
def tyD23:TyD:=⟨1,24,false,[.em],(some 30),false,none,[],false⟩
def tyD24:TyD:=⟨1,24,false,[.em],(some 3),false,none,[],false⟩
def tyD26:TyD:=⟨2,32,true,[(.v (.bool false)),.em],none,false,none,[⟨0,4,1,false⟩,⟨1,24,1,false⟩],false⟩
def tyD28:TyD:=⟨4,64,true,[(.v (.bool false)),.em,(.v (.bool false)),.em],none,false,none,[⟨0,26,2,true⟩,⟨2,26,2,true⟩],false⟩
def tyD30:TyD:=⟨8,128,true,[(.v (.bool false)),.em,(.v (.bool false)),.em,(.v (.bool false)),.em,(.v (.bool false)),.em],none,false,none,[⟨0,28,4,true⟩,⟨4,28,4,true⟩],false⟩
def tyD40:TyD:=⟨1,24,false,[.em],(some 116),false,none,[],false⟩
def tyD63:TyD:=⟨4,32,true,[(.v (.int .i64 0)),(.v (.int .i64 0)),(.v (.int .i64 0)),(.v (.int .i64 0))],none,false,none,[⟨0,3,1,false⟩,⟨1,3,1,false⟩,⟨2,3,1,false⟩,⟨3,3,1,false⟩],false⟩
def tyD66:TyD:=⟨1,24,false,[.em],(some 28),false,none,[],false⟩
def tyD92:TyD:=⟨1,8,false,[(.v (.int .u64 0))],none,false,(some .u64),[],false⟩
def tyD94:TyD:=⟨3,40,true,[.em,(.v (.int .i64 0)),(.v (.int .u64 0))],none,false,none,[⟨0,22,1,false⟩,⟨1,3,1,false⟩,⟨2,92,1,false⟩],false⟩
def tyD116:TyD:=⟨2,16,true,[(.v (.int .i64 0)),(.v (.int .i64 0))],none,false,none,[⟨0,3,1,false⟩,⟨1,3,1,false⟩],false⟩
def tyD170:TyD:=⟨1,24,false,[.em],(some 26),false,none,[],false⟩
def tyD184:TyD:=⟨1,8,false,[(.v (.int .u64 0))],none,false,(some .u64),[],false⟩
theorem ty3:tyOf Tryz.prog 3=some tyD3:=by kernel_rfl
theorem ty4:tyOf Tryz.prog 4=some tyD4:=by kernel_rfl
theorem ty5:tyOf Tryz.prog 5=some tyD5:=by kernel_rfl
theorem ty22:tyOf Tryz.prog 22=some tyD22:=by kernel_rfl
theorem ty23:tyOf Tryz.prog 23=some tyD23:=by kernel_rfl
theorem ty24:tyOf Tryz.prog 24=some tyD24:=by kernel_rfl
theorem ty26:tyOf Tryz.prog 26=some tyD26:=by kernel_rfl
theorem ty28:tyOf Tryz.prog 28=some tyD28:=by kernel_rfl
theorem ty30:tyOf Tryz.prog 30=some tyD30:=by kernel_rfl
theorem ty40:tyOf Tryz.prog 40=some tyD40:=by kernel_rfl
theorem ty63:tyOf Tryz.prog 63=some tyD63:=by kernel_rfl
theorem ty66:tyOf Tryz.prog 66=some tyD66:=by kernel_rfl
theorem ty92:tyOf Tryz.prog 92=some tyD92:=by kernel_rfl
theorem ty94:tyOf Tryz.prog 94=some tyD94:=by kernel_rfl
theorem ty116:tyOf Tryz.prog 116=some tyD116:=by kernel_rfl
theorem ty170:tyOf Tryz.prog 170=some tyD170:=by kernel_rfl
theorem ty184:tyOf Tryz.prog 184=some tyD184:=by kernel_rfl
def tyTab:List (Nat×TyD):=[(3,tyD3),(4,tyD4),(5,tyD5),(22,tyD22),(23,tyD23),(24,tyD24),(26,tyD26),(28,tyD28),(30,tyD30),(40,tyD40),(63,tyD63),(66,tyD66),(92,tyD92),(94,tyD94),(116,tyD116),(170,tyD170),(184,tyD184)]
def codTab:List (Nat×Ty):=[(3,.int .i64),(5,.int .u8),(26,.pair (.bool) (.sl (.int .i64))),(28,.pair (.pair (.bool) (.sl (.int .i64))) (.pair (.bool) (.sl (.int .i64)))),(30,.pair (.pair (.pair (.bool) (.sl (.int .i64))) (.pair (.bool) (.sl (.int .i64)))) (.pair (.pair (.bool) (.sl (.int .i64))) (.pair (.bool) (.sl (.int .i64))))),(116,.pair (.int .i64) (.int .i64))]
theorem tyOK:∀ t d,getD tyTab t=some d→tyOf Tryz.prog t=some d:=AQ7 (by unfold tyTab; exact ⟨ty3,⟨ty4,⟨ty5,⟨ty22,⟨ty23,⟨ty24,⟨ty26,⟨ty28,⟨ty30,⟨ty40,⟨ty63,⟨ty66,⟨ty92,⟨ty94,⟨ty116,⟨ty170,⟨ty184,trivial⟩⟩⟩⟩⟩⟩⟩⟩⟩⟩⟩⟩⟩⟩⟩⟩⟩)
theorem bool4:Tryz.prog.underlying 4=some .bool:=by kernel_rfl
theorem boolOK:∀ t,([4]:List Nat).contains t=true→Tryz.prog.underlying t=some .bool:=by
 intro t h
 simp at h
 rcases h with rfl
 all_goals first | exact bool4
theorem eqOK:∀ t,([]:List Nat).contains t=true→EqOK Tryz.prog t:=by
 intro t h
 simp at h
 try exact h.elim
def Hn:FAnn:=⟨168,1,[.blk (.box 94 [.im (.int .u8),.int .i64,.int .u64]),.slot 0 (.ref 0 true)],[.blk (.box 94 [.im (.int .u8),.int .i64,.int .u64]),.slot 0 (.cell (.int .i64))],
 [],
 [],
 [(4,[.blk (.box 94 [.im (.int .u8),.int .i64,.int .u64]),.slot 0 (.ref 0 true),.slot 3 (.cell (.int .i64))])]⟩
def Hi:FAnn:=⟨77,1,[.blk (.box 94 [.im (.int .u8),.int .i64,.int .u64]),.slot 0 (.ref 0 true),.slot 1 (.cell (.int .i64))],[.blk (.box 94 [.im (.int .u8),.int .i64,.int .u64]),.slot 0 (.cell (.int .i64))],
 [],
 [],
 []⟩
def HR:FAnn:=⟨141,1,[.blk (.box 94 [.im (.int .u8),.int .i64,.int .u64]),.slot 0 (.ref 0 true),.slot 1 (.cell (.int .i64))],[.blk (.box 94 [.im (.int .u8),.int .i64,.int .u64]),.slot 0 (.cell (.bool))],
 [],
 [],
 []⟩
def F3:FAnn:=⟨139,1,[.blk (.box 94 [.im (.int .u8),.int .i64,.int .u64]),.slot 0 (.ref 0 true),.slot 1 (.cell (.im (.int .i64)))],[.blk (.box 94 [.im (.int .u8),.int .i64,.int .u64]),.slot 0 (.cell (.int .i64))],
 [],
 [],
 []⟩
def Jw:FAnn:=⟨132,1,[.blk (.box 94 [.im (.int .u8),.int .i64,.int .u64]),.slot 0 (.ref 0 true)],[.blk (.box 94 [.im (.int .u8),.int .i64,.int .u64]),.slot 0 (.agg [.int .i64,.int .i64])],
 [],
 [],
 []⟩
def HT:FAnn:=⟨97,1,[.blk (.box 94 [.im (.int .u8),.int .i64,.int .u64]),.slot 0 (.ref 0 true)],[.blk (.box 94 [.im (.int .u8),.int .i64,.int .u64]),.blk (.arr 116 true (.pair (.int .i64) (.int .i64))),.slot 0 (.ref 1 false)],
 [(8,[.blk (.box 94 [.im (.int .u8),.int .i64,.int .u64]),.blk (.arr 116 true (.pair (.int .i64) (.int .i64))),.slot 0 (.ref 0 true),.slot 3 (.ref 1 false),.slot 4 (.cell (.int .i64))]),(12,[.blk (.box 94 [.im (.int .u8),.int .i64,.int .u64]),.blk (.arr 116 true (.pair (.int .i64) (.int .i64))),.slot 0 (.ref 0 true),.slot 3 (.ref 1 false)])],
 [(8,[(.exit 1,[.blk (.box 94 [.im (.int .u8),.int .i64,.int .u64]),.blk (.arr 116 true (.pair (.int .i64) (.int .i64))),.slot 0 (.ref 0 true),.slot 3 (.ref 1 false)])]),(12,[(.exit 3,[.blk (.box 94 [.im (.int .u8),.int .i64,.int .u64]),.blk (.arr 116 true (.pair (.int .i64) (.int .i64))),.slot 3 (.ref 1 false)])])],
 []⟩
def Un:FAnn:=⟨118,0,[.slot 0 (.cell (.int .i64)),.slot 1 (.cell (.int .i64)),.slot 2 (.cell (.int .i64))],[.slot 0 (.cell (.bool))],
 [],
 [],
 []⟩
def MD:FAnn:=⟨202,0,[.slot 0 (.agg [.int .i64,.int .i64])],[.slot 0 (.cell (.bool))],
 [],
 [],
 []⟩
def O4:FAnn:=⟨134,0,[.slot 0 (.cell (.im (.pair (.int .i64) (.int .i64))))],[.slot 0 (.cell (.bool))],
 [(2,[.slot 5 (.cell (.im (.pair (.int .i64) (.int .i64)))),.slot 6 (.cell (.int .i64)),.slot 7 (.cell (.int .i64))])],
 [(2,[(.exit 0,[]),(.ret,[.slot 2 (.cell (.bool))])])],
 []⟩
def O2:FAnn:=⟨100,0,[.slot 0 (.cell (.im (.pair (.int .i64) (.int .i64))))],[.slot 0 (.cell (.bool))],
 [],
 [],
 []⟩
def Py:FAnn:=⟨248,0,[.slot 0 (.cell (.im (.int .i64)))],[.blk (.arr 3 true (.int .i64)),.slot 0 (.ref 0 false)],
 [(1,[.slot 0 (.cell (.im (.int .i64)))])],
 [(1,[(.exit 0,[.slot 0 (.cell (.im (.int .i64)))])])],
 []⟩
def MO:FAnn:=⟨195,0,[.slot 0 (.cell (.bool)),.slot 1 (.cell (.im (.int .i64)))],[.blk (.arr 3 true (.int .i64)),.slot 0 (.agg [.bool,.at 0])],
 [],
 [],
 []⟩
def Pc:FAnn:=⟨167,0,[.slot 0 (.cell (.int .i64))],[.slot 0 (.agg [.bool,.im (.int .i64)])],
 [(3,[.blk (.box 26 [.bool,.im (.int .i64)]),.blk (.arr 3 true (.int .i64)),.slot 0 (.cell (.int .i64)),.slot 2 (.ref 0 true),.slot 3 (.ref 1 false),.slot 4 (.cell (.int .i64))])],
 [(3,[(.exit 0,[.blk (.box 26 [.bool,.im (.int .i64)]),.blk (.arr 3 true (.int .i64)),.slot 0 (.cell (.int .i64)),.slot 2 (.ref 0 true),.slot 3 (.ref 1 false)])])],
 []⟩
def PK:FAnn:=⟨76,0,[.slot 0 (.cell (.int .i64))],[.slot 0 (.agg [.bool,.im (.int .i64),.bool,.im (.int .i64)])],
 [],
 [],
 []⟩
def OO:FAnn:=⟨101,0,[.slot 0 (.agg [.int .i64,.int .i64])],[.slot 0 (.agg [.bool,.im (.int .i64),.bool,.im (.int .i64),.bool,.im (.int .i64),.bool,.im (.int .i64)])],
 [],
 [],
 []⟩
def Mz:FAnn:=⟨18,0,[.slot 0 (.cell (.im (.pair (.int .i64) (.int .i64))))],[.blk (.arr 30 false (.pair (.pair (.pair (.bool) (.sl (.int .i64))) (.pair (.bool) (.sl (.int .i64)))) (.pair (.pair (.bool) (.sl (.int .i64))) (.pair (.bool) (.sl (.int .i64)))))),.slot 0 (.ref 0 false),.slot 1 (.cell (.bool))],
 [(5,[.blk (.arr 30 false (.pair (.pair (.pair (.bool) (.sl (.int .i64))) (.pair (.bool) (.sl (.int .i64)))) (.pair (.pair (.bool) (.sl (.int .i64))) (.pair (.bool) (.sl (.int .i64)))))),.slot 4 (.ref 0 false),.slot 10 (.cell (.im (.pair (.int .i64) (.int .i64)))),.slot 11 (.cell (.int .i64)),.slot 12 (.cell (.int .i64))])],
 [(5,[(.exit 0,[.blk (.arr 30 false (.pair (.pair (.pair (.bool) (.sl (.int .i64))) (.pair (.bool) (.sl (.int .i64)))) (.pair (.pair (.bool) (.sl (.int .i64))) (.pair (.bool) (.sl (.int .i64)))))),.slot 4 (.ref 0 false)])])],
 []⟩
def HK:FAnn:=⟨204,1,[.blk (.box 94 [.im (.int .u8),.int .i64,.int .u64]),.slot 0 (.ref 0 true)],[.blk (.box 94 [.im (.int .u8),.int .i64,.int .u64]),.slot 0 (.agg [.bool,.im (.int .i64)])],
 [(5,[.blk (.box 94 [.im (.int .u8),.int .i64,.int .u64]),.blk (.box 26 [.bool,.im (.int .i64)]),.blk (.arr 3 true (.int .i64)),.slot 0 (.ref 0 true),.slot 2 (.ref 1 true),.slot 3 (.cell (.int .i64)),.slot 4 (.ref 2 false)])],
 [(5,[(.exit 0,[.blk (.box 94 [.im (.int .u8),.int .i64,.int .u64]),.blk (.box 26 [.bool,.im (.int .i64)]),.blk (.arr 3 true (.int .i64)),.slot 0 (.ref 0 true),.slot 2 (.ref 1 true),.slot 4 (.ref 2 false)])])],
 [(4,[.blk (.box 94 [.im (.int .u8),.int .i64,.int .u64]),.blk (.box 26 [.bool,.im (.int .i64)]),.slot 0 (.ref 0 true),.slot 2 (.ref 1 true),.slot 3 (.cell (.int .i64))])]⟩
def KN:FAnn:=⟨205,0,[.slot 0 (.agg [.bool,.im (.int .i64)])],[.slot 0 (.cell (.bool))],
 [(2,[.blk (.box 26 [.bool,.im (.int .i64)]),.slot 1 (.ref 0 true),.slot 7 (.cell (.im (.int .i64))),.slot 8 (.cell (.int .i64)),.slot 9 (.cell (.int .i64))])],
 [(2,[(.exit 0,[.blk (.box 26 [.bool,.im (.int .i64)]),.slot 1 (.ref 0 true)]),(.ret,[.slot 2 (.cell (.bool))])])],
 []⟩
def Pg:FAnn:=⟨206,0,[.slot 0 (.cell (.im (.int .i64))),.slot 1 (.cell (.im (.int .i64)))],[.slot 0 (.cell (.int .i64))],
 [(6,[.slot 0 (.cell (.im (.int .i64))),.slot 1 (.cell (.im (.int .i64))),.slot 5 (.cell (.int .i64))])],
 [(6,[(.exit 0,[]),(.ret,[.slot 4 (.cell (.int .i64))])])],
 []⟩
def Kr:FAnn:=⟨266,0,[.slot 0 (.cell (.im (.int .i64))),.slot 1 (.cell (.int .i64))],[.blk (.arr 3 true (.int .i64)),.blk (.arr 3 true (.int .i64)),.slot 0 (.ref 0 false),.slot 1 (.ref 1 false)],
 [(4,[.blk (.arr 3 true (.int .i64)),.slot 0 (.cell (.im (.int .i64))),.slot 1 (.cell (.int .i64)),.slot 6 (.ref 0 false),.slot 7 (.cell (.int .i64)),.slot 8 (.cell (.int .i64))])],
 [(4,[(.exit 0,[.blk (.arr 3 true (.int .i64)),.slot 6 (.ref 0 false),.slot 7 (.cell (.int .i64))])])],
 []⟩
def TS:FAnn:=⟨267,0,[.slot 0 (.cell (.im (.int .i64))),.slot 1 (.cell (.int .i64))],[.blk (.arr 3 true (.int .i64)),.slot 0 (.ref 0 false)],
 [(3,[.blk (.arr 3 true (.int .i64)),.slot 1 (.cell (.int .i64)),.slot 5 (.ref 0 false),.slot 13 (.cell (.im (.int .i64))),.slot 14 (.cell (.int .i64)),.slot 15 (.cell (.int .i64))])],
 [(3,[(.exit 0,[.blk (.arr 3 true (.int .i64)),.slot 5 (.ref 0 false)])])],
 []⟩
def KT:FAnn:=⟨268,0,[.slot 0 (.cell (.im (.int .i64))),.slot 1 (.cell (.im (.int .i64))),.slot 2 (.cell (.int .i64))],[.slot 0 (.cell (.int .i64))],
 [(5,[.slot 0 (.cell (.im (.int .i64))),.slot 1 (.cell (.im (.int .i64))),.slot 2 (.cell (.int .i64)),.slot 7 (.cell (.int .i64)),.slot 9 (.cell (.int .i64)),.slot 10 (.cell (.int .i64))])],
 [(5,[(.exit 0,[.slot 9 (.cell (.int .i64))])])],
 [(6,[.slot 0 (.cell (.im (.int .i64))),.slot 1 (.cell (.im (.int .i64))),.slot 2 (.cell (.int .i64)),.slot 7 (.cell (.int .i64)),.slot 9 (.cell (.int .i64)),.slot 10 (.cell (.int .i64))])]⟩
def Mp:FAnn:=⟨259,0,[.slot 0 (.cell (.im (.int .i64))),.slot 1 (.cell (.int .i64))],[.slot 0 (.cell (.int .i64))],
 [],
 [],
 []⟩
def ML:FAnn:=⟨269,1,[.blk (.arr 3 true (.int .i64)),.slot 0 (.ref 0 false),.slot 1 (.cell (.im (.int .i64))),.slot 2 (.cell (.int .i64)),.slot 3 (.cell (.int .i64))],[.blk (.arr 3 true (.int .i64)),.slot 0 (.cell (.int .i64))],
 [(3,[.blk (.arr 3 true (.int .i64)),.slot 0 (.ref 0 false),.slot 1 (.cell (.im (.int .i64))),.slot 2 (.cell (.int .i64)),.slot 3 (.cell (.int .i64)),.slot 9 (.cell (.int .i64)),.slot 10 (.cell (.int .i64))])],
 [(3,[(.exit 0,[.blk (.arr 3 true (.int .i64)),.slot 9 (.cell (.int .i64))])])],
 [(10,[.blk (.arr 3 true (.int .i64)),.slot 0 (.ref 0 false),.slot 1 (.cell (.im (.int .i64))),.slot 2 (.cell (.int .i64)),.slot 3 (.cell (.int .i64)),.slot 9 (.cell (.int .i64)),.slot 10 (.cell (.int .i64)),.slot 11 (.cell (.int .i64))])]⟩
def MX:FAnn:=⟨270,1,[.blk (.arr 3 true (.int .i64)),.slot 0 (.ref 0 false),.slot 1 (.cell (.im (.int .i64))),.slot 2 (.cell (.int .i64))],[.blk (.arr 3 true (.int .i64))],
 [(2,[.blk (.arr 3 true (.int .i64)),.slot 0 (.ref 0 false),.slot 1 (.cell (.im (.int .i64))),.slot 2 (.cell (.int .i64)),.slot 6 (.cell (.int .i64)),.slot 7 (.cell (.int .i64))])],
 [(2,[(.exit 0,[.blk (.arr 3 true (.int .i64))])])],
 []⟩
def Ms:FAnn:=⟨271,0,[.slot 0 (.cell (.im (.int .i64))),.slot 1 (.cell (.int .i64))],[.blk (.arr 3 true (.int .i64)),.slot 0 (.ref 0 false)],
 [(3,[.blk (.arr 3 true (.int .i64)),.slot 0 (.cell (.im (.int .i64))),.slot 1 (.cell (.int .i64)),.slot 5 (.ref 0 false),.slot 11 (.cell (.int .i64)),.slot 12 (.cell (.int .i64))])],
 [(3,[(.exit 0,[.blk (.arr 3 true (.int .i64)),.slot 5 (.ref 0 false)])])],
 []⟩
def Hg:FAnn:=⟨252,0,[.slot 0 (.cell (.im (.int .i64))),.slot 1 (.cell (.im (.int .i64)))],[.blk (.arr 3 true (.int .i64)),.blk (.arr 3 true (.int .i64)),.slot 0 (.ref 0 false),.slot 1 (.ref 1 false)],
 [(7,[.blk (.arr 3 true (.int .i64)),.slot 0 (.ref 0 false),.slot 1 (.cell (.im (.int .i64))),.slot 6 (.cell (.int .i64))]),(13,[.blk (.arr 3 true (.int .i64)),.blk (.arr 3 true (.int .i64)),.blk (.arr 3 true (.int .i64)),.slot 6 (.cell (.int .i64)),.slot 7 (.ref 0 false),.slot 8 (.ref 1 false),.slot 9 (.ref 2 false),.slot 10 (.cell (.int .i64))])],
 [(7,[(.exit 0,[.blk (.arr 3 true (.int .i64)),.slot 0 (.ref 0 false),.slot 1 (.cell (.im (.int .i64))),.slot 6 (.cell (.int .i64))])]),(13,[(.exit 2,[.blk (.arr 3 true (.int .i64)),.blk (.arr 3 true (.int .i64)),.slot 6 (.cell (.int .i64)),.slot 7 (.ref 0 false),.slot 9 (.ref 1 false)])])],
 []⟩
def Pv:FAnn:=⟨207,0,[.slot 0 (.cell (.im (.int .i64))),.slot 1 (.cell (.im (.int .i64)))],[.blk (.arr 3 true (.int .i64)),.slot 0 (.ref 0 false)],
 [(1,[.slot 0 (.cell (.im (.int .i64))),.slot 1 (.cell (.im (.int .i64)))])],
 [(1,[(.exit 0,[.slot 0 (.cell (.im (.int .i64)))])])],
 []⟩
def PD:FAnn:=⟨218,0,[.slot 0 (.agg [.bool,.im (.int .i64)]),.slot 1 (.agg [.bool,.im (.int .i64)])],[.slot 0 (.agg [.bool,.im (.int .i64)]),.slot 1 (.agg [.bool,.im (.int .i64)])],
 [],
 [],
 []⟩
def PN:FAnn:=⟨219,0,[.slot 0 (.agg [.bool,.im (.int .i64)])],[.slot 0 (.agg [.bool,.im (.int .i64)])],
 [],
 [],
 []⟩
def MT:FAnn:=⟨164,0,[.slot 0 (.agg [.bool,.im (.int .i64)]),.slot 1 (.agg [.bool,.im (.int .i64)])],[.slot 0 (.agg [.bool,.im (.int .i64),.bool,.im (.int .i64)])],
 [],
 [],
 []⟩
def O7:FAnn:=⟨163,0,[.slot 0 (.cell (.int .i64)),.slot 1 (.cell (.int .i64))],[.slot 0 (.agg [.bool,.im (.int .i64),.bool,.im (.int .i64)]),.slot 1 (.cell (.bool))],
 [],
 [],
 []⟩
def HH:FAnn:=⟨142,1,[.blk (.box 94 [.im (.int .u8),.int .i64,.int .u64]),.slot 0 (.ref 0 true)],[.blk (.box 94 [.im (.int .u8),.int .i64,.int .u64]),.slot 0 (.agg [.bool,.im (.int .i64),.bool,.im (.int .i64)])],
 [],
 [],
 []⟩
def HP:FAnn:=⟨129,1,[.blk (.box 94 [.im (.int .u8),.int .i64,.int .u64]),.slot 0 (.ref 0 true)],[.blk (.box 94 [.im (.int .u8),.int .i64,.int .u64]),.slot 0 (.agg [.bool,.im (.int .i64),.bool,.im (.int .i64),.bool,.im (.int .i64),.bool,.im (.int .i64)])],
 [],
 [],
 []⟩
def Hl:FAnn:=⟨73,1,[.blk (.box 94 [.im (.int .u8),.int .i64,.int .u64]),.slot 0 (.ref 0 true)],[.blk (.box 94 [.im (.int .u8),.int .i64,.int .u64]),.blk (.arr 30 false (.pair (.pair (.pair (.bool) (.sl (.int .i64))) (.pair (.bool) (.sl (.int .i64)))) (.pair (.pair (.bool) (.sl (.int .i64))) (.pair (.bool) (.sl (.int .i64)))))),.slot 0 (.ref 1 false)],
 [(8,[.blk (.box 94 [.im (.int .u8),.int .i64,.int .u64]),.blk (.arr 30 false (.pair (.pair (.pair (.bool) (.sl (.int .i64))) (.pair (.bool) (.sl (.int .i64)))) (.pair (.pair (.bool) (.sl (.int .i64))) (.pair (.bool) (.sl (.int .i64)))))),.slot 0 (.ref 0 true),.slot 5 (.ref 1 false),.slot 6 (.cell (.int .i64))])],
 [(8,[(.exit 0,[.blk (.box 94 [.im (.int .u8),.int .i64,.int .u64]),.blk (.arr 30 false (.pair (.pair (.pair (.bool) (.sl (.int .i64))) (.pair (.bool) (.sl (.int .i64)))) (.pair (.pair (.bool) (.sl (.int .i64))) (.pair (.bool) (.sl (.int .i64)))))),.slot 5 (.ref 1 false)])])],
 [(8,[.blk (.box 94 [.im (.int .u8),.int .i64,.int .u64]),.blk (.arr 30 false (.pair (.pair (.pair (.bool) (.sl (.int .i64))) (.pair (.bool) (.sl (.int .i64)))) (.pair (.pair (.bool) (.sl (.int .i64))) (.pair (.bool) (.sl (.int .i64)))))),.slot 0 (.ref 0 true),.slot 5 (.ref 1 false),.slot 6 (.cell (.int .i64))])]⟩
def DN:FAnn:=⟨135,1,[.blk (.box 94 [.im (.int .u8),.int .i64,.int .u64]),.slot 0 (.ref 0 true)],[.blk (.box 94 [.im (.int .u8),.int .i64,.int .u64]),.blk (.arr 30 false (.pair (.pair (.pair (.bool) (.sl (.int .i64))) (.pair (.bool) (.sl (.int .i64)))) (.pair (.pair (.bool) (.sl (.int .i64))) (.pair (.bool) (.sl (.int .i64)))))),.slot 0 (.ref 1 false)],
 [],
 [],
 []⟩
def Ff:FAnn:=⟨136,1,[.blk (.box 94 [.im (.int .u8),.int .i64,.int .u64]),.slot 0 (.ref 0 true)],[.blk (.box 94 [.im (.int .u8),.int .i64,.int .u64]),.slot 0 (.agg [.int .i64,.int .i64,.int .i64,.int .i64])],
 [],
 [],
 []⟩
def Fd:FAnn:=⟨47,0,[.slot 0 (.cell (.im (.int .u8)))],[.blk (.arr 30 false (.pair (.pair (.pair (.bool) (.sl (.int .i64))) (.pair (.bool) (.sl (.int .i64)))) (.pair (.pair (.bool) (.sl (.int .i64))) (.pair (.bool) (.sl (.int .i64)))))),.slot 0 (.ref 0 false),.slot 1 (.agg [.int .i64,.int .i64,.int .i64,.int .i64])],
 [],
 [],
 []⟩
def Ml:FAnn:=⟨103,0,[.slot 0 (.cell (.int .i64)),.slot 1 (.cell (.int .i64)),.slot 2 (.cell (.int .i64))],[.slot 0 (.cell (.bool))],
 [],
 [],
 []⟩
def HU:FAnn:=⟨258,0,[.slot 0 (.cell (.int .i64))],[.slot 0 (.cell (.bool))],
 [],
 [],
 []⟩
def BE:FAnn:=⟨221,0,[.slot 0 (.cell (.im (.int .i64))),.slot 1 (.clo 258)],[.slot 0 (.cell (.int .i64))],
 [(2,[.slot 0 (.cell (.im (.int .i64))),.slot 1 (.clo 258),.slot 7 (.cell (.int .i64)),.slot 8 (.cell (.int .i64))])],
 [(2,[(.exit 0,[]),(.ret,[.slot 4 (.cell (.int .i64))])])],
 []⟩
def Br:FAnn:=⟨155,0,[.slot 0 (.cell (.im (.int .i64))),.slot 1 (.clo 258)],[.slot 0 (.cell (.bool))],
 [],
 [],
 []⟩
def JY:FAnn:=⟨231,0,[.slot 0 (.agg [.bool,.im (.int .i64)])],[.slot 0 (.cell (.bool))],
 [],
 [],
 []⟩
def I0:FAnn:=⟨261,0,[.slot 0 (.agg [.bool,.im (.int .i64)])],[.slot 0 (.cell (.bool))],
 [],
 [],
 []⟩
def Bp:FAnn:=⟨257,0,[.slot 0 (.cell (.im (.pair (.bool) (.sl (.int .i64))))),.slot 1 (.clo 261)],[.slot 0 (.cell (.int .i64))],
 [(2,[.slot 0 (.cell (.im (.pair (.bool) (.sl (.int .i64))))),.slot 1 (.clo 261),.slot 7 (.cell (.int .i64)),.slot 8 (.cell (.int .i64))])],
 [(2,[(.exit 0,[]),(.ret,[.slot 4 (.cell (.int .i64))])])],
 []⟩
def A4:FAnn:=⟨229,0,[.slot 0 (.cell (.im (.pair (.bool) (.sl (.int .i64))))),.slot 1 (.clo 261)],[.slot 0 (.cell (.bool))],
 [],
 [],
 []⟩
def MQ:FAnn:=⟨241,0,[.slot 0 (.cell (.im (.pair (.bool) (.sl (.int .i64)))))],[.slot 0 (.cell (.bool))],
 [],
 [],
 []⟩
def IN:FAnn:=⟨212,0,[.slot 0 (.agg [.bool,.im (.int .i64)])],[.slot 0 (.cell (.int .i64))],
 [],
 [],
 []⟩
def FX:FAnn:=⟨263,0,[.slot 0 (.cell (.int .i64))],[.slot 0 (.cell (.bool))],
 [],
 [],
 []⟩
def ER:FAnn:=⟨245,0,[.slot 0 (.cell (.int .i64)),.slot 1 (.cell (.int .i64))],[.slot 0 (.cell (.int .i64))],
 [],
 [],
 []⟩
def Fi:FAnn:=⟨184,0,[.slot 0 (.cell (.im (.int .i64))),.slot 1 (.cell (.im (.int .i64)))],[.slot 0 (.cell (.int .i64))],
 [(4,[.slot 0 (.cell (.im (.int .i64))),.slot 1 (.cell (.im (.int .i64))),.slot 5 (.cell (.int .i64))])],
 [(4,[(.exit 0,[]),(.ret,[.slot 4 (.cell (.int .i64))])])],
 []⟩
def Xt:FAnn:=⟨243,0,[.slot 0 (.cell (.im (.int .i64)))],[.slot 0 (.cell (.im (.int .i64)))],
 [(2,[.slot 0 (.cell (.im (.int .i64))),.slot 3 (.cell (.int .i64))])],
 [(2,[(.exit 0,[.slot 0 (.cell (.im (.int .i64))),.slot 3 (.cell (.int .i64))])])],
 []⟩
def IM:FAnn:=⟨262,0,[.slot 0 (.cell (.im (.int .i64))),.slot 1 (.cell (.int .i64))],[.slot 0 (.cell (.im (.int .i64))),.slot 1 (.cell (.int .i64))],
 [(4,[.blk (.arr 3 true (.int .i64)),.slot 0 (.cell (.im (.int .i64))),.slot 1 (.cell (.int .i64)),.slot 6 (.ref 0 false),.slot 7 (.cell (.int .i64)),.slot 8 (.cell (.int .i64))])],
 [(4,[(.exit 0,[.blk (.arr 3 true (.int .i64)),.slot 6 (.ref 0 false),.slot 7 (.cell (.int .i64))])])],
 []⟩
def A7:FAnn:=⟨242,0,[.slot 0 (.cell (.im (.int .i64)))],[.blk (.arr 3 true (.int .i64)),.slot 0 (.ref 0 false)],
 [],
 [],
 []⟩
def PI:FAnn:=⟨177,0,[.slot 0 (.cell (.bool)),.slot 1 (.cell (.im (.int .i64)))],[.blk (.arr 3 true (.int .i64)),.slot 0 (.agg [.bool,.at 0])],
 [],
 [],
 []⟩
def PS:FAnn:=⟨104,0,[.slot 0 (.cell (.int .i64))],[.slot 0 (.agg [.bool,.im (.int .i64)])],
 [(6,[.blk (.box 26 [.bool,.im (.int .i64)]),.blk (.arr 3 true (.int .i64)),.slot 2 (.ref 0 true),.slot 3 (.cell (.bool)),.slot 4 (.cell (.int .u64)),.slot 5 (.ref 1 false)])],
 [(6,[(.exit 0,[.blk (.box 26 [.bool,.im (.int .i64)]),.blk (.arr 3 true (.int .i64)),.slot 2 (.ref 0 true),.slot 3 (.cell (.bool)),.slot 5 (.ref 1 false)])])],
 [(5,[.blk (.box 26 [.bool,.im (.int .i64)]),.slot 2 (.ref 0 true),.slot 3 (.cell (.bool)),.slot 4 (.cell (.int .u64))])]⟩
def JU:FAnn:=⟨179,0,[.slot 0 (.agg [.bool,.im (.int .i64)]),.slot 1 (.agg [.bool,.im (.int .i64)])],[.blk (.arr 3 true (.int .i64)),.slot 0 (.agg [.bool,.at 0])],
 [(3,[.blk (.box 26 [.bool,.im (.int .i64)]),.blk (.box 26 [.bool,.im (.int .i64)]),.blk (.box 26 [.bool,.im (.int .i64)]),.blk (.arr 3 true (.int .i64)),.slot 2 (.ref 0 true),.slot 3 (.ref 1 true),.slot 4 (.ref 2 true),.slot 5 (.ref 3 false),.slot 20 (.cell (.im (.int .i64))),.slot 21 (.cell (.int .i64)),.slot 22 (.cell (.int .i64))]),(7,[.blk (.box 26 [.bool,.im (.int .i64)]),.blk (.box 26 [.bool,.im (.int .i64)]),.blk (.box 26 [.bool,.im (.int .i64)]),.blk (.arr 3 true (.int .i64)),.slot 2 (.ref 0 true),.slot 3 (.ref 1 true),.slot 4 (.ref 2 true),.slot 5 (.ref 3 false),.slot 6 (.cell (.int .i64)),.slot 7 (.cell (.int .i64)),.slot 8 (.cell (.int .i64)),.slot 20 (.cell (.im (.int .i64))),.slot 21 (.cell (.int .i64)),.slot 22 (.cell (.int .i64)),.slot 28 (.cell (.im (.int .i64))),.slot 29 (.cell (.int .i64)),.slot 30 (.cell (.int .i64))])],
 [(3,[(.exit 0,[.blk (.box 26 [.bool,.im (.int .i64)]),.blk (.box 26 [.bool,.im (.int .i64)]),.blk (.box 26 [.bool,.im (.int .i64)]),.blk (.arr 3 true (.int .i64)),.slot 2 (.ref 0 true),.slot 3 (.ref 1 true),.slot 4 (.ref 2 true),.slot 5 (.ref 3 false)])]),(7,[(.exit 2,[.blk (.box 26 [.bool,.im (.int .i64)]),.blk (.box 26 [.bool,.im (.int .i64)]),.blk (.box 26 [.bool,.im (.int .i64)]),.blk (.arr 3 true (.int .i64)),.slot 2 (.ref 0 true),.slot 3 (.ref 1 true),.slot 4 (.ref 2 true),.slot 5 (.ref 3 false),.slot 6 (.cell (.int .i64)),.slot 8 (.cell (.int .i64)),.slot 20 (.cell (.im (.int .i64))),.slot 21 (.cell (.int .i64)),.slot 22 (.cell (.int .i64))])])],
 []⟩
def Jv:FAnn:=⟨244,0,[.slot 0 (.cell (.im (.int .i64))),.slot 1 (.cell (.im (.int .i64)))],[.slot 0 (.cell (.im (.int .i64))),.slot 1 (.cell (.im (.int .i64)))],
 [(10,[.blk (.arr 3 true (.int .i64)),.blk (.arr 3 true (.int .i64)),.slot 0 (.cell (.im (.int .i64))),.slot 6 (.cell (.int .i64)),.slot 9 (.cell (.int .i64)),.slot 10 (.ref 0 false),.slot 11 (.ref 1 false)]),(14,[.blk (.arr 3 true (.int .i64)),.blk (.arr 3 true (.int .i64)),.blk (.arr 3 true (.int .i64)),.slot 6 (.cell (.int .i64)),.slot 9 (.cell (.int .i64)),.slot 10 (.ref 0 false),.slot 11 (.ref 1 false),.slot 12 (.ref 2 false),.slot 13 (.cell (.int .i64))]),(18,[.blk (.arr 3 true (.int .i64)),.blk (.arr 3 true (.int .i64)),.blk (.arr 3 true (.int .i64)),.slot 6 (.cell (.int .i64)),.slot 9 (.cell (.int .i64)),.slot 10 (.ref 0 false),.slot 11 (.ref 1 false),.slot 12 (.ref 2 false),.slot 13 (.cell (.int .i64)),.slot 15 (.cell (.int .i64)),.slot 16 (.cell (.int .i64))]),(23,[.blk (.arr 3 true (.int .i64)),.blk (.arr 3 true (.int .i64)),.blk (.arr 3 true (.int .i64)),.slot 6 (.cell (.int .i64)),.slot 9 (.cell (.int .i64)),.slot 10 (.ref 0 false),.slot 11 (.ref 1 false),.slot 12 (.ref 2 false),.slot 13 (.cell (.int .i64)),.slot 15 (.cell (.int .i64)),.slot 17 (.cell (.int .i64)),.slot 153 (.cell (.int .i64)),.slot 154 (.cell (.int .i64))]),(37,[.blk (.arr 3 true (.int .i64)),.blk (.arr 3 true (.int .i64)),.blk (.arr 3 true (.int .i64)),.slot 6 (.cell (.int .i64)),.slot 9 (.cell (.int .i64)),.slot 10 (.ref 0 false),.slot 11 (.ref 1 false),.slot 12 (.ref 2 false),.slot 13 (.cell (.int .i64)),.slot 15 (.cell (.int .i64)),.slot 20 (.cell (.int .i64)),.slot 208 (.cell (.int .i64)),.slot 209 (.cell (.int .i64))])],
 [(10,[(.exit 0,[.blk (.arr 3 true (.int .i64)),.blk (.arr 3 true (.int .i64)),.slot 6 (.cell (.int .i64)),.slot 9 (.cell (.int .i64)),.slot 10 (.ref 0 false),.slot 11 (.ref 1 false)])]),(14,[(.exit 2,[.blk (.arr 3 true (.int .i64)),.blk (.arr 3 true (.int .i64)),.slot 6 (.cell (.int .i64)),.slot 9 (.cell (.int .i64)),.slot 10 (.ref 0 false),.slot 12 (.ref 1 false)])]),(18,[(.exit 4,[.blk (.arr 3 true (.int .i64)),.blk (.arr 3 true (.int .i64)),.blk (.arr 3 true (.int .i64)),.slot 6 (.cell (.int .i64)),.slot 9 (.cell (.int .i64)),.slot 10 (.ref 0 false),.slot 11 (.ref 1 false),.slot 12 (.ref 2 false),.slot 13 (.cell (.int .i64)),.slot 15 (.cell (.int .i64))])]),(23,[(.exit 6,[.blk (.arr 3 true (.int .i64)),.blk (.arr 3 true (.int .i64)),.blk (.arr 3 true (.int .i64)),.slot 6 (.cell (.int .i64)),.slot 9 (.cell (.int .i64)),.slot 10 (.ref 0 false),.slot 11 (.ref 1 false),.slot 12 (.ref 2 false),.slot 13 (.cell (.int .i64)),.slot 15 (.cell (.int .i64)),.slot 17 (.cell (.int .i64))])]),(37,[(.exit 8,[.blk (.arr 3 true (.int .i64)),.blk (.arr 3 true (.int .i64)),.blk (.arr 3 true (.int .i64)),.slot 6 (.cell (.int .i64)),.slot 9 (.cell (.int .i64)),.slot 10 (.ref 0 false),.slot 11 (.ref 1 false),.slot 12 (.ref 2 false),.slot 13 (.cell (.int .i64)),.slot 15 (.cell (.int .i64)),.slot 20 (.cell (.int .i64))])])],
 [(19,[.blk (.arr 3 true (.int .i64)),.blk (.arr 3 true (.int .i64)),.blk (.arr 3 true (.int .i64)),.slot 6 (.cell (.int .i64)),.slot 9 (.cell (.int .i64)),.slot 10 (.ref 0 false),.slot 11 (.ref 1 false),.slot 12 (.ref 2 false),.slot 13 (.cell (.int .i64)),.slot 15 (.cell (.int .i64)),.slot 16 (.cell (.int .i64))]),(30,[.blk (.arr 3 true (.int .i64)),.blk (.arr 3 true (.int .i64)),.blk (.arr 3 true (.int .i64)),.slot 6 (.cell (.int .i64)),.slot 9 (.cell (.int .i64)),.slot 10 (.ref 0 false),.slot 11 (.ref 1 false),.slot 12 (.ref 2 false),.slot 13 (.cell (.int .i64)),.slot 15 (.cell (.int .i64)),.slot 17 (.cell (.int .i64)),.slot 18 (.cell (.int .i64)),.slot 19 (.cell (.int .i64)),.slot 153 (.cell (.int .i64)),.slot 154 (.cell (.int .i64))])]⟩
def KX:FAnn:=⟨180,0,[.slot 0 (.agg [.bool,.im (.int .i64)]),.slot 1 (.agg [.bool,.im (.int .i64)])],[.slot 0 (.agg [.bool,.im (.int .i64)])],
 [(2,[.blk (.box 26 [.bool,.im (.int .i64)]),.slot 4 (.ref 0 true),.slot 5 (.cell (.im (.int .i64))),.slot 6 (.cell (.im (.int .i64)))])],
 [(2,[(.exit 0,[.blk (.box 26 [.bool,.im (.int .i64)]),.slot 4 (.ref 0 true),.slot 5 (.cell (.im (.int .i64)))])])],
 []⟩
def GR:FAnn:=⟨236,0,[.slot 0 (.agg [.bool,.im (.int .i64)]),.slot 1 (.agg [.bool,.im (.int .i64)])],[.slot 0 (.cell (.int .i64))],
 [],
 [],
 []⟩
def KW:FAnn:=⟨176,0,[.slot 0 (.agg [.bool,.im (.int .i64),.bool,.im (.int .i64)])],[.slot 0 (.cell (.bool))],
 [],
 [],
 []⟩
def Ld:FAnn:=⟨88,0,[.slot 0 (.cell (.im (.pair (.pair (.bool) (.sl (.int .i64))) (.pair (.bool) (.sl (.int .i64))))))],[.slot 0 (.cell (.bool))],
 [(2,[.slot 5 (.cell (.im (.pair (.pair (.bool) (.sl (.int .i64))) (.pair (.bool) (.sl (.int .i64)))))),.slot 6 (.cell (.int .i64)),.slot 7 (.cell (.int .i64))])],
 [(2,[(.exit 0,[]),(.ret,[.slot 2 (.cell (.bool))])])],
 []⟩
def F2:FAnn:=⟨170,0,[.slot 0 (.agg [.bool,.im (.int .i64),.bool,.im (.int .i64)]),.slot 1 (.cell (.int .i64))],[.slot 0 (.cell (.bool))],
 [],
 [],
 []⟩
def O6:FAnn:=⟨79,0,[.slot 0 (.agg [.bool,.im (.int .i64),.bool,.im (.int .i64),.bool,.im (.int .i64),.bool,.im (.int .i64)]),.slot 1 (.cell (.int .i64))],[.slot 0 (.cell (.bool))],
 [],
 [],
 []⟩
def GG:FAnn:=⟨169,0,[.slot 0 (.agg [.bool,.im (.int .i64),.bool,.im (.int .i64),.bool,.im (.int .i64),.bool,.im (.int .i64)])],[.slot 0 (.cell (.bool))],
 [],
 [],
 []⟩
def Bq:FAnn:=⟨190,0,[.slot 0 (.cell (.im (.pair (.pair (.pair (.bool) (.sl (.int .i64))) (.pair (.bool) (.sl (.int .i64)))) (.pair (.pair (.bool) (.sl (.int .i64))) (.pair (.bool) (.sl (.int .i64))))))),.slot 1 (.clo 169)],[.slot 0 (.cell (.int .i64))],
 [(2,[.slot 0 (.cell (.im (.pair (.pair (.pair (.bool) (.sl (.int .i64))) (.pair (.bool) (.sl (.int .i64)))) (.pair (.pair (.bool) (.sl (.int .i64))) (.pair (.bool) (.sl (.int .i64))))))),.slot 1 (.clo 169),.slot 7 (.cell (.int .i64)),.slot 8 (.cell (.int .i64))])],
 [(2,[(.exit 0,[]),(.ret,[.slot 4 (.cell (.int .i64))])])],
 []⟩
def A5:FAnn:=⟨116,0,[.slot 0 (.cell (.im (.pair (.pair (.pair (.bool) (.sl (.int .i64))) (.pair (.bool) (.sl (.int .i64)))) (.pair (.pair (.bool) (.sl (.int .i64))) (.pair (.bool) (.sl (.int .i64))))))),.slot 1 (.clo 169)],[.slot 0 (.cell (.bool))],
 [],
 [],
 []⟩
def IC:FAnn:=⟨78,0,[.slot 0 (.cell (.im (.pair (.pair (.pair (.bool) (.sl (.int .i64))) (.pair (.bool) (.sl (.int .i64)))) (.pair (.pair (.bool) (.sl (.int .i64))) (.pair (.bool) (.sl (.int .i64)))))))],[.slot 0 (.cell (.bool))],
 [],
 [],
 []⟩
def Gy:FAnn:=⟨51,0,[.slot 0 (.agg [.int .i64,.int .i64,.int .i64,.int .i64])],[.slot 0 (.cell (.bool))],
 [],
 [],
 []⟩
def Pd:FAnn:=⟨92,0,[.slot 0 (.cell (.int .i64))],[.slot 0 (.agg [.bool,.im (.int .i64),.bool,.im (.int .i64)])],
 [],
 [],
 []⟩
def GV:FAnn:=⟨171,0,[.slot 0 (.agg [.bool,.im (.int .i64),.bool,.im (.int .i64)]),.slot 1 (.agg [.bool,.im (.int .i64),.bool,.im (.int .i64)])],[.slot 0 (.cell (.int .i64))],
 [],
 [],
 []⟩
def Jj:FAnn:=⟨80,0,[.slot 0 (.agg [.bool,.im (.int .i64),.bool,.im (.int .i64)]),.slot 1 (.agg [.bool,.im (.int .i64),.bool,.im (.int .i64)])],[.slot 0 (.cell (.bool))],
 [],
 [],
 []⟩
def D4:FAnn:=⟨238,0,[.slot 0 (.agg [.bool,.im (.int .i64),.bool,.im (.int .i64),.bool,.im (.int .i64),.bool,.im (.int .i64)]),.slot 1 (.cell (.bool))],[.slot 0 (.agg [.bool,.im (.int .i64),.bool,.im (.int .i64)])],
 [],
 [],
 []⟩
def Mr:FAnn:=⟨237,3,[.blk (.box 4 [.bool]),.blk (.box 4 [.bool]),.blk (.box 28 [.bool,.im (.int .i64),.bool,.im (.int .i64)]),.slot 0 (.agg [.bool,.im (.int .i64),.bool,.im (.int .i64),.bool,.im (.int .i64),.bool,.im (.int .i64)]),.slot 1 (.ref 0 true),.slot 2 (.ref 1 true),.slot 3 (.ref 2 true)],[.blk (.box 4 [.bool]),.blk (.box 4 [.bool]),.blk (.box 28 [.bool,.im (.int .i64),.bool,.im (.int .i64)]),.slot 0 (.cell (.bool))],
 [],
 [],
 []⟩
def Ki:FAnn:=⟨181,0,[.slot 0 (.agg [.bool,.im (.int .i64)])],[.slot 0 (.agg [.bool,.im (.int .i64)])],
 [],
 [],
 []⟩
def Lb:FAnn:=⟨246,0,[.slot 0 (.agg [.bool,.im (.int .i64),.bool,.im (.int .i64)])],[.slot 0 (.agg [.bool,.im (.int .i64),.bool,.im (.int .i64)])],
 [],
 [],
 []⟩
def IB:FAnn:=⟨183,0,[.slot 0 (.cell (.im (.int .i64))),.slot 1 (.cell (.im (.int .i64)))],[.blk (.arr 3 true (.int .i64)),.slot 0 (.ref 0 false)],
 [(4,[.blk (.arr 3 true (.int .i64)),.slot 0 (.cell (.im (.int .i64))),.slot 1 (.cell (.im (.int .i64))),.slot 5 (.ref 0 false),.slot 6 (.cell (.int .i64)),.slot 7 (.cell (.int .i64))])],
 [(4,[(.exit 0,[.blk (.arr 3 true (.int .i64)),.slot 5 (.ref 0 false)])])],
 [(6,[.blk (.arr 3 true (.int .i64)),.slot 0 (.cell (.im (.int .i64))),.slot 1 (.cell (.im (.int .i64))),.slot 5 (.ref 0 false),.slot 6 (.cell (.int .i64)),.slot 7 (.cell (.int .i64))]),(8,[.blk (.arr 3 true (.int .i64)),.slot 0 (.cell (.im (.int .i64))),.slot 1 (.cell (.im (.int .i64))),.slot 5 (.ref 0 false),.slot 6 (.cell (.int .i64)),.slot 7 (.cell (.int .i64))]),(10,[.blk (.arr 3 true (.int .i64)),.slot 0 (.cell (.im (.int .i64))),.slot 1 (.cell (.im (.int .i64))),.slot 5 (.ref 0 false),.slot 6 (.cell (.int .i64)),.slot 7 (.cell (.int .i64))])]⟩
def Jq:FAnn:=⟨185,0,[.slot 0 (.cell (.im (.int .i64))),.slot 1 (.cell (.im (.int .i64)))],[.slot 0 (.cell (.im (.int .i64)))],
 [(4,[.blk (.arr 3 true (.int .i64)),.slot 1 (.cell (.im (.int .i64))),.slot 5 (.ref 0 false),.slot 6 (.cell (.int .i64)),.slot 11 (.cell (.int .i64)),.slot 12 (.cell (.int .i64))])],
 [(4,[(.exit 0,[.blk (.arr 3 true (.int .i64)),.slot 5 (.ref 0 false)])])],
 [(9,[.blk (.arr 3 true (.int .i64)),.slot 1 (.cell (.im (.int .i64))),.slot 5 (.ref 0 false),.slot 7 (.cell (.int .i64)),.slot 11 (.cell (.int .i64)),.slot 12 (.cell (.int .i64))])]⟩
def KY:FAnn:=⟨95,0,[.slot 0 (.agg [.bool,.im (.int .i64)]),.slot 1 (.agg [.bool,.im (.int .i64)])],[.slot 0 (.agg [.bool,.im (.int .i64)])],
 [],
 [],
 []⟩
def Kd:FAnn:=⟨182,0,[.slot 0 (.agg [.bool,.im (.int .i64)]),.slot 1 (.agg [.bool,.im (.int .i64)])],[.slot 0 (.agg [.bool,.im (.int .i64)]),.slot 1 (.agg [.bool,.im (.int .i64)])],
 [],
 [],
 []⟩
def O5:FAnn:=⟨94,0,[.slot 0 (.agg [.bool,.im (.int .i64)]),.slot 1 (.agg [.bool,.im (.int .i64)])],[.slot 0 (.agg [.bool,.im (.int .i64),.bool,.im (.int .i64)])],
 [],
 [],
 [(4,[.blk (.box 26 [.bool,.im (.int .i64)]),.blk (.box 26 [.bool,.im (.int .i64)]),.blk (.box 28 [.bool,.im (.int .i64),.bool,.im (.int .i64)]),.blk (.box 26 [.bool,.im (.int .i64)]),.slot 2 (.ref 0 true),.slot 3 (.ref 1 true),.slot 4 (.ref 2 true),.slot 5 (.ref 3 true)])]⟩
def KR:FAnn:=⟨91,0,[.slot 0 (.agg [.bool,.im (.int .i64),.bool,.im (.int .i64)]),.slot 1 (.agg [.bool,.im (.int .i64),.bool,.im (.int .i64)])],[.slot 0 (.agg [.bool,.im (.int .i64),.bool,.im (.int .i64)])],
 [],
 [],
 []⟩
def KI:FAnn:=⟨186,0,[.slot 0 (.agg [.bool,.im (.int .i64),.bool,.im (.int .i64)]),.slot 1 (.agg [.bool,.im (.int .i64),.bool,.im (.int .i64)])],[.slot 0 (.agg [.bool,.im (.int .i64),.bool,.im (.int .i64)])],
 [],
 [],
 []⟩
def J5:FAnn:=⟨121,0,[.slot 0 (.agg [.bool,.im (.int .i64),.bool,.im (.int .i64)]),.slot 1 (.agg [.bool,.im (.int .i64),.bool,.im (.int .i64)])],[.slot 0 (.agg [.bool,.im (.int .i64),.bool,.im (.int .i64)])],
 [],
 [],
 []⟩
def JR:FAnn:=⟨119,0,[.slot 0 (.agg [.bool,.im (.int .i64),.bool,.im (.int .i64)]),.slot 1 (.agg [.bool,.im (.int .i64),.bool,.im (.int .i64)])],[.slot 0 (.agg [.bool,.im (.int .i64),.bool,.im (.int .i64)])],
 [],
 [],
 []⟩
def XO:FAnn:=⟨120,0,[.slot 0 (.agg [.bool,.im (.int .i64),.bool,.im (.int .i64),.bool,.im (.int .i64),.bool,.im (.int .i64)]),.slot 1 (.agg [.bool,.im (.int .i64),.bool,.im (.int .i64),.bool,.im (.int .i64),.bool,.im (.int .i64)]),.slot 2 (.agg [.bool,.im (.int .i64),.bool,.im (.int .i64)])],[.slot 0 (.agg [.bool,.im (.int .i64),.bool,.im (.int .i64),.bool,.im (.int .i64),.bool,.im (.int .i64)])],
 [],
 [],
 []⟩
def SZ:FAnn:=⟨172,0,[.slot 0 (.cell (.im (.pair (.pair (.pair (.bool) (.sl (.int .i64))) (.pair (.bool) (.sl (.int .i64)))) (.pair (.pair (.bool) (.sl (.int .i64))) (.pair (.bool) (.sl (.int .i64))))))),.slot 1 (.cell (.bool)),.slot 2 (.cell (.bool)),.slot 3 (.agg [.bool,.im (.int .i64),.bool,.im (.int .i64)])],[.blk (.arr 30 false (.pair (.pair (.pair (.bool) (.sl (.int .i64))) (.pair (.bool) (.sl (.int .i64)))) (.pair (.pair (.bool) (.sl (.int .i64))) (.pair (.bool) (.sl (.int .i64)))))),.slot 0 (.ref 0 false)],
 [(4,[.blk (.box 4 [.bool]),.blk (.box 28 [.bool,.im (.int .i64),.bool,.im (.int .i64)]),.blk (.box 4 [.bool]),.blk (.arr 30 false (.pair (.pair (.pair (.bool) (.sl (.int .i64))) (.pair (.bool) (.sl (.int .i64)))) (.pair (.pair (.bool) (.sl (.int .i64))) (.pair (.bool) (.sl (.int .i64)))))),.slot 0 (.cell (.im (.pair (.pair (.pair (.bool) (.sl (.int .i64))) (.pair (.bool) (.sl (.int .i64)))) (.pair (.pair (.bool) (.sl (.int .i64))) (.pair (.bool) (.sl (.int .i64))))))),.slot 5 (.ref 0 true),.slot 7 (.ref 1 true),.slot 9 (.cap 237 [2,0,1]),.slot 10 (.ref 3 false),.slot 17 (.cell (.im (.pair (.pair (.pair (.bool) (.sl (.int .i64))) (.pair (.bool) (.sl (.int .i64)))) (.pair (.pair (.bool) (.sl (.int .i64))) (.pair (.bool) (.sl (.int .i64))))))),.slot 18 (.cell (.int .i64)),.slot 19 (.cell (.int .i64))])],
 [(4,[(.exit 0,[.blk (.arr 30 false (.pair (.pair (.pair (.bool) (.sl (.int .i64))) (.pair (.bool) (.sl (.int .i64)))) (.pair (.pair (.bool) (.sl (.int .i64))) (.pair (.bool) (.sl (.int .i64)))))),.slot 10 (.ref 0 false)])])],
 [(10,[.blk (.box 4 [.bool]),.blk (.box 28 [.bool,.im (.int .i64),.bool,.im (.int .i64)]),.blk (.box 4 [.bool]),.blk (.arr 30 false (.pair (.pair (.pair (.bool) (.sl (.int .i64))) (.pair (.bool) (.sl (.int .i64)))) (.pair (.pair (.bool) (.sl (.int .i64))) (.pair (.bool) (.sl (.int .i64)))))),.blk (.box 30 [.bool,.im (.int .i64),.bool,.im (.int .i64),.bool,.im (.int .i64),.bool,.im (.int .i64)]),.slot 0 (.cell (.im (.pair (.pair (.pair (.bool) (.sl (.int .i64))) (.pair (.bool) (.sl (.int .i64)))) (.pair (.pair (.bool) (.sl (.int .i64))) (.pair (.bool) (.sl (.int .i64))))))),.slot 5 (.ref 0 true),.slot 7 (.ref 1 true),.slot 9 (.cap 237 [2,0,1]),.slot 10 (.ref 3 false),.slot 12 (.ref 4 true),.slot 17 (.cell (.im (.pair (.pair (.pair (.bool) (.sl (.int .i64))) (.pair (.bool) (.sl (.int .i64)))) (.pair (.pair (.bool) (.sl (.int .i64))) (.pair (.bool) (.sl (.int .i64))))))),.slot 18 (.cell (.int .i64)),.slot 19 (.cell (.int .i64))])]⟩
def K4:FAnn:=⟨82,0,[.slot 0 (.cell (.im (.pair (.pair (.pair (.bool) (.sl (.int .i64))) (.pair (.bool) (.sl (.int .i64)))) (.pair (.pair (.bool) (.sl (.int .i64))) (.pair (.bool) (.sl (.int .i64))))))),.slot 1 (.agg [.bool,.im (.int .i64),.bool,.im (.int .i64),.bool,.im (.int .i64),.bool,.im (.int .i64)]),.slot 2 (.agg [.bool,.im (.int .i64),.bool,.im (.int .i64),.bool,.im (.int .i64),.bool,.im (.int .i64)])],[.blk (.arr 30 false (.pair (.pair (.pair (.bool) (.sl (.int .i64))) (.pair (.bool) (.sl (.int .i64)))) (.pair (.pair (.bool) (.sl (.int .i64))) (.pair (.bool) (.sl (.int .i64)))))),.slot 0 (.ref 0 false)],
 [],
 [],
 []⟩
def MY:FAnn:=⟨224,0,[.slot 0 (.agg [.bool,.im (.int .i64),.bool,.im (.int .i64)])],[.slot 0 (.agg [.bool,.im (.int .i64),.bool,.im (.int .i64)])],
 [],
 [],
 []⟩
def MR:FAnn:=⟨189,0,[.slot 0 (.agg [.bool,.im (.int .i64),.bool,.im (.int .i64),.bool,.im (.int .i64),.bool,.im (.int .i64)])],[.slot 0 (.agg [.bool,.im (.int .i64),.bool,.im (.int .i64),.bool,.im (.int .i64),.bool,.im (.int .i64)])],
 [],
 [],
 []⟩
def KA:FAnn:=⟨109,0,[.slot 0 (.cell (.im (.pair (.pair (.pair (.bool) (.sl (.int .i64))) (.pair (.bool) (.sl (.int .i64)))) (.pair (.pair (.bool) (.sl (.int .i64))) (.pair (.bool) (.sl (.int .i64)))))))],[.blk (.arr 30 false (.pair (.pair (.pair (.bool) (.sl (.int .i64))) (.pair (.bool) (.sl (.int .i64)))) (.pair (.pair (.bool) (.sl (.int .i64))) (.pair (.bool) (.sl (.int .i64)))))),.slot 0 (.ref 0 false)],
 [(3,[.blk (.arr 30 false (.pair (.pair (.pair (.bool) (.sl (.int .i64))) (.pair (.bool) (.sl (.int .i64)))) (.pair (.pair (.bool) (.sl (.int .i64))) (.pair (.bool) (.sl (.int .i64)))))),.slot 3 (.ref 0 false),.slot 7 (.cell (.im (.pair (.pair (.pair (.bool) (.sl (.int .i64))) (.pair (.bool) (.sl (.int .i64)))) (.pair (.pair (.bool) (.sl (.int .i64))) (.pair (.bool) (.sl (.int .i64))))))),.slot 8 (.cell (.int .i64)),.slot 9 (.cell (.int .i64))])],
 [(3,[(.exit 0,[.blk (.arr 30 false (.pair (.pair (.pair (.bool) (.sl (.int .i64))) (.pair (.bool) (.sl (.int .i64)))) (.pair (.pair (.bool) (.sl (.int .i64))) (.pair (.bool) (.sl (.int .i64)))))),.slot 3 (.ref 0 false)])])],
 []⟩
def FU:FAnn:=⟨81,0,[.slot 0 (.cell (.im (.pair (.pair (.pair (.bool) (.sl (.int .i64))) (.pair (.bool) (.sl (.int .i64)))) (.pair (.pair (.bool) (.sl (.int .i64))) (.pair (.bool) (.sl (.int .i64)))))))],[.blk (.arr 30 false (.pair (.pair (.pair (.bool) (.sl (.int .i64))) (.pair (.bool) (.sl (.int .i64)))) (.pair (.pair (.bool) (.sl (.int .i64))) (.pair (.bool) (.sl (.int .i64)))))),.slot 0 (.ref 0 false),.slot 1 (.cell (.bool))],
 [],
 [],
 []⟩
def Kq:FAnn:=⟨9,0,[.slot 0 (.cell (.im (.pair (.pair (.pair (.bool) (.sl (.int .i64))) (.pair (.bool) (.sl (.int .i64)))) (.pair (.pair (.bool) (.sl (.int .i64))) (.pair (.bool) (.sl (.int .i64))))))),.slot 1 (.agg [.bool,.im (.int .i64),.bool,.im (.int .i64),.bool,.im (.int .i64),.bool,.im (.int .i64)]),.slot 2 (.agg [.bool,.im (.int .i64),.bool,.im (.int .i64),.bool,.im (.int .i64),.bool,.im (.int .i64)])],[.blk (.arr 30 false (.pair (.pair (.pair (.bool) (.sl (.int .i64))) (.pair (.bool) (.sl (.int .i64)))) (.pair (.pair (.bool) (.sl (.int .i64))) (.pair (.bool) (.sl (.int .i64)))))),.slot 0 (.ref 0 false),.slot 1 (.cell (.bool))],
 [],
 [],
 []⟩
def Je:FAnn:=⟨126,0,[.slot 0 (.agg [.bool,.im (.int .i64),.bool,.im (.int .i64)])],[.slot 0 (.agg [.bool,.im (.int .i64),.bool,.im (.int .i64)])],
 [],
 [],
 []⟩
def IT:FAnn:=⟨96,0,[.slot 0 (.cell (.im (.pair (.pair (.pair (.bool) (.sl (.int .i64))) (.pair (.bool) (.sl (.int .i64)))) (.pair (.pair (.bool) (.sl (.int .i64))) (.pair (.bool) (.sl (.int .i64)))))))],[.slot 0 (.agg [.bool,.im (.int .i64),.bool,.im (.int .i64)])],
 [(3,[.blk (.box 28 [.bool,.im (.int .i64),.bool,.im (.int .i64)]),.blk (.box 28 [.bool,.im (.int .i64),.bool,.im (.int .i64)]),.slot 0 (.cell (.im (.pair (.pair (.pair (.bool) (.sl (.int .i64))) (.pair (.bool) (.sl (.int .i64)))) (.pair (.pair (.bool) (.sl (.int .i64))) (.pair (.bool) (.sl (.int .i64))))))),.slot 2 (.ref 0 true),.slot 3 (.ref 1 true),.slot 8 (.cell (.im (.pair (.pair (.pair (.bool) (.sl (.int .i64))) (.pair (.bool) (.sl (.int .i64)))) (.pair (.pair (.bool) (.sl (.int .i64))) (.pair (.bool) (.sl (.int .i64))))))),.slot 9 (.cell (.int .i64)),.slot 10 (.cell (.int .i64))])],
 [(3,[(.exit 0,[.blk (.box 28 [.bool,.im (.int .i64),.bool,.im (.int .i64)]),.blk (.box 28 [.bool,.im (.int .i64),.bool,.im (.int .i64)]),.slot 2 (.ref 0 true),.slot 3 (.ref 1 true)])])],
 []⟩
def Hd:FAnn:=⟨93,0,[.slot 0 (.agg [.bool,.im (.int .i64),.bool,.im (.int .i64)])],[.slot 0 (.agg [.bool,.im (.int .i64),.bool,.im (.int .i64)]),.slot 1 (.cell (.bool))],
 [],
 [],
 []⟩
def Ju:FAnn:=⟨13,0,[.slot 0 (.cell (.im (.pair (.pair (.pair (.bool) (.sl (.int .i64))) (.pair (.bool) (.sl (.int .i64)))) (.pair (.pair (.bool) (.sl (.int .i64))) (.pair (.bool) (.sl (.int .i64)))))))],[.slot 0 (.agg [.bool,.im (.int .i64),.bool,.im (.int .i64)]),.slot 1 (.cell (.bool))],
 [],
 [],
 []⟩
def Le:FAnn:=⟨137,0,[.slot 0 (.cell (.im (.pair (.pair (.pair (.bool) (.sl (.int .i64))) (.pair (.bool) (.sl (.int .i64)))) (.pair (.pair (.bool) (.sl (.int .i64))) (.pair (.bool) (.sl (.int .i64))))))),.slot 1 (.cell (.int .i64)),.slot 2 (.cell (.int .i64))],[.slot 0 (.agg [.bool,.im (.int .i64),.bool,.im (.int .i64)]),.slot 1 (.cell (.bool))],
 [],
 [],
 []⟩
def Jh:FAnn:=⟨48,0,[.slot 0 (.cell (.im (.pair (.pair (.pair (.bool) (.sl (.int .i64))) (.pair (.bool) (.sl (.int .i64)))) (.pair (.pair (.bool) (.sl (.int .i64))) (.pair (.bool) (.sl (.int .i64))))))),.slot 1 (.agg [.int .i64,.int .i64,.int .i64,.int .i64])],[.slot 0 (.cell (.im (.pair (.pair (.bool) (.sl (.int .i64))) (.pair (.bool) (.sl (.int .i64)))))),.slot 1 (.cell (.bool))],
 [(5,[.blk (.box 63 [.int .i64,.int .i64,.int .i64,.int .i64]),.blk (.arr 28 false (.pair (.pair (.bool) (.sl (.int .i64))) (.pair (.bool) (.sl (.int .i64))))),.slot 0 (.cell (.im (.pair (.pair (.pair (.bool) (.sl (.int .i64))) (.pair (.bool) (.sl (.int .i64)))) (.pair (.pair (.bool) (.sl (.int .i64))) (.pair (.bool) (.sl (.int .i64))))))),.slot 3 (.ref 0 true),.slot 6 (.ref 1 false),.slot 7 (.cell (.int .i64))]),(8,[.blk (.box 63 [.int .i64,.int .i64,.int .i64,.int .i64]),.blk (.arr 28 false (.pair (.pair (.bool) (.sl (.int .i64))) (.pair (.bool) (.sl (.int .i64))))),.slot 0 (.cell (.im (.pair (.pair (.pair (.bool) (.sl (.int .i64))) (.pair (.bool) (.sl (.int .i64)))) (.pair (.pair (.bool) (.sl (.int .i64))) (.pair (.bool) (.sl (.int .i64))))))),.slot 3 (.ref 0 true),.slot 6 (.ref 1 false),.slot 7 (.cell (.int .i64)),.slot 8 (.cell (.int .i64))])],
 [(5,[(.exit 0,[.blk (.arr 28 false (.pair (.pair (.bool) (.sl (.int .i64))) (.pair (.bool) (.sl (.int .i64))))),.slot 6 (.ref 0 false)]),(.ret,[.slot 4 (.cell (.im (.pair (.pair (.bool) (.sl (.int .i64))) (.pair (.bool) (.sl (.int .i64)))))),.slot 5 (.cell (.bool))])]),(8,[(.exit 2,[.blk (.box 63 [.int .i64,.int .i64,.int .i64,.int .i64]),.blk (.arr 28 false (.pair (.pair (.bool) (.sl (.int .i64))) (.pair (.bool) (.sl (.int .i64))))),.slot 0 (.cell (.im (.pair (.pair (.pair (.bool) (.sl (.int .i64))) (.pair (.bool) (.sl (.int .i64)))) (.pair (.pair (.bool) (.sl (.int .i64))) (.pair (.bool) (.sl (.int .i64))))))),.slot 3 (.ref 0 true),.slot 6 (.ref 1 false),.slot 7 (.cell (.int .i64))]),(.ret,[.slot 4 (.cell (.im (.pair (.pair (.bool) (.sl (.int .i64))) (.pair (.bool) (.sl (.int .i64)))))),.slot 5 (.cell (.bool))])])],
 []⟩
def G7:FAnn:=⟨52,0,[.slot 0 (.agg [.int .i64,.int .i64,.int .i64,.int .i64])],[.slot 0 (.cell (.bool))],
 [],
 [],
 []⟩
def K3:FAnn:=⟨143,0,[.slot 0 (.agg [.bool,.im (.int .i64),.bool,.im (.int .i64)])],[.slot 0 (.cell (.bool))],
 [],
 [],
 []⟩
def Kc:FAnn:=⟨173,0,[.slot 0 (.agg [.bool,.im (.int .i64),.bool,.im (.int .i64)])],[.slot 0 (.cell (.bool))],
 [],
 [],
 []⟩
def I6:FAnn:=⟨83,0,[.slot 0 (.cell (.im (.pair (.pair (.pair (.bool) (.sl (.int .i64))) (.pair (.bool) (.sl (.int .i64)))) (.pair (.pair (.bool) (.sl (.int .i64))) (.pair (.bool) (.sl (.int .i64)))))))],[.slot 0 (.cell (.bool))],
 [(2,[.slot 0 (.cell (.im (.pair (.pair (.pair (.bool) (.sl (.int .i64))) (.pair (.bool) (.sl (.int .i64)))) (.pair (.pair (.bool) (.sl (.int .i64))) (.pair (.bool) (.sl (.int .i64))))))),.slot 5 (.cell (.im (.pair (.pair (.pair (.bool) (.sl (.int .i64))) (.pair (.bool) (.sl (.int .i64)))) (.pair (.pair (.bool) (.sl (.int .i64))) (.pair (.bool) (.sl (.int .i64))))))),.slot 6 (.cell (.int .i64)),.slot 7 (.cell (.int .i64))])],
 [(2,[(.exit 0,[.slot 0 (.cell (.im (.pair (.pair (.pair (.bool) (.sl (.int .i64))) (.pair (.bool) (.sl (.int .i64)))) (.pair (.pair (.bool) (.sl (.int .i64))) (.pair (.bool) (.sl (.int .i64)))))))]),(.ret,[.slot 2 (.cell (.bool))])])],
 []⟩
def I5:FAnn:=⟨110,0,[.slot 0 (.agg [.bool,.im (.int .i64),.bool,.im (.int .i64)])],[.slot 0 (.cell (.bool))],
 [],
 [],
 []⟩
def OR:FAnn:=⟨84,0,[.slot 0 (.agg [.bool,.im (.int .i64),.bool,.im (.int .i64),.bool,.im (.int .i64),.bool,.im (.int .i64)])],[.slot 0 (.cell (.bool))],
 [],
 [],
 []⟩
def GX:FAnn:=⟨235,0,[.slot 0 (.cell (.im (.int .i64))),.slot 1 (.cell (.im (.int .i64)))],[.blk (.arr 3 true (.int .i64)),.slot 0 (.ref 0 false)],
 [(3,[.blk (.arr 3 true (.int .i64)),.slot 1 (.cell (.im (.int .i64))),.slot 5 (.ref 0 false),.slot 18 (.cell (.im (.int .i64))),.slot 19 (.cell (.int .i64)),.slot 20 (.cell (.int .i64))]),(7,[.blk (.arr 3 true (.int .i64)),.slot 1 (.cell (.im (.int .i64))),.slot 5 (.ref 0 false),.slot 6 (.cell (.int .i64)),.slot 7 (.cell (.int .i64)),.slot 8 (.cell (.int .i64)),.slot 9 (.cell (.int .i64)),.slot 18 (.cell (.im (.int .i64))),.slot 19 (.cell (.int .i64)),.slot 20 (.cell (.int .i64))])],
 [(3,[(.exit 0,[.blk (.arr 3 true (.int .i64)),.slot 5 (.ref 0 false)])]),(7,[(.exit 2,[.blk (.arr 3 true (.int .i64)),.slot 1 (.cell (.im (.int .i64))),.slot 5 (.ref 0 false),.slot 18 (.cell (.im (.int .i64))),.slot 19 (.cell (.int .i64)),.slot 20 (.cell (.int .i64))])])],
 [(9,[.blk (.arr 3 true (.int .i64)),.slot 1 (.cell (.im (.int .i64))),.slot 5 (.ref 0 false),.slot 6 (.cell (.int .i64)),.slot 7 (.cell (.int .i64)),.slot 8 (.cell (.int .i64)),.slot 9 (.cell (.int .i64)),.slot 18 (.cell (.im (.int .i64))),.slot 19 (.cell (.int .i64)),.slot 20 (.cell (.int .i64))])]⟩
def O0:FAnn:=⟨166,0,[.slot 0 (.agg [.bool,.im (.int .i64)]),.slot 1 (.agg [.bool,.im (.int .i64)])],[.slot 0 (.agg [.bool,.im (.int .i64)])],
 [],
 [],
 []⟩
def IZ:FAnn:=⟨174,0,[.slot 0 (.agg [.bool,.im (.int .i64)]),.slot 1 (.agg [.bool,.im (.int .i64)])],[.slot 0 (.cell (.int .i64))],
 [],
 [],
 []⟩
def PT:FAnn:=⟨85,0,[.slot 0 (.agg [.bool,.im (.int .i64),.bool,.im (.int .i64)]),.slot 1 (.agg [.bool,.im (.int .i64),.bool,.im (.int .i64)])],[.slot 0 (.cell (.int .i64))],
 [],
 [],
 []⟩
def I8:FAnn:=⟨260,0,[.slot 0 (.agg [.bool,.im (.int .i64),.bool,.im (.int .i64),.bool,.im (.int .i64),.bool,.im (.int .i64)]),.slot 1 (.cell (.bool))],[.slot 0 (.agg [.bool,.im (.int .i64),.bool,.im (.int .i64)])],
 [],
 [],
 []⟩
def KL:FAnn:=⟨239,0,[.slot 0 (.agg [.bool,.im (.int .i64),.bool,.im (.int .i64),.bool,.im (.int .i64),.bool,.im (.int .i64)]),.slot 1 (.cell (.bool)),.slot 2 (.agg [.bool,.im (.int .i64),.bool,.im (.int .i64)]),.slot 3 (.cell (.bool))],[.slot 0 (.cell (.int .i64))],
 [],
 [],
 []⟩
def Pu:FAnn:=⟨249,0,[.slot 0 (.agg [.bool,.im (.int .i64),.bool,.im (.int .i64)])],[.slot 0 (.agg [.bool,.im (.int .i64),.bool,.im (.int .i64)])],
 [],
 [],
 []⟩
def GF:FAnn:=⟨233,0,[.slot 0 (.cell (.im (.int .i64))),.slot 1 (.cell (.im (.int .i64)))],[.blk (.arr 3 true (.int .i64)),.slot 0 (.ref 0 false)],
 [(4,[.blk (.arr 3 true (.int .i64)),.slot 0 (.cell (.im (.int .i64))),.slot 1 (.cell (.im (.int .i64))),.slot 5 (.ref 0 false),.slot 6 (.cell (.int .i64)),.slot 7 (.cell (.int .i64))])],
 [(4,[(.exit 0,[.blk (.arr 3 true (.int .i64)),.slot 5 (.ref 0 false)])])],
 [(6,[.blk (.arr 3 true (.int .i64)),.slot 0 (.cell (.im (.int .i64))),.slot 1 (.cell (.im (.int .i64))),.slot 5 (.ref 0 false),.slot 6 (.cell (.int .i64)),.slot 7 (.cell (.int .i64))])]⟩
def Hf:FAnn:=⟨234,0,[.slot 0 (.cell (.im (.int .i64))),.slot 1 (.cell (.im (.int .i64)))],[.blk (.arr 3 true (.int .i64)),.slot 0 (.ref 0 false)],
 [(4,[.blk (.arr 3 true (.int .i64)),.slot 0 (.cell (.im (.int .i64))),.slot 1 (.cell (.im (.int .i64))),.slot 5 (.ref 0 false),.slot 6 (.cell (.int .i64)),.slot 10 (.cell (.int .i64)),.slot 11 (.cell (.int .i64))])],
 [(4,[(.exit 0,[.blk (.arr 3 true (.int .i64)),.slot 5 (.ref 0 false)])])],
 []⟩
def OS:FAnn:=⟨165,0,[.slot 0 (.agg [.bool,.im (.int .i64)]),.slot 1 (.agg [.bool,.im (.int .i64)])],[.slot 0 (.agg [.bool,.im (.int .i64)])],
 [],
 [],
 []⟩
def PL:FAnn:=⟨75,0,[.slot 0 (.agg [.bool,.im (.int .i64),.bool,.im (.int .i64)]),.slot 1 (.agg [.bool,.im (.int .i64),.bool,.im (.int .i64)])],[.slot 0 (.agg [.bool,.im (.int .i64),.bool,.im (.int .i64)])],
 [],
 [],
 []⟩
def Pm:FAnn:=⟨196,0,[.slot 0 (.agg [.bool,.im (.int .i64),.bool,.im (.int .i64)]),.slot 1 (.agg [.bool,.im (.int .i64),.bool,.im (.int .i64)])],[.slot 0 (.agg [.bool,.im (.int .i64),.bool,.im (.int .i64)])],
 [],
 [],
 []⟩
def Pk:FAnn:=⟨251,0,[.slot 0 (.agg [.bool,.im (.int .i64),.bool,.im (.int .i64)]),.slot 1 (.agg [.bool,.im (.int .i64),.bool,.im (.int .i64)])],[.slot 0 (.agg [.bool,.im (.int .i64),.bool,.im (.int .i64)])],
 [],
 [],
 []⟩
def Pr:FAnn:=⟨197,0,[.slot 0 (.agg [.bool,.im (.int .i64),.bool,.im (.int .i64)]),.slot 1 (.agg [.bool,.im (.int .i64),.bool,.im (.int .i64)])],[.slot 0 (.agg [.bool,.im (.int .i64),.bool,.im (.int .i64)])],
 [],
 [],
 []⟩
def Lh:FAnn:=⟨198,0,[.slot 0 (.agg [.bool,.im (.int .i64),.bool,.im (.int .i64)]),.slot 1 (.agg [.bool,.im (.int .i64),.bool,.im (.int .i64)]),.slot 2 (.agg [.bool,.im (.int .i64),.bool,.im (.int .i64)])],[.slot 0 (.agg [.bool,.im (.int .i64),.bool,.im (.int .i64)])],
 [],
 [],
 []⟩
def MH:FAnn:=⟨131,0,[.slot 0 (.agg [.bool,.im (.int .i64),.bool,.im (.int .i64),.bool,.im (.int .i64),.bool,.im (.int .i64)]),.slot 1 (.agg [.bool,.im (.int .i64),.bool,.im (.int .i64),.bool,.im (.int .i64),.bool,.im (.int .i64)]),.slot 2 (.agg [.bool,.im (.int .i64),.bool,.im (.int .i64)])],[.slot 0 (.agg [.bool,.im (.int .i64),.bool,.im (.int .i64),.bool,.im (.int .i64),.bool,.im (.int .i64)])],
 [],
 [],
 []⟩
def MS:FAnn:=⟨240,0,[.slot 0 (.agg [.bool,.im (.int .i64),.bool,.im (.int .i64),.bool,.im (.int .i64),.bool,.im (.int .i64)]),.slot 1 (.agg [.bool,.im (.int .i64),.bool,.im (.int .i64),.bool,.im (.int .i64),.bool,.im (.int .i64)]),.slot 2 (.cell (.bool)),.slot 3 (.agg [.bool,.im (.int .i64),.bool,.im (.int .i64)])],[.slot 0 (.agg [.bool,.im (.int .i64),.bool,.im (.int .i64),.bool,.im (.int .i64),.bool,.im (.int .i64)])],
 [],
 [],
 []⟩
def Lg:FAnn:=⟨175,0,[.slot 0 (.cell (.im (.pair (.pair (.pair (.bool) (.sl (.int .i64))) (.pair (.bool) (.sl (.int .i64)))) (.pair (.pair (.bool) (.sl (.int .i64))) (.pair (.bool) (.sl (.int .i64))))))),.slot 1 (.cell (.bool)),.slot 2 (.agg [.bool,.im (.int .i64),.bool,.im (.int .i64)]),.slot 3 (.cell (.bool))],[.blk (.arr 30 false (.pair (.pair (.pair (.bool) (.sl (.int .i64))) (.pair (.bool) (.sl (.int .i64)))) (.pair (.pair (.bool) (.sl (.int .i64))) (.pair (.bool) (.sl (.int .i64)))))),.slot 0 (.ref 0 false)],
 [(3,[.blk (.box 28 [.bool,.im (.int .i64),.bool,.im (.int .i64)]),.blk (.arr 30 false (.pair (.pair (.pair (.bool) (.sl (.int .i64))) (.pair (.bool) (.sl (.int .i64)))) (.pair (.pair (.bool) (.sl (.int .i64))) (.pair (.bool) (.sl (.int .i64)))))),.slot 0 (.cell (.im (.pair (.pair (.pair (.bool) (.sl (.int .i64))) (.pair (.bool) (.sl (.int .i64)))) (.pair (.pair (.bool) (.sl (.int .i64))) (.pair (.bool) (.sl (.int .i64))))))),.slot 1 (.cell (.bool)),.slot 3 (.cell (.bool)),.slot 6 (.ref 0 true),.slot 9 (.ref 1 false),.slot 15 (.cell (.im (.pair (.pair (.pair (.bool) (.sl (.int .i64))) (.pair (.bool) (.sl (.int .i64)))) (.pair (.pair (.bool) (.sl (.int .i64))) (.pair (.bool) (.sl (.int .i64))))))),.slot 16 (.cell (.int .i64)),.slot 17 (.cell (.int .i64))])],
 [(3,[(.exit 0,[.blk (.arr 30 false (.pair (.pair (.pair (.bool) (.sl (.int .i64))) (.pair (.bool) (.sl (.int .i64)))) (.pair (.pair (.bool) (.sl (.int .i64))) (.pair (.bool) (.sl (.int .i64)))))),.slot 9 (.ref 0 false)])])],
 []⟩
def MM:FAnn:=⟨87,0,[.slot 0 (.cell (.im (.pair (.pair (.pair (.bool) (.sl (.int .i64))) (.pair (.bool) (.sl (.int .i64)))) (.pair (.pair (.bool) (.sl (.int .i64))) (.pair (.bool) (.sl (.int .i64))))))),.slot 1 (.agg [.bool,.im (.int .i64),.bool,.im (.int .i64),.bool,.im (.int .i64),.bool,.im (.int .i64)]),.slot 2 (.agg [.bool,.im (.int .i64),.bool,.im (.int .i64),.bool,.im (.int .i64),.bool,.im (.int .i64)])],[.blk (.arr 30 false (.pair (.pair (.pair (.bool) (.sl (.int .i64))) (.pair (.bool) (.sl (.int .i64)))) (.pair (.pair (.bool) (.sl (.int .i64))) (.pair (.bool) (.sl (.int .i64)))))),.slot 0 (.ref 0 false)],
 [],
 [],
 []⟩
def MG:FAnn:=⟨127,0,[.slot 0 (.agg [.bool,.im (.int .i64),.bool,.im (.int .i64)])],[.slot 0 (.agg [.bool,.im (.int .i64),.bool,.im (.int .i64)]),.slot 1 (.cell (.bool))],
 [],
 [],
 []⟩
def Kv:FAnn:=⟨115,0,[.slot 0 (.agg [.bool,.im (.int .i64),.bool,.im (.int .i64),.bool,.im (.int .i64),.bool,.im (.int .i64)])],[.slot 0 (.agg [.bool,.im (.int .i64),.bool,.im (.int .i64),.bool,.im (.int .i64),.bool,.im (.int .i64)]),.slot 1 (.cell (.bool))],
 [],
 [],
 []⟩
def Mt:FAnn:=⟨112,0,[.slot 0 (.cell (.im (.pair (.pair (.pair (.bool) (.sl (.int .i64))) (.pair (.bool) (.sl (.int .i64)))) (.pair (.pair (.bool) (.sl (.int .i64))) (.pair (.bool) (.sl (.int .i64)))))))],[.slot 0 (.cell (.im (.pair (.pair (.pair (.bool) (.sl (.int .i64))) (.pair (.bool) (.sl (.int .i64)))) (.pair (.pair (.bool) (.sl (.int .i64))) (.pair (.bool) (.sl (.int .i64))))))),.slot 1 (.cell (.bool))],
 [(3,[.blk (.arr 30 false (.pair (.pair (.pair (.bool) (.sl (.int .i64))) (.pair (.bool) (.sl (.int .i64)))) (.pair (.pair (.bool) (.sl (.int .i64))) (.pair (.bool) (.sl (.int .i64)))))),.slot 4 (.ref 0 false),.slot 9 (.cell (.im (.pair (.pair (.pair (.bool) (.sl (.int .i64))) (.pair (.bool) (.sl (.int .i64)))) (.pair (.pair (.bool) (.sl (.int .i64))) (.pair (.bool) (.sl (.int .i64))))))),.slot 10 (.cell (.int .i64)),.slot 11 (.cell (.int .i64))])],
 [(3,[(.exit 0,[.blk (.arr 30 false (.pair (.pair (.pair (.bool) (.sl (.int .i64))) (.pair (.bool) (.sl (.int .i64)))) (.pair (.pair (.bool) (.sl (.int .i64))) (.pair (.bool) (.sl (.int .i64)))))),.slot 4 (.ref 0 false)]),(.ret,[.slot 2 (.cell (.im (.pair (.pair (.pair (.bool) (.sl (.int .i64))) (.pair (.bool) (.sl (.int .i64)))) (.pair (.pair (.bool) (.sl (.int .i64))) (.pair (.bool) (.sl (.int .i64))))))),.slot 3 (.cell (.bool))])])],
 []⟩
def JV:FAnn:=⟨86,0,[.slot 0 (.cell (.im (.pair (.pair (.pair (.bool) (.sl (.int .i64))) (.pair (.bool) (.sl (.int .i64)))) (.pair (.pair (.bool) (.sl (.int .i64))) (.pair (.bool) (.sl (.int .i64)))))))],[.slot 0 (.cell (.im (.pair (.pair (.pair (.bool) (.sl (.int .i64))) (.pair (.bool) (.sl (.int .i64)))) (.pair (.pair (.bool) (.sl (.int .i64))) (.pair (.bool) (.sl (.int .i64))))))),.slot 1 (.cell (.bool))],
 [],
 [],
 []⟩
def JZ:FAnn:=⟨10,0,[.slot 0 (.cell (.im (.pair (.pair (.pair (.bool) (.sl (.int .i64))) (.pair (.bool) (.sl (.int .i64)))) (.pair (.pair (.bool) (.sl (.int .i64))) (.pair (.bool) (.sl (.int .i64))))))),.slot 1 (.agg [.bool,.im (.int .i64),.bool,.im (.int .i64),.bool,.im (.int .i64),.bool,.im (.int .i64)]),.slot 2 (.agg [.bool,.im (.int .i64),.bool,.im (.int .i64),.bool,.im (.int .i64),.bool,.im (.int .i64)])],[.slot 0 (.cell (.im (.pair (.pair (.pair (.bool) (.sl (.int .i64))) (.pair (.bool) (.sl (.int .i64)))) (.pair (.pair (.bool) (.sl (.int .i64))) (.pair (.bool) (.sl (.int .i64))))))),.slot 1 (.cell (.bool))],
 [],
 [],
 []⟩
def J3:FAnn:=⟨203,0,[.slot 0 (.cell (.im (.pair (.pair (.pair (.bool) (.sl (.int .i64))) (.pair (.bool) (.sl (.int .i64)))) (.pair (.pair (.bool) (.sl (.int .i64))) (.pair (.bool) (.sl (.int .i64)))))))],[.slot 0 (.agg [.bool,.im (.int .i64),.bool,.im (.int .i64)])],
 [(3,[.blk (.box 28 [.bool,.im (.int .i64),.bool,.im (.int .i64)]),.blk (.box 28 [.bool,.im (.int .i64),.bool,.im (.int .i64)]),.slot 0 (.cell (.im (.pair (.pair (.pair (.bool) (.sl (.int .i64))) (.pair (.bool) (.sl (.int .i64)))) (.pair (.pair (.bool) (.sl (.int .i64))) (.pair (.bool) (.sl (.int .i64))))))),.slot 2 (.ref 0 true),.slot 3 (.ref 1 true),.slot 8 (.cell (.im (.pair (.pair (.pair (.bool) (.sl (.int .i64))) (.pair (.bool) (.sl (.int .i64)))) (.pair (.pair (.bool) (.sl (.int .i64))) (.pair (.bool) (.sl (.int .i64))))))),.slot 9 (.cell (.int .i64)),.slot 10 (.cell (.int .i64))])],
 [(3,[(.exit 0,[.blk (.box 28 [.bool,.im (.int .i64),.bool,.im (.int .i64)]),.blk (.box 28 [.bool,.im (.int .i64),.bool,.im (.int .i64)]),.slot 2 (.ref 0 true),.slot 3 (.ref 1 true)])])],
 []⟩
def I3:FAnn:=⟨138,0,[.slot 0 (.cell (.im (.pair (.pair (.pair (.bool) (.sl (.int .i64))) (.pair (.bool) (.sl (.int .i64)))) (.pair (.pair (.bool) (.sl (.int .i64))) (.pair (.bool) (.sl (.int .i64))))))),.slot 1 (.cell (.int .i64)),.slot 2 (.cell (.int .i64))],[.slot 0 (.agg [.bool,.im (.int .i64),.bool,.im (.int .i64)]),.slot 1 (.cell (.bool))],
 [],
 [],
 []⟩
def I7:FAnn:=⟨49,0,[.slot 0 (.cell (.im (.pair (.pair (.pair (.bool) (.sl (.int .i64))) (.pair (.bool) (.sl (.int .i64)))) (.pair (.pair (.bool) (.sl (.int .i64))) (.pair (.bool) (.sl (.int .i64))))))),.slot 1 (.agg [.int .i64,.int .i64,.int .i64,.int .i64])],[.slot 0 (.cell (.im (.pair (.pair (.bool) (.sl (.int .i64))) (.pair (.bool) (.sl (.int .i64)))))),.slot 1 (.cell (.bool))],
 [(5,[.blk (.box 63 [.int .i64,.int .i64,.int .i64,.int .i64]),.blk (.arr 28 false (.pair (.pair (.bool) (.sl (.int .i64))) (.pair (.bool) (.sl (.int .i64))))),.slot 0 (.cell (.im (.pair (.pair (.pair (.bool) (.sl (.int .i64))) (.pair (.bool) (.sl (.int .i64)))) (.pair (.pair (.bool) (.sl (.int .i64))) (.pair (.bool) (.sl (.int .i64))))))),.slot 3 (.ref 0 true),.slot 6 (.ref 1 false),.slot 7 (.cell (.int .i64))]),(8,[.blk (.box 63 [.int .i64,.int .i64,.int .i64,.int .i64]),.blk (.arr 28 false (.pair (.pair (.bool) (.sl (.int .i64))) (.pair (.bool) (.sl (.int .i64))))),.slot 0 (.cell (.im (.pair (.pair (.pair (.bool) (.sl (.int .i64))) (.pair (.bool) (.sl (.int .i64)))) (.pair (.pair (.bool) (.sl (.int .i64))) (.pair (.bool) (.sl (.int .i64))))))),.slot 3 (.ref 0 true),.slot 6 (.ref 1 false),.slot 7 (.cell (.int .i64)),.slot 8 (.cell (.int .i64))])],
 [(5,[(.exit 0,[.blk (.arr 28 false (.pair (.pair (.bool) (.sl (.int .i64))) (.pair (.bool) (.sl (.int .i64))))),.slot 6 (.ref 0 false)]),(.ret,[.slot 4 (.cell (.im (.pair (.pair (.bool) (.sl (.int .i64))) (.pair (.bool) (.sl (.int .i64)))))),.slot 5 (.cell (.bool))])]),(8,[(.exit 2,[.blk (.box 63 [.int .i64,.int .i64,.int .i64,.int .i64]),.blk (.arr 28 false (.pair (.pair (.bool) (.sl (.int .i64))) (.pair (.bool) (.sl (.int .i64))))),.slot 0 (.cell (.im (.pair (.pair (.pair (.bool) (.sl (.int .i64))) (.pair (.bool) (.sl (.int .i64)))) (.pair (.pair (.bool) (.sl (.int .i64))) (.pair (.bool) (.sl (.int .i64))))))),.slot 3 (.ref 0 true),.slot 6 (.ref 1 false),.slot 7 (.cell (.int .i64))]),(.ret,[.slot 4 (.cell (.im (.pair (.pair (.bool) (.sl (.int .i64))) (.pair (.bool) (.sl (.int .i64)))))),.slot 5 (.cell (.bool))])])],
 []⟩
def Jt:FAnn:=⟨154,0,[.slot 0 (.cell (.im (.int .i64))),.slot 1 (.cell (.im (.int .i64)))],[.slot 0 (.cell (.bool))],
 [(4,[.slot 0 (.cell (.im (.int .i64))),.slot 1 (.cell (.im (.int .i64))),.slot 12 (.cell (.int .i64)),.slot 13 (.cell (.int .i64))])],
 [(4,[(.exit 0,[]),(.ret,[.slot 4 (.cell (.bool))])])],
 []⟩
def Li:FAnn:=⟨64,0,[.slot 0 (.agg [.bool,.im (.int .i64)]),.slot 1 (.agg [.bool,.im (.int .i64)])],[.slot 0 (.cell (.bool))],
 [],
 [],
 []⟩
def KC:FAnn:=⟨15,0,[.slot 0 (.agg [.bool,.im (.int .i64),.bool,.im (.int .i64)]),.slot 1 (.agg [.bool,.im (.int .i64),.bool,.im (.int .i64)])],[.slot 0 (.cell (.bool))],
 [],
 [],
 []⟩
def IJ:FAnn:=⟨50,0,[.slot 0 (.cell (.im (.pair (.pair (.bool) (.sl (.int .i64))) (.pair (.bool) (.sl (.int .i64)))))),.slot 1 (.cell (.im (.pair (.pair (.bool) (.sl (.int .i64))) (.pair (.bool) (.sl (.int .i64))))))],[.slot 0 (.cell (.bool))],
 [(4,[.slot 0 (.cell (.im (.pair (.pair (.bool) (.sl (.int .i64))) (.pair (.bool) (.sl (.int .i64)))))),.slot 1 (.cell (.im (.pair (.pair (.bool) (.sl (.int .i64))) (.pair (.bool) (.sl (.int .i64)))))),.slot 12 (.cell (.int .i64)),.slot 13 (.cell (.int .i64))])],
 [(4,[(.exit 0,[]),(.ret,[.slot 4 (.cell (.bool))])])],
 []⟩
def OY:FAnn:=⟨53,0,[.slot 0 (.cell (.im (.pair (.pair (.bool) (.sl (.int .i64))) (.pair (.bool) (.sl (.int .i64))))))],[.slot 0 (.agg [.bool,.im (.int .i64),.bool,.im (.int .i64)]),.slot 1 (.cell (.bool))],
 [(5,[.blk (.box 28 [.bool,.im (.int .i64),.bool,.im (.int .i64)]),.blk (.box 28 [.bool,.im (.int .i64),.bool,.im (.int .i64)]),.slot 2 (.ref 0 true),.slot 4 (.ref 1 true),.slot 17 (.cell (.im (.pair (.pair (.bool) (.sl (.int .i64))) (.pair (.bool) (.sl (.int .i64)))))),.slot 18 (.cell (.int .i64)),.slot 19 (.cell (.int .i64))])],
 [(5,[(.exit 0,[.blk (.box 28 [.bool,.im (.int .i64),.bool,.im (.int .i64)]),.blk (.box 28 [.bool,.im (.int .i64),.bool,.im (.int .i64)]),.slot 2 (.ref 0 true),.slot 4 (.ref 1 true)])])],
 []⟩
def Ph:FAnn:=⟨20,0,[.slot 0 (.cell (.int .i64)),.slot 1 (.cell (.int .i64))],[.slot 0 (.agg [.bool,.im (.int .i64),.bool,.im (.int .i64)]),.slot 1 (.cell (.bool))],
 [],
 [],
 []⟩
def IS:FAnn:=⟨29,0,[.slot 0 (.cell (.im (.int .u8)))],[.slot 0 (.cell (.int .i64))],
 [(3,[.slot 3 (.cell (.int .i64)),.slot 6 (.cell (.im (.int .u8))),.slot 7 (.cell (.int .i64)),.slot 8 (.cell (.int .i64))])],
 [(3,[(.exit 0,[.slot 3 (.cell (.int .i64))])])],
 []⟩
def J0:FAnn:=⟨54,0,[.slot 0 (.cell (.im (.pair (.pair (.pair (.bool) (.sl (.int .i64))) (.pair (.bool) (.sl (.int .i64)))) (.pair (.pair (.bool) (.sl (.int .i64))) (.pair (.bool) (.sl (.int .i64))))))),.slot 1 (.cell (.int .i64)),.slot 2 (.cell (.int .i64))],[.slot 0 (.agg [.bool,.im (.int .i64),.bool,.im (.int .i64)]),.slot 1 (.cell (.bool))],
 [],
 [],
 []⟩
def FW:FAnn:=⟨55,0,[.slot 0 (.cell (.im (.int .u8)))],[.blk (.arr 30 false (.pair (.pair (.pair (.bool) (.sl (.int .i64))) (.pair (.bool) (.sl (.int .i64)))) (.pair (.pair (.bool) (.sl (.int .i64))) (.pair (.bool) (.sl (.int .i64)))))),.slot 0 (.ref 0 false),.slot 1 (.cell (.int .i64)),.slot 2 (.cell (.int .i64))],
 [],
 [],
 []⟩
def I2:FAnn:=⟨140,0,[.slot 0 (.cell (.int .i64))],[.slot 0 (.cell (.bool))],
 [],
 [],
 []⟩
def KG:FAnn:=⟨56,0,[.slot 0 (.cell (.im (.pair (.pair (.pair (.bool) (.sl (.int .i64))) (.pair (.bool) (.sl (.int .i64)))) (.pair (.pair (.bool) (.sl (.int .i64))) (.pair (.bool) (.sl (.int .i64))))))),.slot 1 (.cell (.int .i64)),.slot 2 (.cell (.int .i64))],[.slot 0 (.agg [.bool,.im (.int .i64),.bool,.im (.int .i64)]),.slot 1 (.cell (.bool))],
 [],
 [],
 []⟩
def Hq:FAnn:=⟨130,1,[.blk (.box 94 [.im (.int .u8),.int .i64,.int .u64]),.slot 0 (.ref 0 true)],[.blk (.box 94 [.im (.int .u8),.int .i64,.int .u64]),.slot 0 (.agg [.bool,.im (.int .i64),.bool,.im (.int .i64)])],
 [],
 [],
 []⟩
def HN:FAnn:=⟨57,0,[.slot 0 (.cell (.im (.int .u8)))],[.blk (.arr 28 false (.pair (.pair (.bool) (.sl (.int .i64))) (.pair (.bool) (.sl (.int .i64))))),.slot 0 (.ref 0 false)],
 [(6,[.blk (.box 94 [.im (.int .u8),.int .i64,.int .u64]),.blk (.arr 28 false (.pair (.pair (.bool) (.sl (.int .i64))) (.pair (.bool) (.sl (.int .i64))))),.slot 3 (.ref 0 true),.slot 4 (.ref 1 false),.slot 5 (.cell (.int .i64))])],
 [(6,[(.exit 0,[.blk (.box 94 [.im (.int .u8),.int .i64,.int .u64]),.blk (.arr 28 false (.pair (.pair (.bool) (.sl (.int .i64))) (.pair (.bool) (.sl (.int .i64))))),.slot 3 (.ref 0 true),.slot 4 (.ref 1 false)])])],
 [(6,[.blk (.box 94 [.im (.int .u8),.int .i64,.int .u64]),.blk (.arr 28 false (.pair (.pair (.bool) (.sl (.int .i64))) (.pair (.bool) (.sl (.int .i64))))),.slot 3 (.ref 0 true),.slot 4 (.ref 1 false),.slot 5 (.cell (.int .i64))])]⟩
def OK:FAnn:=⟨58,0,[.slot 0 (.cell (.im (.pair (.pair (.bool) (.sl (.int .i64))) (.pair (.bool) (.sl (.int .i64))))))],[.slot 0 (.agg [.bool,.im (.int .i64),.bool,.im (.int .i64)]),.slot 1 (.cell (.bool))],
 [(3,[.blk (.box 28 [.bool,.im (.int .i64),.bool,.im (.int .i64)]),.blk (.box 28 [.bool,.im (.int .i64),.bool,.im (.int .i64)]),.slot 0 (.cell (.im (.pair (.pair (.bool) (.sl (.int .i64))) (.pair (.bool) (.sl (.int .i64)))))),.slot 2 (.ref 0 true),.slot 4 (.ref 1 true),.slot 10 (.cell (.im (.pair (.pair (.bool) (.sl (.int .i64))) (.pair (.bool) (.sl (.int .i64)))))),.slot 11 (.cell (.int .i64)),.slot 12 (.cell (.int .i64))]),(11,[.blk (.box 28 [.bool,.im (.int .i64),.bool,.im (.int .i64)]),.blk (.box 28 [.bool,.im (.int .i64),.bool,.im (.int .i64)]),.slot 2 (.ref 0 true),.slot 4 (.ref 1 true),.slot 25 (.cell (.im (.pair (.pair (.bool) (.sl (.int .i64))) (.pair (.bool) (.sl (.int .i64)))))),.slot 26 (.cell (.int .i64)),.slot 27 (.cell (.int .i64))])],
 [(3,[(.exit 0,[.blk (.box 28 [.bool,.im (.int .i64),.bool,.im (.int .i64)]),.blk (.box 28 [.bool,.im (.int .i64),.bool,.im (.int .i64)]),.slot 0 (.cell (.im (.pair (.pair (.bool) (.sl (.int .i64))) (.pair (.bool) (.sl (.int .i64)))))),.slot 2 (.ref 0 true),.slot 4 (.ref 1 true)]),(.ret,[.blk (.box 28 [.bool,.im (.int .i64),.bool,.im (.int .i64)]),.slot 2 (.ref 0 true),.slot 3 (.cell (.bool))])]),(11,[(.exit 2,[.blk (.box 28 [.bool,.im (.int .i64),.bool,.im (.int .i64)]),.blk (.box 28 [.bool,.im (.int .i64),.bool,.im (.int .i64)]),.slot 2 (.ref 0 true),.slot 4 (.ref 1 true)])])],
 []⟩
def Iy:FAnn:=⟨6,0,[.slot 0 (.cell (.im (.int .u8))),.slot 1 (.cell (.im (.int .u8)))],[.slot 0 (.cell (.bool))],
 [],
 [],
 [(18,[.blk (.box 63 [.int .i64,.int .i64,.int .i64,.int .i64]),.slot 1 (.cell (.im (.int .u8))),.slot 5 (.cell (.im (.pair (.pair (.pair (.bool) (.sl (.int .i64))) (.pair (.bool) (.sl (.int .i64)))) (.pair (.pair (.bool) (.sl (.int .i64))) (.pair (.bool) (.sl (.int .i64))))))),.slot 6 (.ref 0 true),.slot 7 (.cell (.im (.pair (.pair (.bool) (.sl (.int .i64))) (.pair (.bool) (.sl (.int .i64))))))]),(22,[.slot 1 (.cell (.im (.int .u8)))])]⟩
def annTab:List FAnn:=[Hn,Hi,HR,F3,Jw,HT,Un,MD,O4,O2,Py,MO,Pc,PK,OO,Mz,HK,KN,Pg,Kr,TS,KT,Mp,ML,MX,Ms,Hg,Pv,PD,PN,MT,O7,HH,HP,Hl,DN,Ff,Fd,Ml,HU,BE,Br,JY,I0,Bp,A4,MQ,IN,FX,ER,Fi,Xt,IM,A7,PI,PS,JU,Jv,KX,GR,KW,Ld,F2,O6,GG,Bq,A5,IC,Gy,Pd,GV,Jj,D4,Mr,Ki,Lb,IB,Jq,KY,Kd,O5,KR,KI,J5,JR,XO,SZ,K4,MY,MR,KA,FU,Kq,Je,IT,Hd,Ju,Le,Jh,G7,K3,Kc,I6,I5,OR,GX,O0,IZ,PT,I8,KL,Pu,GF,Hf,OS,PL,Pm,Pk,Pr,Lh,MH,MS,Lg,MM,MG,Kv,Mt,JV,JZ,J3,I3,I7,Jt,Li,KC,IJ,OY,Ph,IS,J0,FW,I2,KG,Hq,HN,OK,Iy]
def noExt:Rel:=fun _ _ _ _ _=>False
def cfC:Cfg:=cfOf [A7] fun _=>false
def cloneTab:List (FuncId×TypeId×Nat×Bool):=[(242,3,Ty.size (.int .i64),true)]
theorem HQ:CloneOK Tryz.prog (242,3,Ty.size (.int .i64),true):=⟨Tryz.f242,24,4,tyD24,tyD3,Tryz.func242,by kernel_rfl,by kernel_rfl,rfl,ty24,rfl,ty3,by kernel_rfl,rfl,rfl⟩
theorem Az2:∀ x∈cloneTab,CloneOK Tryz.prog x:=by
 intro x hx
 simp only[cloneTab,List.mem_cons,List.not_mem_nil,or_false] at hx
 rcases hx with rfl
 exact HQ
def ext0:Rel:=cloneRel (Runs Tryz.prog cfC noExt) cloneTab
theorem AB1 {J:Tabs}:∀ g args blks r blks',ext0 g args blks r blks'→CSpec Tryz.prog J g args blks r blks':=UO (by kernel_rfl) Az2
def cf0:Cfg:=cfOf annTab fun g=>([242]:List Nat).contains g
abbrev RR:Rel:=Runs Tryz.prog cf0 ext0
noncomputable def Cu (a0:((List Int)×(Int×Int))):Option ((List (Int)×Int×Int)×Int) :=
 (bif decide (a0.2.1<(((List.length a0.1):Nat):Int)) then
   ((getI a0.1 a0.2.1)).bind fun x0 =>
   some (Sum.inr ((a0.1,(a0.2.1,a0.2.2)),(Go.IntKind.wrap Go.IntKind.i64 x0)))
  else
  some (Sum.inr ((a0.1,(a0.2.1,a0.2.2)),(0:Int)))).bind fun x1 =>
 Sum.elim
  (fun x2 =>
  some x2)
  (fun x3 =>
  bif decide ((Go.IntKind.wrap Go.IntKind.i64 (x3.1.2.1 + (1:Int)))≤(((List.length x3.1.1):Nat):Int)) then
   some ((x3.1.1,((Go.IntKind.wrap Go.IntKind.i64 (x3.1.2.1 + (1:Int))),(Go.IntKind.wrap Go.IntKind.u64 ((Go.IntKind.wrap Go.IntKind.u64 ((Go.IntKind.wrap Go.IntKind.u64 (x3.1.2.2*(6364136223846793005:Int))) + (Go.IntKind.wrap Go.IntKind.u64 x3.2))) + (1442695040888963407:Int))))),x3.2)
  else
  some ((x3.1.1,((Go.IntKind.wrap Go.IntKind.i64 (x3.1.2.1 + (1:Int))),(Go.IntKind.wrap Go.IntKind.u64 ((Go.IntKind.wrap Go.IntKind.u64 ((Go.IntKind.wrap Go.IntKind.u64 (x3.1.2.2*(6364136223846793005:Int))) + (Go.IntKind.wrap Go.IntKind.u64 x3.2))) + (1442695040888963407:Int))))),(Go.IntKind.wrap Go.IntKind.i64 (andI Go.IntKind.u64 (shrI Go.IntKind.u64 (Go.IntKind.wrap Go.IntKind.u64 ((Go.IntKind.wrap Go.IntKind.u64 ((Go.IntKind.wrap Go.IntKind.u64 (x3.1.2.2*(6364136223846793005:Int))) + (Go.IntKind.wrap Go.IntKind.u64 x3.2))) + (1442695040888963407:Int))) (40:Int)) (255:Int)))))
  x1
noncomputable def Kj:Ent:=⟨Hn,fun x=>Cu x⟩
noncomputable def Lc:TX:=⟨tyTab,codTab,[],[4],[],Hn⟩
set_option maxHeartbeats 2000000 in
theorem TP (a0:(List (Int)×Int×Int)):wtF Lc Tryz.f168 (a0)=Cu a0:=by kernel_rfl
theorem Rz:EntOK RR Kj:=Ab (X:=Lc) ⟨tyOK,boolOK,eqOK⟩ (Ad (by exact trivial)) (Af (by kernel_rfl)) ⟨Tryz.func168,rfl,by kernel_rfl,rfl⟩ (fun x=>by exact TP x)
noncomputable def Ae (a0:((List Int)×(Int×Int))) (a1:Int):Option ((List (Int)×Int×Int)×Int) :=
 bif decide (a1≤(1:Int)) then
  some ((a0.1,(a0.2.1,a0.2.2)),(0:Int))
 else
 ((Cu (a0.1,(a0.2.1,a0.2.2)))).bind fun x0 =>
 bif decide (a1>(200:Int)) then
  ((Cu (x0.1.1,(x0.1.2.1,x0.1.2.2)))).bind fun x1 =>
  bif (a1==(0:Int)) then
   none
  else
  some ((x1.1.1,(x1.1.2.1,x1.1.2.2)),(Int.tmod (Go.IntKind.wrap Go.IntKind.i64 ((Go.IntKind.wrap Go.IntKind.i64 (x0.2*(256:Int))) + x1.2)) a1))
 else
 bif (a1==(0:Int)) then
  none
 else
 some ((x0.1.1,(x0.1.2.1,x0.1.2.2)),(Int.tmod x0.2 a1))
noncomputable def AK:Ent:=⟨Hi,fun x=>Ae x.1 x.2⟩
noncomputable def Km:TX:=⟨tyTab,codTab,[],[4],[Kj],Hi⟩
set_option maxHeartbeats 2000000 in
theorem TC (a0:(List (Int)×Int×Int)) (a1:Int):wtF Km Tryz.f77 (a0,a1)=Ae a0 a1:=by kernel_rfl
theorem AL:EntOK RR AK:=Ab (X:=Km) ⟨tyOK,boolOK,eqOK⟩ (Ad (by exact ⟨⟨Rz,rfl⟩,trivial⟩)) (Af (by kernel_rfl)) ⟨Tryz.func77,rfl,by kernel_rfl,rfl⟩ (fun x=>by exact TC x.1 x.2)
noncomputable def Ap (a0:((List Int)×(Int×Int))) (a1:Int):Option ((List (Int)×Int×Int)×Bool) :=
 ((Ae (a0.1,(a0.2.1,a0.2.2)) a1)).bind fun x0 =>
 some ((x0.1.1,(x0.1.2.1,x0.1.2.2)),(x0.2==(0:Int)))
noncomputable def Be:Ent:=⟨HR,fun x=>Ap x.1 x.2⟩
noncomputable def L1:TX:=⟨tyTab,codTab,[],[4],[AK],HR⟩
set_option maxHeartbeats 2000000 in
theorem UT (a0:(List (Int)×Int×Int)) (a1:Int):wtF L1 Tryz.f141 (a0,a1)=Ap a0 a1:=by kernel_rfl
theorem Bk:EntOK RR Be:=Ab (X:=L1) ⟨tyOK,boolOK,eqOK⟩ (Ad (by exact ⟨⟨AL,rfl⟩,trivial⟩)) (Af (by kernel_rfl)) ⟨Tryz.func141,rfl,by kernel_rfl,rfl⟩ (fun x=>by exact UT x.1 x.2)
noncomputable def As (a0:((List Int)×(Int×Int))) (a1:(List Int)):Option ((List (Int)×Int×Int)×Int) :=
 ((Ae (a0.1,(a0.2.1,a0.2.2)) (((List.length a1):Nat):Int))).bind fun x0 =>
 ((getI a1 x0.2)).bind fun x1 =>
 some ((x0.1.1,(x0.1.2.1,x0.1.2.2)),x1)
noncomputable def B3:Ent:=⟨F3,fun x=>As x.1 x.2⟩
noncomputable def JI:TX:=⟨tyTab,codTab,[],[4],[AK],F3⟩
set_option maxHeartbeats 2000000 in
theorem RD (a0:(List (Int)×Int×Int)) (a1:List (Int)):wtF JI Tryz.f139 (a0,a1)=As a0 a1:=by kernel_rfl
theorem Ct:EntOK RR B3:=Ab (X:=JI) ⟨tyOK,boolOK,eqOK⟩ (Ad (by exact ⟨⟨AL,rfl⟩,trivial⟩)) (Af (by kernel_rfl)) ⟨Tryz.func139,rfl,by kernel_rfl,rfl⟩ (fun x=>by exact RD x.1 x.2)
noncomputable def Dr (a0:((List Int)×(Int×Int))):Option ((List (Int)×Int×Int)×(Int×Int)) :=
 ((Ap (a0.1,(a0.2.1,a0.2.2)) (40:Int))).bind fun x0 =>
 bif x0.2 then
  ((As (x0.1.1,(x0.1.2.1,x0.1.2.2)) (List.cons (-(1000:Int)) (List.cons (1000:Int) (List.cons (1001:Int) (List.nil:List Int)))))).bind fun x1 =>
  ((Ae (x1.1.1,(x1.1.2.1,x1.1.2.2)) (5:Int))).bind fun x2 =>
  some ((x2.1.1,(x2.1.2.1,x2.1.2.2)),(x1.2,x2.2))
 else
 ((Ae (x0.1.1,(x0.1.2.1,x0.1.2.2)) (9:Int))).bind fun x3 =>
 ((Ae (x3.1.1,(x3.1.2.1,x3.1.2.2)) (9:Int))).bind fun x4 =>
 some ((x4.1.1,(x4.1.2.1,x4.1.2.2)),((Go.IntKind.wrap Go.IntKind.i64 (x3.2-(2:Int))),(Go.IntKind.wrap Go.IntKind.i64 (x4.2-(2:Int)))))
noncomputable def Oi:Ent:=⟨Jw,fun x=>Dr x⟩
noncomputable def OG:TX:=⟨tyTab,codTab,[],[4],[Be,B3,AK],Jw⟩
set_option maxHeartbeats 2000000 in
theorem XC (a0:(List (Int)×Int×Int)):wtF OG Tryz.f132 (a0)=Dr a0:=by kernel_rfl
theorem U3:EntOK RR Oi:=Ab (X:=OG) ⟨tyOK,boolOK,eqOK⟩ (Ad (by exact ⟨⟨Bk,rfl⟩,⟨⟨Ct,rfl⟩,⟨⟨AL,rfl⟩,trivial⟩⟩⟩)) (Af (by kernel_rfl)) ⟨Tryz.func132,rfl,by kernel_rfl,rfl⟩ (fun x=>by exact XC x)
noncomputable def D0 (s0:((List Int)×(Int×Int))) (s1:(List (Int×Int))) (s2:Int):Option ((((List Int)×(Int×Int))×((List (Int×Int))×Int)) ⊕ (((List Int)×(Int×Int))×(List (Int×Int)))) :=
 bif decide (s2>(0:Int)) then
  ((Dr (s0.1,(s0.2.1,s0.2.2)))).bind fun x0 =>
  ((appL 16 2 s1 (List.cons (x0.2.1,x0.2.2) (List.nil:List (Int×Int))))).bind fun x1 =>
  some (Sum.inl ((x0.1.1,(x0.1.2.1,x0.1.2.2)),(x1,(Go.IntKind.wrap Go.IntKind.i64 (s2-(1:Int))))))
 else
 some (Sum.inr ((s0.1,(s0.2.1,s0.2.2)),s1))
noncomputable def FZ (s0:((List Int)×(Int×Int))) (s1:(List (Int×Int))):Option ((((List Int)×(Int×Int))×(List (Int×Int))) ⊕ (((List Int)×(Int×Int))×(List (Int×Int)))) :=
 ((Ae (s0.1,(s0.2.1,s0.2.2)) (2:Int))).bind fun x0 =>
 bif decide ((((List.length s1):Nat):Int)<(Go.IntKind.wrap Go.IntKind.i64 ((12:Int) + x0.2))) then
  ((Dr (x0.1.1,(x0.1.2.1,x0.1.2.2)))).bind fun x1 =>
  ((appL 16 2 s1 (List.cons (x1.2.1,x1.2.2) (List.nil:List (Int×Int))))).bind fun x2 =>
  some (Sum.inl ((x1.1.1,(x1.1.2.1,x1.1.2.2)),x2))
 else
 some (Sum.inr ((x0.1.1,(x0.1.2.1,x0.1.2.2)),s1))
noncomputable def CV (a0:((List Int)×(Int×Int))):Option ((List (Int)×Int×Int)×List ((Int×Int))) :=
 ((Ae (a0.1,(a0.2.1,a0.2.2)) (4:Int))).bind fun x0 =>
 bif (x0.2==(0:Int)) then
  ((Ae (x0.1.1,(x0.1.2.1,x0.1.2.2)) (6:Int))).bind fun x1 =>
  ((Ae (x1.1.1,(x1.1.2.1,x1.1.2.2)) (2:Int))).bind fun x2 =>
  ((Ae (x2.1.1,(x2.1.2.1,x2.1.2.2)) (3:Int))).bind fun x3 =>
  ((Ae (x3.1.1,(x3.1.2.1,x3.1.2.2)) (5:Int))).bind fun x4 =>
  ((Ae (x4.1.1,(x4.1.2.1,x4.1.2.2)) (2:Int))).bind fun x5 =>
  ((Ae (x5.1.1,(x5.1.2.1,x5.1.2.2)) (5:Int))).bind fun x6 =>
  some ((x6.1.1,(x6.1.2.1,x6.1.2.2)),(List.cons ((0:Int),(0:Int)) (List.cons ((Go.IntKind.wrap Go.IntKind.i64 ((2:Int) + x1.2)),x2.2) (List.cons ((Go.IntKind.wrap Go.IntKind.i64 ((3:Int) + x3.2)),(Go.IntKind.wrap Go.IntKind.i64 ((3:Int) + x4.2))) (List.cons (x5.2,(Go.IntKind.wrap Go.IntKind.i64 ((2:Int) + x6.2))) (List.nil:List (Int×Int)))))))
 else
 bif (x0.2==(1:Int)) then
  ((Ae (x0.1.1,(x0.1.2.1,x0.1.2.2)) (4:Int))).bind fun x7 =>
  ((Ae (x7.1.1,(x7.1.2.1,x7.1.2.2)) (4:Int))).bind fun x8 =>
  some ((x8.1.1,(x8.1.2.1,x8.1.2.2)),(List.cons ((0:Int),(0:Int)) (List.cons ((6:Int),(0:Int)) (List.cons ((6:Int),(6:Int)) (List.cons ((4:Int),(6:Int)) (List.cons ((4:Int),(Go.IntKind.wrap Go.IntKind.i64 ((1:Int) + x7.2))) (List.cons ((2:Int),(Go.IntKind.wrap Go.IntKind.i64 ((1:Int) + x8.2))) (List.cons ((2:Int),(6:Int)) (List.cons ((0:Int),(6:Int)) (List.nil:List (Int×Int)))))))))))
 else
 ((Ae (x0.1.1,(x0.1.2.1,x0.1.2.2)) (4:Int))).bind fun x9 =>
 (loopM (fun (s:(((List Int)×(Int×Int))×((List (Int×Int))×Int)))=>D0 s.1 s.2.1 s.2.2) ((x9.1.1,(x9.1.2.1,x9.1.2.2)),((List.nil:List (Int×Int)),(Go.IntKind.wrap Go.IntKind.i64 ((3:Int) + x9.2))))).bind fun x10 =>
 ((Ap (x10.1.1,(x10.1.2.1,x10.1.2.2)) (20:Int))).bind fun x11 =>
 bif x11.2 then
  (loopM (fun (s:(((List Int)×(Int×Int))×(List (Int×Int))))=>FZ s.1 s.2) ((x11.1.1,(x11.1.2.1,x11.1.2.2)),x10.2)).bind fun x12 =>
  some ((x12.1.1,(x12.1.2.1,x12.1.2.2)),x12.2)
 else
 some ((x11.1.1,(x11.1.2.1,x11.1.2.2)),x10.2)
noncomputable def HO:Ent:=⟨HT,fun x=>CV x⟩
noncomputable def L4:TX:=⟨tyTab,codTab,[],[4],[AK,Oi,Be],HT⟩
set_option maxHeartbeats 2000000 in
theorem U1 (a0:(List (Int)×Int×Int)):wtF L4 Tryz.f97 (a0)=CV a0:=by kernel_rfl
theorem Kf:EntOK RR HO:=Ab (X:=L4) ⟨tyOK,boolOK,eqOK⟩ (Ad (by exact ⟨⟨AL,rfl⟩,⟨⟨U3,rfl⟩,⟨⟨Bk,rfl⟩,trivial⟩⟩⟩)) (Af (by kernel_rfl)) ⟨Tryz.func97,rfl,by kernel_rfl,rfl⟩ (fun x=>by exact U1 x)
noncomputable def BB (a0:Int) (a1:Int) (a2:Int):Option (Bool) :=
 bif decide (a0≥a1) then
  some (decide (a0≤a2))
 else
 some false
noncomputable def GJ:Ent:=⟨Un,fun x=>BB x.1 x.2.1 x.2.2⟩
noncomputable def ZK:TX:=⟨tyTab,codTab,[],[4],[],Un⟩
set_option maxHeartbeats 2000000 in
theorem AE4 (a0:Int) (a1:Int) (a2:Int):wtF ZK Tryz.f118 (a0,a1,a2)=BB a0 a1 a2:=by kernel_rfl
theorem Gj:EntOK RR GJ:=Ab (X:=ZK) ⟨tyOK,boolOK,eqOK⟩ (Ad (by exact trivial)) (Af (by kernel_rfl)) ⟨Tryz.func118,rfl,by kernel_rfl,rfl⟩ (fun x=>by exact AE4 x.1 x.2.1 x.2.2)
noncomputable def Ho (a0:(Int×Int)):Option (Bool) :=
 ((BB a0.1 (-(1000:Int)) (1000:Int))).bind fun x0 =>
 bif x0 then
  ((BB a0.2 (-(1000:Int)) (1000:Int))).bind fun x1 =>
  some x1
 else
 some false
noncomputable def TN:Ent:=⟨MD,fun x=>Ho x⟩
noncomputable def UE:TX:=⟨tyTab,codTab,[],[4],[GJ],MD⟩
set_option maxHeartbeats 2000000 in
theorem Ai2 (a0:(Int×Int)):wtF UE Tryz.f202 (a0)=Ho a0:=by kernel_rfl
theorem YP:EntOK RR TN:=Ab (X:=UE) ⟨tyOK,boolOK,eqOK⟩ (Ad (by exact ⟨⟨Gj,rfl⟩,trivial⟩)) (Af (by kernel_rfl)) ⟨Tryz.func202,rfl,by kernel_rfl,rfl⟩ (fun x=>by exact Ai2 x)
noncomputable def CH (s0:(List (Int×Int))) (s1:Int) (s2:Int):Option (((List (Int×Int))×(Int×Int)) ⊕ (Unit ⊕ Bool)) :=
 bif decide (s2<s1) then
  ((getI s0 s2)).bind fun x0 =>
  ((Ho (x0.1,x0.2))).bind fun x1 =>
  bif (!x1) then
   some (Sum.inr (Sum.inr false))
  else
  some (Sum.inl (s0,(s1,(Go.IntKind.wrap Go.IntKind.i64 (s2 + (1:Int))))))
 else
 some (Sum.inr (Sum.inl ()))
noncomputable def H3 (a0:(List (Int×Int))):Option (Bool) :=
 (loopM (fun (s:((List (Int×Int))×(Int×Int)))=>CH s.1 s.2.1 s.2.2) (a0,((((List.length a0):Nat):Int),(0:Int)))).bind fun x0 =>
 Sum.elim
  (fun x1 =>
  some true)
  (fun x2 =>
  some x2)
  x0
noncomputable def WK:Ent:=⟨O4,fun x=>H3 x⟩
noncomputable def WF:TX:=⟨tyTab,codTab,[],[4],[TN],O4⟩
set_option maxHeartbeats 2000000 in
theorem Av3 (a0:List ((Int×Int))):wtF WF Tryz.f134 (a0)=H3 a0:=by kernel_rfl
theorem Ag6:EntOK RR WK:=Ab (X:=WF) ⟨tyOK,boolOK,eqOK⟩ (Ad (by exact ⟨⟨YP,rfl⟩,trivial⟩)) (Af (by kernel_rfl)) ⟨Tryz.func134,rfl,by kernel_rfl,rfl⟩ (fun x=>by exact Av3 x)
noncomputable def Id (a0:(List (Int×Int))):Option (Bool) :=
 ((BB (((List.length a0):Nat):Int) (3:Int) (12:Int))).bind fun x0 =>
 bif x0 then
  ((H3 a0)).bind fun x1 =>
  some x1
 else
 some false
noncomputable def VY:Ent:=⟨O2,fun x=>Id x⟩
noncomputable def VO:TX:=⟨tyTab,codTab,[],[4],[GJ,WK],O2⟩
set_option maxHeartbeats 2000000 in
theorem Ax4 (a0:List ((Int×Int))):wtF VO Tryz.f100 (a0)=Id a0:=by kernel_rfl
theorem Ah1:EntOK RR VY:=Ab (X:=VO) ⟨tyOK,boolOK,eqOK⟩ (Ad (by exact ⟨⟨Gj,rfl⟩,⟨⟨Ag6,rfl⟩,trivial⟩⟩)) (Af (by kernel_rfl)) ⟨Tryz.func100,rfl,by kernel_rfl,rfl⟩ (fun x=>by exact Ax4 x)
noncomputable def HC (s0:(List Int)):Option ((List Int) ⊕ (List Int)) :=
 bif decide ((((List.length s0):Nat):Int)>(0:Int)) then
  ((getI s0 (Go.IntKind.wrap Go.IntKind.i64 ((((List.length s0):Nat):Int)-(1:Int))))).bind fun x0 =>
  bif (x0==(0:Int)) then
   ((subI (0:Int) (Go.IntKind.wrap Go.IntKind.i64 ((((List.length s0):Nat):Int)-(1:Int))) (List.length s0))).bind fun x1 =>
   some (Sum.inl (List.drop x1.1 (List.take x1.2 s0)))
  else
  some (Sum.inr s0)
 else
 some (Sum.inr s0)
noncomputable def Bw (a0:(List Int)):Option (List (Int)) :=
 (loopM (fun (s:(List Int))=>HC s) a0).bind fun x0 =>
 bif (roomI (List.length x0) 8 1) then
  some x0
 else
 none
noncomputable def EA:Ent:=⟨Py,fun x=>Bw x⟩
noncomputable def Wc:TX:=⟨tyTab,codTab,[],[4],[],Py⟩
set_option maxHeartbeats 2000000 in
theorem Ay7 (a0:List (Int)):wtF Wc Tryz.f248 (a0)=Bw a0:=by kernel_rfl
theorem D8:EntOK RR EA:=Ab (X:=Wc) ⟨tyOK,boolOK,eqOK⟩ (Ad (by exact trivial)) (Af (by kernel_rfl)) ⟨Tryz.func248,rfl,by kernel_rfl,rfl⟩ (fun x=>by exact Ay7 x)
noncomputable def AE (a0:Bool) (a1:(List Int)):Option (List (Int)×(Bool)) :=
 ((Bw a1)).bind fun x0 =>
 bif a0 then
  some (x0,decide ((((List.length x0):Nat):Int)>(0:Int)))
 else
 some (x0,false)
noncomputable def CM:Ent:=⟨MO,fun x=>AE x.1 x.2⟩
noncomputable def UA:TX:=⟨tyTab,codTab,[],[4],[EA],MO⟩
set_option maxHeartbeats 2000000 in
theorem Ad3 (a0:Bool) (a1:List (Int)):wtF UA Tryz.f195 (a0,a1)=AE a0 a1:=by kernel_rfl
theorem CC:EntOK RR CM:=Ab (X:=UA) ⟨tyOK,boolOK,eqOK⟩ (Ad (by exact ⟨⟨D8,rfl⟩,trivial⟩)) (Af (by kernel_rfl)) ⟨Tryz.func195,rfl,by kernel_rfl,rfl⟩ (fun x=>by exact Ad3 x.1 x.2)
noncomputable def HF (s0:(Bool×(List Int))) (s1:(List Int)) (s2:Int) (s3:Int):Option (((Bool×(List Int))×((List Int)×(Int×Int))) ⊕ ((Bool×(List Int))×((List Int)×Int))) :=
 bif (s3 != (0:Int)) then
  bif decide ((Int.tmod s3 (65536:Int))<(0:Int)) then
   ((appL 8 1 s1 (List.cons (Go.IntKind.wrap Go.IntKind.i64 ((0:Int)-(Int.tmod s3 (65536:Int)))) (List.nil:List Int)))).bind fun x0 =>
   some (Sum.inl ((s0.1,s0.2),(x0,(s2,(Go.IntKind.wrap Go.IntKind.i64 (Int.tdiv s3 (65536:Int)))))))
  else
  ((appL 8 1 s1 (List.cons (Int.tmod s3 (65536:Int)) (List.nil:List Int)))).bind fun x1 =>
  some (Sum.inl ((s0.1,s0.2),(x1,(s2,(Go.IntKind.wrap Go.IntKind.i64 (Int.tdiv s3 (65536:Int)))))))
 else
 some (Sum.inr ((s0.1,s0.2),(s1,s2)))
noncomputable def Dt (a0:Int):Option ((Bool×List (Int))) :=
 (loopM (fun (s:((Bool×(List Int))×((List Int)×(Int×Int))))=>HF s.1 s.2.1 s.2.2.1 s.2.2.2) ((false,(List.nil:List Int)),((List.nil:List Int),(a0,a0)))).bind fun x0 =>
 ((AE (decide (x0.2.2<(0:Int))) x0.2.1)).bind fun x1 =>
 some (x1.2,x1.1)
noncomputable def OH:Ent:=⟨Pc,fun x=>Dt x⟩
noncomputable def Vm:TX:=⟨tyTab,codTab,[],[4],[CM],Pc⟩
set_option maxHeartbeats 2000000 in
theorem Aw6 (a0:Int):wtF Vm Tryz.f167 (a0)=Dt a0:=by kernel_rfl
theorem Sl:EntOK RR OH:=Ab (X:=Vm) ⟨tyOK,boolOK,eqOK⟩ (Ad (by exact ⟨⟨CC,rfl⟩,trivial⟩)) (Af (by kernel_rfl)) ⟨Tryz.func167,rfl,by kernel_rfl,rfl⟩ (fun x=>by exact Aw6 x)
noncomputable def Co (a0:Int):Option ((Bool×List (Int)×Bool×List (Int))) :=
 ((Dt a0)).bind fun x0 =>
 ((Dt (1:Int))).bind fun x1 =>
 some (x0.1,(x0.2,(x1.1,x1.2)))
noncomputable def LX:Ent:=⟨PK,fun x=>Co x⟩
noncomputable def Vn:TX:=⟨tyTab,codTab,[],[4],[OH],PK⟩
set_option maxHeartbeats 2000000 in
theorem Aw7 (a0:Int):wtF Vn Tryz.f76 (a0)=Co a0:=by kernel_rfl
theorem M0:EntOK RR LX:=Ab (X:=Vn) ⟨tyOK,boolOK,eqOK⟩ (Ad (by exact ⟨⟨Sl,rfl⟩,trivial⟩)) (Af (by kernel_rfl)) ⟨Tryz.func76,rfl,by kernel_rfl,rfl⟩ (fun x=>by exact Aw7 x)
noncomputable def Dp (a0:(Int×Int)):Option ((Bool×List (Int)×Bool×List (Int)×Bool×List (Int)×Bool×List (Int))) :=
 ((Co a0.1)).bind fun x0 =>
 ((Co a0.2)).bind fun x1 =>
 some (x0.1,(x0.2.1,(x0.2.2.1,(x0.2.2.2,(x1.1,(x1.2.1,(x1.2.2.1,x1.2.2.2)))))))
noncomputable def Pq:Ent:=⟨OO,fun x=>Dp x⟩
noncomputable def Wy:TX:=⟨tyTab,codTab,[],[4],[LX],OO⟩
set_option maxHeartbeats 2000000 in
theorem Az0 (a0:(Int×Int)):wtF Wy Tryz.f101 (a0)=Dp a0:=by kernel_rfl
theorem SH:EntOK RR Pq:=Ab (X:=Wy) ⟨tyOK,boolOK,eqOK⟩ (Ad (by exact ⟨⟨M0,rfl⟩,trivial⟩)) (Af (by kernel_rfl)) ⟨Tryz.func101,rfl,by kernel_rfl,rfl⟩ (fun x=>by exact Az0 x)
noncomputable def B9 (s0:(List (((Bool×(List Int))×(Bool×(List Int)))×((Bool×(List Int))×(Bool×(List Int)))))) (s1:(List (Int×Int))) (s2:Int) (s3:Int):Option (((List (((Bool×(List Int))×(Bool×(List Int)))×((Bool×(List Int))×(Bool×(List Int)))))×((List (Int×Int))×(Int×Int))) ⊕ (List (((Bool×(List Int))×(Bool×(List Int)))×((Bool×(List Int))×(Bool×(List Int)))))) :=
 bif decide (s3<s2) then
  ((getI s1 s3)).bind fun x0 =>
  ((Dp (x0.1,x0.2))).bind fun x1 =>
  ((appL 128 8 s0 (List.cons (((x1.1,x1.2.1),(x1.2.2.1,x1.2.2.2.1)),((x1.2.2.2.2.1,x1.2.2.2.2.2.1),(x1.2.2.2.2.2.2.1,x1.2.2.2.2.2.2.2))) (List.nil:List (((Bool×(List Int))×(Bool×(List Int)))×((Bool×(List Int))×(Bool×(List Int)))))))).bind fun x2 =>
  some (Sum.inl (x2,(s1,(s2,(Go.IntKind.wrap Go.IntKind.i64 (s3 + (1:Int)))))))
 else
 some (Sum.inr s0)
noncomputable def Fk (a0:(List (Int×Int))):Option (List ((((Bool×List (Int))×(Bool×List (Int)))×((Bool×List (Int))×(Bool×List (Int)))))×Bool) :=
 ((Id a0)).bind fun x0 =>
 bif (!x0) then
  some ((List.nil:List (((Bool×(List Int))×(Bool×(List Int)))×((Bool×(List Int))×(Bool×(List Int))))),false)
 else
 (loopM (fun (s:((List (((Bool×(List Int))×(Bool×(List Int)))×((Bool×(List Int))×(Bool×(List Int)))))×((List (Int×Int))×(Int×Int))))=>B9 s.1 s.2.1 s.2.2.1 s.2.2.2) ((List.nil:List (((Bool×(List Int))×(Bool×(List Int)))×((Bool×(List Int))×(Bool×(List Int))))),(a0,((((List.length a0):Nat):Int),(0:Int))))).bind fun x1 =>
 some (x1,true)
noncomputable def Mq:Ent:=⟨Mz,fun x=>Fk x⟩
noncomputable def Tv:TX:=⟨tyTab,codTab,[],[4],[VY,Pq],Mz⟩
set_option maxHeartbeats 2000000 in
theorem Ae2 (a0:List ((Int×Int))):wtF Tv Tryz.f18 (a0)=Fk a0:=by kernel_rfl
theorem PY:EntOK RR Mq:=Ab (X:=Tv) ⟨tyOK,boolOK,eqOK⟩ (Ad (by exact ⟨⟨Ah1,rfl⟩,⟨⟨SH,rfl⟩,trivial⟩⟩)) (Af (by kernel_rfl)) ⟨Tryz.func18,rfl,by kernel_rfl,rfl⟩ (fun x=>by exact Ae2 x)
noncomputable def CP (s0:((List Int)×(Int×Int))) (s1:(Bool×(List Int))) (s2:(List Int)) (s3:Int):Option ((((List Int)×(Int×Int))×((Bool×(List Int))×((List Int)×Int))) ⊕ (((List Int)×(Int×Int))×((Bool×(List Int))×(List Int)))) :=
 bif decide (s3>(0:Int)) then
  ((Ae (s0.1,(s0.2.1,s0.2.2)) (256:Int))).bind fun x0 =>
  ((Ae (x0.1.1,(x0.1.2.1,x0.1.2.2)) (256:Int))).bind fun x1 =>
  ((As (x1.1.1,(x1.1.2.1,x1.1.2.2)) (List.cons (0:Int) (List.cons (1:Int) (List.cons (65535:Int) (List.cons (32768:Int) (List.cons (Go.IntKind.wrap Go.IntKind.i64 ((Go.IntKind.wrap Go.IntKind.i64 ((256:Int)*x0.2)) + x1.2)) (List.cons (7:Int) (List.nil:List Int))))))))).bind fun x2 =>
  ((appL 8 1 s2 (List.cons x2.2 (List.nil:List Int)))).bind fun x3 =>
  some (Sum.inl ((x2.1.1,(x2.1.2.1,x2.1.2.2)),((s1.1,s1.2),(x3,(Go.IntKind.wrap Go.IntKind.i64 (s3-(1:Int)))))))
 else
 some (Sum.inr ((s0.1,(s0.2.1,s0.2.2)),((s1.1,s1.2),s2)))
noncomputable def CW (a0:((List Int)×(Int×Int))):Option ((List (Int)×Int×Int)×(Bool×List (Int))) :=
 ((Ae (a0.1,(a0.2.1,a0.2.2)) (6:Int))).bind fun x0 =>
 (((Ap (x0.1.1,(x0.1.2.1,x0.1.2.2)) (12:Int))).bind fun x1 =>
  bif x1.2 then
   ((As (x1.1.1,(x1.1.2.1,x1.1.2.2)) (List.cons (20:Int) (List.cons (39:Int) (List.cons (40:Int) (List.cons (41:Int) (List.nil:List Int))))))).bind fun x2 =>
   some (Sum.inr ((x2.1.1,(x2.1.2.1,x2.1.2.2)),((false,(List.nil:List Int)),x2.2)))
  else
  some (Sum.inr ((x1.1.1,(x1.1.2.1,x1.1.2.2)),((false,(List.nil:List Int)),x0.2)))).bind fun x3 =>
 Sum.elim
  (fun x4 =>
  some x4)
  (fun x5 =>
  (loopM (fun (s:(((List Int)×(Int×Int))×((Bool×(List Int))×((List Int)×Int))))=>CP s.1 s.2.1 s.2.2.1 s.2.2.2) ((x5.1.1,(x5.1.2.1,x5.1.2.2)),((x5.2.1.1,x5.2.1.2),((List.nil:List Int),x5.2.2)))).bind fun x6 =>
  ((Ap (x6.1.1,(x6.1.2.1,x6.1.2.2)) (3:Int))).bind fun x7 =>
  ((AE x7.2 x6.2.2)).bind fun x8 =>
  ((Ap (x7.1.1,(x7.1.2.1,x7.1.2.2)) (40:Int))).bind fun x9 =>
  bif x9.2 then
   ((As (x9.1.1,(x9.1.2.1,x9.1.2.2)) (List.cons (0:Int) (List.cons (-(1:Int)) (List.cons (65536:Int) (List.nil:List Int)))))).bind fun x10 =>
   ((appL 8 1 x8.1 (List.cons x10.2 (List.nil:List Int)))).bind fun x11 =>
   some ((x10.1.1,(x10.1.2.1,x10.1.2.2)),(x8.2,x11))
  else
  some ((x9.1.1,(x9.1.2.1,x9.1.2.2)),(x8.2,x8.1)))
  x3
noncomputable def L8:Ent:=⟨HK,fun x=>CW x⟩
noncomputable def Mh:TX:=⟨tyTab,codTab,[],[4],[AK,Be,B3,CM],HK⟩
set_option maxHeartbeats 2000000 in
theorem Va (a0:(List (Int)×Int×Int)):wtF Mh Tryz.f204 (a0)=CW a0:=by kernel_rfl
theorem S6:EntOK RR L8:=Ab (X:=Mh) ⟨tyOK,boolOK,eqOK⟩ (Ad (by exact ⟨⟨AL,rfl⟩,⟨⟨Bk,rfl⟩,⟨⟨Ct,rfl⟩,⟨⟨CC,rfl⟩,trivial⟩⟩⟩⟩)) (Af (by kernel_rfl)) ⟨Tryz.func204,rfl,by kernel_rfl,rfl⟩ (fun x=>by exact Va x)
noncomputable def DW (s0:(Bool×(List Int))) (s1:(List Int)) (s2:Int) (s3:Int):Option (((Bool×(List Int))×((List Int)×(Int×Int))) ⊕ ((Bool×(List Int)) ⊕ Bool)) :=
 bif decide (s3<s2) then
  ((getI s1 s3)).bind fun x0 =>
  ((BB x0 (0:Int) (65535:Int))).bind fun x1 =>
  bif (!x1) then
   some (Sum.inr (Sum.inr false))
  else
  some (Sum.inl ((s0.1,s0.2),(s1,(s2,(Go.IntKind.wrap Go.IntKind.i64 (s3 + (1:Int)))))))
 else
 some (Sum.inr (Sum.inl (s0.1,s0.2)))
noncomputable def CD (a0:(Bool×(List Int))):Option (Bool) :=
 (loopM (fun (s:((Bool×(List Int))×((List Int)×(Int×Int))))=>DW s.1 s.2.1 s.2.2.1 s.2.2.2) ((a0.1,a0.2),(a0.2,((((List.length a0.2):Nat):Int),(0:Int))))).bind fun x0 =>
 Sum.elim
  (fun x1 =>
  bif ((((List.length x1.2):Nat):Int)==(0:Int)) then
   some (!x1.1)
  else
  bif decide ((((List.length x1.2):Nat):Int)≤(40:Int)) then
   ((getI x1.2 (Go.IntKind.wrap Go.IntKind.i64 ((((List.length x1.2):Nat):Int)-(1:Int))))).bind fun x2 =>
   some (x2 != (0:Int))
  else
  some false)
  (fun x3 =>
  some x3)
  x0
noncomputable def Kg:Ent:=⟨KN,fun x=>CD x⟩
noncomputable def QS:TX:=⟨tyTab,codTab,[],[4],[GJ],KN⟩
set_option maxHeartbeats 2000000 in
theorem YK (a0:(Bool×List (Int))):wtF QS Tryz.f205 (a0)=CD a0:=by kernel_rfl
theorem N3:EntOK RR Kg:=Ab (X:=QS) ⟨tyOK,boolOK,eqOK⟩ (Ad (by exact ⟨⟨Gj,rfl⟩,trivial⟩)) (Af (by kernel_rfl)) ⟨Tryz.func205,rfl,by kernel_rfl,rfl⟩ (fun x=>by exact YK x)
noncomputable def B8 (s0:(List Int)) (s1:(List Int)) (s2:Int):Option (((List Int)×((List Int)×Int)) ⊕ (Unit ⊕ Int)) :=
 bif decide (s2≥(0:Int)) then
  ((getI s0 s2)).bind fun x0 =>
  ((getI s1 s2)).bind fun x1 =>
  bif decide (x0<x1) then
   some (Sum.inr (Sum.inr (-(1:Int))))
  else
  ((getI s0 s2)).bind fun x2 =>
  ((getI s1 s2)).bind fun x3 =>
  bif decide (x2>x3) then
   some (Sum.inr (Sum.inr (1:Int)))
  else
  some (Sum.inl (s0,(s1,(Go.IntKind.wrap Go.IntKind.i64 (s2-(1:Int))))))
 else
 some (Sum.inr (Sum.inl ()))
noncomputable def BA (a0:(List Int)) (a1:(List Int)):Option (Int) :=
 bif ((((List.length a0):Nat):Int) != (((List.length a1):Nat):Int)) then
  bif decide ((((List.length a0):Nat):Int)<(((List.length a1):Nat):Int)) then
   some (-(1:Int))
  else
  some (1:Int)
 else
 (loopM (fun (s:((List Int)×((List Int)×Int)))=>B8 s.1 s.2.1 s.2.2) (a0,(a1,(Go.IntKind.wrap Go.IntKind.i64 ((((List.length a0):Nat):Int)-(1:Int)))))).bind fun x0 =>
 Sum.elim
  (fun x1 =>
  some (0:Int))
  (fun x2 =>
  some x2)
  x0
noncomputable def Ix:Ent:=⟨Pg,fun x=>BA x.1 x.2⟩
noncomputable def Wa:TX:=⟨tyTab,codTab,[],[4],[],Pg⟩
set_option maxHeartbeats 2000000 in
theorem Aw5 (a0:List (Int)) (a1:List (Int)):wtF Wa Tryz.f206 (a0,a1)=BA a0 a1:=by kernel_rfl
theorem ID:EntOK RR Ix:=Ab (X:=Wa) ⟨tyOK,boolOK,eqOK⟩ (Ad (by exact trivial)) (Af (by kernel_rfl)) ⟨Tryz.func206,rfl,by kernel_rfl,rfl⟩ (fun x=>by exact Aw5 x.1 x.2)
noncomputable def DT (s0:(List Int)) (s1:(List Int)) (s2:Int) (s3:Int) (s4:Int):Option (((List Int)×((List Int)×(Int×(Int×Int)))) ⊕ ((List Int)×Int)) :=
 bif decide (s4≥(0:Int)) then
  ((getI s1 s4)).bind fun x0 =>
  bif (s2==(0:Int)) then
   none
  else
  ((idxI s4 (List.length s0))).bind fun x1 =>
  ((getN s0 x1)).bind fun x2 =>
  bif (s2==(0:Int)) then
   none
  else
  some (Sum.inl ((List.set s0 x1 (Go.IntKind.wrap Go.IntKind.i64 (Int.tdiv (Go.IntKind.wrap Go.IntKind.i64 ((Go.IntKind.wrap Go.IntKind.i64 (s3*(65536:Int))) + x0)) s2))),(s1,(s2,((Int.tmod (Go.IntKind.wrap Go.IntKind.i64 ((Go.IntKind.wrap Go.IntKind.i64 (s3*(65536:Int))) + x0)) s2),(Go.IntKind.wrap Go.IntKind.i64 (s4-(1:Int))))))))
 else
 some (Sum.inr (s0,s3))
noncomputable def FN (a0:(List Int)) (a1:Int):Option (List (Int)×List (Int)) :=
 ((lenI (((List.length a0):Nat):Int) 8 1)).bind fun x0 =>
 (loopM (fun (s:((List Int)×((List Int)×(Int×(Int×Int)))))=>DT s.1 s.2.1 s.2.2.1 s.2.2.2.1 s.2.2.2.2) ((List.replicate x0 (0:Int)),(a0,(a1,((0:Int),(Go.IntKind.wrap Go.IntKind.i64 ((((List.length a0):Nat):Int)-(1:Int)))))))).bind fun x1 =>
 ((Bw x1.1)).bind fun x2 =>
 ((Bw (List.cons x1.2 (List.nil:List Int)))).bind fun x3 =>
 some (x2,x3)
noncomputable def Q1:Ent:=⟨Kr,fun x=>FN x.1 x.2⟩
noncomputable def Rg:TX:=⟨tyTab,codTab,[],[4],[EA],Kr⟩
set_option maxHeartbeats 2000000 in
theorem Zd (a0:List (Int)) (a1:Int):wtF Rg Tryz.f266 (a0,a1)=FN a0 a1:=by kernel_rfl
theorem XK:EntOK RR Q1:=Ab (X:=Rg) ⟨tyOK,boolOK,eqOK⟩ (Ad (by exact ⟨⟨D8,rfl⟩,trivial⟩)) (Af (by kernel_rfl)) ⟨Tryz.func266,rfl,by kernel_rfl,rfl⟩ (fun x=>by exact Zd x.1 x.2)
noncomputable def Iz (s0:(List Int)) (s1:Int) (s2:(List Int)) (s3:Int) (s4:Int):Option (((List Int)×(Int×((List Int)×(Int×Int)))) ⊕ (List Int)) :=
 bif decide (s4<s3) then
  ((getI s2 s4)).bind fun x0 =>
  bif decide ((Go.IntKind.wrap Go.IntKind.u64 s1)<(0:Int)) then
   none
  else
  ((idxI s4 (List.length s0))).bind fun x1 =>
  ((getN s0 x1)).bind fun x2 =>
  ((idxI s4 (List.length s0))).bind fun x3 =>
  ((getN s0 x3)).bind fun x4 =>
  ((idxI (Go.IntKind.wrap Go.IntKind.i64 (s4 + (1:Int))) (List.length (List.set s0 x3 (orI Go.IntKind.i64 x2 (Int.tmod (shlI Go.IntKind.i64 x0 (Go.IntKind.wrap Go.IntKind.u64 s1)) (65536:Int))))))).bind fun x5 =>
  ((getN (List.set s0 x3 (orI Go.IntKind.i64 x2 (Int.tmod (shlI Go.IntKind.i64 x0 (Go.IntKind.wrap Go.IntKind.u64 s1)) (65536:Int)))) x5)).bind fun x6 =>
  some (Sum.inl ((List.set (List.set s0 x3 (orI Go.IntKind.i64 x2 (Int.tmod (shlI Go.IntKind.i64 x0 (Go.IntKind.wrap Go.IntKind.u64 s1)) (65536:Int)))) x5 (Go.IntKind.wrap Go.IntKind.i64 (Int.tdiv (shlI Go.IntKind.i64 x0 (Go.IntKind.wrap Go.IntKind.u64 s1)) (65536:Int)))),(s1,(s2,(s3,(Go.IntKind.wrap Go.IntKind.i64 (s4 + (1:Int))))))))
 else
 some (Sum.inr s0)
noncomputable def Ia (a0:(List Int)) (a1:Int):Option (List (Int)) :=
 ((lenI (Go.IntKind.wrap Go.IntKind.i64 ((((List.length a0):Nat):Int) + (1:Int))) 8 1)).bind fun x0 =>
 (loopM (fun (s:((List Int)×(Int×((List Int)×(Int×Int)))))=>Iz s.1 s.2.1 s.2.2.1 s.2.2.2.1 s.2.2.2.2) ((List.replicate x0 (0:Int)),(a1,(a0,((((List.length a0):Nat):Int),(0:Int)))))).bind fun x1 =>
 some x1
noncomputable def YZ:Ent:=⟨TS,fun x=>Ia x.1 x.2⟩
noncomputable def Zj:TX:=⟨tyTab,codTab,[],[4],[],TS⟩
set_option maxHeartbeats 2000000 in
theorem AJ3 (a0:List (Int)) (a1:Int):wtF Zj Tryz.f267 (a0,a1)=Ia a0 a1:=by kernel_rfl
theorem Az3:EntOK RR YZ:=Ab (X:=Zj) ⟨tyOK,boolOK,eqOK⟩ (Ad (by exact trivial)) (Af (by kernel_rfl)) ⟨Tryz.func267,rfl,by kernel_rfl,rfl⟩ (fun x=>by exact AJ3 x.1 x.2)
noncomputable def CT (s0:(List Int)) (s1:(List Int)) (s2:Int) (s3:Int) (s4:Int) (s5:Int):Option (((List Int)×((List Int)×(Int×(Int×(Int×Int))))) ⊕ Int) :=
 (bif decide (s5<(65536:Int)) then
   bif decide (s4≥(65536:Int)) then
    some (Sum.inr (s0,(s1,(s2,(s3,(s4,s5))))))
   else
   ((getI s1 (Go.IntKind.wrap Go.IntKind.i64 (s3-(2:Int))))).bind fun x0 =>
   ((getI s0 (Go.IntKind.wrap Go.IntKind.i64 ((Go.IntKind.wrap Go.IntKind.i64 (s2 + s3))-(2:Int))))).bind fun x1 =>
   bif decide ((Go.IntKind.wrap Go.IntKind.i64 (s4*x0))>(Go.IntKind.wrap Go.IntKind.i64 ((Go.IntKind.wrap Go.IntKind.i64 (s5*(65536:Int))) + x1))) then
    some (Sum.inr (s0,(s1,(s2,(s3,(s4,s5))))))
   else
   some (Sum.inl (Sum.inr s4))
  else
  some (Sum.inl (Sum.inr s4))).bind fun x2 =>
 Sum.elim
  (fun x3 =>
  some x3)
  (fun x4 =>
  ((getI x4.2.1 (Go.IntKind.wrap Go.IntKind.i64 (x4.2.2.2.1-(1:Int))))).bind fun x5 =>
  some (Sum.inl (x4.1,(x4.2.1,(x4.2.2.1,(x4.2.2.2.1,((Go.IntKind.wrap Go.IntKind.i64 (x4.2.2.2.2.1-(1:Int))),(Go.IntKind.wrap Go.IntKind.i64 (x4.2.2.2.2.2 + x5)))))))))
  x2
noncomputable def FI (a0:(List Int)) (a1:(List Int)) (a2:Int):Option (Int) :=
 ((getI a0 (Go.IntKind.wrap Go.IntKind.i64 (a2 + (((List.length a1):Nat):Int))))).bind fun x0 =>
 ((getI a0 (Go.IntKind.wrap Go.IntKind.i64 ((Go.IntKind.wrap Go.IntKind.i64 (a2 + (((List.length a1):Nat):Int)))-(1:Int))))).bind fun x1 =>
 ((getI a1 (Go.IntKind.wrap Go.IntKind.i64 ((((List.length a1):Nat):Int)-(1:Int))))).bind fun x2 =>
 bif (x2==(0:Int)) then
  none
 else
 ((getI a1 (Go.IntKind.wrap Go.IntKind.i64 ((((List.length a1):Nat):Int)-(1:Int))))).bind fun x3 =>
 bif (x3==(0:Int)) then
  none
 else
 (loopM (fun (s:((List Int)×((List Int)×(Int×(Int×(Int×Int))))))=>CT s.1 s.2.1 s.2.2.1 s.2.2.2.1 s.2.2.2.2.1 s.2.2.2.2.2) (a0,(a1,(a2,((((List.length a1):Nat):Int),((Go.IntKind.wrap Go.IntKind.i64 (Int.tdiv (Go.IntKind.wrap Go.IntKind.i64 ((Go.IntKind.wrap Go.IntKind.i64 (x0*(65536:Int))) + x1)) x2)),(Int.tmod (Go.IntKind.wrap Go.IntKind.i64 ((Go.IntKind.wrap Go.IntKind.i64 (x0*(65536:Int))) + x1)) x3))))))).bind fun x4 =>
 some x4
noncomputable def QA:Ent:=⟨KT,fun x=>FI x.1 x.2.1 x.2.2⟩
noncomputable def P8:TX:=⟨tyTab,codTab,[],[4],[],KT⟩
set_option maxHeartbeats 2000000 in
theorem Zv (a0:List (Int)) (a1:List (Int)) (a2:Int):wtF P8 Tryz.f268 (a0,a1,a2)=FI a0 a1 a2:=by kernel_rfl
theorem Xu:EntOK RR QA:=Ab (X:=P8) ⟨tyOK,boolOK,eqOK⟩ (Ad (by exact trivial)) (Af (by kernel_rfl)) ⟨Tryz.func268,rfl,by kernel_rfl,rfl⟩ (fun x=>by exact Zv x.1 x.2.1 x.2.2)
noncomputable def BQ (a0:(List Int)) (a1:Int):Option (Int) :=
 bif decide (a1<(((List.length a0):Nat):Int)) then
  ((getI a0 a1)).bind fun x0 =>
  some x0
 else
 some (0:Int)
noncomputable def Ea:Ent:=⟨Mp,fun x=>BQ x.1 x.2⟩
noncomputable def TG:TX:=⟨tyTab,codTab,[],[4],[],Mp⟩
set_option maxHeartbeats 2000000 in
theorem Ab3 (a0:List (Int)) (a1:Int):wtF TG Tryz.f259 (a0,a1)=BQ a0 a1:=by kernel_rfl
theorem Ez:EntOK RR Ea:=Ab (X:=TG) ⟨tyOK,boolOK,eqOK⟩ (Ad (by exact trivial)) (Af (by kernel_rfl)) ⟨Tryz.func259,rfl,by kernel_rfl,rfl⟩ (fun x=>by exact Ab3 x.1 x.2)
noncomputable def F9 (s0:(List Int)) (s1:(List Int)) (s2:Int) (s3:Int) (s4:Int) (s5:Int):Option (((List Int)×((List Int)×(Int×(Int×(Int×Int))))) ⊕ ((List Int)×Int)) :=
 bif decide (s5≤(((List.length s1):Nat):Int)) then
  ((idxI (Go.IntKind.wrap Go.IntKind.i64 (s2 + s5)) (List.length s0))).bind fun x0 =>
  ((getN s0 x0)).bind fun x1 =>
  ((BQ s1 s5)).bind fun x2 =>
  (bif decide ((Go.IntKind.wrap Go.IntKind.i64 ((Go.IntKind.wrap Go.IntKind.i64 (x1-(Go.IntKind.wrap Go.IntKind.i64 (s3*x2))))-s4))<(0:Int)) then
    some (Sum.inr (s0,(s1,(s2,(s3,((Go.IntKind.wrap Go.IntKind.i64 (Int.tdiv (Go.IntKind.wrap Go.IntKind.i64 ((Go.IntKind.wrap Go.IntKind.i64 ((Go.IntKind.wrap Go.IntKind.i64 ((0:Int)-(Go.IntKind.wrap Go.IntKind.i64 ((Go.IntKind.wrap Go.IntKind.i64 (x1-(Go.IntKind.wrap Go.IntKind.i64 (s3*x2))))-s4)))) + (65536:Int)))-(1:Int))) (65536:Int))),(s5,(Go.IntKind.wrap Go.IntKind.i64 ((Go.IntKind.wrap Go.IntKind.i64 ((Go.IntKind.wrap Go.IntKind.i64 (x1-(Go.IntKind.wrap Go.IntKind.i64 (s3*x2))))-s4)) + (Go.IntKind.wrap Go.IntKind.i64 ((Go.IntKind.wrap Go.IntKind.i64 (Int.tdiv (Go.IntKind.wrap Go.IntKind.i64 ((Go.IntKind.wrap Go.IntKind.i64 ((Go.IntKind.wrap Go.IntKind.i64 ((0:Int)-(Go.IntKind.wrap Go.IntKind.i64 ((Go.IntKind.wrap Go.IntKind.i64 (x1-(Go.IntKind.wrap Go.IntKind.i64 (s3*x2))))-s4)))) + (65536:Int)))-(1:Int))) (65536:Int)))*(65536:Int))))))))))))
   else
   some (Sum.inr (s0,(s1,(s2,(s3,((0:Int),(s5,(Go.IntKind.wrap Go.IntKind.i64 ((Go.IntKind.wrap Go.IntKind.i64 (x1-(Go.IntKind.wrap Go.IntKind.i64 (s3*x2))))-s4)))))))))).bind fun x3 =>
  Sum.elim
   (fun x4 =>
   some x4)
   (fun x5 =>
   ((idxI (Go.IntKind.wrap Go.IntKind.i64 (x5.2.2.1 + x5.2.2.2.2.2.1)) (List.length x5.1))).bind fun x6 =>
   ((getN x5.1 x6)).bind fun x7 =>
   some (Sum.inl ((List.set x5.1 x6 x5.2.2.2.2.2.2),(x5.2.1,(x5.2.2.1,(x5.2.2.2.1,(x5.2.2.2.2.1,(Go.IntKind.wrap Go.IntKind.i64 (x5.2.2.2.2.2.1 + (1:Int))))))))))
   x3
 else
 some (Sum.inr (s0,s4))
noncomputable def GI (a0:(List Int)) (a1:(List Int)) (a2:Int) (a3:Int):Option (List (Int)×Int) :=
 (loopM (fun (s:((List Int)×((List Int)×(Int×(Int×(Int×Int))))))=>F9 s.1 s.2.1 s.2.2.1 s.2.2.2.1 s.2.2.2.2.1 s.2.2.2.2.2) (a0,(a1,(a2,(a3,((0:Int),(0:Int))))))).bind fun x0 =>
 some (x0.1,x0.2)
noncomputable def Ut:Ent:=⟨ML,fun x=>GI x.1 x.2.1 x.2.2.1 x.2.2.2⟩
noncomputable def TE:TX:=⟨tyTab,codTab,[],[4],[Ea],ML⟩
set_option maxHeartbeats 2000000 in
theorem Ae3 (a0:List (Int)) (a1:List (Int)) (a2:Int) (a3:Int):wtF TE Tryz.f269 (a0,a1,a2,a3)=GI a0 a1 a2 a3:=by kernel_rfl
theorem ZD:EntOK RR Ut:=Ab (X:=TE) ⟨tyOK,boolOK,eqOK⟩ (Ad (by exact ⟨⟨Ez,rfl⟩,trivial⟩)) (Af (by kernel_rfl)) ⟨Tryz.func269,rfl,by kernel_rfl,rfl⟩ (fun x=>by exact Ae3 x.1 x.2.1 x.2.2.1 x.2.2.2)
noncomputable def Gc (s0:(List Int)) (s1:(List Int)) (s2:Int) (s3:Int) (s4:Int):Option (((List Int)×((List Int)×(Int×(Int×Int)))) ⊕ (List Int)) :=
 bif decide (s4≤(((List.length s1):Nat):Int)) then
  ((idxI (Go.IntKind.wrap Go.IntKind.i64 (s2 + s4)) (List.length s0))).bind fun x0 =>
  ((getN s0 x0)).bind fun x1 =>
  ((BQ s1 s4)).bind fun x2 =>
  ((idxI (Go.IntKind.wrap Go.IntKind.i64 (s2 + s4)) (List.length s0))).bind fun x3 =>
  ((getN s0 x3)).bind fun x4 =>
  some (Sum.inl ((List.set s0 x3 (Int.tmod (Go.IntKind.wrap Go.IntKind.i64 ((Go.IntKind.wrap Go.IntKind.i64 (x1 + x2)) + s3)) (65536:Int))),(s1,(s2,((Go.IntKind.wrap Go.IntKind.i64 (Int.tdiv (Go.IntKind.wrap Go.IntKind.i64 ((Go.IntKind.wrap Go.IntKind.i64 (x1 + x2)) + s3)) (65536:Int))),(Go.IntKind.wrap Go.IntKind.i64 (s4 + (1:Int))))))))
 else
 some (Sum.inr s0)
noncomputable def Gw (a0:(List Int)) (a1:(List Int)) (a2:Int):Option (List (Int)) :=
 (loopM (fun (s:((List Int)×((List Int)×(Int×(Int×Int)))))=>Gc s.1 s.2.1 s.2.2.1 s.2.2.2.1 s.2.2.2.2) (a0,(a1,(a2,((0:Int),(0:Int)))))).bind fun x0 =>
 some x0
noncomputable def SA:Ent:=⟨MX,fun x=>Gw x.1 x.2.1 x.2.2⟩
noncomputable def SN:TX:=⟨tyTab,codTab,[],[4],[Ea],MX⟩
set_option maxHeartbeats 2000000 in
theorem Ab7 (a0:List (Int)) (a1:List (Int)) (a2:Int):wtF SN Tryz.f270 (a0,a1,a2)=Gw a0 a1 a2:=by kernel_rfl
theorem Zq:EntOK RR SA:=Ab (X:=SN) ⟨tyOK,boolOK,eqOK⟩ (Ad (by exact ⟨⟨Ez,rfl⟩,trivial⟩)) (Af (by kernel_rfl)) ⟨Tryz.func270,rfl,by kernel_rfl,rfl⟩ (fun x=>by exact Ab7 x.1 x.2.1 x.2.2)
noncomputable def Gd (s0:(List Int)) (s1:(List Int)) (s2:Int) (s3:Int) (s4:Int):Option (((List Int)×((List Int)×(Int×(Int×Int)))) ⊕ (List Int)) :=
 bif decide (s4<s3) then
  ((getI s1 s4)).bind fun x0 =>
  ((BQ s1 (Go.IntKind.wrap Go.IntKind.i64 (s4 + (1:Int))))).bind fun x1 =>
  bif decide ((Go.IntKind.wrap Go.IntKind.u64 s2)<(0:Int)) then
   none
  else
  ((idxI s4 (List.length s0))).bind fun x2 =>
  ((getN s0 x2)).bind fun x3 =>
  some (Sum.inl ((List.set s0 x2 (Int.tmod (shrI Go.IntKind.i64 (orI Go.IntKind.i64 x0 (shlI Go.IntKind.i64 x1 (16:Int))) (Go.IntKind.wrap Go.IntKind.u64 s2)) (65536:Int))),(s1,(s2,(s3,(Go.IntKind.wrap Go.IntKind.i64 (s4 + (1:Int))))))))
 else
 some (Sum.inr s0)
noncomputable def G5 (a0:(List Int)) (a1:Int):Option (List (Int)) :=
 ((lenI (((List.length a0):Nat):Int) 8 1)).bind fun x0 =>
 (loopM (fun (s:((List Int)×((List Int)×(Int×(Int×Int)))))=>Gd s.1 s.2.1 s.2.2.1 s.2.2.2.1 s.2.2.2.2) ((List.replicate x0 (0:Int)),(a0,(a1,((((List.length a0):Nat):Int),(0:Int)))))).bind fun x1 =>
 ((Bw x1)).bind fun x2 =>
 some x2
noncomputable def Td:Ent:=⟨Ms,fun x=>G5 x.1 x.2⟩
noncomputable def S1:TX:=⟨tyTab,codTab,[],[4],[Ea,EA],Ms⟩
set_option maxHeartbeats 2000000 in
theorem Ad7 (a0:List (Int)) (a1:Int):wtF S1 Tryz.f271 (a0,a1)=G5 a0 a1:=by kernel_rfl
theorem Y9:EntOK RR Td:=Ab (X:=S1) ⟨tyOK,boolOK,eqOK⟩ (Ad (by exact ⟨⟨Ez,rfl⟩,⟨⟨D8,rfl⟩,trivial⟩⟩)) (Af (by kernel_rfl)) ⟨Tryz.func271,rfl,by kernel_rfl,rfl⟩ (fun x=>by exact Ad7 x.1 x.2)
noncomputable def Cs (s0:(List Int)) (s1:(List Int)) (s2:Int):Option (((List Int)×((List Int)×Int)) ⊕ ((List Int)×((List Int)×Int))) :=
 ((getI s1 (Go.IntKind.wrap Go.IntKind.i64 ((((List.length s1):Nat):Int)-(1:Int))))).bind fun x0 =>
 bif decide ((Go.IntKind.wrap Go.IntKind.u64 s2)<(0:Int)) then
  none
 else
 bif decide ((shlI Go.IntKind.i64 x0 (Go.IntKind.wrap Go.IntKind.u64 s2))<(32768:Int)) then
  some (Sum.inl (s0,(s1,(Go.IntKind.wrap Go.IntKind.i64 (s2 + (1:Int))))))
 else
 some (Sum.inr (s0,(s1,s2)))
noncomputable def Bu (s0:(List Int)) (s1:(List Int)) (s2:(List Int)) (s3:Int) (s4:Int):Option (((List Int)×((List Int)×((List Int)×(Int×Int)))) ⊕ ((List Int)×((List Int)×Int))) :=
 bif decide (s4≥(0:Int)) then
  ((FI s0 s1 s4)).bind fun x0 =>
  ((GI s0 s1 s4 x0)).bind fun x1 =>
  bif decide ((List.length x1.1)=(List.length s0)) then
   bif decide (x1.2>(0:Int)) then
    ((Gw x1.1 s1 s4)).bind fun x2 =>
    bif decide ((List.length x2)=(List.length x1.1)) then
     ((idxI s4 (List.length s2))).bind fun x3 =>
     ((getN s2 x3)).bind fun x4 =>
     some (Sum.inl (x2,(s1,((List.set s2 x3 (Go.IntKind.wrap Go.IntKind.i64 (x0-(1:Int)))),(s3,(Go.IntKind.wrap Go.IntKind.i64 (s4-(1:Int))))))))
    else
    none
   else
   ((idxI s4 (List.length s2))).bind fun x5 =>
   ((getN s2 x5)).bind fun x6 =>
   some (Sum.inl (x1.1,(s1,((List.set s2 x5 x0),(s3,(Go.IntKind.wrap Go.IntKind.i64 (s4-(1:Int))))))))
  else
  none
 else
 some (Sum.inr (s0,(s2,s3)))
noncomputable def Cq (a0:(List Int)) (a1:(List Int)):Option (List (Int)×List (Int)) :=
 ((Bw a0)).bind fun x0 =>
 ((BA x0 a1)).bind fun x1 =>
 bif decide (x1<(0:Int)) then
  some ((List.nil:List Int),x0)
 else
 bif ((((List.length a1):Nat):Int)==(1:Int)) then
  ((getI a1 (0:Int))).bind fun x2 =>
  ((FN x0 x2)).bind fun x3 =>
  some (x3.1,x3.2)
 else
 (loopM (fun (s:((List Int)×((List Int)×Int)))=>Cs s.1 s.2.1 s.2.2) (x0,(a1,(0:Int)))).bind fun x4 =>
 ((Ia x4.1 x4.2.2)).bind fun x5 =>
 ((Ia x4.2.1 x4.2.2)).bind fun x6 =>
 ((Bw x6)).bind fun x7 =>
 ((lenI (Go.IntKind.wrap Go.IntKind.i64 ((Go.IntKind.wrap Go.IntKind.i64 ((((List.length x4.1):Nat):Int)-(((List.length x4.2.1):Nat):Int))) + (1:Int))) 8 1)).bind fun x8 =>
 (loopM (fun (s:((List Int)×((List Int)×((List Int)×(Int×Int)))))=>Bu s.1 s.2.1 s.2.2.1 s.2.2.2.1 s.2.2.2.2) (x5,(x7,((List.replicate x8 (0:Int)),(x4.2.2,(Go.IntKind.wrap Go.IntKind.i64 ((((List.length x4.1):Nat):Int)-(((List.length x4.2.1):Nat):Int)))))))).bind fun x9 =>
 ((Bw x9.2.1)).bind fun x10 =>
 ((Bw x9.1)).bind fun x11 =>
 ((G5 x11 x9.2.2)).bind fun x12 =>
 some (x10,x12)
noncomputable def Hc:Ent:=⟨Hg,fun x=>Cq x.1 x.2⟩
noncomputable def Ku:TX:=⟨tyTab,codTab,[],[4],[EA,Ix,Q1,YZ,QA,Ut,SA,Td],Hg⟩
set_option maxHeartbeats 2000000 in
theorem Ue (a0:List (Int)) (a1:List (Int)):wtF Ku Tryz.f252 (a0,a1)=Cq a0 a1:=by kernel_rfl
theorem JC:EntOK RR Hc:=Ab (X:=Ku) ⟨tyOK,boolOK,eqOK⟩ (Ad (by exact ⟨⟨D8,rfl⟩,⟨⟨ID,rfl⟩,⟨⟨XK,rfl⟩,⟨⟨Az3,rfl⟩,⟨⟨Xu,rfl⟩,⟨⟨ZD,rfl⟩,⟨⟨Zq,rfl⟩,⟨⟨Y9,rfl⟩,trivial⟩⟩⟩⟩⟩⟩⟩⟩)) (Af (by kernel_rfl)) ⟨Tryz.func252,rfl,by kernel_rfl,rfl⟩ (fun x=>by exact Ue x.1 x.2)
noncomputable def HB (s0:(List Int)) (s1:(List Int)):Option (((List Int)×(List Int)) ⊕ (List Int)) :=
 bif decide ((((List.length s1):Nat):Int)>(0:Int)) then
  ((Cq s0 s1)).bind fun x0 =>
  some (Sum.inl (s1,x0.2))
 else
 some (Sum.inr s0)
noncomputable def Gn (a0:(List Int)) (a1:(List Int)):Option (List (Int)) :=
 (loopM (fun (s:((List Int)×(List Int)))=>HB s.1 s.2) (a0,a1)).bind fun x0 =>
 ((Bw x0)).bind fun x1 =>
 some x1
noncomputable def OZ:Ent:=⟨Pv,fun x=>Gn x.1 x.2⟩
noncomputable def Vk:TX:=⟨tyTab,codTab,[],[4],[Hc,EA],Pv⟩
set_option maxHeartbeats 2000000 in
theorem Aw4 (a0:List (Int)) (a1:List (Int)):wtF Vk Tryz.f207 (a0,a1)=Gn a0 a1:=by kernel_rfl
theorem Uo:EntOK RR OZ:=Ab (X:=Vk) ⟨tyOK,boolOK,eqOK⟩ (Ad (by exact ⟨⟨JC,rfl⟩,⟨⟨D8,rfl⟩,trivial⟩⟩)) (Af (by kernel_rfl)) ⟨Tryz.func207,rfl,by kernel_rfl,rfl⟩ (fun x=>by exact Aw4 x.1 x.2)
noncomputable def Gk (a0:(Bool×(List Int))) (a1:(Bool×(List Int))):Option ((Bool×List (Int))×(Bool×List (Int))) :=
 ((Cq a0.2 a1.2)).bind fun x0 =>
 ((AE (!(a0.1==a1.1)) x0.1)).bind fun x1 =>
 ((AE a0.1 x0.2)).bind fun x2 =>
 some ((x1.2,x1.1),(x2.2,x2.1))
noncomputable def VP:Ent:=⟨PD,fun x=>Gk x.1 x.2⟩
noncomputable def Wf:TX:=⟨tyTab,codTab,[],[4],[Hc,CM],PD⟩
set_option maxHeartbeats 2000000 in
theorem Au6 (a0:(Bool×List (Int))) (a1:(Bool×List (Int))):wtF Wf Tryz.f218 (a0,a1)=Gk a0 a1:=by kernel_rfl
theorem Ab5:EntOK RR VP:=Ab (X:=Wf) ⟨tyOK,boolOK,eqOK⟩ (Ad (by exact ⟨⟨JC,rfl⟩,⟨⟨CC,rfl⟩,trivial⟩⟩)) (Af (by kernel_rfl)) ⟨Tryz.func218,rfl,by kernel_rfl,rfl⟩ (fun x=>by exact Au6 x.1 x.2)
noncomputable def Fn (a0:(Bool×(List Int))):Option ((Bool×List (Int))) :=
 ((AE (!a0.1) a0.2)).bind fun x0 =>
 some (x0.2,x0.1)
noncomputable def PA:Ent:=⟨PN,fun x=>Fn x⟩
noncomputable def WI:TX:=⟨tyTab,codTab,[],[4],[CM],PN⟩
set_option maxHeartbeats 2000000 in
theorem Aq8 (a0:(Bool×List (Int))):wtF WI Tryz.f219 (a0)=Fn a0:=by kernel_rfl
theorem Ux:EntOK RR PA:=Ab (X:=WI) ⟨tyOK,boolOK,eqOK⟩ (Ad (by exact ⟨⟨CC,rfl⟩,trivial⟩)) (Af (by kernel_rfl)) ⟨Tryz.func219,rfl,by kernel_rfl,rfl⟩ (fun x=>by exact Aq8 x)
noncomputable def CK (a0:(Bool×(List Int))) (a1:(Bool×(List Int))):Option ((Bool×List (Int)×Bool×List (Int))) :=
 ((Gn a0.2 a1.2)).bind fun x0 =>
 ((AE false x0)).bind fun x1 =>
 ((Gk (a0.1,a0.2) (x1.2,x1.1))).bind fun x2 =>
 ((Gk (a1.1,a1.2) (x1.2,x1.1))).bind fun x3 =>
 bif x3.1.1 then
  ((Fn (x2.1.1,x2.1.2))).bind fun x4 =>
  ((Fn (x3.1.1,x3.1.2))).bind fun x5 =>
  some (x4.1,(x4.2,(x5.1,x5.2)))
 else
 some (x2.1.1,(x2.1.2,(x3.1.1,x3.1.2)))
noncomputable def Fh:Ent:=⟨MT,fun x=>CK x.1 x.2⟩
noncomputable def Uk:TX:=⟨tyTab,codTab,[],[4],[OZ,CM,VP,PA],MT⟩
set_option maxHeartbeats 2000000 in
theorem Ae6 (a0:(Bool×List (Int))) (a1:(Bool×List (Int))):wtF Uk Tryz.f164 (a0,a1)=CK a0 a1:=by kernel_rfl
theorem FJ:EntOK RR Fh:=Ab (X:=Uk) ⟨tyOK,boolOK,eqOK⟩ (Ad (by exact ⟨⟨Uo,rfl⟩,⟨⟨CC,rfl⟩,⟨⟨Ab5,rfl⟩,⟨⟨Ux,rfl⟩,trivial⟩⟩⟩⟩)) (Af (by kernel_rfl)) ⟨Tryz.func164,rfl,by kernel_rfl,rfl⟩ (fun x=>by exact Ae6 x.1 x.2)
noncomputable def Er (a0:Int) (a1:Int):Option ((Bool×List (Int)×Bool×List (Int))×Bool) :=
 ((BB a0 (-(4611686018427387904:Int)) (4611686018427387904:Int))).bind fun x0 =>
 bif (!x0) then
  some ((false,((List.nil:List Int),(false,(List.nil:List Int)))),false)
 else
 ((BB a1 (-(4611686018427387904:Int)) (4611686018427387904:Int))).bind fun x1 =>
 bif (!x1) then
  some ((false,((List.nil:List Int),(false,(List.nil:List Int)))),false)
 else
 bif (a1==(0:Int)) then
  some ((false,((List.nil:List Int),(false,(List.nil:List Int)))),false)
 else
 ((Dt a0)).bind fun x2 =>
 ((Dt a1)).bind fun x3 =>
 ((CK (x2.1,x2.2) (x3.1,x3.2))).bind fun x4 =>
 some ((x4.1,(x4.2.1,(x4.2.2.1,x4.2.2.2))),true)
noncomputable def LM:Ent:=⟨O7,fun x=>Er x.1 x.2⟩
noncomputable def Wx:TX:=⟨tyTab,codTab,[],[4],[GJ,OH,Fh],O7⟩
set_option maxHeartbeats 2000000 in
theorem AA2 (a0:Int) (a1:Int):wtF Wx Tryz.f163 (a0,a1)=Er a0 a1:=by kernel_rfl
theorem Mm:EntOK RR LM:=Ab (X:=Wx) ⟨tyOK,boolOK,eqOK⟩ (Ad (by exact ⟨⟨Gj,rfl⟩,⟨⟨Sl,rfl⟩,⟨⟨FJ,rfl⟩,trivial⟩⟩⟩)) (Af (by kernel_rfl)) ⟨Tryz.func163,rfl,by kernel_rfl,rfl⟩ (fun x=>by exact AA2 x.1 x.2)
noncomputable def BI (a0:((List Int)×(Int×Int))):Option ((List (Int)×Int×Int)×(Bool×List (Int)×Bool×List (Int))) :=
 ((Ap (a0.1,(a0.2.1,a0.2.2)) (12:Int))).bind fun x0 =>
 bif x0.2 then
  ((CW (x0.1.1,(x0.1.2.1,x0.1.2.2)))).bind fun x1 =>
  ((CW (x1.1.1,(x1.1.2.1,x1.1.2.2)))).bind fun x2 =>
  ((CD (x1.2.1,x1.2.2))).bind fun x3 =>
  bif x3 then
   ((CD (x2.2.1,x2.2.2))).bind fun x4 =>
   bif x4 then
    bif decide ((((List.length x2.2.2):Nat):Int)>(0:Int)) then
     ((CK (x1.2.1,x1.2.2) (x2.2.1,x2.2.2))).bind fun x5 =>
     some ((x2.1.1,(x2.1.2.1,x2.1.2.2)),(x5.1,(x5.2.1,(x5.2.2.1,x5.2.2.2))))
    else
    some ((x2.1.1,(x2.1.2.1,x2.1.2.2)),(x1.2.1,(x1.2.2,(x2.2.1,x2.2.2))))
   else
   some ((x2.1.1,(x2.1.2.1,x2.1.2.2)),(x1.2.1,(x1.2.2,(x2.2.1,x2.2.2))))
  else
  some ((x2.1.1,(x2.1.2.1,x2.1.2.2)),(x1.2.1,(x1.2.2,(x2.2.1,x2.2.2))))
 else
 ((Ae (x0.1.1,(x0.1.2.1,x0.1.2.2)) (41:Int))).bind fun x6 =>
 ((Ae (x6.1.1,(x6.1.2.1,x6.1.2.2)) (12:Int))).bind fun x7 =>
 ((Er (Go.IntKind.wrap Go.IntKind.i64 (x6.2-(20:Int))) (Go.IntKind.wrap Go.IntKind.i64 ((1:Int) + x7.2)))).bind fun x8 =>
 some ((x7.1.1,(x7.1.2.1,x7.1.2.2)),(x8.1.1,(x8.1.2.1,(x8.1.2.2.1,x8.1.2.2.2))))
noncomputable def HL:Ent:=⟨HH,fun x=>BI x⟩
noncomputable def L3:TX:=⟨tyTab,codTab,[],[4],[Be,L8,Kg,Fh,AK,LM],HH⟩
set_option maxHeartbeats 2000000 in
theorem U7 (a0:(List (Int)×Int×Int)):wtF L3 Tryz.f142 (a0)=BI a0:=by kernel_rfl
theorem KK:EntOK RR HL:=Ab (X:=L3) ⟨tyOK,boolOK,eqOK⟩ (Ad (by exact ⟨⟨Bk,rfl⟩,⟨⟨S6,rfl⟩,⟨⟨N3,rfl⟩,⟨⟨FJ,rfl⟩,⟨⟨AL,rfl⟩,⟨⟨Mm,rfl⟩,trivial⟩⟩⟩⟩⟩⟩)) (Af (by kernel_rfl)) ⟨Tryz.func142,rfl,by kernel_rfl,rfl⟩ (fun x=>by exact U7 x)
noncomputable def DX (a0:((List Int)×(Int×Int))):Option ((List (Int)×Int×Int)×(Bool×List (Int)×Bool×List (Int)×Bool×List (Int)×Bool×List (Int))) :=
 ((Ap (a0.1,(a0.2.1,a0.2.2)) (40:Int))).bind fun x0 =>
 bif x0.2 then
  ((BI (x0.1.1,(x0.1.2.1,x0.1.2.2)))).bind fun x1 =>
  ((BI (x1.1.1,(x1.1.2.1,x1.1.2.2)))).bind fun x2 =>
  some ((x2.1.1,(x2.1.2.1,x2.1.2.2)),(x1.2.1,(x1.2.2.1,(x1.2.2.2.1,(x1.2.2.2.2,(x2.2.1,(x2.2.2.1,(x2.2.2.2.1,x2.2.2.2.2))))))))
 else
 ((Ae (x0.1.1,(x0.1.2.1,x0.1.2.2)) (17:Int))).bind fun x3 =>
 ((Ae (x3.1.1,(x3.1.2.1,x3.1.2.2)) (3:Int))).bind fun x4 =>
 ((Er (Go.IntKind.wrap Go.IntKind.i64 (x3.2-(4:Int))) (Go.IntKind.wrap Go.IntKind.i64 ((1:Int) + x4.2)))).bind fun x5 =>
 ((Ae (x4.1.1,(x4.1.2.1,x4.1.2.2)) (17:Int))).bind fun x6 =>
 ((Ae (x6.1.1,(x6.1.2.1,x6.1.2.2)) (3:Int))).bind fun x7 =>
 ((Er (Go.IntKind.wrap Go.IntKind.i64 (x6.2-(4:Int))) (Go.IntKind.wrap Go.IntKind.i64 ((1:Int) + x7.2)))).bind fun x8 =>
 some ((x7.1.1,(x7.1.2.1,x7.1.2.2)),(x5.1.1,(x5.1.2.1,(x5.1.2.2.1,(x5.1.2.2.2,(x8.1.1,(x8.1.2.1,(x8.1.2.2.1,x8.1.2.2.2))))))))
noncomputable def Me:Ent:=⟨HP,fun x=>DX x⟩
noncomputable def Mj:TX:=⟨tyTab,codTab,[],[4],[Be,HL,AK,LM],HP⟩
set_option maxHeartbeats 2000000 in
theorem UM (a0:(List (Int)×Int×Int)):wtF Mj Tryz.f129 (a0)=DX a0:=by kernel_rfl
theorem Uc:EntOK RR Me:=Ab (X:=Mj) ⟨tyOK,boolOK,eqOK⟩ (Ad (by exact ⟨⟨Bk,rfl⟩,⟨⟨KK,rfl⟩,⟨⟨AL,rfl⟩,⟨⟨Mm,rfl⟩,trivial⟩⟩⟩⟩)) (Af (by kernel_rfl)) ⟨Tryz.func129,rfl,by kernel_rfl,rfl⟩ (fun x=>by exact UM x)
noncomputable def Bb (s0:((List Int)×(Int×Int))) (s1:(List (((Bool×(List Int))×(Bool×(List Int)))×((Bool×(List Int))×(Bool×(List Int)))))) (s2:Int):Option ((((List Int)×(Int×Int))×((List (((Bool×(List Int))×(Bool×(List Int)))×((Bool×(List Int))×(Bool×(List Int)))))×Int)) ⊕ (((List Int)×(Int×Int))×(List (((Bool×(List Int))×(Bool×(List Int)))×((Bool×(List Int))×(Bool×(List Int))))))) :=
 bif decide (s2>(0:Int)) then
  ((DX (s0.1,(s0.2.1,s0.2.2)))).bind fun x0 =>
  ((appL 128 8 s1 (List.cons (((x0.2.1,x0.2.2.1),(x0.2.2.2.1,x0.2.2.2.2.1)),((x0.2.2.2.2.2.1,x0.2.2.2.2.2.2.1),(x0.2.2.2.2.2.2.2.1,x0.2.2.2.2.2.2.2.2))) (List.nil:List (((Bool×(List Int))×(Bool×(List Int)))×((Bool×(List Int))×(Bool×(List Int)))))))).bind fun x1 =>
  some (Sum.inl ((x0.1.1,(x0.1.2.1,x0.1.2.2)),(x1,(Go.IntKind.wrap Go.IntKind.i64 (s2-(1:Int))))))
 else
 some (Sum.inr ((s0.1,(s0.2.1,s0.2.2)),s1))
noncomputable def C9 (a0:((List Int)×(Int×Int))):Option ((List (Int)×Int×Int)×List ((((Bool×List (Int))×(Bool×List (Int)))×((Bool×List (Int))×(Bool×List (Int)))))) :=
 ((Ap (a0.1,(a0.2.1,a0.2.2)) (2:Int))).bind fun x0 =>
 bif x0.2 then
  ((CV (x0.1.1,(x0.1.2.1,x0.1.2.2)))).bind fun x1 =>
  ((Fk x1.2)).bind fun x2 =>
  some ((x1.1.1,(x1.1.2.1,x1.1.2.2)),x2.1)
 else
 ((Ae (x0.1.1,(x0.1.2.1,x0.1.2.2)) (7:Int))).bind fun x3 =>
 (((Ap (x3.1.1,(x3.1.2.1,x3.1.2.2)) (20:Int))).bind fun x4 =>
  bif x4.2 then
   ((Ae (x4.1.1,(x4.1.2.1,x4.1.2.2)) (3:Int))).bind fun x5 =>
   some (Sum.inr ((x5.1.1,(x5.1.2.1,x5.1.2.2)),((List.nil:List (((Bool×(List Int))×(Bool×(List Int)))×((Bool×(List Int))×(Bool×(List Int))))),(Go.IntKind.wrap Go.IntKind.i64 ((39:Int) + x5.2)))))
  else
  some (Sum.inr ((x4.1.1,(x4.1.2.1,x4.1.2.2)),((List.nil:List (((Bool×(List Int))×(Bool×(List Int)))×((Bool×(List Int))×(Bool×(List Int))))),x3.2)))).bind fun x6 =>
 Sum.elim
  (fun x7 =>
  some x7)
  (fun x8 =>
  (loopM (fun (s:(((List Int)×(Int×Int))×((List (((Bool×(List Int))×(Bool×(List Int)))×((Bool×(List Int))×(Bool×(List Int)))))×Int)))=>Bb s.1 s.2.1 s.2.2) ((x8.1.1,(x8.1.2.1,x8.1.2.2)),(x8.2.1,x8.2.2))).bind fun x9 =>
  some ((x9.1.1,(x9.1.2.1,x9.1.2.2)),x9.2))
  x6
noncomputable def KU:Ent:=⟨Hl,fun x=>C9 x⟩
noncomputable def J1:TX:=⟨tyTab,codTab,[],[4],[Be,HO,Mq,AK,Me],Hl⟩
set_option maxHeartbeats 2000000 in
theorem Ss (a0:(List (Int)×Int×Int)):wtF J1 Tryz.f73 (a0)=C9 a0:=by kernel_rfl
theorem RK:EntOK RR KU:=Ab (X:=J1) ⟨tyOK,boolOK,eqOK⟩ (Ad (by exact ⟨⟨Bk,rfl⟩,⟨⟨Kf,rfl⟩,⟨⟨PY,rfl⟩,⟨⟨AL,rfl⟩,⟨⟨Uc,rfl⟩,trivial⟩⟩⟩⟩⟩)) (Af (by kernel_rfl)) ⟨Tryz.func73,rfl,by kernel_rfl,rfl⟩ (fun x=>by exact Ss x)
noncomputable def Bl (a0:((List Int)×(Int×Int))):Option ((List (Int)×Int×Int)×List ((((Bool×List (Int))×(Bool×List (Int)))×((Bool×List (Int))×(Bool×List (Int)))))) :=
 ((Ap (a0.1,(a0.2.1,a0.2.2)) (4:Int))).bind fun x0 =>
 bif (!x0.2) then
  ((CV (x0.1.1,(x0.1.2.1,x0.1.2.2)))).bind fun x1 =>
  ((Fk x1.2)).bind fun x2 =>
  some ((x1.1.1,(x1.1.2.1,x1.1.2.2)),x2.1)
 else
 ((C9 (x0.1.1,(x0.1.2.1,x0.1.2.2)))).bind fun x3 =>
 some ((x3.1.1,(x3.1.2.1,x3.1.2.2)),x3.2)
noncomputable def DM:Ent:=⟨DN,fun x=>Bl x⟩
noncomputable def F8:TX:=⟨tyTab,codTab,[],[4],[Be,HO,Mq,KU],DN⟩
set_option maxHeartbeats 2000000 in
theorem L0 (a0:(List (Int)×Int×Int)):wtF F8 Tryz.f135 (a0)=Bl a0:=by kernel_rfl
theorem FP:EntOK RR DM:=Ab (X:=F8) ⟨tyOK,boolOK,eqOK⟩ (Ad (by exact ⟨⟨Bk,rfl⟩,⟨⟨Kf,rfl⟩,⟨⟨PY,rfl⟩,⟨⟨RK,rfl⟩,trivial⟩⟩⟩⟩)) (Af (by kernel_rfl)) ⟨Tryz.func135,rfl,by kernel_rfl,rfl⟩ (fun x=>by exact L0 x)
noncomputable def Cw (a0:((List Int)×(Int×Int))):Option ((List (Int)×Int×Int)×(Int×Int×Int×Int)) :=
 ((Ae (a0.1,(a0.2.1,a0.2.2)) (7:Int))).bind fun x0 =>
 ((Ae (x0.1.1,(x0.1.2.1,x0.1.2.2)) (7:Int))).bind fun x1 =>
 ((Ae (x1.1.1,(x1.1.2.1,x1.1.2.2)) (4:Int))).bind fun x2 =>
 ((Ae (x2.1.1,(x2.1.2.1,x2.1.2.2)) (4:Int))).bind fun x3 =>
 ((Ap (x3.1.1,(x3.1.2.1,x3.1.2.2)) (20:Int))).bind fun x4 =>
 bif x4.2 then
  ((As (x4.1.1,(x4.1.2.1,x4.1.2.2)) (List.cons (-(20:Int)) (List.cons (20:Int) (List.cons (21:Int) (List.nil:List Int)))))).bind fun x5 =>
  ((Ae (x5.1.1,(x5.1.2.1,x5.1.2.2)) (3:Int))).bind fun x6 =>
  ((As (x6.1.1,(x6.1.2.1,x6.1.2.2)) (List.cons (0:Int) (List.cons (8:Int) (List.cons (9:Int) (List.nil:List Int)))))).bind fun x7 =>
  some ((x7.1.1,(x7.1.2.1,x7.1.2.2)),(x5.2,(x6.2,(x7.2,(1:Int)))))
 else
 some ((x4.1.1,(x4.1.2.1,x4.1.2.2)),((Go.IntKind.wrap Go.IntKind.i64 (x0.2-(3:Int))),((Go.IntKind.wrap Go.IntKind.i64 (x1.2-(3:Int))),((Go.IntKind.wrap Go.IntKind.i64 ((1:Int) + x2.2)),(Go.IntKind.wrap Go.IntKind.i64 ((1:Int) + x3.2))))))
noncomputable def Ig:Ent:=⟨Ff,fun x=>Cw x⟩
noncomputable def HX:TX:=⟨tyTab,codTab,[],[4],[AK,Be,B3],Ff⟩
set_option maxHeartbeats 2000000 in
theorem PF (a0:(List (Int)×Int×Int)):wtF HX Tryz.f136 (a0)=Cw a0:=by kernel_rfl
theorem Oo:EntOK RR Ig:=Ab (X:=HX) ⟨tyOK,boolOK,eqOK⟩ (Ad (by exact ⟨⟨AL,rfl⟩,⟨⟨Bk,rfl⟩,⟨⟨Ct,rfl⟩,trivial⟩⟩⟩)) (Af (by kernel_rfl)) ⟨Tryz.func136,rfl,by kernel_rfl,rfl⟩ (fun x=>by exact PF x)
noncomputable def BL (a0:(List Int)):Option (List ((((Bool×List (Int))×(Bool×List (Int)))×((Bool×List (Int))×(Bool×List (Int)))))×(Int×Int×Int×Int)) :=
 ((Bl (a0,((0:Int),(0:Int))))).bind fun x0 =>
 ((Cw (x0.1.1,(x0.1.2.1,x0.1.2.2)))).bind fun x1 =>
 some (x0.2,(x1.2.1,(x1.2.2.1,(x1.2.2.2.1,x1.2.2.2.2))))
noncomputable def H9:Ent:=⟨Fd,fun x=>BL x⟩
noncomputable def HV:TX:=⟨tyTab,codTab,[],[4],[DM,Ig],Fd⟩
set_option maxHeartbeats 2000000 in
theorem OV (a0:List (Int)):wtF HV Tryz.f47 (a0)=BL a0:=by kernel_rfl
theorem Od:EntOK RR H9:=Ab (X:=HV) ⟨tyOK,boolOK,eqOK⟩ (Ad (by exact ⟨⟨FP,rfl⟩,⟨⟨Oo,rfl⟩,trivial⟩⟩)) (Af (by kernel_rfl)) ⟨Tryz.func47,rfl,by kernel_rfl,rfl⟩ (fun x=>by exact OV x)
noncomputable def A3 (a0:Int) (a1:Int) (a2:Int):Option (Bool) :=
 bif decide (a0≥a1) then
  some (decide (a0≤a2))
 else
 some false
noncomputable def GB:Ent:=⟨Ml,fun x=>A3 x.1 x.2.1 x.2.2⟩
noncomputable def Tu:TX:=⟨tyTab,codTab,[],[4],[],Ml⟩
set_option maxHeartbeats 2000000 in
theorem Ae4 (a0:Int) (a1:Int) (a2:Int):wtF Tu Tryz.f103 (a0,a1,a2)=A3 a0 a1 a2:=by kernel_rfl
theorem HE:EntOK RR GB:=Ab (X:=Tu) ⟨tyOK,boolOK,eqOK⟩ (Ad (by exact trivial)) (Af (by kernel_rfl)) ⟨Tryz.func103,rfl,by kernel_rfl,rfl⟩ (fun x=>by exact Ae4 x.1 x.2.1 x.2.2)
noncomputable def DY (a0:Int):Option (Bool) :=
 ((A3 a0 (0:Int) (65535:Int))).bind fun x0 =>
 some (!x0)
noncomputable def L6:Ent:=⟨HU,fun x=>DY x⟩
noncomputable def Mc:TX:=⟨tyTab,codTab,[],[4],[GB],HU⟩
set_option maxHeartbeats 2000000 in
theorem Ve (a0:Int):wtF Mc Tryz.f258 (a0)=DY a0:=by kernel_rfl
theorem Th:EntOK RR L6:=Ab (X:=Mc) ⟨tyOK,boolOK,eqOK⟩ (Ad (by exact ⟨⟨HE,rfl⟩,trivial⟩)) (Af (by kernel_rfl)) ⟨Tryz.func258,rfl,by kernel_rfl,rfl⟩ (fun x=>by exact Ve x)
noncomputable def AD (s0:(List Int)) (s1:Int) (s2:Int):Option (((List Int)×(Int×Int)) ⊕ (Unit ⊕ Int)) :=
 bif decide (s2<s1) then
  ((getI s0 s2)).bind fun x0 =>
  ((DY x0)).bind fun x1 =>
  bif x1 then
   some (Sum.inr (Sum.inr s2))
  else
  some (Sum.inl (s0,(s1,(Go.IntKind.wrap Go.IntKind.i64 (s2 + (1:Int))))))
 else
 some (Sum.inr (Sum.inl ()))
noncomputable def Bd (a0:(List Int)):Option (Int) :=
 (loopM (fun (s:((List Int)×(Int×Int)))=>AD s.1 s.2.1 s.2.2) (a0,((((List.length a0):Nat):Int),(0:Int)))).bind fun x0 =>
 Sum.elim
  (fun x1 =>
  some (-(1:Int)))
  (fun x2 =>
  some x2)
  x0
noncomputable def C0:Ent:=⟨BE,fun x=>Bd x⟩
noncomputable def C1:TX:=⟨tyTab,codTab,[],[4],[L6],BE⟩
set_option maxHeartbeats 2000000 in
theorem Gb (a0:List (Int)):wtF C1 Tryz.f221 (a0)=Bd a0:=by kernel_rfl
theorem F4:EntOK RR C0:=Ab (X:=C1) ⟨tyOK,boolOK,eqOK⟩ (Ad (by exact ⟨⟨Th,rfl⟩,trivial⟩)) (Af (by kernel_rfl)) ⟨Tryz.func221,rfl,by kernel_rfl,rfl⟩ (fun x=>by exact Gb x)
noncomputable def An (a0:(List Int)):Option (Bool) :=
 ((Bd a0)).bind fun x0 =>
 some (decide (x0≥(0:Int)))
noncomputable def Cl:Ent:=⟨Br,fun x=>An x⟩
noncomputable def Cj:TX:=⟨tyTab,codTab,[],[4],[C0],Br⟩
set_option maxHeartbeats 2000000 in
theorem Fq (a0:List (Int)):wtF Cj Tryz.f155 (a0)=An a0:=by kernel_rfl
theorem E8:EntOK RR Cl:=Ab (X:=Cj) ⟨tyOK,boolOK,eqOK⟩ (Ad (by exact ⟨⟨F4,rfl⟩,trivial⟩)) (Af (by kernel_rfl)) ⟨Tryz.func155,rfl,by kernel_rfl,rfl⟩ (fun x=>by exact Fq x)
noncomputable def FG (a0:(Bool×(List Int))):Option (Bool) :=
 bif decide ((((List.length a0.2):Nat):Int)>(40:Int)) then
  some false
 else
 bif ((((List.length a0.2):Nat):Int)==(0:Int)) then
  bif a0.1 then
   some false
  else
  bif decide ((((List.length a0.2):Nat):Int)>(0:Int)) then
   ((getI a0.2 (Go.IntKind.wrap Go.IntKind.i64 ((((List.length a0.2):Nat):Int)-(1:Int))))).bind fun x0 =>
   bif (x0==(0:Int)) then
    some false
   else
   ((An a0.2)).bind fun x1 =>
   some (!x1)
  else
  ((An a0.2)).bind fun x2 =>
  some (!x2)
 else
 bif decide ((((List.length a0.2):Nat):Int)>(0:Int)) then
  ((getI a0.2 (Go.IntKind.wrap Go.IntKind.i64 ((((List.length a0.2):Nat):Int)-(1:Int))))).bind fun x3 =>
  bif (x3==(0:Int)) then
   some false
  else
  ((An a0.2)).bind fun x4 =>
  some (!x4)
 else
 ((An a0.2)).bind fun x5 =>
 some (!x5)
noncomputable def Qr:Ent:=⟨JY,fun x=>FG x⟩
noncomputable def Qw:TX:=⟨tyTab,codTab,[],[4],[Cl],JY⟩
set_option maxHeartbeats 2000000 in
theorem Y5 (a0:(Bool×List (Int))):wtF Qw Tryz.f231 (a0)=FG a0:=by kernel_rfl
theorem Xp:EntOK RR Qr:=Ab (X:=Qw) ⟨tyOK,boolOK,eqOK⟩ (Ad (by exact ⟨⟨E8,rfl⟩,trivial⟩)) (Af (by kernel_rfl)) ⟨Tryz.func231,rfl,by kernel_rfl,rfl⟩ (fun x=>by exact Y5 x)
noncomputable def EI (a0:(Bool×(List Int))):Option (Bool) :=
 ((FG (a0.1,a0.2))).bind fun x0 =>
 some (!x0)
noncomputable def On:Ent:=⟨I0,fun x=>EI x⟩
noncomputable def NM:TX:=⟨tyTab,codTab,[],[4],[Qr],I0⟩
set_option maxHeartbeats 2000000 in
theorem Xj (a0:(Bool×List (Int))):wtF NM Tryz.f261 (a0)=EI a0:=by kernel_rfl
theorem UX:EntOK RR On:=Ab (X:=NM) ⟨tyOK,boolOK,eqOK⟩ (Ad (by exact ⟨⟨Xp,rfl⟩,trivial⟩)) (Af (by kernel_rfl)) ⟨Tryz.func261,rfl,by kernel_rfl,rfl⟩ (fun x=>by exact Xj x)
noncomputable def Av (s0:(List (Bool×(List Int)))) (s1:Int) (s2:Int):Option (((List (Bool×(List Int)))×(Int×Int)) ⊕ (Unit ⊕ Int)) :=
 bif decide (s2<s1) then
  ((getI s0 s2)).bind fun x0 =>
  ((EI (x0.1,x0.2))).bind fun x1 =>
  bif x1 then
   some (Sum.inr (Sum.inr s2))
  else
  some (Sum.inl (s0,(s1,(Go.IntKind.wrap Go.IntKind.i64 (s2 + (1:Int))))))
 else
 some (Sum.inr (Sum.inl ()))
noncomputable def AP (a0:(List (Bool×(List Int)))):Option (Int) :=
 (loopM (fun (s:((List (Bool×(List Int)))×(Int×Int)))=>Av s.1 s.2.1 s.2.2) (a0,((((List.length a0):Nat):Int),(0:Int)))).bind fun x0 =>
 Sum.elim
  (fun x1 =>
  some (-(1:Int)))
  (fun x2 =>
  some x2)
  x0
noncomputable def Ci:Ent:=⟨Bp,fun x=>AP x⟩
noncomputable def Cg:TX:=⟨tyTab,codTab,[],[4],[On],Bp⟩
set_option maxHeartbeats 2000000 in
theorem Fa (a0:List ((Bool×List (Int)))):wtF Cg Tryz.f257 (a0)=AP a0:=by kernel_rfl
theorem EK:EntOK RR Ci:=Ab (X:=Cg) ⟨tyOK,boolOK,eqOK⟩ (Ad (by exact ⟨⟨UX,rfl⟩,trivial⟩)) (Af (by kernel_rfl)) ⟨Tryz.func257,rfl,by kernel_rfl,rfl⟩ (fun x=>by exact Fa x)
noncomputable def AG (a0:(List (Bool×(List Int)))):Option (Bool) :=
 ((AP a0)).bind fun x0 =>
 some (decide (x0≥(0:Int)))
noncomputable def BP:Ent:=⟨A4,fun x=>AG x⟩
noncomputable def BU:TX:=⟨tyTab,codTab,[],[4],[Ci],A4⟩
set_option maxHeartbeats 2000000 in
theorem D6 (a0:List ((Bool×List (Int)))):wtF BU Tryz.f229 (a0)=AG a0:=by kernel_rfl
theorem DO:EntOK RR BP:=Ab (X:=BU) ⟨tyOK,boolOK,eqOK⟩ (Ad (by exact ⟨⟨EK,rfl⟩,trivial⟩)) (Af (by kernel_rfl)) ⟨Tryz.func229,rfl,by kernel_rfl,rfl⟩ (fun x=>by exact D6 x)
noncomputable def Fb (a0:(List (Bool×(List Int)))):Option (Bool) :=
 ((AG a0)).bind fun x0 =>
 some (!x0)
noncomputable def UJ:Ent:=⟨MQ,fun x=>Fb x⟩
noncomputable def Tr:TX:=⟨tyTab,codTab,[],[4],[BP],MQ⟩
set_option maxHeartbeats 2000000 in
theorem Aj2 (a0:List ((Bool×List (Int)))):wtF Tr Tryz.f241 (a0)=Fb a0:=by kernel_rfl
theorem Yn:EntOK RR UJ:=Ab (X:=Tr) ⟨tyOK,boolOK,eqOK⟩ (Ad (by exact ⟨⟨DO,rfl⟩,trivial⟩)) (Af (by kernel_rfl)) ⟨Tryz.func241,rfl,by kernel_rfl,rfl⟩ (fun x=>by exact Aj2 x)
noncomputable def A0 (a0:(Bool×(List Int))):Option (Int) :=
 bif ((((List.length a0.2):Nat):Int)==(0:Int)) then
  some (0:Int)
 else
 bif a0.1 then
  some (-(1:Int))
 else
 some (1:Int)
noncomputable def IY:Ent:=⟨IN,fun x=>A0 x⟩
noncomputable def Ns:TX:=⟨tyTab,codTab,[],[4],[],IN⟩
set_option maxHeartbeats 2000000 in
theorem Xk (a0:(Bool×List (Int))):wtF Ns Tryz.f212 (a0)=A0 a0:=by kernel_rfl
theorem Mb:EntOK RR IY:=Ab (X:=Ns) ⟨tyOK,boolOK,eqOK⟩ (Ad (by exact trivial)) (Af (by kernel_rfl)) ⟨Tryz.func212,rfl,by kernel_rfl,rfl⟩ (fun x=>by exact Xk x)
noncomputable def CQ (a0:Int):Option (Bool) :=
 some (a0 != a0)
noncomputable def JH:Ent:=⟨FX,fun x=>CQ x⟩
noncomputable def JB:TX:=⟨tyTab,codTab,[],[4],[],FX⟩
set_option maxHeartbeats 2000000 in
theorem RL (a0:Int):wtF JB Tryz.f263 (a0)=CQ a0:=by kernel_rfl
theorem OU:EntOK RR JH:=Ab (X:=JB) ⟨tyOK,boolOK,eqOK⟩ (Ad (by exact trivial)) (Af (by kernel_rfl)) ⟨Tryz.func263,rfl,by kernel_rfl,rfl⟩ (fun x=>by exact RL x)
noncomputable def Bf (a0:Int) (a1:Int):Option (Int) :=
 ((CQ a0)).bind fun x0 =>
 ((CQ a1)).bind fun x1 =>
 bif x0 then
  bif x1 then
   some (0:Int)
  else
  some (-(1:Int))
 else
 bif x1 then
  some (1:Int)
 else
 bif decide (a0<a1) then
  some (-(1:Int))
 else
 bif decide (a0>a1) then
  some (1:Int)
 else
 some (0:Int)
noncomputable def EM:Ent:=⟨ER,fun x=>Bf x.1 x.2⟩
noncomputable def Hw:TX:=⟨tyTab,codTab,[],[4],[JH],ER⟩
set_option maxHeartbeats 2000000 in
theorem NF (a0:Int) (a1:Int):wtF Hw Tryz.f245 (a0,a1)=Bf a0 a1:=by kernel_rfl
theorem Hk:EntOK RR EM:=Ab (X:=Hw) ⟨tyOK,boolOK,eqOK⟩ (Ad (by exact ⟨⟨OU,rfl⟩,trivial⟩)) (Af (by kernel_rfl)) ⟨Tryz.func245,rfl,by kernel_rfl,rfl⟩ (fun x=>by exact NF x.1 x.2)
noncomputable def AF (s0:(List Int)) (s1:(List Int)) (s2:Int):Option (((List Int)×((List Int)×Int)) ⊕ (Unit ⊕ Int)) :=
 bif decide (s2≥(0:Int)) then
  ((getI s0 s2)).bind fun x0 =>
  ((getI s1 s2)).bind fun x1 =>
  bif (x0 != x1) then
   ((getI s0 s2)).bind fun x2 =>
   ((getI s1 s2)).bind fun x3 =>
   ((Bf x2 x3)).bind fun x4 =>
   some (Sum.inr (Sum.inr x4))
  else
  some (Sum.inl (s0,(s1,(Go.IntKind.wrap Go.IntKind.i64 (s2-(1:Int))))))
 else
 some (Sum.inr (Sum.inl ()))
noncomputable def Ba (a0:(List Int)) (a1:(List Int)):Option (Int) :=
 bif ((((List.length a0):Nat):Int) != (((List.length a1):Nat):Int)) then
  ((Bf (((List.length a0):Nat):Int) (((List.length a1):Nat):Int))).bind fun x0 =>
  some x0
 else
 (loopM (fun (s:((List Int)×((List Int)×Int)))=>AF s.1 s.2.1 s.2.2) (a0,(a1,(Go.IntKind.wrap Go.IntKind.i64 ((((List.length a0):Nat):Int)-(1:Int)))))).bind fun x1 =>
 Sum.elim
  (fun x2 =>
  some (0:Int))
  (fun x3 =>
  some x3)
  x1
noncomputable def Du:Ent:=⟨Fi,fun x=>Ba x.1 x.2⟩
noncomputable def Iu:TX:=⟨tyTab,codTab,[],[4],[EM],Fi⟩
set_option maxHeartbeats 2000000 in
theorem Pz (a0:List (Int)) (a1:List (Int)):wtF Iu Tryz.f184 (a0,a1)=Ba a0 a1:=by kernel_rfl
theorem ET:EntOK RR Du:=Ab (X:=Iu) ⟨tyOK,boolOK,eqOK⟩ (Ad (by exact ⟨⟨Hk,rfl⟩,trivial⟩)) (Af (by kernel_rfl)) ⟨Tryz.func184,rfl,by kernel_rfl,rfl⟩ (fun x=>by exact Pz x.1 x.2)
noncomputable def Lq (s0:(List Int)) (s1:Int):Option (((List Int)×Int) ⊕ ((List Int)×Int)) :=
 bif decide (s1>(0:Int)) then
  ((getI s0 (Go.IntKind.wrap Go.IntKind.i64 (s1-(1:Int))))).bind fun x0 =>
  bif (x0==(0:Int)) then
   some (Sum.inl (s0,(Go.IntKind.wrap Go.IntKind.i64 (s1-(1:Int)))))
  else
  some (Sum.inr (s0,s1))
 else
 some (Sum.inr (s0,s1))
noncomputable def Fv (a0:(List Int)):Option (List (Int)) :=
 (loopM (fun (s:((List Int)×Int))=>Lq s.1 s.2) (a0,(((List.length a0):Nat):Int))).bind fun x0 =>
 ((subI (0:Int) x0.2 (List.length x0.1))).bind fun x1 =>
 some (List.drop x1.1 (List.take x1.2 x0.1))
noncomputable def Ol:Ent:=⟨Xt,fun x=>Fv x⟩
noncomputable def Ao8:TX:=⟨tyTab,codTab,[],[4],[],Xt⟩
set_option maxHeartbeats 2000000 in
theorem AJ7 (a0:List (Int)):wtF Ao8 Tryz.f243 (a0)=Fv a0:=by kernel_rfl
theorem NL:EntOK RR Ol:=Ab (X:=Ao8) ⟨tyOK,boolOK,eqOK⟩ (Ad (by exact trivial)) (Af (by kernel_rfl)) ⟨Tryz.func243,rfl,by kernel_rfl,rfl⟩ (fun x=>by exact AJ7 x)
noncomputable def C7 (s0:(List Int)) (s1:(List Int)) (s2:Int) (s3:Int) (s4:Int):Option (((List Int)×((List Int)×(Int×(Int×Int)))) ⊕ ((List Int)×Int)) :=
 bif decide (s4≥(0:Int)) then
  ((getI s1 s4)).bind fun x0 =>
  bif (s2==(0:Int)) then
   none
  else
  ((idxI s4 (List.length s0))).bind fun x1 =>
  ((getN s0 x1)).bind fun x2 =>
  bif (s2==(0:Int)) then
   none
  else
  some (Sum.inl ((List.set s0 x1 (Go.IntKind.wrap Go.IntKind.i64 (Int.tdiv (Go.IntKind.wrap Go.IntKind.i64 ((Go.IntKind.wrap Go.IntKind.i64 (s3*(65536:Int))) + x0)) s2))),(s1,(s2,((Int.tmod (Go.IntKind.wrap Go.IntKind.i64 ((Go.IntKind.wrap Go.IntKind.i64 (s3*(65536:Int))) + x0)) s2),(Go.IntKind.wrap Go.IntKind.i64 (s4-(1:Int))))))))
 else
 some (Sum.inr (s0,s3))
noncomputable def DE (a0:(List Int)) (a1:Int):Option (List (Int)×Int) :=
 ((lenI (((List.length a0):Nat):Int) 8 1)).bind fun x0 =>
 (loopM (fun (s:((List Int)×((List Int)×(Int×(Int×Int)))))=>C7 s.1 s.2.1 s.2.2.1 s.2.2.2.1 s.2.2.2.2) ((List.replicate x0 (0:Int)),(a0,(a1,((0:Int),(Go.IntKind.wrap Go.IntKind.i64 ((((List.length a0):Nat):Int)-(1:Int)))))))).bind fun x1 =>
 ((Fv x1.1)).bind fun x2 =>
 some (x2,x1.2)
noncomputable def Ob:Ent:=⟨IM,fun x=>DE x.1 x.2⟩
noncomputable def NA:TX:=⟨tyTab,codTab,[],[4],[Ol],IM⟩
set_option maxHeartbeats 2000000 in
theorem WY (a0:List (Int)) (a1:Int):wtF NA Tryz.f262 (a0,a1)=DE a0 a1:=by kernel_rfl
theorem U6:EntOK RR Ob:=Ab (X:=NA) ⟨tyOK,boolOK,eqOK⟩ (Ad (by exact ⟨⟨NL,rfl⟩,trivial⟩)) (Af (by kernel_rfl)) ⟨Tryz.func262,rfl,by kernel_rfl,rfl⟩ (fun x=>by exact WY x.1 x.2)
noncomputable def Bg (a0:(List Int)):Option (List (Int)) :=
 ((neL a0)).bind fun x0 =>
 bif (roomI (List.length a0) 8 1) then
  some a0
 else
 none
noncomputable def GT:Ent:=⟨A7,fun x=>Bg x⟩
noncomputable def Em:TX:=⟨tyTab,codTab,[],[4],[],A7⟩
set_option maxHeartbeats 2000000 in
theorem H5 (a0:List (Int)):wtF Em Tryz.f242 a0=Bg a0:=by kernel_rfl
theorem Hv:EntOK (Runs Tryz.prog cfC noExt) GT:=Ab (X:=Em) ⟨tyOK,boolOK,eqOK⟩ (AH0 rfl) (Af (by kernel_rfl)) ⟨Tryz.func242,rfl,by kernel_rfl,rfl⟩ (fun x=>by exact H5 x)
noncomputable def A6 (a0:List (Int)):Option (List (Int)):=orNil Bg a0
noncomputable def Cm:Ent:=⟨A7,fun x=>A6 x⟩
theorem DZ:EntOK RR Cm:=Aw1 Hv (.head _)
noncomputable def AO (a0:Bool) (a1:(List Int)):Option (List (Int)×(Bool)) :=
 ((Fv a1)).bind fun x0 =>
 ((A6 x0)).bind fun x1 =>
 bif a0 then
  some (x1,decide ((((List.length x1):Nat):Int)>(0:Int)))
 else
 some (x1,false)
noncomputable def DD:Ent:=⟨PI,fun x=>AO x.1 x.2⟩
noncomputable def WP:TX:=⟨tyTab,codTab,[],[4],[Ol,Cm],PI⟩
set_option maxHeartbeats 2000000 in
theorem Au8 (a0:Bool) (a1:List (Int)):wtF WP Tryz.f177 (a0,a1)=AO a0 a1:=by kernel_rfl
theorem De:EntOK RR DD:=Ab (X:=WP) ⟨tyOK,boolOK,eqOK⟩ (Ad (by exact ⟨⟨NL,rfl⟩,⟨⟨DZ,rfl⟩,trivial⟩⟩)) (Af (by kernel_rfl)) ⟨Tryz.func177,rfl,by kernel_rfl,rfl⟩ (fun x=>by exact Au8 x.1 x.2)
noncomputable def HA (s0:(Bool×(List Int))) (s1:(List Int)) (s2:Bool) (s3:Int):Option (((Bool×(List Int))×((List Int)×(Bool×Int))) ⊕ ((Bool×(List Int))×((List Int)×Bool))) :=
 bif decide (s3>(0:Int)) then
  ((appL 8 1 s1 (List.cons (Go.IntKind.wrap Go.IntKind.i64 (Int.tmod s3 (65536:Int))) (List.nil:List Int)))).bind fun x0 =>
  some (Sum.inl ((s0.1,s0.2),(x0,(s2,(Go.IntKind.wrap Go.IntKind.u64 (Int.tdiv s3 (65536:Int)))))))
 else
 some (Sum.inr ((s0.1,s0.2),(s1,s2)))
noncomputable def B2 (a0:Int):Option ((Bool×List (Int))) :=
 (bif decide (a0<(0:Int)) then
   some (Sum.inr ((false,(List.nil:List Int)),(decide (a0<(0:Int)),(Go.IntKind.wrap Go.IntKind.u64 ((0:Int)-(Go.IntKind.wrap Go.IntKind.u64 a0))))))
  else
  some (Sum.inr ((false,(List.nil:List Int)),(decide (a0<(0:Int)),(Go.IntKind.wrap Go.IntKind.u64 a0))))).bind fun x0 =>
 Sum.elim
  (fun x1 =>
  some x1)
  (fun x2 =>
  (loopM (fun (s:((Bool×(List Int))×((List Int)×(Bool×Int))))=>HA s.1 s.2.1 s.2.2.1 s.2.2.2) ((x2.1.1,x2.1.2),((List.nil:List Int),(x2.2.1,x2.2.2)))).bind fun x3 =>
  some (x3.2.2,x3.2.1))
  x0
noncomputable def H6:Ent:=⟨PS,fun x=>B2 x⟩
noncomputable def V4:TX:=⟨tyTab,codTab,[],[4],[],PS⟩
set_option maxHeartbeats 2000000 in
theorem Ax1 (a0:Int):wtF V4 Tryz.f104 (a0)=B2 a0:=by kernel_rfl
theorem I1:EntOK RR H6:=Ab (X:=V4) ⟨tyOK,boolOK,eqOK⟩ (Ad (by exact trivial)) (Af (by kernel_rfl)) ⟨Tryz.func104,rfl,by kernel_rfl,rfl⟩ (fun x=>by exact Ax1 x)
noncomputable def DR (s0:(Bool×(List Int))) (s1:(Bool×(List Int))) (s2:(Bool×(List Int))) (s3:(List Int)) (s4:Int) (s5:Int) (s6:Int) (s7:(List Int)) (s8:Int) (s9:Int) (s10:(List Int)) (s11:Int) (s12:Int):Option (((Bool×(List Int))×((Bool×(List Int))×((Bool×(List Int))×((List Int)×(Int×(Int×(Int×((List Int)×(Int×(Int×((List Int)×(Int×Int)))))))))))) ⊕ ((Bool×(List Int))×((Bool×(List Int))×((Bool×(List Int))×((List Int)×(Int×(Int×((List Int)×(Int×Int))))))))) :=
 bif decide (s12<s11) then
  ((getI s10 s12)).bind fun x0 =>
  ((idxI (Go.IntKind.wrap Go.IntKind.i64 (s4 + s12)) (List.length s3))).bind fun x1 =>
  ((getN s3 x1)).bind fun x2 =>
  ((idxI (Go.IntKind.wrap Go.IntKind.i64 (s4 + s12)) (List.length s3))).bind fun x3 =>
  ((getN s3 x3)).bind fun x4 =>
  some (Sum.inl ((s0.1,s0.2),((s1.1,s1.2),((s2.1,s2.2),((List.set s3 x3 (Int.tmod (Go.IntKind.wrap Go.IntKind.i64 (s6 + (Go.IntKind.wrap Go.IntKind.i64 (x2 + (Go.IntKind.wrap Go.IntKind.i64 (s5*x0)))))) (65536:Int))),(s4,(s5,((Go.IntKind.wrap Go.IntKind.i64 (Int.tdiv (Go.IntKind.wrap Go.IntKind.i64 (s6 + (Go.IntKind.wrap Go.IntKind.i64 (x2 + (Go.IntKind.wrap Go.IntKind.i64 (s5*x0)))))) (65536:Int))),(s7,(s8,(s9,(s10,(s11,(Go.IntKind.wrap Go.IntKind.i64 (s12 + (1:Int))))))))))))))))
 else
 some (Sum.inr ((s0.1,s0.2),((s1.1,s1.2),((s2.1,s2.2),(s3,(s4,(s6,(s7,(s8,s9)))))))))
noncomputable def Ft (s0:(Bool×(List Int))) (s1:(Bool×(List Int))) (s2:(Bool×(List Int))) (s3:(List Int)) (s4:(List Int)) (s5:Int) (s6:Int):Option (((Bool×(List Int))×((Bool×(List Int))×((Bool×(List Int))×((List Int)×((List Int)×(Int×Int)))))) ⊕ ((Bool×(List Int))×((Bool×(List Int))×((Bool×(List Int))×(List Int))))) :=
 bif decide (s6<s5) then
  ((getI s4 s6)).bind fun x0 =>
  (loopM (fun (s:((Bool×(List Int))×((Bool×(List Int))×((Bool×(List Int))×((List Int)×(Int×(Int×(Int×((List Int)×(Int×(Int×((List Int)×(Int×Int)))))))))))))=>DR s.1 s.2.1 s.2.2.1 s.2.2.2.1 s.2.2.2.2.1 s.2.2.2.2.2.1 s.2.2.2.2.2.2.1 s.2.2.2.2.2.2.2.1 s.2.2.2.2.2.2.2.2.1 s.2.2.2.2.2.2.2.2.2.1 s.2.2.2.2.2.2.2.2.2.2.1 s.2.2.2.2.2.2.2.2.2.2.2.1 s.2.2.2.2.2.2.2.2.2.2.2.2) ((s0.1,s0.2),((s1.1,s1.2),((s2.1,s2.2),(s3,(s6,(x0,((0:Int),(s4,(s5,(s6,(s1.2,((((List.length s1.2):Nat):Int),(0:Int)))))))))))))).bind fun x1 =>
  ((idxI (Go.IntKind.wrap Go.IntKind.i64 (x1.2.2.2.2.1 + (((List.length x1.2.1.2):Nat):Int))) (List.length x1.2.2.2.1))).bind fun x2 =>
  ((getN x1.2.2.2.1 x2)).bind fun x3 =>
  ((idxI (Go.IntKind.wrap Go.IntKind.i64 (x1.2.2.2.2.1 + (((List.length x1.2.1.2):Nat):Int))) (List.length x1.2.2.2.1))).bind fun x4 =>
  ((getN x1.2.2.2.1 x4)).bind fun x5 =>
  some (Sum.inl ((x1.1.1,x1.1.2),((x1.2.1.1,x1.2.1.2),((x1.2.2.1.1,x1.2.2.1.2),((List.set x1.2.2.2.1 x4 (Go.IntKind.wrap Go.IntKind.i64 (x3 + x1.2.2.2.2.2.1))),(x1.2.2.2.2.2.2.1,(x1.2.2.2.2.2.2.2.1,(Go.IntKind.wrap Go.IntKind.i64 (x1.2.2.2.2.2.2.2.2 + (1:Int))))))))))
 else
 some (Sum.inr ((s0.1,s0.2),((s1.1,s1.2),((s2.1,s2.2),s3))))
noncomputable def AV (a0:(Bool×(List Int))) (a1:(Bool×(List Int))):Option (List (Int)×(Bool)) :=
 ((lenI (Go.IntKind.wrap Go.IntKind.i64 ((((List.length a0.2):Nat):Int) + (((List.length a1.2):Nat):Int))) 8 1)).bind fun x0 =>
 (loopM (fun (s:((Bool×(List Int))×((Bool×(List Int))×((Bool×(List Int))×((List Int)×((List Int)×(Int×Int)))))))=>Ft s.1 s.2.1 s.2.2.1 s.2.2.2.1 s.2.2.2.2.1 s.2.2.2.2.2.1 s.2.2.2.2.2.2) ((a0.1,a0.2),((a1.1,a1.2),((false,(List.nil:List Int)),((List.replicate x0 (0:Int)),(a0.2,((((List.length a0.2):Nat):Int),(0:Int)))))))).bind fun x1 =>
 ((AO (!(x1.1.1==x1.2.1.1)) x1.2.2.2)).bind fun x2 =>
 some (x2.1,x2.2)
noncomputable def EB:Ent:=⟨JU,fun x=>AV x.1 x.2⟩
noncomputable def Ra:TX:=⟨tyTab,codTab,[],[4],[DD],JU⟩
set_option maxHeartbeats 2000000 in
theorem Zi (a0:(Bool×List (Int))) (a1:(Bool×List (Int))):wtF Ra Tryz.f179 (a0,a1)=AV a0 a1:=by kernel_rfl
theorem EF:EntOK RR EB:=Ab (X:=Ra) ⟨tyOK,boolOK,eqOK⟩ (Ad (by exact ⟨⟨De,rfl⟩,trivial⟩)) (Af (by kernel_rfl)) ⟨Tryz.func179,rfl,by kernel_rfl,rfl⟩ (fun x=>by exact Zi x.1 x.2)
noncomputable def J2 (s0:(List Int)) (s1:(List Int)) (s2:(List Int)) (s3:Int) (s4:Int):Option (((List Int)×((List Int)×((List Int)×(Int×Int)))) ⊕ ((List Int)×((List Int)×(Int×Int)))) :=
 bif decide ((((List.length s0):Nat):Int)<(Go.IntKind.wrap Go.IntKind.i64 ((((List.length s2):Nat):Int) + (1:Int)))) then
  ((appL 8 1 s0 (List.cons (0:Int) (List.nil:List Int)))).bind fun x0 =>
  some (Sum.inl (x0,(s1,(s2,(s3,s4)))))
 else
 some (Sum.inr (s0,(s1,(s3,s4))))
noncomputable def BZ (s0:(List Int)) (s1:(List Int)) (s2:(List Int)) (s3:Int) (s4:Int) (s5:Int) (s6:Int) (s7:Int):Option (((List Int)×((List Int)×((List Int)×(Int×(Int×(Int×(Int×Int))))))) ⊕ ((List Int)×((List Int)×((List Int)×(Int×(Int×(Int×Int))))))) :=
 (bif decide (s6≥(65536:Int)) then
   some (Sum.inr (s0,(s1,(s2,(s3,(s4,(s5,(s6,s7))))))))
  else
  bif decide (s7<(65536:Int)) then
   ((idxI (Go.IntKind.wrap Go.IntKind.i64 (s3-(2:Int))) (List.length s1))).bind fun x0 =>
   ((getN s1 x0)).bind fun x1 =>
   ((idxI (Go.IntKind.wrap Go.IntKind.i64 ((Go.IntKind.wrap Go.IntKind.i64 (s5 + s3))-(2:Int))) (List.length s0))).bind fun x2 =>
   ((getN s0 x2)).bind fun x3 =>
   bif decide ((Go.IntKind.wrap Go.IntKind.i64 (s6*x1))>(Go.IntKind.wrap Go.IntKind.i64 ((Go.IntKind.wrap Go.IntKind.i64 (s7*(65536:Int))) + x3))) then
    some (Sum.inr (s0,(s1,(s2,(s3,(s4,(s5,(s6,s7))))))))
   else
   some (Sum.inl (Sum.inr (s0,(s1,(s2,(s3,(s4,(s5,s6))))))))
  else
  some (Sum.inl (Sum.inr (s0,(s1,(s2,(s3,(s4,(s5,s6))))))))).bind fun x4 =>
 Sum.elim
  (fun x5 =>
  some x5)
  (fun x6 =>
  ((idxI (Go.IntKind.wrap Go.IntKind.i64 (x6.2.2.2.1-(1:Int))) (List.length x6.2.1))).bind fun x7 =>
  ((getN x6.2.1 x7)).bind fun x8 =>
  some (Sum.inl (x6.1,(x6.2.1,(x6.2.2.1,(x6.2.2.2.1,(x6.2.2.2.2.1,(x6.2.2.2.2.2.1,((Go.IntKind.wrap Go.IntKind.i64 (x6.2.2.2.2.2.2.1-(1:Int))),(Go.IntKind.wrap Go.IntKind.i64 (x6.2.2.2.2.2.2.2 + x8)))))))))))
  x4
noncomputable def C5 (s0:(List Int)) (s1:(List Int)) (s2:(List Int)) (s3:Int) (s4:Int) (s5:Int) (s6:Int) (s7:Int) (s8:Int) (s9:Int):Option (((List Int)×((List Int)×((List Int)×(Int×(Int×(Int×(Int×(Int×(Int×Int))))))))) ⊕ ((List Int)×((List Int)×((List Int)×(Int×(Int×(Int×(Int×Int)))))))) :=
 bif decide (s9<s8) then
  ((idxI (Go.IntKind.wrap Go.IntKind.i64 (s5 + s9)) (List.length s0))).bind fun x0 =>
  ((getN s0 x0)).bind fun x1 =>
  ((idxI s9 (List.length s1))).bind fun x2 =>
  ((getN s1 x2)).bind fun x3 =>
  (bif decide ((Go.IntKind.wrap Go.IntKind.i64 ((Go.IntKind.wrap Go.IntKind.i64 (x1-(Go.IntKind.wrap Go.IntKind.i64 (s6*x3))))-s7))<(0:Int)) then
    some (Sum.inr (s0,(s1,(s2,(s3,(s4,(s5,(s6,((Go.IntKind.wrap Go.IntKind.i64 (Int.tdiv (Go.IntKind.wrap Go.IntKind.i64 ((Go.IntKind.wrap Go.IntKind.i64 ((Go.IntKind.wrap Go.IntKind.i64 ((0:Int)-(Go.IntKind.wrap Go.IntKind.i64 ((Go.IntKind.wrap Go.IntKind.i64 (x1-(Go.IntKind.wrap Go.IntKind.i64 (s6*x3))))-s7)))) + (65536:Int)))-(1:Int))) (65536:Int))),(s9,((Go.IntKind.wrap Go.IntKind.i64 ((Go.IntKind.wrap Go.IntKind.i64 ((Go.IntKind.wrap Go.IntKind.i64 (x1-(Go.IntKind.wrap Go.IntKind.i64 (s6*x3))))-s7)) + (Go.IntKind.wrap Go.IntKind.i64 ((Go.IntKind.wrap Go.IntKind.i64 (Int.tdiv (Go.IntKind.wrap Go.IntKind.i64 ((Go.IntKind.wrap Go.IntKind.i64 ((Go.IntKind.wrap Go.IntKind.i64 ((0:Int)-(Go.IntKind.wrap Go.IntKind.i64 ((Go.IntKind.wrap Go.IntKind.i64 (x1-(Go.IntKind.wrap Go.IntKind.i64 (s6*x3))))-s7)))) + (65536:Int)))-(1:Int))) (65536:Int)))*(65536:Int))))),(s8,s9))))))))))))
   else
   some (Sum.inr (s0,(s1,(s2,(s3,(s4,(s5,(s6,((0:Int),(s9,((Go.IntKind.wrap Go.IntKind.i64 ((Go.IntKind.wrap Go.IntKind.i64 (x1-(Go.IntKind.wrap Go.IntKind.i64 (s6*x3))))-s7)),(s8,s9))))))))))))).bind fun x4 =>
  Sum.elim
   (fun x5 =>
   some x5)
   (fun x6 =>
   ((idxI (Go.IntKind.wrap Go.IntKind.i64 (x6.2.2.2.2.2.1 + x6.2.2.2.2.2.2.2.2.1)) (List.length x6.1))).bind fun x7 =>
   ((getN x6.1 x7)).bind fun x8 =>
   some (Sum.inl ((List.set x6.1 x7 x6.2.2.2.2.2.2.2.2.2.1),(x6.2.1,(x6.2.2.1,(x6.2.2.2.1,(x6.2.2.2.2.1,(x6.2.2.2.2.2.1,(x6.2.2.2.2.2.2.1,(x6.2.2.2.2.2.2.2.1,(x6.2.2.2.2.2.2.2.2.2.2.1,(Go.IntKind.wrap Go.IntKind.i64 (x6.2.2.2.2.2.2.2.2.2.2.2 + (1:Int))))))))))))))
   x4
 else
 some (Sum.inr (s0,(s1,(s2,(s3,(s4,(s5,(s6,s7))))))))
noncomputable def Dd (s0:(List Int)) (s1:(List Int)) (s2:(List Int)) (s3:Int) (s4:Int) (s5:Int) (s6:Int) (s7:Int) (s8:Int) (s9:Int):Option (((List Int)×((List Int)×((List Int)×(Int×(Int×(Int×(Int×(Int×(Int×Int))))))))) ⊕ ((List Int)×((List Int)×((List Int)×(Int×(Int×(Int×(Int×Int)))))))) :=
 bif decide (s9<s8) then
  ((idxI (Go.IntKind.wrap Go.IntKind.i64 (s5 + s9)) (List.length s0))).bind fun x0 =>
  ((getN s0 x0)).bind fun x1 =>
  ((idxI s9 (List.length s1))).bind fun x2 =>
  ((getN s1 x2)).bind fun x3 =>
  ((idxI (Go.IntKind.wrap Go.IntKind.i64 (s5 + s9)) (List.length s0))).bind fun x4 =>
  ((getN s0 x4)).bind fun x5 =>
  some (Sum.inl ((List.set s0 x4 (Int.tmod (Go.IntKind.wrap Go.IntKind.i64 (s7 + (Go.IntKind.wrap Go.IntKind.i64 (x1 + x3)))) (65536:Int))),(s1,(s2,(s3,(s4,(s5,(s6,((Go.IntKind.wrap Go.IntKind.i64 (Int.tdiv (Go.IntKind.wrap Go.IntKind.i64 (s7 + (Go.IntKind.wrap Go.IntKind.i64 (x1 + x3)))) (65536:Int))),(s8,(Go.IntKind.wrap Go.IntKind.i64 (s9 + (1:Int)))))))))))))
 else
 some (Sum.inr (s0,(s1,(s2,(s3,(s4,(s5,(s6,s7))))))))
noncomputable def BS (s0:(List Int)) (s1:(List Int)) (s2:(List Int)) (s3:Int) (s4:Int) (s5:Int):Option (((List Int)×((List Int)×((List Int)×(Int×(Int×Int))))) ⊕ ((List Int)×((List Int)×(Int×Int)))) :=
 bif decide (s5≥(0:Int)) then
  ((idxI (Go.IntKind.wrap Go.IntKind.i64 (s5 + s3)) (List.length s0))).bind fun x0 =>
  ((getN s0 x0)).bind fun x1 =>
  ((idxI (Go.IntKind.wrap Go.IntKind.i64 ((Go.IntKind.wrap Go.IntKind.i64 (s5 + s3))-(1:Int))) (List.length s0))).bind fun x2 =>
  ((getN s0 x2)).bind fun x3 =>
  ((idxI (Go.IntKind.wrap Go.IntKind.i64 (s3-(1:Int))) (List.length s1))).bind fun x4 =>
  ((getN s1 x4)).bind fun x5 =>
  bif (x5==(0:Int)) then
   none
  else
  ((idxI (Go.IntKind.wrap Go.IntKind.i64 (s3-(1:Int))) (List.length s1))).bind fun x6 =>
  ((getN s1 x6)).bind fun x7 =>
  bif (x7==(0:Int)) then
   none
  else
  (loopM (fun (s:((List Int)×((List Int)×((List Int)×(Int×(Int×(Int×(Int×Int))))))))=>BZ s.1 s.2.1 s.2.2.1 s.2.2.2.1 s.2.2.2.2.1 s.2.2.2.2.2.1 s.2.2.2.2.2.2.1 s.2.2.2.2.2.2.2) (s0,(s1,(s2,(s3,(s4,(s5,((Go.IntKind.wrap Go.IntKind.i64 (Int.tdiv (Go.IntKind.wrap Go.IntKind.i64 ((Go.IntKind.wrap Go.IntKind.i64 (x1*(65536:Int))) + x3)) x5)),(Int.tmod (Go.IntKind.wrap Go.IntKind.i64 ((Go.IntKind.wrap Go.IntKind.i64 (x1*(65536:Int))) + x3)) x7))))))))).bind fun x8 =>
  (loopM (fun (s:((List Int)×((List Int)×((List Int)×(Int×(Int×(Int×(Int×(Int×(Int×Int))))))))))=>C5 s.1 s.2.1 s.2.2.1 s.2.2.2.1 s.2.2.2.2.1 s.2.2.2.2.2.1 s.2.2.2.2.2.2.1 s.2.2.2.2.2.2.2.1 s.2.2.2.2.2.2.2.2.1 s.2.2.2.2.2.2.2.2.2) (x8.1,(x8.2.1,(x8.2.2.1,(x8.2.2.2.1,(x8.2.2.2.2.1,(x8.2.2.2.2.2.1,(x8.2.2.2.2.2.2,((0:Int),(x8.2.2.2.1,(0:Int))))))))))).bind fun x9 =>
  ((idxI (Go.IntKind.wrap Go.IntKind.i64 (x9.2.2.2.2.2.1 + x9.2.2.2.1)) (List.length x9.1))).bind fun x10 =>
  ((getN x9.1 x10)).bind fun x11 =>
  ((idxI (Go.IntKind.wrap Go.IntKind.i64 (x9.2.2.2.2.2.1 + x9.2.2.2.1)) (List.length x9.1))).bind fun x12 =>
  ((getN x9.1 x12)).bind fun x13 =>
  ((idxI (Go.IntKind.wrap Go.IntKind.i64 (x9.2.2.2.2.2.1 + x9.2.2.2.1)) (List.length (List.set x9.1 x12 (Go.IntKind.wrap Go.IntKind.i64 (x11-x9.2.2.2.2.2.2.2)))))).bind fun x14 =>
  ((getN (List.set x9.1 x12 (Go.IntKind.wrap Go.IntKind.i64 (x11-x9.2.2.2.2.2.2.2))) x14)).bind fun x15 =>
  bif decide (x15<(0:Int)) then
   (loopM (fun (s:((List Int)×((List Int)×((List Int)×(Int×(Int×(Int×(Int×(Int×(Int×Int))))))))))=>Dd s.1 s.2.1 s.2.2.1 s.2.2.2.1 s.2.2.2.2.1 s.2.2.2.2.2.1 s.2.2.2.2.2.2.1 s.2.2.2.2.2.2.2.1 s.2.2.2.2.2.2.2.2.1 s.2.2.2.2.2.2.2.2.2) ((List.set x9.1 x12 (Go.IntKind.wrap Go.IntKind.i64 (x11-x9.2.2.2.2.2.2.2))),(x9.2.1,(x9.2.2.1,(x9.2.2.2.1,(x9.2.2.2.2.1,(x9.2.2.2.2.2.1,((Go.IntKind.wrap Go.IntKind.i64 (x9.2.2.2.2.2.2.1-(1:Int))),((0:Int),(x9.2.2.2.1,(0:Int))))))))))).bind fun x16 =>
   ((idxI (Go.IntKind.wrap Go.IntKind.i64 (x16.2.2.2.2.2.1 + x16.2.2.2.1)) (List.length x16.1))).bind fun x17 =>
   ((getN x16.1 x17)).bind fun x18 =>
   ((idxI (Go.IntKind.wrap Go.IntKind.i64 (x16.2.2.2.2.2.1 + x16.2.2.2.1)) (List.length x16.1))).bind fun x19 =>
   ((getN x16.1 x19)).bind fun x20 =>
   ((idxI x16.2.2.2.2.2.1 (List.length x16.2.2.1))).bind fun x21 =>
   ((getN x16.2.2.1 x21)).bind fun x22 =>
   some (Sum.inl ((List.set x16.1 x19 (Go.IntKind.wrap Go.IntKind.i64 (x18 + x16.2.2.2.2.2.2.2))),(x16.2.1,((List.set x16.2.2.1 x21 x16.2.2.2.2.2.2.1),(x16.2.2.2.1,(x16.2.2.2.2.1,(Go.IntKind.wrap Go.IntKind.i64 (x16.2.2.2.2.2.1-(1:Int)))))))))
  else
  ((idxI x9.2.2.2.2.2.1 (List.length x9.2.2.1))).bind fun x23 =>
  ((getN x9.2.2.1 x23)).bind fun x24 =>
  some (Sum.inl ((List.set x9.1 x12 (Go.IntKind.wrap Go.IntKind.i64 (x11-x9.2.2.2.2.2.2.2))),(x9.2.1,((List.set x9.2.2.1 x23 x9.2.2.2.2.2.2.1),(x9.2.2.2.1,(x9.2.2.2.2.1,(Go.IntKind.wrap Go.IntKind.i64 (x9.2.2.2.2.2.1-(1:Int)))))))))
 else
 some (Sum.inr (s0,(s2,(s3,s4))))
noncomputable def Dq (a0:(List Int)) (a1:(List Int)):Option (List (Int)×List (Int)) :=
 ((Ba a0 a1)).bind fun x0 =>
 bif decide (x0<(0:Int)) then
  some ((List.nil:List Int),a0)
 else
 bif ((((List.length a1):Nat):Int)==(1:Int)) then
  ((getI a1 (0:Int))).bind fun x1 =>
  ((DE a0 x1)).bind fun x2 =>
  ((Fv (List.cons x2.2 (List.nil:List Int)))).bind fun x3 =>
  some (x2.1,x3)
 else
 ((getI a1 (Go.IntKind.wrap Go.IntKind.i64 ((((List.length a1):Nat):Int)-(1:Int))))).bind fun x4 =>
 bif ((Go.IntKind.wrap Go.IntKind.i64 (x4 + (1:Int)))==(0:Int)) then
  none
 else
 ((AO false a0)).bind fun x5 =>
 ((B2 (Go.IntKind.wrap Go.IntKind.i64 (Int.tdiv (65536:Int) (Go.IntKind.wrap Go.IntKind.i64 (x4 + (1:Int))))))).bind fun x6 =>
 ((AV (x5.2,x5.1) (x6.1,x6.2))).bind fun x7 =>
 ((appL 8 1 x7.1 (List.cons (0:Int) (List.nil:List Int)))).bind fun x8 =>
 ((AO false a1)).bind fun x9 =>
 ((B2 (Go.IntKind.wrap Go.IntKind.i64 (Int.tdiv (65536:Int) (Go.IntKind.wrap Go.IntKind.i64 (x4 + (1:Int))))))).bind fun x10 =>
 ((AV (x9.2,x9.1) (x10.1,x10.2))).bind fun x11 =>
 (loopM (fun (s:((List Int)×((List Int)×((List Int)×(Int×Int)))))=>J2 s.1 s.2.1 s.2.2.1 s.2.2.2.1 s.2.2.2.2) (x8,(x11.1,(a0,((((List.length a1):Nat):Int),(Go.IntKind.wrap Go.IntKind.i64 (Int.tdiv (65536:Int) (Go.IntKind.wrap Go.IntKind.i64 (x4 + (1:Int)))))))))).bind fun x12 =>
 ((lenI (Go.IntKind.wrap Go.IntKind.i64 ((((List.length x12.1):Nat):Int)-x12.2.2.1)) 8 1)).bind fun x13 =>
 (loopM (fun (s:((List Int)×((List Int)×((List Int)×(Int×(Int×Int))))))=>BS s.1 s.2.1 s.2.2.1 s.2.2.2.1 s.2.2.2.2.1 s.2.2.2.2.2) (x12.1,(x12.2.1,((List.replicate x13 (0:Int)),(x12.2.2.1,(x12.2.2.2,(Go.IntKind.wrap Go.IntKind.i64 ((Go.IntKind.wrap Go.IntKind.i64 ((((List.length x12.1):Nat):Int)-x12.2.2.1))-(1:Int))))))))).bind fun x14 =>
 ((subI (0:Int) x14.2.2.1 (List.length x14.1))).bind fun x15 =>
 ((Fv (List.drop x15.1 (List.take (x15.1 + (x15.2-x15.1)) x14.1)))).bind fun x16 =>
 ((DE x16 x14.2.2.2)).bind fun x17 =>
 ((Fv x14.2.1)).bind fun x18 =>
 some (x18,x17.1)
noncomputable def IX:Ent:=⟨Jv,fun x=>Dq x.1 x.2⟩
noncomputable def M3:TX:=⟨tyTab,codTab,[],[4],[Du,Ob,Ol,DD,H6,EB],Jv⟩
set_option maxHeartbeats 2000000 in
theorem XB (a0:List (Int)) (a1:List (Int)):wtF M3 Tryz.f244 (a0,a1)=Dq a0 a1:=by kernel_rfl
theorem L9:EntOK RR IX:=Ab (X:=M3) ⟨tyOK,boolOK,eqOK⟩ (Ad (by exact ⟨⟨ET,rfl⟩,⟨⟨U6,rfl⟩,⟨⟨NL,rfl⟩,⟨⟨De,rfl⟩,⟨⟨I1,rfl⟩,⟨⟨EF,rfl⟩,trivial⟩⟩⟩⟩⟩⟩)) (Af (by kernel_rfl)) ⟨Tryz.func244,rfl,by kernel_rfl,rfl⟩ (fun x=>by exact XB x.1 x.2)
noncomputable def Fz (s0:(Bool×(List Int))) (s1:(List Int)) (s2:(List Int)):Option (((Bool×(List Int))×((List Int)×(List Int))) ⊕ ((Bool×(List Int))×(List Int))) :=
 bif decide ((((List.length s2):Nat):Int)>(0:Int)) then
  ((Dq s1 s2)).bind fun x0 =>
  some (Sum.inl ((s0.1,s0.2),(s2,x0.2)))
 else
 some (Sum.inr ((s0.1,s0.2),s1))
noncomputable def Ej (a0:(Bool×(List Int))) (a1:(Bool×(List Int))):Option ((Bool×List (Int))) :=
 (loopM (fun (s:((Bool×(List Int))×((List Int)×(List Int))))=>Fz s.1 s.2.1 s.2.2) ((false,(List.nil:List Int)),(a0.2,a1.2))).bind fun x0 =>
 ((AO false x0.2)).bind fun x1 =>
 some (x1.2,x1.1)
noncomputable def J7:Ent:=⟨KX,fun x=>Ej x.1 x.2⟩
noncomputable def Rr:TX:=⟨tyTab,codTab,[],[4],[IX,DD],KX⟩
set_option maxHeartbeats 2000000 in
theorem Yx (a0:(Bool×List (Int))) (a1:(Bool×List (Int))):wtF Rr Tryz.f180 (a0,a1)=Ej a0 a1:=by kernel_rfl
theorem OE:EntOK RR J7:=Ab (X:=Rr) ⟨tyOK,boolOK,eqOK⟩ (Ad (by exact ⟨⟨L9,rfl⟩,⟨⟨De,rfl⟩,trivial⟩⟩)) (Af (by kernel_rfl)) ⟨Tryz.func180,rfl,by kernel_rfl,rfl⟩ (fun x=>by exact Yx x.1 x.2)
noncomputable def Cn (a0:(Bool×(List Int))) (a1:(Bool×(List Int))):Option (Int) :=
 ((A0 (a0.1,a0.2))).bind fun x0 =>
 ((A0 (a1.1,a1.2))).bind fun x1 =>
 bif (x0 != x1) then
  ((A0 (a0.1,a0.2))).bind fun x2 =>
  ((A0 (a1.1,a1.2))).bind fun x3 =>
  ((Bf x2 x3)).bind fun x4 =>
  some x4
 else
 ((A0 (a0.1,a0.2))).bind fun x5 =>
 ((Ba a0.2 a1.2)).bind fun x6 =>
 some (Go.IntKind.wrap Go.IntKind.i64 (x5*x6))
noncomputable def Hj:Ent:=⟨GR,fun x=>Cn x.1 x.2⟩
noncomputable def Lf:TX:=⟨tyTab,codTab,[],[4],[IY,EM,Du],GR⟩
set_option maxHeartbeats 2000000 in
theorem Uh (a0:(Bool×List (Int))) (a1:(Bool×List (Int))):wtF Lf Tryz.f236 (a0,a1)=Cn a0 a1:=by kernel_rfl
theorem JA:EntOK RR Hj:=Ab (X:=Lf) ⟨tyOK,boolOK,eqOK⟩ (Ad (by exact ⟨⟨Mb,rfl⟩,⟨⟨Hk,rfl⟩,⟨⟨ET,rfl⟩,trivial⟩⟩⟩)) (Af (by kernel_rfl)) ⟨Tryz.func236,rfl,by kernel_rfl,rfl⟩ (fun x=>by exact Uh x.1 x.2)
noncomputable def FL (a0:(Bool×((List Int)×(Bool×(List Int))))):Option (Bool) :=
 ((Fb (List.cons (a0.1,a0.2.1) (List.cons (a0.2.2.1,a0.2.2.2) (List.nil:List (Bool×(List Int))))))).bind fun x0 =>
 bif x0 then
  ((A0 (a0.2.2.1,a0.2.2.2))).bind fun x1 =>
  bif decide (x1>(0:Int)) then
   ((Ej (a0.1,a0.2.1) (a0.2.2.1,a0.2.2.2))).bind fun x2 =>
   ((B2 (1:Int))).bind fun x3 =>
   ((Cn (x2.1,x2.2) (x3.1,x3.2))).bind fun x4 =>
   some (x4==(0:Int))
  else
  some false
 else
 some false
noncomputable def Qz:Ent:=⟨KW,fun x=>FL x⟩
noncomputable def QZ:TX:=⟨tyTab,codTab,[],[4],[UJ,IY,J7,H6,Hj],KW⟩
set_option maxHeartbeats 2000000 in
theorem YE (a0:(Bool×List (Int)×Bool×List (Int))):wtF QZ Tryz.f176 (a0)=FL a0:=by kernel_rfl
theorem Xz:EntOK RR Qz:=Ab (X:=QZ) ⟨tyOK,boolOK,eqOK⟩ (Ad (by exact ⟨⟨Yn,rfl⟩,⟨⟨Mb,rfl⟩,⟨⟨OE,rfl⟩,⟨⟨I1,rfl⟩,⟨⟨JA,rfl⟩,trivial⟩⟩⟩⟩⟩)) (Af (by kernel_rfl)) ⟨Tryz.func176,rfl,by kernel_rfl,rfl⟩ (fun x=>by exact YE x)
noncomputable def Fs (s0:(List ((Bool×(List Int))×(Bool×(List Int))))) (s1:Int) (s2:Int):Option (((List ((Bool×(List Int))×(Bool×(List Int))))×(Int×Int)) ⊕ (Unit ⊕ Bool)) :=
 bif decide (s2<s1) then
  ((getI s0 s2)).bind fun x0 =>
  ((FL (x0.1.1,(x0.1.2,(x0.2.1,x0.2.2))))).bind fun x1 =>
  bif (!x1) then
   some (Sum.inr (Sum.inr false))
  else
  some (Sum.inl (s0,(s1,(Go.IntKind.wrap Go.IntKind.i64 (s2 + (1:Int))))))
 else
 some (Sum.inr (Sum.inl ()))
noncomputable def CJ (a0:(List ((Bool×(List Int))×(Bool×(List Int))))):Option (Bool) :=
 (loopM (fun (s:((List ((Bool×(List Int))×(Bool×(List Int))))×(Int×Int)))=>Fs s.1 s.2.1 s.2.2) (a0,((((List.length a0):Nat):Int),(0:Int)))).bind fun x0 =>
 Sum.elim
  (fun x1 =>
  some true)
  (fun x2 =>
  some x2)
  x0
noncomputable def Kz:Ent:=⟨Ld,fun x=>CJ x⟩
noncomputable def QY:TX:=⟨tyTab,codTab,[],[4],[Qz],Ld⟩
set_option maxHeartbeats 2000000 in
theorem Z5 (a0:List (((Bool×List (Int))×(Bool×List (Int))))):wtF QY Tryz.f88 (a0)=CJ a0:=by kernel_rfl
theorem Nh:EntOK RR Kz:=Ab (X:=QY) ⟨tyOK,boolOK,eqOK⟩ (Ad (by exact ⟨⟨Xz,rfl⟩,trivial⟩)) (Af (by kernel_rfl)) ⟨Tryz.func88,rfl,by kernel_rfl,rfl⟩ (fun x=>by exact Z5 x)
noncomputable def A1 (a0:(Bool×((List Int)×(Bool×(List Int))))) (a1:Int):Option (Bool) :=
 bif decide ((((List.length a0.2.1):Nat):Int)≤a1) then
  some (decide ((((List.length a0.2.2.2):Nat):Int)≤a1))
 else
 some false
noncomputable def FY:Ent:=⟨F2,fun x=>A1 x.1 x.2⟩
noncomputable def Jz:TX:=⟨tyTab,codTab,[],[4],[],F2⟩
set_option maxHeartbeats 2000000 in
theorem RG (a0:(Bool×List (Int)×Bool×List (Int))) (a1:Int):wtF Jz Tryz.f170 (a0,a1)=A1 a0 a1:=by kernel_rfl
theorem HW:EntOK RR FY:=Ab (X:=Jz) ⟨tyOK,boolOK,eqOK⟩ (Ad (by exact trivial)) (Af (by kernel_rfl)) ⟨Tryz.func170,rfl,by kernel_rfl,rfl⟩ (fun x=>by exact RG x.1 x.2)
noncomputable def Dx (a0:(Bool×((List Int)×(Bool×((List Int)×(Bool×((List Int)×(Bool×(List Int))))))))) (a1:Int):Option (Bool) :=
 ((CJ (List.cons ((a0.1,a0.2.1),(a0.2.2.1,a0.2.2.2.1)) (List.cons ((a0.2.2.2.2.1,a0.2.2.2.2.2.1),(a0.2.2.2.2.2.2.1,a0.2.2.2.2.2.2.2)) (List.nil:List ((Bool×(List Int))×(Bool×(List Int)))))))).bind fun x0 =>
 bif x0 then
  ((A1 (a0.1,(a0.2.1,(a0.2.2.1,a0.2.2.2.1))) a1)).bind fun x1 =>
  bif x1 then
   ((A1 (a0.2.2.2.2.1,(a0.2.2.2.2.2.1,(a0.2.2.2.2.2.2.1,a0.2.2.2.2.2.2.2))) a1)).bind fun x2 =>
   some x2
  else
  some false
 else
 some false
noncomputable def PU:Ent:=⟨O6,fun x=>Dx x.1 x.2⟩
noncomputable def V8:TX:=⟨tyTab,codTab,[],[4],[Kz,FY],O6⟩
set_option maxHeartbeats 2000000 in
theorem Aw8 (a0:(Bool×List (Int)×Bool×List (Int)×Bool×List (Int)×Bool×List (Int))) (a1:Int):wtF V8 Tryz.f79 (a0,a1)=Dx a0 a1:=by kernel_rfl
theorem Ud:EntOK RR PU:=Ab (X:=V8) ⟨tyOK,boolOK,eqOK⟩ (Ad (by exact ⟨⟨Nh,rfl⟩,⟨⟨HW,rfl⟩,trivial⟩⟩)) (Af (by kernel_rfl)) ⟨Tryz.func79,rfl,by kernel_rfl,rfl⟩ (fun x=>by exact Aw8 x.1 x.2)
noncomputable def Dl (a0:(Bool×((List Int)×(Bool×((List Int)×(Bool×((List Int)×(Bool×(List Int))))))))):Option (Bool) :=
 ((Dx (a0.1,(a0.2.1,(a0.2.2.1,(a0.2.2.2.1,(a0.2.2.2.2.1,(a0.2.2.2.2.2.1,(a0.2.2.2.2.2.2.1,a0.2.2.2.2.2.2.2))))))) (8:Int))).bind fun x0 =>
 some (!x0)
noncomputable def K5:Ent:=⟨GG,fun x=>Dl x⟩
noncomputable def Kk:TX:=⟨tyTab,codTab,[],[4],[PU],GG⟩
set_option maxHeartbeats 2000000 in
theorem TH (a0:(Bool×List (Int)×Bool×List (Int)×Bool×List (Int)×Bool×List (Int))):wtF Kk Tryz.f169 (a0)=Dl a0:=by kernel_rfl
theorem RI:EntOK RR K5:=Ab (X:=Kk) ⟨tyOK,boolOK,eqOK⟩ (Ad (by exact ⟨⟨Ud,rfl⟩,trivial⟩)) (Af (by kernel_rfl)) ⟨Tryz.func169,rfl,by kernel_rfl,rfl⟩ (fun x=>by exact TH x)
noncomputable def Al (s0:(List (((Bool×(List Int))×(Bool×(List Int)))×((Bool×(List Int))×(Bool×(List Int)))))) (s1:Int) (s2:Int):Option (((List (((Bool×(List Int))×(Bool×(List Int)))×((Bool×(List Int))×(Bool×(List Int)))))×(Int×Int)) ⊕ (Unit ⊕ Int)) :=
 bif decide (s2<s1) then
  ((getI s0 s2)).bind fun x0 =>
  ((Dl (x0.1.1.1,(x0.1.1.2,(x0.1.2.1,(x0.1.2.2,(x0.2.1.1,(x0.2.1.2,(x0.2.2.1,x0.2.2.2))))))))).bind fun x1 =>
  bif x1 then
   some (Sum.inr (Sum.inr s2))
  else
  some (Sum.inl (s0,(s1,(Go.IntKind.wrap Go.IntKind.i64 (s2 + (1:Int))))))
 else
 some (Sum.inr (Sum.inl ()))
noncomputable def AQ (a0:(List (((Bool×(List Int))×(Bool×(List Int)))×((Bool×(List Int))×(Bool×(List Int)))))):Option (Int) :=
 (loopM (fun (s:((List (((Bool×(List Int))×(Bool×(List Int)))×((Bool×(List Int))×(Bool×(List Int)))))×(Int×Int)))=>Al s.1 s.2.1 s.2.2) (a0,((((List.length a0):Nat):Int),(0:Int)))).bind fun x0 =>
 Sum.elim
  (fun x1 =>
  some (-(1:Int)))
  (fun x2 =>
  some x2)
  x0
noncomputable def Cf:Ent:=⟨Bq,fun x=>AQ x⟩
noncomputable def Ch:TX:=⟨tyTab,codTab,[],[4],[K5],Bq⟩
set_option maxHeartbeats 2000000 in
theorem E9 (a0:List ((((Bool×List (Int))×(Bool×List (Int)))×((Bool×List (Int))×(Bool×List (Int)))))):wtF Ch Tryz.f190 (a0)=AQ a0:=by kernel_rfl
theorem E5:EntOK RR Cf:=Ab (X:=Ch) ⟨tyOK,boolOK,eqOK⟩ (Ad (by exact ⟨⟨RI,rfl⟩,trivial⟩)) (Af (by kernel_rfl)) ⟨Tryz.func190,rfl,by kernel_rfl,rfl⟩ (fun x=>by exact E9 x)
noncomputable def Au (a0:(List (((Bool×(List Int))×(Bool×(List Int)))×((Bool×(List Int))×(Bool×(List Int)))))):Option (Bool) :=
 ((AQ a0)).bind fun x0 =>
 some (decide (x0≥(0:Int)))
noncomputable def BX:Ent:=⟨A5,fun x=>Au x⟩
noncomputable def BW:TX:=⟨tyTab,codTab,[],[4],[Cf],A5⟩
set_option maxHeartbeats 2000000 in
theorem D9 (a0:List ((((Bool×List (Int))×(Bool×List (Int)))×((Bool×List (Int))×(Bool×List (Int)))))):wtF BW Tryz.f116 (a0)=Au a0:=by kernel_rfl
theorem DS:EntOK RR BX:=Ab (X:=BW) ⟨tyOK,boolOK,eqOK⟩ (Ad (by exact ⟨⟨E5,rfl⟩,trivial⟩)) (Af (by kernel_rfl)) ⟨Tryz.func116,rfl,by kernel_rfl,rfl⟩ (fun x=>by exact D9 x)
noncomputable def BF (a0:(List (((Bool×(List Int))×(Bool×(List Int)))×((Bool×(List Int))×(Bool×(List Int)))))):Option (Bool) :=
 bif decide ((((List.length a0):Nat):Int)≤(40:Int)) then
  ((Au a0)).bind fun x0 =>
  some (!x0)
 else
 some false
noncomputable def Ds:Ent:=⟨IC,fun x=>BF x⟩
noncomputable def NC:TX:=⟨tyTab,codTab,[],[4],[BX],IC⟩
set_option maxHeartbeats 2000000 in
theorem W2 (a0:List ((((Bool×List (Int))×(Bool×List (Int)))×((Bool×List (Int))×(Bool×List (Int)))))):wtF NC Tryz.f78 (a0)=BF a0:=by kernel_rfl
theorem DQ:EntOK RR Ds:=Ab (X:=NC) ⟨tyOK,boolOK,eqOK⟩ (Ad (by exact ⟨⟨DS,rfl⟩,trivial⟩)) (Af (by kernel_rfl)) ⟨Tryz.func78,rfl,by kernel_rfl,rfl⟩ (fun x=>by exact W2 x)
noncomputable def Ck (a0:(Int×(Int×(Int×Int)))):Option (Bool) :=
 ((A3 a0.1 (-(20:Int)) (20:Int))).bind fun x0 =>
 bif x0 then
  ((A3 a0.2.1 (-(20:Int)) (20:Int))).bind fun x1 =>
  bif x1 then
   ((A3 a0.2.2.1 (1:Int) (8:Int))).bind fun x2 =>
   bif x2 then
    ((A3 a0.2.2.2 (1:Int) (8:Int))).bind fun x3 =>
    some x3
   else
   some false
  else
  some false
 else
 some false
noncomputable def GU:Ent:=⟨Gy,fun x=>Ck x⟩
noncomputable def K9:TX:=⟨tyTab,codTab,[],[4],[GB],Gy⟩
set_option maxHeartbeats 2000000 in
theorem Sc (a0:(Int×Int×Int×Int)):wtF K9 Tryz.f51 (a0)=Ck a0:=by kernel_rfl
theorem JJ:EntOK RR GU:=Ab (X:=K9) ⟨tyOK,boolOK,eqOK⟩ (Ad (by exact ⟨⟨HE,rfl⟩,trivial⟩)) (Af (by kernel_rfl)) ⟨Tryz.func51,rfl,by kernel_rfl,rfl⟩ (fun x=>by exact Sc x)
noncomputable def Bz (a0:Int):Option ((Bool×List (Int)×Bool×List (Int))) :=
 ((B2 a0)).bind fun x0 =>
 ((B2 (1:Int))).bind fun x1 =>
 some (x0.1,(x0.2,(x1.1,x1.2)))
noncomputable def Gs:Ent:=⟨Pd,fun x=>Bz x⟩
noncomputable def VS:TX:=⟨tyTab,codTab,[],[4],[H6],Pd⟩
set_option maxHeartbeats 2000000 in
theorem AA1 (a0:Int):wtF VS Tryz.f92 (a0)=Bz a0:=by kernel_rfl
theorem GC:EntOK RR Gs:=Ab (X:=VS) ⟨tyOK,boolOK,eqOK⟩ (Ad (by exact ⟨⟨I1,rfl⟩,trivial⟩)) (Af (by kernel_rfl)) ⟨Tryz.func92,rfl,by kernel_rfl,rfl⟩ (fun x=>by exact AA1 x)
noncomputable def C4 (a0:(Bool×((List Int)×(Bool×(List Int))))) (a1:(Bool×((List Int)×(Bool×(List Int))))):Option (Int) :=
 ((AV (a0.1,a0.2.1) (a1.2.2.1,a1.2.2.2))).bind fun x0 =>
 ((AV (a1.1,a1.2.1) (a0.2.2.1,a0.2.2.2))).bind fun x1 =>
 ((Cn (x0.2,x0.1) (x1.2,x1.1))).bind fun x2 =>
 some x2
noncomputable def JN:Ent:=⟨GV,fun x=>C4 x.1 x.2⟩
noncomputable def JO:TX:=⟨tyTab,codTab,[],[4],[EB,Hj],GV⟩
set_option maxHeartbeats 2000000 in
theorem TQ (a0:(Bool×List (Int)×Bool×List (Int))) (a1:(Bool×List (Int)×Bool×List (Int))):wtF JO Tryz.f171 (a0,a1)=C4 a0 a1:=by kernel_rfl
theorem RJ:EntOK RR JN:=Ab (X:=JO) ⟨tyOK,boolOK,eqOK⟩ (Ad (by exact ⟨⟨EF,rfl⟩,⟨⟨JA,rfl⟩,trivial⟩⟩)) (Af (by kernel_rfl)) ⟨Tryz.func171,rfl,by kernel_rfl,rfl⟩ (fun x=>by exact TQ x.1 x.2)
noncomputable def B5 (a0:(Bool×((List Int)×(Bool×(List Int))))) (a1:(Bool×((List Int)×(Bool×(List Int))))):Option (Bool) :=
 ((C4 (a0.1,(a0.2.1,(a0.2.2.1,a0.2.2.2))) (a1.1,(a1.2.1,(a1.2.2.1,a1.2.2.2))))).bind fun x0 =>
 some (decide (x0<(0:Int)))
noncomputable def IF:Ent:=⟨Jj,fun x=>B5 x.1 x.2⟩
noncomputable def M7:TX:=⟨tyTab,codTab,[],[4],[JN],Jj⟩
set_option maxHeartbeats 2000000 in
theorem Xm (a0:(Bool×List (Int)×Bool×List (Int))) (a1:(Bool×List (Int)×Bool×List (Int))):wtF M7 Tryz.f80 (a0,a1)=B5 a0 a1:=by kernel_rfl
theorem Mi:EntOK RR IF:=Ab (X:=M7) ⟨tyOK,boolOK,eqOK⟩ (Ad (by exact ⟨⟨RJ,rfl⟩,trivial⟩)) (Af (by kernel_rfl)) ⟨Tryz.func80,rfl,by kernel_rfl,rfl⟩ (fun x=>by exact Xm x.1 x.2)
noncomputable def AR (a0:(Bool×((List Int)×(Bool×((List Int)×(Bool×((List Int)×(Bool×(List Int))))))))) (a1:Bool):Option ((Bool×List (Int)×Bool×List (Int))) :=
 bif a1 then
  some (a0.2.2.2.2.1,(a0.2.2.2.2.2.1,(a0.2.2.2.2.2.2.1,a0.2.2.2.2.2.2.2)))
 else
 some (a0.1,(a0.2.1,(a0.2.2.1,a0.2.2.2.1)))
noncomputable def D5:Ent:=⟨D4,fun x=>AR x.1 x.2⟩
noncomputable def GY:TX:=⟨tyTab,codTab,[],[4],[],D4⟩
set_option maxHeartbeats 2000000 in
theorem ME (a0:(Bool×List (Int)×Bool×List (Int)×Bool×List (Int)×Bool×List (Int))) (a1:Bool):wtF GY Tryz.f238 (a0,a1)=AR a0 a1:=by kernel_rfl
theorem F5:EntOK RR D5:=Ab (X:=GY) ⟨tyOK,boolOK,eqOK⟩ (Ad (by exact trivial)) (Af (by kernel_rfl)) ⟨Tryz.func238,rfl,by kernel_rfl,rfl⟩ (fun x=>by exact ME x.1 x.2)
noncomputable def D3 (a0:Bool) (a1:Bool) (a2:(Bool×((List Int)×(Bool×(List Int))))) (a3:(Bool×((List Int)×(Bool×((List Int)×(Bool×((List Int)×(Bool×(List Int))))))))):Option ((Bool)×(Bool)×(Bool×List (Int)×Bool×List (Int))×Bool) :=
 bif a0 then
  ((AR (a3.1,(a3.2.1,(a3.2.2.1,(a3.2.2.2.1,(a3.2.2.2.2.1,(a3.2.2.2.2.2.1,(a3.2.2.2.2.2.2.1,a3.2.2.2.2.2.2.2))))))) a1)).bind fun x0 =>
  ((B5 (x0.1,(x0.2.1,(x0.2.2.1,x0.2.2.2))) (a2.1,(a2.2.1,(a2.2.2.1,a2.2.2.2))))).bind fun x1 =>
  some (a0,(a1,((a2.1,(a2.2.1,(a2.2.2.1,a2.2.2.2))),(!x1))))
 else
 ((AR (a3.1,(a3.2.1,(a3.2.2.1,(a3.2.2.2.1,(a3.2.2.2.2.1,(a3.2.2.2.2.2.1,(a3.2.2.2.2.2.2.1,a3.2.2.2.2.2.2.2))))))) a1)).bind fun x2 =>
 ((B5 (a2.1,(a2.2.1,(a2.2.2.1,a2.2.2.2))) (x2.1,(x2.2.1,(x2.2.2.1,x2.2.2.2))))).bind fun x3 =>
 some (a0,(a1,((a2.1,(a2.2.1,(a2.2.2.1,a2.2.2.2))),(!x3))))
noncomputable def SL:Ent:=⟨Mr,fun x=>D3 x.1 x.2.1 x.2.2.1 x.2.2.2⟩
noncomputable def Ur:TX:=⟨tyTab,codTab,[],[4],[D5,IF],Mr⟩
set_option maxHeartbeats 2000000 in
theorem Aj0 (a0:(Bool)) (a1:(Bool)) (a2:(Bool×List (Int)×Bool×List (Int))) (a3:(Bool×List (Int)×Bool×List (Int)×Bool×List (Int)×Bool×List (Int))):wtF Ur Tryz.f237 (a0,a1,a2,a3)=D3 a0 a1 a2 a3:=by kernel_rfl
theorem Y2:EntOK RR SL:=Ab (X:=Ur) ⟨tyOK,boolOK,eqOK⟩ (Ad (by exact ⟨⟨F5,rfl⟩,⟨⟨Mi,rfl⟩,trivial⟩⟩)) (Af (by kernel_rfl)) ⟨Tryz.func237,rfl,by kernel_rfl,rfl⟩ (fun x=>by exact Aj0 x.1 x.2.1 x.2.2.1 x.2.2.2)
noncomputable def Ep (a0:(Bool×(List Int))):Option ((Bool×List (Int))) :=
 ((AO (!a0.1) a0.2)).bind fun x0 =>
 some (x0.2,x0.1)
noncomputable def KE:Ent:=⟨Ki,fun x=>Ep x⟩
noncomputable def QR:TX:=⟨tyTab,codTab,[],[4],[DD],Ki⟩
set_option maxHeartbeats 2000000 in
theorem YY (a0:(Bool×List (Int))):wtF QR Tryz.f181 (a0)=Ep a0:=by kernel_rfl
theorem N5:EntOK RR KE:=Ab (X:=QR) ⟨tyOK,boolOK,eqOK⟩ (Ad (by exact ⟨⟨De,rfl⟩,trivial⟩)) (Af (by kernel_rfl)) ⟨Tryz.func181,rfl,by kernel_rfl,rfl⟩ (fun x=>by exact YY x)
noncomputable def FE (a0:(Bool×((List Int)×(Bool×(List Int))))):Option ((Bool×List (Int)×Bool×List (Int))) :=
 ((Ep (a0.1,a0.2.1))).bind fun x0 =>
 ((AO false a0.2.2.2)).bind fun x1 =>
 some (x0.1,(x0.2,(x1.2,x1.1)))
noncomputable def QK:Ent:=⟨Lb,fun x=>FE x⟩
noncomputable def QH:TX:=⟨tyTab,codTab,[],[4],[KE,DD],Lb⟩
set_option maxHeartbeats 2000000 in
theorem Yi (a0:(Bool×List (Int)×Bool×List (Int))):wtF QH Tryz.f246 (a0)=FE a0:=by kernel_rfl
theorem WU:EntOK RR QK:=Ab (X:=QH) ⟨tyOK,boolOK,eqOK⟩ (Ad (by exact ⟨⟨N5,rfl⟩,⟨⟨De,rfl⟩,trivial⟩⟩)) (Af (by kernel_rfl)) ⟨Tryz.func246,rfl,by kernel_rfl,rfl⟩ (fun x=>by exact Yi x)
noncomputable def Dc (s0:(List Int)) (s1:(List Int)) (s2:(List Int)) (s3:Int) (s4:Int):Option (((List Int)×((List Int)×((List Int)×(Int×Int)))) ⊕ (List Int)) :=
 (bif decide (s4<(maxL (List.cons (((List.length s1):Nat):Int) (List.cons (((List.length s2):Nat):Int) (List.nil:List Int))))) then
   some (Sum.inr (s0,(s1,(s2,(s3,s4)))))
  else
  bif decide (s3>(0:Int)) then
   some (Sum.inr (s0,(s1,(s2,(s3,s4)))))
  else
  some (Sum.inl (Sum.inr s0))).bind fun x0 =>
 Sum.elim
  (fun x1 =>
  some x1)
  (fun x2 =>
  (bif decide (x2.2.2.2.2<(((List.length x2.2.1):Nat):Int)) then
    ((getI x2.2.1 x2.2.2.2.2)).bind fun x3 =>
    some (Sum.inr (x2.1,(x2.2.1,(x2.2.2.1,((Go.IntKind.wrap Go.IntKind.i64 (x2.2.2.2.1 + x3)),x2.2.2.2.2)))))
   else
   some (Sum.inr (x2.1,(x2.2.1,(x2.2.2.1,(x2.2.2.2.1,x2.2.2.2.2)))))).bind fun x4 =>
  Sum.elim
   (fun x5 =>
   some x5)
   (fun x6 =>
   (bif decide (x6.2.2.2.2<(((List.length x6.2.2.1):Nat):Int)) then
     ((getI x6.2.2.1 x6.2.2.2.2)).bind fun x7 =>
     some (Sum.inr (x6.1,(x6.2.1,(x6.2.2.1,((Go.IntKind.wrap Go.IntKind.i64 (x6.2.2.2.1 + x7)),x6.2.2.2.2)))))
    else
    some (Sum.inr (x6.1,(x6.2.1,(x6.2.2.1,(x6.2.2.2.1,x6.2.2.2.2)))))).bind fun x8 =>
   Sum.elim
    (fun x9 =>
    some x9)
    (fun x10 =>
    ((appL 8 1 x10.1 (List.cons (Int.tmod x10.2.2.2.1 (65536:Int)) (List.nil:List Int)))).bind fun x11 =>
    some (Sum.inl (x11,(x10.2.1,(x10.2.2.1,((Go.IntKind.wrap Go.IntKind.i64 (Int.tdiv x10.2.2.2.1 (65536:Int))),(Go.IntKind.wrap Go.IntKind.i64 (x10.2.2.2.2 + (1:Int)))))))))
    x8)
   x4)
  x0
noncomputable def E4 (a0:(List Int)) (a1:(List Int)):Option (List (Int)) :=
 (loopM (fun (s:((List Int)×((List Int)×((List Int)×(Int×Int)))))=>Dc s.1 s.2.1 s.2.2.1 s.2.2.2.1 s.2.2.2.2) ((List.nil:List Int),(a0,(a1,((0:Int),(0:Int)))))).bind fun x0 =>
 some x0
noncomputable def Ng:Ent:=⟨IB,fun x=>E4 x.1 x.2⟩
noncomputable def M2:TX:=⟨tyTab,codTab,[],[4],[],IB⟩
set_option maxHeartbeats 2000000 in
theorem Xw (a0:List (Int)) (a1:List (Int)):wtF M2 Tryz.f183 (a0,a1)=E4 a0 a1:=by kernel_rfl
theorem UW:EntOK RR Ng:=Ab (X:=M2) ⟨tyOK,boolOK,eqOK⟩ (Ad (by exact trivial)) (Af (by kernel_rfl)) ⟨Tryz.func183,rfl,by kernel_rfl,rfl⟩ (fun x=>by exact Xw x.1 x.2)
noncomputable def EV (s0:(List Int)) (s1:(List Int)) (s2:Int) (s3:Int) (s4:Int):Option (((List Int)×((List Int)×(Int×(Int×Int)))) ⊕ (List Int)) :=
 bif decide (s4<s3) then
  ((idxI s4 (List.length s0))).bind fun x0 =>
  ((getN s0 x0)).bind fun x1 =>
  ((idxI s4 (List.length s0))).bind fun x2 =>
  ((getN s0 x2)).bind fun x3 =>
  (bif decide (s4<(((List.length s1):Nat):Int)) then
    ((idxI s4 (List.length (List.set s0 x2 (Go.IntKind.wrap Go.IntKind.i64 (x1-s2)))))).bind fun x4 =>
    ((getN (List.set s0 x2 (Go.IntKind.wrap Go.IntKind.i64 (x1-s2))) x4)).bind fun x5 =>
    ((getI s1 s4)).bind fun x6 =>
    ((idxI s4 (List.length (List.set s0 x2 (Go.IntKind.wrap Go.IntKind.i64 (x1-s2)))))).bind fun x7 =>
    ((getN (List.set s0 x2 (Go.IntKind.wrap Go.IntKind.i64 (x1-s2))) x7)).bind fun x8 =>
    some (Sum.inr ((List.set (List.set s0 x2 (Go.IntKind.wrap Go.IntKind.i64 (x1-s2))) x7 (Go.IntKind.wrap Go.IntKind.i64 (x5-x6))),(s1,(s4,(s3,s4)))))
   else
   some (Sum.inr ((List.set s0 x2 (Go.IntKind.wrap Go.IntKind.i64 (x1-s2))),(s1,(s4,(s3,s4)))))).bind fun x9 =>
  Sum.elim
   (fun x10 =>
   some x10)
   (fun x11 =>
   ((idxI x11.2.2.1 (List.length x11.1))).bind fun x12 =>
   ((getN x11.1 x12)).bind fun x13 =>
   bif decide (x13<(0:Int)) then
    ((idxI x11.2.2.1 (List.length x11.1))).bind fun x14 =>
    ((getN x11.1 x14)).bind fun x15 =>
    ((idxI x11.2.2.1 (List.length x11.1))).bind fun x16 =>
    ((getN x11.1 x16)).bind fun x17 =>
    some (Sum.inl ((List.set x11.1 x16 (Go.IntKind.wrap Go.IntKind.i64 (x15 + (65536:Int)))),(x11.2.1,((1:Int),(x11.2.2.2.1,(Go.IntKind.wrap Go.IntKind.i64 (x11.2.2.2.2 + (1:Int))))))))
   else
   some (Sum.inl (x11.1,(x11.2.1,((0:Int),(x11.2.2.2.1,(Go.IntKind.wrap Go.IntKind.i64 (x11.2.2.2.2 + (1:Int)))))))))
   x9
 else
 some (Sum.inr s0)
noncomputable def DK (a0:(List Int)) (a1:(List Int)):Option (List (Int)) :=
 ((A6 a0)).bind fun x0 =>
 (loopM (fun (s:((List Int)×((List Int)×(Int×(Int×Int)))))=>EV s.1 s.2.1 s.2.2.1 s.2.2.2.1 s.2.2.2.2) (x0,(a1,((0:Int),((((List.length x0):Nat):Int),(0:Int)))))).bind fun x1 =>
 ((Fv x1)).bind fun x2 =>
 some x2
noncomputable def N4:Ent:=⟨Jq,fun x=>DK x.1 x.2⟩
noncomputable def N9:TX:=⟨tyTab,codTab,[],[4],[Cm,Ol],Jq⟩
set_option maxHeartbeats 2000000 in
theorem X0 (a0:List (Int)) (a1:List (Int)):wtF N9 Tryz.f185 (a0,a1)=DK a0 a1:=by kernel_rfl
theorem U2:EntOK RR N4:=Ab (X:=N9) ⟨tyOK,boolOK,eqOK⟩ (Ad (by exact ⟨⟨DZ,rfl⟩,⟨⟨NL,rfl⟩,trivial⟩⟩)) (Af (by kernel_rfl)) ⟨Tryz.func185,rfl,by kernel_rfl,rfl⟩ (fun x=>by exact X0 x.1 x.2)
noncomputable def FH (a0:(Bool×(List Int))) (a1:(Bool×(List Int))):Option ((Bool×List (Int))) :=
 bif (a0.1==a1.1) then
  ((E4 a0.2 a1.2)).bind fun x0 =>
  ((AO a0.1 x0)).bind fun x1 =>
  some (x1.2,x1.1)
 else
 ((Ba a0.2 a1.2)).bind fun x2 =>
 bif decide (x2≥(0:Int)) then
  ((DK a0.2 a1.2)).bind fun x3 =>
  ((AO a0.1 x3)).bind fun x4 =>
  some (x4.2,x4.1)
 else
 ((DK a1.2 a0.2)).bind fun x5 =>
 ((AO a1.1 x5)).bind fun x6 =>
 some (x6.2,x6.1)
noncomputable def QL:Ent:=⟨KY,fun x=>FH x.1 x.2⟩
noncomputable def Qg:TX:=⟨tyTab,codTab,[],[4],[Ng,DD,Du,N4],KY⟩
set_option maxHeartbeats 2000000 in
theorem Z8 (a0:(Bool×List (Int))) (a1:(Bool×List (Int))):wtF Qg Tryz.f95 (a0,a1)=FH a0 a1:=by kernel_rfl
theorem Xs:EntOK RR QL:=Ab (X:=Qg) ⟨tyOK,boolOK,eqOK⟩ (Ad (by exact ⟨⟨UW,rfl⟩,⟨⟨De,rfl⟩,⟨⟨ET,rfl⟩,⟨⟨U2,rfl⟩,trivial⟩⟩⟩⟩)) (Af (by kernel_rfl)) ⟨Tryz.func95,rfl,by kernel_rfl,rfl⟩ (fun x=>by exact Z8 x.1 x.2)
noncomputable def Ee (a0:(Bool×(List Int))) (a1:(Bool×(List Int))):Option ((Bool×List (Int))×(Bool×List (Int))) :=
 ((Dq a0.2 a1.2)).bind fun x0 =>
 ((AO (!(a0.1==a1.1)) x0.1)).bind fun x1 =>
 ((AO a0.1 x0.2)).bind fun x2 =>
 some ((x1.2,x1.1),(x2.2,x2.1))
noncomputable def Q0:Ent:=⟨Kd,fun x=>Ee x.1 x.2⟩
noncomputable def Qe:TX:=⟨tyTab,codTab,[],[4],[IX,DD],Kd⟩
set_option maxHeartbeats 2000000 in
theorem Y4 (a0:(Bool×List (Int))) (a1:(Bool×List (Int))):wtF Qe Tryz.f182 (a0,a1)=Ee a0 a1:=by kernel_rfl
theorem W5:EntOK RR Q0:=Ab (X:=Qe) ⟨tyOK,boolOK,eqOK⟩ (Ad (by exact ⟨⟨L9,rfl⟩,⟨⟨De,rfl⟩,trivial⟩⟩)) (Af (by kernel_rfl)) ⟨Tryz.func182,rfl,by kernel_rfl,rfl⟩ (fun x=>by exact Y4 x.1 x.2)
noncomputable def Eh (a0:(Bool×(List Int))) (a1:(Bool×(List Int))):Option ((Bool×List (Int)×Bool×List (Int))) :=
 ((Ej (a0.1,a0.2) (a1.1,a1.2))).bind fun x0 =>
 (bif a1.1 then
   ((Ep (x0.1,x0.2))).bind fun x1 =>
   some (Sum.inr ((a0.1,a0.2),((a1.1,a1.2),((false,((List.nil:List Int),(false,(List.nil:List Int)))),(x1.1,x1.2)))))
  else
  some (Sum.inr ((a0.1,a0.2),((a1.1,a1.2),((false,((List.nil:List Int),(false,(List.nil:List Int)))),(x0.1,x0.2)))))).bind fun x2 =>
 Sum.elim
  (fun x3 =>
  some x3)
  (fun x4 =>
  ((Ee (x4.1.1,x4.1.2) (x4.2.2.2.1,x4.2.2.2.2))).bind fun x5 =>
  ((Ee (x4.2.1.1,x4.2.1.2) (x4.2.2.2.1,x4.2.2.2.2))).bind fun x6 =>
  some (x5.1.1,(x5.1.2,(x6.1.1,x6.1.2))))
  x2
noncomputable def Ic:Ent:=⟨O5,fun x=>Eh x.1 x.2⟩
noncomputable def Wb:TX:=⟨tyTab,codTab,[],[4],[J7,KE,Q0],O5⟩
set_option maxHeartbeats 2000000 in
theorem AA0 (a0:(Bool×List (Int))) (a1:(Bool×List (Int))):wtF Wb Tryz.f94 (a0,a1)=Eh a0 a1:=by kernel_rfl
theorem Jl:EntOK RR Ic:=Ab (X:=Wb) ⟨tyOK,boolOK,eqOK⟩ (Ad (by exact ⟨⟨OE,rfl⟩,⟨⟨N5,rfl⟩,⟨⟨W5,rfl⟩,trivial⟩⟩⟩)) (Af (by kernel_rfl)) ⟨Tryz.func94,rfl,by kernel_rfl,rfl⟩ (fun x=>by exact AA0 x.1 x.2)
noncomputable def Cb (a0:(Bool×((List Int)×(Bool×(List Int))))) (a1:(Bool×((List Int)×(Bool×(List Int))))):Option ((Bool×List (Int)×Bool×List (Int))) :=
 ((AV (a0.1,a0.2.1) (a1.2.2.1,a1.2.2.2))).bind fun x0 =>
 ((AV (a1.1,a1.2.1) (a0.2.2.1,a0.2.2.2))).bind fun x1 =>
 ((FH (x0.2,x0.1) (x1.2,x1.1))).bind fun x2 =>
 ((AV (a0.2.2.1,a0.2.2.2) (a1.2.2.1,a1.2.2.2))).bind fun x3 =>
 ((Eh (x2.1,x2.2) (x3.2,x3.1))).bind fun x4 =>
 some (x4.1,(x4.2.1,(x4.2.2.1,x4.2.2.2)))
noncomputable def FM:Ent:=⟨KR,fun x=>Cb x.1 x.2⟩
noncomputable def Rq:TX:=⟨tyTab,codTab,[],[4],[EB,QL,Ic],KR⟩
set_option maxHeartbeats 2000000 in
theorem Ys (a0:(Bool×List (Int)×Bool×List (Int))) (a1:(Bool×List (Int)×Bool×List (Int))):wtF Rq Tryz.f91 (a0,a1)=Cb a0 a1:=by kernel_rfl
theorem Gf:EntOK RR FM:=Ab (X:=Rq) ⟨tyOK,boolOK,eqOK⟩ (Ad (by exact ⟨⟨EF,rfl⟩,⟨⟨Xs,rfl⟩,⟨⟨Jl,rfl⟩,trivial⟩⟩⟩)) (Af (by kernel_rfl)) ⟨Tryz.func91,rfl,by kernel_rfl,rfl⟩ (fun x=>by exact Ys x.1 x.2)
noncomputable def CE (a0:(Bool×((List Int)×(Bool×(List Int))))) (a1:(Bool×((List Int)×(Bool×(List Int))))):Option ((Bool×List (Int)×Bool×List (Int))) :=
 ((FE (a1.1,(a1.2.1,(a1.2.2.1,a1.2.2.2))))).bind fun x0 =>
 ((Cb (a0.1,(a0.2.1,(a0.2.2.1,a0.2.2.2))) (x0.1,(x0.2.1,(x0.2.2.1,x0.2.2.2))))).bind fun x1 =>
 some (x1.1,(x1.2.1,(x1.2.2.1,x1.2.2.2)))
noncomputable def Hz:Ent:=⟨KI,fun x=>CE x.1 x.2⟩
noncomputable def Qi:TX:=⟨tyTab,codTab,[],[4],[QK,FM],KI⟩
set_option maxHeartbeats 2000000 in
theorem ZJ (a0:(Bool×List (Int)×Bool×List (Int))) (a1:(Bool×List (Int)×Bool×List (Int))):wtF Qi Tryz.f186 (a0,a1)=CE a0 a1:=by kernel_rfl
theorem Jx:EntOK RR Hz:=Ab (X:=Qi) ⟨tyOK,boolOK,eqOK⟩ (Ad (by exact ⟨⟨WU,rfl⟩,⟨⟨Gf,rfl⟩,trivial⟩⟩)) (Af (by kernel_rfl)) ⟨Tryz.func186,rfl,by kernel_rfl,rfl⟩ (fun x=>by exact ZJ x.1 x.2)
noncomputable def Df (a0:(Bool×((List Int)×(Bool×(List Int))))) (a1:(Bool×((List Int)×(Bool×(List Int))))):Option ((Bool×List (Int)×Bool×List (Int))) :=
 ((AV (a0.1,a0.2.1) (a1.2.2.1,a1.2.2.2))).bind fun x0 =>
 ((AV (a0.2.2.1,a0.2.2.2) (a1.1,a1.2.1))).bind fun x1 =>
 ((Eh (x0.2,x0.1) (x1.2,x1.1))).bind fun x2 =>
 some (x2.1,(x2.2.1,(x2.2.2.1,x2.2.2.2)))
noncomputable def Ke:Ent:=⟨J5,fun x=>Df x.1 x.2⟩
noncomputable def Qc:TX:=⟨tyTab,codTab,[],[4],[EB,Ic],J5⟩
set_option maxHeartbeats 2000000 in
theorem Yt (a0:(Bool×List (Int)×Bool×List (Int))) (a1:(Bool×List (Int)×Bool×List (Int))):wtF Qc Tryz.f121 (a0,a1)=Df a0 a1:=by kernel_rfl
theorem Ni:EntOK RR Ke:=Ab (X:=Qc) ⟨tyOK,boolOK,eqOK⟩ (Ad (by exact ⟨⟨EF,rfl⟩,⟨⟨Jl,rfl⟩,trivial⟩⟩)) (Af (by kernel_rfl)) ⟨Tryz.func121,rfl,by kernel_rfl,rfl⟩ (fun x=>by exact Yt x.1 x.2)
noncomputable def BK (a0:(Bool×((List Int)×(Bool×(List Int))))) (a1:(Bool×((List Int)×(Bool×(List Int))))):Option ((Bool×List (Int)×Bool×List (Int))) :=
 ((AV (a0.1,a0.2.1) (a1.1,a1.2.1))).bind fun x0 =>
 ((AV (a0.2.2.1,a0.2.2.2) (a1.2.2.1,a1.2.2.2))).bind fun x1 =>
 ((Eh (x0.2,x0.1) (x1.2,x1.1))).bind fun x2 =>
 some (x2.1,(x2.2.1,(x2.2.2.1,x2.2.2.2)))
noncomputable def Kn:Ent:=⟨JR,fun x=>BK x.1 x.2⟩
noncomputable def Qk:TX:=⟨tyTab,codTab,[],[4],[EB,Ic],JR⟩
set_option maxHeartbeats 2000000 in
theorem YC (a0:(Bool×List (Int)×Bool×List (Int))) (a1:(Bool×List (Int)×Bool×List (Int))):wtF Qk Tryz.f119 (a0,a1)=BK a0 a1:=by kernel_rfl
theorem N8:EntOK RR Kn:=Ab (X:=Qk) ⟨tyOK,boolOK,eqOK⟩ (Ad (by exact ⟨⟨EF,rfl⟩,⟨⟨Jl,rfl⟩,trivial⟩⟩)) (Af (by kernel_rfl)) ⟨Tryz.func119,rfl,by kernel_rfl,rfl⟩ (fun x=>by exact YC x.1 x.2)
noncomputable def Ov (a0:(Bool×((List Int)×(Bool×((List Int)×(Bool×((List Int)×(Bool×(List Int))))))))) (a1:(Bool×((List Int)×(Bool×((List Int)×(Bool×((List Int)×(Bool×(List Int))))))))) (a2:(Bool×((List Int)×(Bool×(List Int))))):Option ((Bool×List (Int)×Bool×List (Int)×Bool×List (Int)×Bool×List (Int))) :=
 ((Bz (1:Int))).bind fun x0 =>
 ((CE (x0.1,(x0.2.1,(x0.2.2.1,x0.2.2.2))) (a2.1,(a2.2.1,(a2.2.2.1,a2.2.2.2))))).bind fun x1 =>
 ((BK (x1.1,(x1.2.1,(x1.2.2.1,x1.2.2.2))) (a0.1,(a0.2.1,(a0.2.2.1,a0.2.2.2.1))))).bind fun x2 =>
 ((BK (a2.1,(a2.2.1,(a2.2.2.1,a2.2.2.2))) (a1.1,(a1.2.1,(a1.2.2.1,a1.2.2.2.1))))).bind fun x3 =>
 ((Cb (x2.1,(x2.2.1,(x2.2.2.1,x2.2.2.2))) (x3.1,(x3.2.1,(x3.2.2.1,x3.2.2.2))))).bind fun x4 =>
 ((BK (x1.1,(x1.2.1,(x1.2.2.1,x1.2.2.2))) (a0.2.2.2.2.1,(a0.2.2.2.2.2.1,(a0.2.2.2.2.2.2.1,a0.2.2.2.2.2.2.2))))).bind fun x5 =>
 ((BK (a2.1,(a2.2.1,(a2.2.2.1,a2.2.2.2))) (a1.2.2.2.2.1,(a1.2.2.2.2.2.1,(a1.2.2.2.2.2.2.1,a1.2.2.2.2.2.2.2))))).bind fun x6 =>
 ((Cb (x5.1,(x5.2.1,(x5.2.2.1,x5.2.2.2))) (x6.1,(x6.2.1,(x6.2.2.1,x6.2.2.2))))).bind fun x7 =>
 some (x4.1,(x4.2.1,(x4.2.2.1,(x4.2.2.2,(x7.1,(x7.2.1,(x7.2.2.1,x7.2.2.2)))))))
noncomputable def Aq2:Ent:=⟨XO,fun x=>Ov x.1 x.2.1 x.2.2⟩
noncomputable def Am3:TX:=⟨tyTab,codTab,[],[4],[Gs,Hz,Kn,FM],XO⟩
set_option maxHeartbeats 2000000 in
theorem AN3 (a0:(Bool×List (Int)×Bool×List (Int)×Bool×List (Int)×Bool×List (Int))) (a1:(Bool×List (Int)×Bool×List (Int)×Bool×List (Int)×Bool×List (Int))) (a2:(Bool×List (Int)×Bool×List (Int))):wtF Am3 Tryz.f120 (a0,a1,a2)=Ov a0 a1 a2:=by kernel_rfl
theorem AC6:EntOK RR Aq2:=Ab (X:=Am3) ⟨tyOK,boolOK,eqOK⟩ (Ad (by exact ⟨⟨GC,rfl⟩,⟨⟨Jx,rfl⟩,⟨⟨N8,rfl⟩,⟨⟨Gf,rfl⟩,trivial⟩⟩⟩⟩)) (Af (by kernel_rfl)) ⟨Tryz.func120,rfl,by kernel_rfl,rfl⟩ (fun x=>by exact AN3 x.1 x.2.1 x.2.2)
noncomputable def Dk (s0:Bool) (s1:(Bool×((List Int)×(Bool×(List Int))))) (s2:Bool) (s3:(List (((Bool×(List Int))×(Bool×(List Int)))×((Bool×(List Int))×(Bool×(List Int)))))) (s4:(List (((Bool×(List Int))×(Bool×(List Int)))×((Bool×(List Int))×(Bool×(List Int)))))) (s5:(List (((Bool×(List Int))×(Bool×(List Int)))×((Bool×(List Int))×(Bool×(List Int)))))) (s6:Int) (s7:Int):Option ((Bool×((Bool×((List Int)×(Bool×(List Int))))×(Bool×((List (((Bool×(List Int))×(Bool×(List Int)))×((Bool×(List Int))×(Bool×(List Int)))))×((List (((Bool×(List Int))×(Bool×(List Int)))×((Bool×(List Int))×(Bool×(List Int)))))×((List (((Bool×(List Int))×(Bool×(List Int)))×((Bool×(List Int))×(Bool×(List Int)))))×(Int×Int))))))) ⊕ (List (((Bool×(List Int))×(Bool×(List Int)))×((Bool×(List Int))×(Bool×(List Int)))))) :=
 bif decide (s7<s6) then
  ((getI s5 s7)).bind fun x0 =>
  bif ((((List.length s4):Nat):Int)==(0:Int)) then
   none
  else
  ((getI s4 (Int.tmod (Go.IntKind.wrap Go.IntKind.i64 ((Go.IntKind.wrap Go.IntKind.i64 (s7 + (((List.length s4):Nat):Int)))-(1:Int))) (((List.length s4):Nat):Int)))).bind fun x1 =>
  (((D3 s2 s0 (s1.1,(s1.2.1,(s1.2.2.1,s1.2.2.2))) (x1.1.1.1,(x1.1.1.2,(x1.1.2.1,(x1.1.2.2,(x1.2.1.1,(x1.2.1.2,(x1.2.2.1,x1.2.2.2))))))))).bind fun x2 =>
   ((D3 x2.1 x2.2.1 (x2.2.2.1.1,(x2.2.2.1.2.1,(x2.2.2.1.2.2.1,x2.2.2.1.2.2.2))) (x0.1.1.1,(x0.1.1.2,(x0.1.2.1,(x0.1.2.2,(x0.2.1.1,(x0.2.1.2,(x0.2.2.1,x0.2.2.2))))))))).bind fun x3 =>
   bif (!(x2.2.2.2==x3.2.2.2)) then
    ((AR (x1.1.1.1,(x1.1.1.2,(x1.1.2.1,(x1.1.2.2,(x1.2.1.1,(x1.2.1.2,(x1.2.2.1,x1.2.2.2))))))) x3.2.1)).bind fun x4 =>
    ((CE (x3.2.2.1.1,(x3.2.2.1.2.1,(x3.2.2.1.2.2.1,x3.2.2.1.2.2.2))) (x4.1,(x4.2.1,(x4.2.2.1,x4.2.2.2))))).bind fun x5 =>
    ((AR (x0.1.1.1,(x0.1.1.2,(x0.1.2.1,(x0.1.2.2,(x0.2.1.1,(x0.2.1.2,(x0.2.2.1,x0.2.2.2))))))) x3.2.1)).bind fun x6 =>
    ((AR (x1.1.1.1,(x1.1.1.2,(x1.1.2.1,(x1.1.2.2,(x1.2.1.1,(x1.2.1.2,(x1.2.2.1,x1.2.2.2))))))) x3.2.1)).bind fun x7 =>
    ((CE (x6.1,(x6.2.1,(x6.2.2.1,x6.2.2.2))) (x7.1,(x7.2.1,(x7.2.2.1,x7.2.2.2))))).bind fun x8 =>
    ((Df (x5.1,(x5.2.1,(x5.2.2.1,x5.2.2.2))) (x8.1,(x8.2.1,(x8.2.2.1,x8.2.2.2))))).bind fun x9 =>
    ((Ov (x1.1.1.1,(x1.1.1.2,(x1.1.2.1,(x1.1.2.2,(x1.2.1.1,(x1.2.1.2,(x1.2.2.1,x1.2.2.2))))))) (x0.1.1.1,(x0.1.1.2,(x0.1.2.1,(x0.1.2.2,(x0.2.1.1,(x0.2.1.2,(x0.2.2.1,x0.2.2.2))))))) (x9.1,(x9.2.1,(x9.2.2.1,x9.2.2.2))))).bind fun x10 =>
    ((appL 128 8 s3 (List.cons (((x10.1,x10.2.1),(x10.2.2.1,x10.2.2.2.1)),((x10.2.2.2.2.1,x10.2.2.2.2.2.1),(x10.2.2.2.2.2.2.1,x10.2.2.2.2.2.2.2))) (List.nil:List (((Bool×(List Int))×(Bool×(List Int)))×((Bool×(List Int))×(Bool×(List Int)))))))).bind fun x11 =>
    some (Sum.inr (x3.2.1,((x3.2.2.1.1,(x3.2.2.1.2.1,(x3.2.2.1.2.2.1,x3.2.2.1.2.2.2))),(x3.1,(x11,((x0.1.1.1,(x0.1.1.2,(x0.1.2.1,(x0.1.2.2,(x0.2.1.1,(x0.2.1.2,(x0.2.2.1,x0.2.2.2))))))),(s4,(s5,(s6,s7)))))))))
   else
   some (Sum.inr (x3.2.1,((x3.2.2.1.1,(x3.2.2.1.2.1,(x3.2.2.1.2.2.1,x3.2.2.1.2.2.2))),(x3.1,(s3,((x0.1.1.1,(x0.1.1.2,(x0.1.2.1,(x0.1.2.2,(x0.2.1.1,(x0.2.1.2,(x0.2.2.1,x0.2.2.2))))))),(s4,(s5,(s6,s7)))))))))).bind fun x12 =>
  Sum.elim
   (fun x13 =>
   some x13)
   (fun x14 =>
   ((D3 x14.2.2.1 x14.1 (x14.2.1.1,(x14.2.1.2.1,(x14.2.1.2.2.1,x14.2.1.2.2.2))) (x14.2.2.2.2.1.1,(x14.2.2.2.2.1.2.1,(x14.2.2.2.2.1.2.2.1,(x14.2.2.2.2.1.2.2.2.1,(x14.2.2.2.2.1.2.2.2.2.1,(x14.2.2.2.2.1.2.2.2.2.2.1,(x14.2.2.2.2.1.2.2.2.2.2.2.1,x14.2.2.2.2.1.2.2.2.2.2.2.2))))))))).bind fun x15 =>
   bif x15.2.2.2 then
    ((appL 128 8 x14.2.2.2.1 (List.cons (((x14.2.2.2.2.1.1,x14.2.2.2.2.1.2.1),(x14.2.2.2.2.1.2.2.1,x14.2.2.2.2.1.2.2.2.1)),((x14.2.2.2.2.1.2.2.2.2.1,x14.2.2.2.2.1.2.2.2.2.2.1),(x14.2.2.2.2.1.2.2.2.2.2.2.1,x14.2.2.2.2.1.2.2.2.2.2.2.2))) (List.nil:List (((Bool×(List Int))×(Bool×(List Int)))×((Bool×(List Int))×(Bool×(List Int)))))))).bind fun x16 =>
    some (Sum.inl (x15.2.1,((x15.2.2.1.1,(x15.2.2.1.2.1,(x15.2.2.1.2.2.1,x15.2.2.1.2.2.2))),(x15.1,(x16,(x14.2.2.2.2.2.1,(x14.2.2.2.2.2.2.1,(x14.2.2.2.2.2.2.2.1,(Go.IntKind.wrap Go.IntKind.i64 (x14.2.2.2.2.2.2.2.2 + (1:Int)))))))))))
   else
   some (Sum.inl (x15.2.1,((x15.2.2.1.1,(x15.2.2.1.2.1,(x15.2.2.1.2.2.1,x15.2.2.1.2.2.2))),(x15.1,(x14.2.2.2.1,(x14.2.2.2.2.2.1,(x14.2.2.2.2.2.2.1,(x14.2.2.2.2.2.2.2.1,(Go.IntKind.wrap Go.IntKind.i64 (x14.2.2.2.2.2.2.2.2 + (1:Int))))))))))))
   x12
 else
 some (Sum.inr s3)
noncomputable def FS (a0:(List (((Bool×(List Int))×(Bool×(List Int)))×((Bool×(List Int))×(Bool×(List Int)))))) (a1:Bool) (a2:Bool) (a3:(Bool×((List Int)×(Bool×(List Int))))):Option (List ((((Bool×List (Int))×(Bool×List (Int)))×((Bool×List (Int))×(Bool×List (Int)))))) :=
 (loopM (fun (s:(Bool×((Bool×((List Int)×(Bool×(List Int))))×(Bool×((List (((Bool×(List Int))×(Bool×(List Int)))×((Bool×(List Int))×(Bool×(List Int)))))×((List (((Bool×(List Int))×(Bool×(List Int)))×((Bool×(List Int))×(Bool×(List Int)))))×((List (((Bool×(List Int))×(Bool×(List Int)))×((Bool×(List Int))×(Bool×(List Int)))))×(Int×Int))))))))=>Dk s.1 s.2.1 s.2.2.1 s.2.2.2.1 s.2.2.2.2.1 s.2.2.2.2.2.1 s.2.2.2.2.2.2.1 s.2.2.2.2.2.2.2) (a1,((a3.1,(a3.2.1,(a3.2.2.1,a3.2.2.2))),(a2,((List.nil:List (((Bool×(List Int))×(Bool×(List Int)))×((Bool×(List Int))×(Bool×(List Int))))),(a0,(a0,((((List.length a0):Nat):Int),(0:Int))))))))).bind fun x0 =>
 some x0
noncomputable def Yz:Ent:=⟨SZ,fun x=>FS x.1 x.2.1 x.2.2.1 x.2.2.2⟩
noncomputable def Yr:TX:=⟨tyTab,codTab,[],[4],[SL,D5,Hz,Ke,Aq2],SZ⟩
set_option maxHeartbeats 2000000 in
theorem AI0 (a0:List ((((Bool×List (Int))×(Bool×List (Int)))×((Bool×List (Int))×(Bool×List (Int)))))) (a1:Bool) (a2:Bool) (a3:(Bool×List (Int)×Bool×List (Int))):wtF Yr Tryz.f172 (a0,a1,a2,a3)=FS a0 a1 a2 a3:=by kernel_rfl
theorem At7:EntOK RR Yz:=Ab (X:=Yr) ⟨tyOK,boolOK,eqOK⟩ (Ad (by exact ⟨⟨Y2,rfl⟩,⟨⟨F5,rfl⟩,⟨⟨Jx,rfl⟩,⟨⟨Ni,rfl⟩,⟨⟨AC6,rfl⟩,trivial⟩⟩⟩⟩⟩)) (Af (by kernel_rfl)) ⟨Tryz.func172,rfl,by kernel_rfl,rfl⟩ (fun x=>by exact AI0 x.1 x.2.1 x.2.2.1 x.2.2.2)
noncomputable def FD (a0:(List (((Bool×(List Int))×(Bool×(List Int)))×((Bool×(List Int))×(Bool×(List Int)))))) (a1:(Bool×((List Int)×(Bool×((List Int)×(Bool×((List Int)×(Bool×(List Int))))))))) (a2:(Bool×((List Int)×(Bool×((List Int)×(Bool×((List Int)×(Bool×(List Int))))))))):Option (List ((((Bool×List (Int))×(Bool×List (Int)))×((Bool×List (Int))×(Bool×List (Int)))))) :=
 ((FS a0 false true (a1.1,(a1.2.1,(a1.2.2.1,a1.2.2.2.1))))).bind fun x0 =>
 ((FS x0 false false (a2.1,(a2.2.1,(a2.2.2.1,a2.2.2.2.1))))).bind fun x1 =>
 ((FS x1 true true (a1.2.2.2.2.1,(a1.2.2.2.2.2.1,(a1.2.2.2.2.2.2.1,a1.2.2.2.2.2.2.2))))).bind fun x2 =>
 ((FS x2 true false (a2.2.2.2.2.1,(a2.2.2.2.2.2.1,(a2.2.2.2.2.2.2.1,a2.2.2.2.2.2.2.2))))).bind fun x3 =>
 some x3
noncomputable def QI:Ent:=⟨K4,fun x=>FD x.1 x.2.1 x.2.2⟩
noncomputable def Q4:TX:=⟨tyTab,codTab,[],[4],[Yz],K4⟩
set_option maxHeartbeats 2000000 in
theorem YA (a0:List ((((Bool×List (Int))×(Bool×List (Int)))×((Bool×List (Int))×(Bool×List (Int)))))) (a1:(Bool×List (Int)×Bool×List (Int)×Bool×List (Int)×Bool×List (Int))) (a2:(Bool×List (Int)×Bool×List (Int)×Bool×List (Int)×Bool×List (Int))):wtF Q4 Tryz.f82 (a0,a1,a2)=FD a0 a1 a2:=by kernel_rfl
theorem W6:EntOK RR QI:=Ab (X:=Q4) ⟨tyOK,boolOK,eqOK⟩ (Ad (by exact ⟨⟨At7,rfl⟩,trivial⟩)) (Af (by kernel_rfl)) ⟨Tryz.func82,rfl,by kernel_rfl,rfl⟩ (fun x=>by exact YA x.1 x.2.1 x.2.2)
noncomputable def Fc (a0:(Bool×((List Int)×(Bool×(List Int))))):Option ((Bool×List (Int)×Bool×List (Int))) :=
 ((AO a0.1 a0.2.1)).bind fun x0 =>
 ((AO false a0.2.2.2)).bind fun x1 =>
 some (x0.2,(x0.1,(x1.2,x1.1)))
noncomputable def Tn:Ent:=⟨MY,fun x=>Fc x⟩
noncomputable def TJ:TX:=⟨tyTab,codTab,[],[4],[DD],MY⟩
set_option maxHeartbeats 2000000 in
theorem Ah4 (a0:(Bool×List (Int)×Bool×List (Int))):wtF TJ Tryz.f224 (a0)=Fc a0:=by kernel_rfl
theorem Zb:EntOK RR Tn:=Ab (X:=TJ) ⟨tyOK,boolOK,eqOK⟩ (Ad (by exact ⟨⟨De,rfl⟩,trivial⟩)) (Af (by kernel_rfl)) ⟨Tryz.func224,rfl,by kernel_rfl,rfl⟩ (fun x=>by exact Ah4 x)
noncomputable def Ht (a0:(Bool×((List Int)×(Bool×((List Int)×(Bool×((List Int)×(Bool×(List Int))))))))):Option ((Bool×List (Int)×Bool×List (Int)×Bool×List (Int)×Bool×List (Int))) :=
 ((Fc (a0.1,(a0.2.1,(a0.2.2.1,a0.2.2.2.1))))).bind fun x0 =>
 ((Fc (a0.2.2.2.2.1,(a0.2.2.2.2.2.1,(a0.2.2.2.2.2.2.1,a0.2.2.2.2.2.2.2))))).bind fun x1 =>
 some (x0.1,(x0.2.1,(x0.2.2.1,(x0.2.2.2,(x1.1,(x1.2.1,(x1.2.2.1,x1.2.2.2)))))))
noncomputable def S3:Ent:=⟨MR,fun x=>Ht x⟩
noncomputable def Uf:TX:=⟨tyTab,codTab,[],[4],[Tn],MR⟩
set_option maxHeartbeats 2000000 in
theorem Aj1 (a0:(Bool×List (Int)×Bool×List (Int)×Bool×List (Int)×Bool×List (Int))):wtF Uf Tryz.f189 (a0)=Ht a0:=by kernel_rfl
theorem Zo:EntOK RR S3:=Ab (X:=Uf) ⟨tyOK,boolOK,eqOK⟩ (Ad (by exact ⟨⟨Zb,rfl⟩,trivial⟩)) (Af (by kernel_rfl)) ⟨Tryz.func189,rfl,by kernel_rfl,rfl⟩ (fun x=>by exact Aj1 x)
noncomputable def Ce (s0:(List (((Bool×(List Int))×(Bool×(List Int)))×((Bool×(List Int))×(Bool×(List Int)))))) (s1:(List (((Bool×(List Int))×(Bool×(List Int)))×((Bool×(List Int))×(Bool×(List Int)))))) (s2:Int) (s3:Int):Option (((List (((Bool×(List Int))×(Bool×(List Int)))×((Bool×(List Int))×(Bool×(List Int)))))×((List (((Bool×(List Int))×(Bool×(List Int)))×((Bool×(List Int))×(Bool×(List Int)))))×(Int×Int))) ⊕ (List (((Bool×(List Int))×(Bool×(List Int)))×((Bool×(List Int))×(Bool×(List Int)))))) :=
 bif decide (s3<s2) then
  ((getI s1 s3)).bind fun x0 =>
  ((Ht (x0.1.1.1,(x0.1.1.2,(x0.1.2.1,(x0.1.2.2,(x0.2.1.1,(x0.2.1.2,(x0.2.2.1,x0.2.2.2))))))))).bind fun x1 =>
  ((appL 128 8 s0 (List.cons (((x1.1,x1.2.1),(x1.2.2.1,x1.2.2.2.1)),((x1.2.2.2.2.1,x1.2.2.2.2.2.1),(x1.2.2.2.2.2.2.1,x1.2.2.2.2.2.2.2))) (List.nil:List (((Bool×(List Int))×(Bool×(List Int)))×((Bool×(List Int))×(Bool×(List Int)))))))).bind fun x2 =>
  some (Sum.inl (x2,(s1,(s2,(Go.IntKind.wrap Go.IntKind.i64 (s3 + (1:Int)))))))
 else
 some (Sum.inr s0)
noncomputable def FT (a0:(List (((Bool×(List Int))×(Bool×(List Int)))×((Bool×(List Int))×(Bool×(List Int)))))):Option (List ((((Bool×List (Int))×(Bool×List (Int)))×((Bool×List (Int))×(Bool×List (Int)))))) :=
 (loopM (fun (s:((List (((Bool×(List Int))×(Bool×(List Int)))×((Bool×(List Int))×(Bool×(List Int)))))×((List (((Bool×(List Int))×(Bool×(List Int)))×((Bool×(List Int))×(Bool×(List Int)))))×(Int×Int))))=>Ce s.1 s.2.1 s.2.2.1 s.2.2.2) ((List.nil:List (((Bool×(List Int))×(Bool×(List Int)))×((Bool×(List Int))×(Bool×(List Int))))),(a0,((((List.length a0):Nat):Int),(0:Int))))).bind fun x0 =>
 some x0
noncomputable def PX:Ent:=⟨KA,fun x=>FT x⟩
noncomputable def Q8:TX:=⟨tyTab,codTab,[],[4],[S3],KA⟩
set_option maxHeartbeats 2000000 in
theorem Zf (a0:List ((((Bool×List (Int))×(Bool×List (Int)))×((Bool×List (Int))×(Bool×List (Int)))))):wtF Q8 Tryz.f109 (a0)=FT a0:=by kernel_rfl
theorem XF:EntOK RR PX:=Ab (X:=Q8) ⟨tyOK,boolOK,eqOK⟩ (Ad (by exact ⟨⟨Zo,rfl⟩,trivial⟩)) (Af (by kernel_rfl)) ⟨Tryz.func109,rfl,by kernel_rfl,rfl⟩ (fun x=>by exact Zf x)
noncomputable def CR (a0:(List (((Bool×(List Int))×(Bool×(List Int)))×((Bool×(List Int))×(Bool×(List Int)))))):Option (List ((((Bool×List (Int))×(Bool×List (Int)))×((Bool×List (Int))×(Bool×List (Int)))))×Bool) :=
 ((BF a0)).bind fun x0 =>
 bif (!x0) then
  some ((List.nil:List (((Bool×(List Int))×(Bool×(List Int)))×((Bool×(List Int))×(Bool×(List Int))))),false)
 else
 ((FT a0)).bind fun x1 =>
 some (x1,true)
noncomputable def JD:Ent:=⟨FU,fun x=>CR x⟩
noncomputable def JK:TX:=⟨tyTab,codTab,[],[4],[Ds,PX],FU⟩
set_option maxHeartbeats 2000000 in
theorem Ru (a0:List ((((Bool×List (Int))×(Bool×List (Int)))×((Bool×List (Int))×(Bool×List (Int)))))):wtF JK Tryz.f81 (a0)=CR a0:=by kernel_rfl
theorem Pt:EntOK RR JD:=Ab (X:=JK) ⟨tyOK,boolOK,eqOK⟩ (Ad (by exact ⟨⟨DQ,rfl⟩,⟨⟨XF,rfl⟩,trivial⟩⟩)) (Af (by kernel_rfl)) ⟨Tryz.func81,rfl,by kernel_rfl,rfl⟩ (fun x=>by exact Ru x)
noncomputable def AU (a0:(List (((Bool×(List Int))×(Bool×(List Int)))×((Bool×(List Int))×(Bool×(List Int)))))) (a1:(Bool×((List Int)×(Bool×((List Int)×(Bool×((List Int)×(Bool×(List Int))))))))) (a2:(Bool×((List Int)×(Bool×((List Int)×(Bool×((List Int)×(Bool×(List Int))))))))):Option (List ((((Bool×List (Int))×(Bool×List (Int)))×((Bool×List (Int))×(Bool×List (Int)))))×Bool) :=
 ((BF a0)).bind fun x0 =>
 bif (!x0) then
  some ((List.nil:List (((Bool×(List Int))×(Bool×(List Int)))×((Bool×(List Int))×(Bool×(List Int))))),false)
 else
 ((Dx (a1.1,(a1.2.1,(a1.2.2.1,(a1.2.2.2.1,(a1.2.2.2.2.1,(a1.2.2.2.2.2.1,(a1.2.2.2.2.2.2.1,a1.2.2.2.2.2.2.2))))))) (2:Int))).bind fun x1 =>
 bif (!x1) then
  some ((List.nil:List (((Bool×(List Int))×(Bool×(List Int)))×((Bool×(List Int))×(Bool×(List Int))))),false)
 else
 ((Dx (a2.1,(a2.2.1,(a2.2.2.1,(a2.2.2.2.1,(a2.2.2.2.2.1,(a2.2.2.2.2.2.1,(a2.2.2.2.2.2.2.1,a2.2.2.2.2.2.2.2))))))) (2:Int))).bind fun x2 =>
 bif (!x2) then
  some ((List.nil:List (((Bool×(List Int))×(Bool×(List Int)))×((Bool×(List Int))×(Bool×(List Int))))),false)
 else
 ((B5 (a2.1,(a2.2.1,(a2.2.2.1,a2.2.2.2.1))) (a1.1,(a1.2.1,(a1.2.2.1,a1.2.2.2.1))))).bind fun x3 =>
 bif x3 then
  some ((List.nil:List (((Bool×(List Int))×(Bool×(List Int)))×((Bool×(List Int))×(Bool×(List Int))))),false)
 else
 ((B5 (a2.2.2.2.2.1,(a2.2.2.2.2.2.1,(a2.2.2.2.2.2.2.1,a2.2.2.2.2.2.2.2))) (a1.2.2.2.2.1,(a1.2.2.2.2.2.1,(a1.2.2.2.2.2.2.1,a1.2.2.2.2.2.2.2))))).bind fun x4 =>
 bif x4 then
  some ((List.nil:List (((Bool×(List Int))×(Bool×(List Int)))×((Bool×(List Int))×(Bool×(List Int))))),false)
 else
 ((FD a0 (a1.1,(a1.2.1,(a1.2.2.1,(a1.2.2.2.1,(a1.2.2.2.2.1,(a1.2.2.2.2.2.1,(a1.2.2.2.2.2.2.1,a1.2.2.2.2.2.2.2))))))) (a2.1,(a2.2.1,(a2.2.2.1,(a2.2.2.2.1,(a2.2.2.2.2.1,(a2.2.2.2.2.2.1,(a2.2.2.2.2.2.2.1,a2.2.2.2.2.2.2.2))))))))).bind fun x5 =>
 ((CR x5)).bind fun x6 =>
 some (x6.1,x6.2)
noncomputable def K6:Ent:=⟨Kq,fun x=>AU x.1 x.2.1 x.2.2⟩
noncomputable def QC:TX:=⟨tyTab,codTab,[],[4],[Ds,PU,IF,QI,JD],Kq⟩
set_option maxHeartbeats 2000000 in
theorem Z6 (a0:List ((((Bool×List (Int))×(Bool×List (Int)))×((Bool×List (Int))×(Bool×List (Int)))))) (a1:(Bool×List (Int)×Bool×List (Int)×Bool×List (Int)×Bool×List (Int))) (a2:(Bool×List (Int)×Bool×List (Int)×Bool×List (Int)×Bool×List (Int))):wtF QC Tryz.f9 (a0,a1,a2)=AU a0 a1 a2:=by kernel_rfl
theorem Ow:EntOK RR K6:=Ab (X:=QC) ⟨tyOK,boolOK,eqOK⟩ (Ad (by exact ⟨⟨DQ,rfl⟩,⟨⟨Ud,rfl⟩,⟨⟨Mi,rfl⟩,⟨⟨W6,rfl⟩,⟨⟨Pt,rfl⟩,trivial⟩⟩⟩⟩⟩)) (Af (by kernel_rfl)) ⟨Tryz.func9,rfl,by kernel_rfl,rfl⟩ (fun x=>by exact Z6 x.1 x.2.1 x.2.2)
noncomputable def EJ (a0:(Bool×((List Int)×(Bool×(List Int))))):Option ((Bool×List (Int)×Bool×List (Int))) :=
 ((Bz (2:Int))).bind fun x0 =>
 ((Df (a0.1,(a0.2.1,(a0.2.2.1,a0.2.2.2))) (x0.1,(x0.2.1,(x0.2.2.1,x0.2.2.2))))).bind fun x1 =>
 some (x1.1,(x1.2.1,(x1.2.2.1,x1.2.2.2)))
noncomputable def N1:Ent:=⟨Je,fun x=>EJ x⟩
noncomputable def Om:TX:=⟨tyTab,codTab,[],[4],[Gs,Ke],Je⟩
set_option maxHeartbeats 2000000 in
theorem WS (a0:(Bool×List (Int)×Bool×List (Int))):wtF Om Tryz.f126 (a0)=EJ a0:=by kernel_rfl
theorem UQ:EntOK RR N1:=Ab (X:=Om) ⟨tyOK,boolOK,eqOK⟩ (Ad (by exact ⟨⟨GC,rfl⟩,⟨⟨Ni,rfl⟩,trivial⟩⟩)) (Af (by kernel_rfl)) ⟨Tryz.func126,rfl,by kernel_rfl,rfl⟩ (fun x=>by exact WS x)
noncomputable def AT (s0:(Bool×((List Int)×(Bool×(List Int))))) (s1:(Bool×((List Int)×(Bool×(List Int))))) (s2:(List (((Bool×(List Int))×(Bool×(List Int)))×((Bool×(List Int))×(Bool×(List Int)))))) (s3:(List (((Bool×(List Int))×(Bool×(List Int)))×((Bool×(List Int))×(Bool×(List Int)))))) (s4:Int) (s5:Int):Option (((Bool×((List Int)×(Bool×(List Int))))×((Bool×((List Int)×(Bool×(List Int))))×((List (((Bool×(List Int))×(Bool×(List Int)))×((Bool×(List Int))×(Bool×(List Int)))))×((List (((Bool×(List Int))×(Bool×(List Int)))×((Bool×(List Int))×(Bool×(List Int)))))×(Int×Int))))) ⊕ ((Bool×((List Int)×(Bool×(List Int))))×(Bool×((List Int)×(Bool×(List Int)))))) :=
 bif decide (s5<s4) then
  ((getI s3 s5)).bind fun x0 =>
  bif ((((List.length s2):Nat):Int)==(0:Int)) then
   none
  else
  ((getI s2 (Int.tmod (Go.IntKind.wrap Go.IntKind.i64 (s5 + (1:Int))) (((List.length s2):Nat):Int)))).bind fun x1 =>
  ((BK (x0.1.1.1,(x0.1.1.2,(x0.1.2.1,x0.1.2.2))) (x1.2.1.1,(x1.2.1.2,(x1.2.2.1,x1.2.2.2))))).bind fun x2 =>
  ((BK (x1.1.1.1,(x1.1.1.2,(x1.1.2.1,x1.1.2.2))) (x0.2.1.1,(x0.2.1.2,(x0.2.2.1,x0.2.2.2))))).bind fun x3 =>
  ((CE (x2.1,(x2.2.1,(x2.2.2.1,x2.2.2.2))) (x3.1,(x3.2.1,(x3.2.2.1,x3.2.2.2))))).bind fun x4 =>
  ((Cb (s1.1,(s1.2.1,(s1.2.2.1,s1.2.2.2))) (x4.1,(x4.2.1,(x4.2.2.1,x4.2.2.2))))).bind fun x5 =>
  some (Sum.inl ((s0.1,(s0.2.1,(s0.2.2.1,s0.2.2.2))),((x5.1,(x5.2.1,(x5.2.2.1,x5.2.2.2))),(s2,(s3,(s4,(Go.IntKind.wrap Go.IntKind.i64 (s5 + (1:Int)))))))))
 else
 some (Sum.inr ((s0.1,(s0.2.1,(s0.2.2.1,s0.2.2.2))),(s1.1,(s1.2.1,(s1.2.2.1,s1.2.2.2)))))
noncomputable def EN (a0:(List (((Bool×(List Int))×(Bool×(List Int)))×((Bool×(List Int))×(Bool×(List Int)))))):Option ((Bool×List (Int)×Bool×List (Int))) :=
 ((Bz (0:Int))).bind fun x0 =>
 (loopM (fun (s:((Bool×((List Int)×(Bool×(List Int))))×((Bool×((List Int)×(Bool×(List Int))))×((List (((Bool×(List Int))×(Bool×(List Int)))×((Bool×(List Int))×(Bool×(List Int)))))×((List (((Bool×(List Int))×(Bool×(List Int)))×((Bool×(List Int))×(Bool×(List Int)))))×(Int×Int))))))=>AT s.1 s.2.1 s.2.2.1 s.2.2.2.1 s.2.2.2.2.1 s.2.2.2.2.2) ((false,((List.nil:List Int),(false,(List.nil:List Int)))),((x0.1,(x0.2.1,(x0.2.2.1,x0.2.2.2))),(a0,(a0,((((List.length a0):Nat):Int),(0:Int))))))).bind fun x1 =>
 ((EJ (x1.2.1,(x1.2.2.1,(x1.2.2.2.1,x1.2.2.2.2))))).bind fun x2 =>
 some (x2.1,(x2.2.1,(x2.2.2.1,x2.2.2.2)))
noncomputable def Nc:Ent:=⟨IT,fun x=>EN x⟩
noncomputable def NI:TX:=⟨tyTab,codTab,[],[4],[Gs,Kn,Hz,FM,N1],IT⟩
set_option maxHeartbeats 2000000 in
theorem Yc (a0:List ((((Bool×List (Int))×(Bool×List (Int)))×((Bool×List (Int))×(Bool×List (Int)))))):wtF NI Tryz.f96 (a0)=EN a0:=by kernel_rfl
theorem UZ:EntOK RR Nc:=Ab (X:=NI) ⟨tyOK,boolOK,eqOK⟩ (Ad (by exact ⟨⟨GC,rfl⟩,⟨⟨N8,rfl⟩,⟨⟨Jx,rfl⟩,⟨⟨Gf,rfl⟩,⟨⟨UQ,rfl⟩,trivial⟩⟩⟩⟩⟩)) (Af (by kernel_rfl)) ⟨Tryz.func96,rfl,by kernel_rfl,rfl⟩ (fun x=>by exact Yc x)
noncomputable def CA (a0:(Bool×((List Int)×(Bool×(List Int))))):Option ((Bool×List (Int)×Bool×List (Int))×Bool) :=
 ((A1 (a0.1,(a0.2.1,(a0.2.2.1,a0.2.2.2))) (40:Int))).bind fun x0 =>
 bif (!x0) then
  some ((false,((List.nil:List Int),(false,(List.nil:List Int)))),false)
 else
 some ((a0.1,(a0.2.1,(a0.2.2.1,a0.2.2.2))),true)
noncomputable def He:Ent:=⟨Hd,fun x=>CA x⟩
noncomputable def Ka:TX:=⟨tyTab,codTab,[],[4],[FY],Hd⟩
set_option maxHeartbeats 2000000 in
theorem Ta (a0:(Bool×List (Int)×Bool×List (Int))):wtF Ka Tryz.f93 (a0)=CA a0:=by kernel_rfl
theorem JG:EntOK RR He:=Ab (X:=Ka) ⟨tyOK,boolOK,eqOK⟩ (Ad (by exact ⟨⟨HW,rfl⟩,trivial⟩)) (Af (by kernel_rfl)) ⟨Tryz.func93,rfl,by kernel_rfl,rfl⟩ (fun x=>by exact Ta x)
noncomputable def B6 (a0:(List (((Bool×(List Int))×(Bool×(List Int)))×((Bool×(List Int))×(Bool×(List Int)))))):Option ((Bool×List (Int)×Bool×List (Int))×Bool) :=
 ((BF a0)).bind fun x0 =>
 bif (!x0) then
  some ((false,((List.nil:List Int),(false,(List.nil:List Int)))),false)
 else
 ((EN a0)).bind fun x1 =>
 ((CA (x1.1,(x1.2.1,(x1.2.2.1,x1.2.2.2))))).bind fun x2 =>
 some ((x2.1.1,(x2.1.2.1,(x2.1.2.2.1,x2.1.2.2.2))),x2.2)
noncomputable def IU:Ent:=⟨Ju,fun x=>B6 x⟩
noncomputable def Nw:TX:=⟨tyTab,codTab,[],[4],[Ds,Nc,He],Ju⟩
set_option maxHeartbeats 2000000 in
theorem W4 (a0:List ((((Bool×List (Int))×(Bool×List (Int)))×((Bool×List (Int))×(Bool×List (Int)))))):wtF Nw Tryz.f13 (a0)=B6 a0:=by kernel_rfl
theorem L2:EntOK RR IU:=Ab (X:=Nw) ⟨tyOK,boolOK,eqOK⟩ (Ad (by exact ⟨⟨DQ,rfl⟩,⟨⟨UZ,rfl⟩,⟨⟨JG,rfl⟩,trivial⟩⟩⟩)) (Af (by kernel_rfl)) ⟨Tryz.func13,rfl,by kernel_rfl,rfl⟩ (fun x=>by exact W4 x)
noncomputable def Ca (a0:(List (((Bool×(List Int))×(Bool×(List Int)))×((Bool×(List Int))×(Bool×(List Int)))))) (a1:Int) (a2:Int):Option ((Bool×List (Int)×Bool×List (Int))×Bool) :=
 ((Bz a1)).bind fun x0 =>
 ((Bz a2)).bind fun x1 =>
 ((Bz (Go.IntKind.wrap Go.IntKind.i64 (a1 + (1:Int))))).bind fun x2 =>
 ((Bz (Go.IntKind.wrap Go.IntKind.i64 (a2 + (1:Int))))).bind fun x3 =>
 ((AU a0 (x0.1,(x0.2.1,(x0.2.2.1,(x0.2.2.2,(x1.1,(x1.2.1,(x1.2.2.1,x1.2.2.2))))))) (x2.1,(x2.2.1,(x2.2.2.1,(x2.2.2.2,(x3.1,(x3.2.1,(x3.2.2.1,x3.2.2.2))))))))).bind fun x4 =>
 bif (!x4.2) then
  some ((false,((List.nil:List Int),(false,(List.nil:List Int)))),false)
 else
 ((B6 x4.1)).bind fun x5 =>
 some ((x5.1.1,(x5.1.2.1,(x5.1.2.2.1,x5.1.2.2.2))),x5.2)
noncomputable def Kw:Ent:=⟨Le,fun x=>Ca x.1 x.2.1 x.2.2⟩
noncomputable def P4:TX:=⟨tyTab,codTab,[],[4],[Gs,K6,IU],Le⟩
set_option maxHeartbeats 2000000 in
theorem YM (a0:List ((((Bool×List (Int))×(Bool×List (Int)))×((Bool×List (Int))×(Bool×List (Int)))))) (a1:Int) (a2:Int):wtF P4 Tryz.f137 (a0,a1,a2)=Ca a0 a1 a2:=by kernel_rfl
theorem OC:EntOK RR Kw:=Ab (X:=P4) ⟨tyOK,boolOK,eqOK⟩ (Ad (by exact ⟨⟨GC,rfl⟩,⟨⟨Ow,rfl⟩,⟨⟨L2,rfl⟩,trivial⟩⟩⟩)) (Af (by kernel_rfl)) ⟨Tryz.func137,rfl,by kernel_rfl,rfl⟩ (fun x=>by exact YM x.1 x.2.1 x.2.2)
noncomputable def Bj (s0:(Int×(Int×(Int×Int)))) (s1:(List ((Bool×(List Int))×(Bool×(List Int))))) (s2:(List (((Bool×(List Int))×(Bool×(List Int)))×((Bool×(List Int))×(Bool×(List Int)))))) (s3:Int) (s4:Int):Option (((Int×(Int×(Int×Int)))×((List ((Bool×(List Int))×(Bool×(List Int))))×((List (((Bool×(List Int))×(Bool×(List Int)))×((Bool×(List Int))×(Bool×(List Int)))))×(Int×Int)))) ⊕ (((Int×(Int×(Int×Int)))×((List ((Bool×(List Int))×(Bool×(List Int))))×((List (((Bool×(List Int))×(Bool×(List Int)))×((Bool×(List Int))×(Bool×(List Int)))))×Int))) ⊕ ((List ((Bool×(List Int))×(Bool×(List Int))))×Bool))) :=
 bif decide (s4<(Go.IntKind.wrap Go.IntKind.i64 (s0.1 + s0.2.2.1))) then
  ((Ca s2 s4 s3)).bind fun x0 =>
  bif (!x0.2) then
   some (Sum.inr (Sum.inr ((List.nil:List ((Bool×(List Int))×(Bool×(List Int)))),false)))
  else
  ((appL 64 4 s1 (List.cons ((x0.1.1,x0.1.2.1),(x0.1.2.2.1,x0.1.2.2.2)) (List.nil:List ((Bool×(List Int))×(Bool×(List Int))))))).bind fun x1 =>
  some (Sum.inl ((s0.1,(s0.2.1,(s0.2.2.1,s0.2.2.2))),(x1,(s2,(s3,(Go.IntKind.wrap Go.IntKind.i64 (s4 + (1:Int))))))))
 else
 some (Sum.inr (Sum.inl ((s0.1,(s0.2.1,(s0.2.2.1,s0.2.2.2))),(s1,(s2,s3)))))
noncomputable def AZ (s0:(Int×(Int×(Int×Int)))) (s1:(List ((Bool×(List Int))×(Bool×(List Int))))) (s2:(List (((Bool×(List Int))×(Bool×(List Int)))×((Bool×(List Int))×(Bool×(List Int)))))) (s3:Int):Option (((Int×(Int×(Int×Int)))×((List ((Bool×(List Int))×(Bool×(List Int))))×((List (((Bool×(List Int))×(Bool×(List Int)))×((Bool×(List Int))×(Bool×(List Int)))))×Int))) ⊕ ((List ((Bool×(List Int))×(Bool×(List Int)))) ⊕ ((List ((Bool×(List Int))×(Bool×(List Int))))×Bool))) :=
 bif decide (s3<(Go.IntKind.wrap Go.IntKind.i64 (s0.2.1 + s0.2.2.2))) then
  (loopM (fun (s:((Int×(Int×(Int×Int)))×((List ((Bool×(List Int))×(Bool×(List Int))))×((List (((Bool×(List Int))×(Bool×(List Int)))×((Bool×(List Int))×(Bool×(List Int)))))×(Int×Int)))))=>Bj s.1 s.2.1 s.2.2.1 s.2.2.2.1 s.2.2.2.2) ((s0.1,(s0.2.1,(s0.2.2.1,s0.2.2.2))),(s1,(s2,(s3,s0.1))))).bind fun x0 =>
  Sum.elim
   (fun x1 =>
   some (Sum.inl ((x1.1.1,(x1.1.2.1,(x1.1.2.2.1,x1.1.2.2.2))),(x1.2.1,(x1.2.2.1,(Go.IntKind.wrap Go.IntKind.i64 (x1.2.2.2 + (1:Int))))))))
   (fun x2 =>
   some (Sum.inr (Sum.inr (x2.1,x2.2))))
   x0
 else
 some (Sum.inr (Sum.inl s1))
noncomputable def BG (a0:(List (((Bool×(List Int))×(Bool×(List Int)))×((Bool×(List Int))×(Bool×(List Int)))))) (a1:(Int×(Int×(Int×Int)))):Option (List (((Bool×List (Int))×(Bool×List (Int))))×Bool) :=
 ((BF a0)).bind fun x0 =>
 bif (!x0) then
  some ((List.nil:List ((Bool×(List Int))×(Bool×(List Int)))),false)
 else
 ((Ck (a1.1,(a1.2.1,(a1.2.2.1,a1.2.2.2))))).bind fun x1 =>
 bif (!x1) then
  some ((List.nil:List ((Bool×(List Int))×(Bool×(List Int)))),false)
 else
 (loopM (fun (s:((Int×(Int×(Int×Int)))×((List ((Bool×(List Int))×(Bool×(List Int))))×((List (((Bool×(List Int))×(Bool×(List Int)))×((Bool×(List Int))×(Bool×(List Int)))))×Int))))=>AZ s.1 s.2.1 s.2.2.1 s.2.2.2) ((a1.1,(a1.2.1,(a1.2.2.1,a1.2.2.2))),((List.nil:List ((Bool×(List Int))×(Bool×(List Int)))),(a0,a1.2.1)))).bind fun x2 =>
 Sum.elim
  (fun x3 =>
  some (x3,true))
  (fun x4 =>
  some (x4.1,x4.2))
  x2
noncomputable def M4:Ent:=⟨Jh,fun x=>BG x.1 x.2⟩
noncomputable def Nz:TX:=⟨tyTab,codTab,[],[4],[Ds,GU,Kw],Jh⟩
set_option maxHeartbeats 2000000 in
theorem XM (a0:List ((((Bool×List (Int))×(Bool×List (Int)))×((Bool×List (Int))×(Bool×List (Int)))))) (a1:(Int×Int×Int×Int)):wtF Nz Tryz.f48 (a0,a1)=BG a0 a1:=by kernel_rfl
theorem Vd:EntOK RR M4:=Ab (X:=Nz) ⟨tyOK,boolOK,eqOK⟩ (Ad (by exact ⟨⟨DQ,rfl⟩,⟨⟨JJ,rfl⟩,⟨⟨OC,rfl⟩,trivial⟩⟩⟩)) (Af (by kernel_rfl)) ⟨Tryz.func48,rfl,by kernel_rfl,rfl⟩ (fun x=>by exact XM x.1 x.2)
noncomputable def Cz (a0:(Int×(Int×(Int×Int)))):Option (Bool) :=
 ((BB a0.1 (-(20:Int)) (20:Int))).bind fun x0 =>
 bif x0 then
  ((BB a0.2.1 (-(20:Int)) (20:Int))).bind fun x1 =>
  bif x1 then
   ((BB a0.2.2.1 (1:Int) (8:Int))).bind fun x2 =>
   bif x2 then
    ((BB a0.2.2.2 (1:Int) (8:Int))).bind fun x3 =>
    some x3
   else
   some false
  else
  some false
 else
 some false
noncomputable def G6:Ent:=⟨G7,fun x=>Cz x⟩
noncomputable def Kh:TX:=⟨tyTab,codTab,[],[4],[GJ],G7⟩
set_option maxHeartbeats 2000000 in
theorem Si (a0:(Int×Int×Int×Int)):wtF Kh Tryz.f52 (a0)=Cz a0:=by kernel_rfl
theorem JF:EntOK RR G6:=Ab (X:=Kh) ⟨tyOK,boolOK,eqOK⟩ (Ad (by exact ⟨⟨Gj,rfl⟩,trivial⟩)) (Af (by kernel_rfl)) ⟨Tryz.func52,rfl,by kernel_rfl,rfl⟩ (fun x=>by exact Si x)
noncomputable def Da (a0:(Bool×((List Int)×(Bool×(List Int))))):Option (Bool) :=
 ((CD (a0.1,a0.2.1))).bind fun x0 =>
 bif (!x0) then
  some false
 else
 ((CD (a0.2.2.1,a0.2.2.2))).bind fun x1 =>
 bif (!x1) then
  some false
 else
 bif a0.2.2.1 then
  some false
 else
 bif ((((List.length a0.2.2.2):Nat):Int)==(0:Int)) then
  some false
 else
 ((Gn a0.2.1 a0.2.2.2)).bind fun x2 =>
 ((BA x2 (List.cons (1:Int) (List.nil:List Int)))).bind fun x3 =>
 some (x3==(0:Int))
end Go.Proofs.YthipdlhknbhiiaaGreat.Ev

end
