/- What the theorem of this claim leans on, part 4. -/
import Derived.Test.YtnohbihcoikkbaaGreatKC
import Derived.WalkKit
import Derived.SizedLaws
import Derived.IntWalk
import Derived.Below
import Derived.Lib.LaidTab
import Derived.Lib.ItoaMem
import Derived.Lib.AppendIntMem
import Derived.Lib.Itoa
import Derived.Lib.Join
import Derived.Lib.Repeat
import Derived.Lib.Split
import Derived.Lib.SplitLaws
import Derived.Lib.IndexMore
import Derived.Lib.Strings
import Derived.Lib.AtoiAll
import Derived.Lib.AtoiErrMem
import Derived.Laws.CopyRow
import Derived.Laws.IdiomCopy
import Derived.Laws.CopyOwn
import Derived.Deep.RegionLaw
import Derived.Test.YtnohbihcoikkbaaGreatProg
import Derived.KernelRfl
import Derived.BigCall
import Derived.WalkSpells
set_option maxHeartbeats 2000000
open Option renaming bind_some → za0, map_eq_some_iff → zb4, map_some → zd1
open List renaming getElem?_eq_getElem → za1, getElem?_eq_some_iff → za3, getD_eq_getElem?_getD → za4, mem_of_getElem? → za5, all_eq_true → za6, mem_flatMap → zb0, flatMap_cons → zb2, eq_nil_of_length_eq_zero → zb3, mem_append → zb5, getElem?_take → zb6, drop_eq_getElem_cons → zb9, take_of_length_le → zc0, all_cons → zc1, map_cons → zc2, length_cons → zc6, length_take → zc7, getElem?_replicate → zc8, mem_cons → zc9, getElem?_drop → zd2, getElem?_map → zd5, getElem?_append_left → zd6, mem_map → ze0, getElem?_append → ze2, getElem?_of_mem → ze3, length_append → ze5, drop_zero → ze7, take_length → zf1
open Bool renaming and_eq_true → za2, false_eq_true → zb8, true_and → ze4, not_eq_true' → zf0
open Nat renaming eq_of_beq_eq_true → za7, le_refl → za8, le_trans → zd0, lt_or_ge → zd3, mul_le_mul_right → zd4, lt_of_lt_of_le → zd8, zero_add → ze6, add_mul → zf2, zero_le → zf5
open Int renaming mul_le_mul_of_nonneg_right → za9, mul_le_mul_of_nonneg_left → zb1, tdiv_eq_ediv_of_nonneg → zc3, toNat_natCast → zc4, tmod_eq_emod_of_nonneg → zc5, mul_add → zd7, le_of_lt → ze1, mul_nonneg → ze8, natAbs_natCast → ze9, mul_comm → zf3, mul_assoc → zf4
open Array renaming getD_eq_getD_getElem? → zb7
open Sum renaming elim_inr → zd9
open Go.IntKind renaming wrap → zj, i64 → zk, u64 → zx
open Option.some renaming inj → zy, injEq → zb
open Sum renaming inl → zc, inr → zd
noncomputable section
set_option linter.unusedVariables false
set_option linter.unusedSimpArgs false
set_option linter.unusedSectionVars false
namespace Go.Proofs.YtnohbihcoikkbaaGreat.Ev
section
open Go
section
variable {P:Program} {R:Rel} {cf:Cfg} {X:TX} {g:FuncId}
def IZ(R:Rel)(cf:Cfg)(X:TX):Prop:=∀g E,Ux X.ents g=some E->EL R E/\E.a.g=g/\cf.byref g=(EH E.a.params).map SN
theorem At8{α:Type}{op:Op}{b:Nat}{tm:TTm}{m:Tm}{hp hpm:THp}{hvm:Hp}{K:SV->THp->Cls->Option α}{z:α}(hX:XOK P X)(hisr:isR op=true)(hr:RT hp tm m)(hh:RHm hpm hp hvm)(h:Bt X op b tm hpm K=some z):Cj P R cf op b m hp hpm hvm K z:=by
 cases op with
 |load t a=>exact As0 hX hr hh h
 |indexAddr t x i=>exact AG1 hX hr hh h
 |convert s d x=>exact Ar9 hX hr hh h
 |slice t x lo hi mx=>
  cases mx with
  |none=>exact Z0 hX hr hh h
  |some m'=>
   cases hi with
   |none=>simp[Bt]at h
   |some h'=>exact Xn hX hr h
 |_=>simp[isR]at hisr
theorem AD0{α:Type}{op:Op}{b:Nat}{tm:TTm}{m:Tm}{hp:THp}{hv:Hp}{K:SV->THp->Cls->Option α}{z:α}(hX:XOK P X)(hE:IZ R cf X)(hh:RH hp hv)(hr:RT hp tm m)(h:Bt X op b tm hp K=some z):Tn P R cf op b tm m hv K z:=by
 cases op with
 |move x=>exact(AK7 hr h).done hh hr
 |assign x=>exact(Ar8 hr h).done hh hr
 |pick c x y=>exact(AK8 hr h).done hh hr
 |alloc t=>exact AA6 hX hh hr h
 |box t x=>exact AO7 hX hh hr h
 |build t parts=>exact(AC3 hX hr h).done hh hr
 |buildSlice t len parts=>exact AA7 hX hh hr h
 |load t a=>exact(As0 hX hr hh.toM h).done hh hr
 |store t a x=>exact AA8 hX hh hr h
 |nilCheck x=>exact(AP6 hr h).done hh hr
 |binOp op t x y yt=>exact(AP2 hX hr h).done hh hr
 |unOp u t x=>exact(AS4 hr h).done hh hr
 |convert s d x=>exact(Ar9 hX hr hh.toM h).done hh hr
 |makeSlice t l c=>exact AI9 hX hh hr h
 |slice t x lo hi mx=>
  cases mx with
  |none=>exact(Z0 hX hr hh.toM h).done hh hr
  |some m'=>
   cases hi with
   |none=>simp[Bt]at h
   |some h'=>exact(Xn hX hr h).done hh hr
 |fieldAddr t x k=>exact(Xm hX hr h).done hh hr
 |field t x k=>exact(AC4 hX hr h).done hh hr
 |indexAddr t x i=>exact(AG1 hX hr hh.toM h).done hh hr
 |index t x i=>exact(AC5 hX hr h).done hh hr
 |extract x k=>exact(Ah3 hr h).done hh hr
 |makeFunc fn first caps=>
  cases fn with
  |func f=>exact(AK6 hr h).done hh hr
  |_=>simp[Bt]at h
 |call c=>
  obtain⟨callee,args,ts⟩:=c;cases callee with
  |builtin bi=>
   cases bi with
   |append=>exact Ao1 hX hh hr h
   |len=>exact(AP3 hX hr hh.toM h).done hh hr
   |min=>exact(AP5 hr h).done hh hr
   |max=>exact(AP4 hr h).done hh hr
   |_=>simp[Bt]at h
  |value f=>
   simp only[Bt]at h
   split at h
   ·rename_i g caps hf;have hc:=AX hr f;rw[hf]at hc;obtain⟨us,hfv,hcs⟩:=Aa9 hc;obtain⟨x,hp',cls,y,hv',h1,h2,h3,h4,h5⟩:=Ae0 hE hh hr (RC.append (Id hr args.toList) (hcs.mono fun _ _ _ h=>h.to1.to2)) h;refine⟨x,hp',cls,y,hv',h1,h2,h3,h4,fun KV hk=> ?_⟩
    show(match Ax m f with|.cl g caps=>Dr R cf g (args.toList.map (Ax m)++caps) hv b KV|_=>False);rw[hfv];exact h5 KV hk
   ·cases h
  |_=>simp[Bt]at h
 |_=>simp[Bt]at h
theorem As9{b:Nat}:∀(hp:THp)(id:Nat),AA (Xv b hp) id=if id<b then AA hp id else none
 |[],id=>by simp[Xv,AA]
 |(k,x)::l,id=>by
  have ih:=As9 (b:=b) l id;unfold Xv at ih⊢
  rw[List.filter_cons];by_cases hk:k<b
  ·have:Nat.blt k b=true:=Nat.ble_eq_true_of_le hk;simp only[this,if_true];rw[Au,Au];by_cases hi:id=k
   ·subst hi;rw[zw rfl,zw rfl,zw hk]
   ·rw[zi hi,zi hi];exact ih
  ·have:Nat.blt k b=false:=by
    cases hb:Nat.blt k b with
    |false=>rfl
    |true=>exact absurd (Nat.lt_of_succ_le (Nat.le_of_ble_eq_true hb)) hk
   simp only[this,zb8,if_false];rw[Au];by_cases hi:id=k
   ·subst hi;rw[zi hk]at ih⊢;exact ih
   ·rw[zi hi];exact ih
theorem Az9{α:Type}{draw:Bool}{op:Op}{b:Nat}{tm:TTm}{m:Tm}{hp:THp}{hv:Hp}{K:SV->THp->Cls->Option α}{z:α}(hX:XOK P X)(hE:IZ R cf X)(hh:RH hp hv)(hr:RT hp tm m)(h:Az4 X draw op b tm hp K=some z):
  ∃x hp' cls y hv',K x hp' cls=some z/\RV2 hp' x y/\RH hp' hv'/\RT hp' tm m/\∀KV:BP,KV y hv' cls->F4 P R cf draw op b (Ax m) hv KV:=by
 unfold Az4 at h;cases hd:draw&&isR op with
 |true=>
  rw[hd]at h;have hi:isR op=true:=by simp only[za2]at hd;exact hd.2
  obtain⟨x,y,cls,h1,h2,h3⟩:=At8 (R:=R) (cf:=cf) (hp:=hp) (hpm:=Xv b hp) (hvm:=AC7 b hv) hX hi hr (fun id bb hb=>by
   rw[As9]at hb
   split at hb
   ·rename_i hlt;obtain⟨k,hk,hrb⟩:=hh id bb hb;exact⟨hb,k,by simp only[AC7,zw hlt,hk],hrb⟩
   ·cases hb) h
  refine⟨x,hp,cls,y,hv,h1,h2,hh,hr,fun KV hk=> ?_⟩
  unfold F4;rw[hd];exact h3 (fun x _ cls=>KV x hv cls) hk
 |false=>
  rw[hd]at h;obtain⟨x,hp',cls,y,hv',h1,h2,h3,h4,h5⟩:=AD0 hX hE hh hr h;refine⟨x,hp',cls,y,hv',h1,h2,h3,h4,fun KV hk=> ?_⟩
  unfold F4;rw[hd];exact h5 KV hk
theorem Aa2{hp:THp}{tm:TTm}{m:Tm}{x:SV}{y:V}(h:RT hp tm m)(hx:RV2 hp x y)(dst:Option Tmp):RT hp (Mq tm dst x) (put m dst y):=by
 cases dst with
 |none=>exact h
 |some d=>
  intro t;simp only[Mq,put];rw[Et];unfold upd
  split
  ·exact hx
  ·exact h t
theorem Ax3{hp:THp}{tm:TTm}{m:Tm}{op:Op}(hr:RT hp tm m)(h:Ze tm op=true):Z6 m op=Ar1 tm op:=by
 unfold Z6 Ar1;unfold Ze at h;generalize op.operands.toList=l at h⊢
 induction l with
 |nil=>rfl
 |cons y l ih=>
  simp only[zc2,zc1,za2]at h;simp only[zb2,zc2];rw[ih h.2,(GC h.1 (AX hr y)).2.2.1]
theorem Ny{α β:Type}{f g:α->List β}:∀{l:List α},(∀x∈l,f x=g x)->l.flatMap f=l.flatMap g
 |[],_=>rfl
 |x::l,h=>by
  rw[zb2,zb2,h x (List.mem_cons_self ..),Ny fun y hy=>h y (List.mem_cons_of_mem _ hy)]
theorem XZ{hp:THp}{hv:Hp}{tm:TTm}{m:Tm}{op:Op}{ids:List Nat}(hE:IZ R cf X)(hh:RH hp hv)(hr:RT hp tm m)(h:N8 X op tm hp=some ids):Hz cf op (Ax m) hv=some ids:=by
 unfold N8 at h
 split at h
 ·rename_i t a x
  split at h
  ·rename_i hc;cases h
   simp only[za2]at hc;simp only[Hz];rw[(GC hc.1 (AX hr a)).2.2.1,(GC hc.2 (AX hr x)).2.2.1]
  ·cases h
 ·rename_i f args tys
  split at h
  case h_2=>cases h
  rename_i g caps hf
  split at h
  case h_2=>cases h
  rename_i E hfe;obtain⟨_,_,hbr⟩:=hE g E hfe
  split at h
  case h_2=>cases h
  rename_i args' hargs'
  split at h
  case isFalse=>cases h
  rename_i s1
  split at h
  case h_2=>cases h
  rename_i o ho;cases h
  have hc:=AX hr f;rw[hf]at hc;obtain⟨us,hfv,hcs⟩:=Aa9 hc;obtain⟨ys',hV,hargs2,hlent⟩:=MK hh hargs' (RC.append (Id hr args.toList) (hcs.mono fun _ _ _ h=>h.to1.to2));obtain⟨a1,a2,a3,a4⟩:=RC.all1 s1 hargs2;rw[<-hbr]at hV hlent;have hclose:Ec hv 64 (ys'.flatMap Af) []=some o:=by rw[a2];exact Gm hh _ _ _ ho
  have hcloseC:DA hv (ys'.flatMap Af)=some o:=by
   unfold DA;rw[hclose];simp only;rw[zw (by rw[a2];exact Nt hh ho)]
  simp only[Hz,hfv,hV,hcloseC,hlent]
 ·rename_i t n parts
  split at h
  ·rename_i hc;cases h
   simp only[Hz]
   congr 1
   refine Ny fun p hp=> ?_
   exact(GC (za6.1 hc p hp) (AX hr p.2)).2.2.1
  ·cases h
 ·cases h
theorem AB5{hp:THp}{hv:Hp}{tm:TTm}{m:Tm}{all:List Oper}{i:Nat}(hE:IZ R cf X)(hh:RH hp hv)(hr:RT hp tm m)(h:Ag0 X all tm hp i=true):He cf all m hv i=true:=by
 unfold Ag0 at h;unfold He;cases ha:all[i]? with
 |none=>rw[ha]at h;cases h
 |some a=>
  rw[ha]at h;simp only[za2]at h⊢
  refine⟨h.1,?_⟩
  replace h:=h.2
  cases ht:N8 X a.op tm hp with
  |none=>rw[ht]at h;cases h
  |some ids=>
   rw[ht]at h;rw[XZ hE hh hr ht];simp only at h⊢
   refine za6.2 fun j hj=> ?_
   have h4:=za6.1 h j hj;cases ho:all[j]? with
   |none=>simp
   |some o=>
    rw[ho]at h4;simp only[Bool.or_eq_true,za2]at h4⊢
    rcases h4 with h4|h4|⟨h4,h5,h6⟩
    ·exact .inl h4
    ·exact .inr (.inl h4)
    ·exact .inr (.inr ⟨h4,by rw[Ax3 hr h5];exact h6⟩)
theorem AL4{hp:THp}{hv:Hp}{tm:TTm}{m:Tm}{all:List Oper}{i:Nat}(hE:IZ R cf X)(hh:RH hp hv)(hr:RT hp tm m)(h:(eOK all i||Ag0 X all tm hp i)=true):(eOK all i||He cf all m hv i)=true:=by
 simp only[Bool.or_eq_true]at h⊢
 exact h.imp (fun h=>h) (AB5 hE hh hr)
theorem Ao5{α:Type}{draw ok ok':Bool}{cls:Cls}{A:Option α}{z:α}(hok:ok=true->ok'=true)(h:VE draw ok cls A=some z):A=some z/\∀B:Prop,B->drawn draw ok' cls B:=by
 cases draw<;>cases cls<;>first|exact⟨h,fun B hb=>hb⟩|(obtain⟨h1,h2⟩:=Cw h;exact⟨h2,fun B hb=>⟨hok h1,hb⟩⟩)
theorem SH{α:Type}{all:List Oper}{draw:Bool}(hX:XOK P X)(hE:IZ R cf X):∀(l:List Oper)(i:Nat){st:TSt}{s:St}{K:TSt->Option α}{z:α},RS st s->Oe X all draw l i st K=some z->
  ∃st' s',K st'=some z/\RS st' s'/\st'.c=st.c/\∀KV:St->Prop,KV s'->BZ P R cf all draw l i s KV
 |[],i,st,s,K,z,hs,h=>⟨st,s,h,hs,rfl,fun KV hk=>hk⟩
 |o::l,i,st,s,K,z,hs,h=>by
  have go:∀(tm:TTm),RT st.hp tm s.tm->(Az4 X draw o.op (16*(st.c+i)) tm st.hp fun x hp cls=>VE draw (eOK all i||Ag0 X all tm st.hp i) cls (Oe X all draw l (i+1) {tm:=Mq tm o.dst x,hp:=hp,c:=st.c} K))=some z->
    ∃st' s',K st'=some z/\RS st' s'/\st'.c=st.c/\∀KV:St->Prop,KV s'->F4 P R cf draw o.op (16*(s.c+i)) (Ax s.tm) s.hp fun x hp cls=>drawn draw (eOK all i||He cf all s.tm s.hp i) cls (BZ P R cf all draw l (i+1) {tm:=put s.tm o.dst x,hp:=hp,c:=s.c} KV):=by
   intro tm hr h;obtain⟨x,hp',cls,y,hv',h1,h2,h3,h4,h5⟩:=Az9 (R:=R) (cf:=cf) hX hE hs.hp hr h;obtain⟨h6,h7⟩:=Ao5 (AL4 hE hs.hp hr) h1;obtain⟨st',s',q1,q2,q3,q4⟩:=SH hX hE l (i+1) (st:={tm:=Mq tm o.dst x,hp:=hp',c:=st.c}) (s:={tm:=put s.tm o.dst y,hp:=hv',c:=s.c}) ⟨Aa2 h4 h2 o.dst,h3,hs.c⟩ h6;exact⟨st',s',q1,q2,q3,fun KV hk=>by rw[hs.c];exact h5 _ (by have:=h7 _ (q4 KV hk);rw[hs.c]at this;exact this)⟩
  have no:∀(tm:TTm),RT st.hp tm s.tm->Oe X all draw l (i+1) {tm:=Mq tm o.dst (.tup []),hp:=st.hp,c:=st.c} K=some z->
    ∃st' s',K st'=some z/\RS st' s'/\st'.c=st.c/\∀KV:St->Prop,KV s'->BZ P R cf all draw l (i+1) {tm:=put s.tm o.dst (.tup []),hp:=s.hp,c:=s.c} KV:=by
   intro tm hr h;exact SH hX hE l (i+1) (st:={tm:=Mq tm o.dst (.tup []),hp:=st.hp,c:=st.c}) (s:={tm:=put s.tm o.dst (.tup []),hp:=s.hp,c:=s.c}) ⟨Aa2 (x:=.tup []) (y:=.tup []) hr ⟨[],rfl,trivial⟩ o.dst,hs.hp,hs.c⟩ h
  simp only[Oe]at h;cases hg:o.guard with
  |none=>
   rw[hg]at h;obtain⟨st',s',q1,q2,q3,q4⟩:=go st.tm hs.tm h;exact⟨st',s',q1,q2,q3,fun KV hk=>by unfold BZ;rw[hg];exact q4 KV hk⟩
  |some jw=>
   obtain⟨j,want⟩:=jw;rw[hg]at h;simp only at h;cases hd:(all[j]?).bind (·.dst)with
   |none=>rw[hd]at h;cases h
   |some d=>
    rw[hd]at h;simp only at h;have htd:=hs.tm d;have fin:∀w:Bool,OF (s.tm d) want=some w->(∃st' s',K st'=some z/\RS st' s'/\st'.c=st.c/\∀KV:St->Prop,KV s'->(if w=true then F4 P R cf draw o.op (16*(s.c+i)) (Ax s.tm) s.hp fun x hp cls=>drawn draw (eOK all i||He cf all s.tm s.hp i) cls (BZ P R cf all draw l (i+1) {tm:=put s.tm o.dst x,hp:=hp,c:=s.c} KV)else BZ P R cf all draw l (i+1) {tm:=put s.tm o.dst (.tup []),hp:=s.hp,c:=s.c} KV))->
      ∃st' s',K st'=some z/\RS st' s'/\st'.c=st.c/\∀KV:St->Prop,KV s'->BZ P R cf all draw (o::l) i s KV:=by
     intro w hw ⟨st',s',q1,q2,q3,q4⟩;refine⟨st',s',q1,q2,q3,fun KV hk=> ?_⟩
     unfold BZ;rw[hg];simp only[hd,zd1,Aj,hw];exact q4 KV hk
    have same:∀t:Bool,s.tm d=.v (.bool t)->RT st.hp ((d,.bool t)::st.tm) s.tm:=by
     intro t ht t';rw[Et]
     split
     ·rename_i he;rw[he,ht];rfl
     ·exact hs.tm t'
    split at h
    ·rename_i t hv;rw[hv]at htd;have htd:=L7 htd;cases want with
     |true=>
      simp only at h;cases t with
      |true=>
       obtain⟨st',s',q1,q2,q3,q4⟩:=go _ (same true htd) h;exact fin true (by rw[htd];rfl) ⟨st',s',q1,q2,q3,fun KV hk=>by rw[zw rfl];exact q4 KV hk⟩
      |false=>
       obtain⟨st',s',q1,q2,q3,q4⟩:=no _ (same false htd) h;exact fin false (by rw[htd];rfl) ⟨st',s',q1,q2,q3,fun KV hk=>by rw[zi (by simp)];exact q4 KV hk⟩
     |false=>
      simp only at h;cases t with
      |true=>
       obtain⟨st',s',q1,q2,q3,q4⟩:=no _ (same true htd) h;exact fin false (by rw[htd];rfl) ⟨st',s',q1,q2,q3,fun KV hk=>by rw[zi (by simp)];exact q4 KV hk⟩
      |false=>
       obtain⟨st',s',q1,q2,q3,q4⟩:=go _ (same false htd) h;exact fin true (by rw[htd];rfl) ⟨st',s',q1,q2,q3,fun KV hk=>by rw[zw rfl];exact q4 KV hk⟩
    ·rename_i hv;rw[hv]at htd;obtain⟨us,hus,hc⟩:=(show ∃us,s.tm d=.tup us/\RC (RV1 st.hp) [] us from htd);cases us with
     |cons a l=>exact hc.elim
     |nil=>
      obtain⟨st',s',q1,q2,q3,q4⟩:=no _ hs.tm h;exact fin false (by rw[hus];rfl) ⟨st',s',q1,q2,q3,fun KV hk=>by rw[zi (by simp)];exact q4 KV hk⟩
    ·cases h
structure CfOK (cf:Cfg) (g:FuncId) (X:TX):Prop where
 live:∀r an,Dl X.ann.heads r=some an->cf.live g r=BQ an
 out:∀r outs ex an,Dl X.ann.outs r=some outs->Mn outs ex=some an->cf.out g r ex=BQ an
 join:∀r an,Dl X.ann.joins r=some an->cf.join g r=some (BQ an)
 nojoin:∀r,Dl X.ann.joins r=none->cf.join g r=none
 res:cf.res g=(BQ X.ann.res).map (·.2)
 par:cf.par g=BQ X.ann.params
 rts:cf.rts g=EF (Qu (Cv X.ann.res) X.ann.e 0 (Cv X.ann.res))
theorem Uu{a b:Ex}(h:Oz a b=true):a=b:=by
 cases a<;>cases b<;>simp[Oz]at h
 ·rfl
 ·rw[h]
 ·rfl
theorem ZW{α:Type}{e:Nat}{Q:Am5 α}{ex:Ex}{st:TSt}{z:α}:∀{l:List (Ex×List Item)}{d:AA9 l},YN e l ex st=some d->Ao8 Q l d=some z->∃an dd,Mn l ex=some an/\F6 e an st=some dd/\Q ex (GT an dd)=some z
 |[],d,h,_=>by cases h
 |[a],d,h,hz=>by
  simp only[YN]at h;obtain⟨h1,h2⟩:=Cw h;have:=Uu h1;subst this;refine⟨a.2,d,?_,h2,hz⟩
  show cond (Oz a.1 a.1) (some a.2) _=_;rw[h1];rfl
 |a::b::l,d,h,hz=>by
  simp only[YN]at h;cases hc:Oz a.1 ex with
  |true=>
   rw[hc]at h;simp only[cond_true,zb4]at h;obtain⟨dd,h1,rfl⟩:=h;have:=Uu hc;subst this;refine⟨a.2,dd,?_,h1,hz⟩
   show cond (Oz a.1 a.1) (some a.2) _=_;rw[hc];rfl
  |false=>
   rw[hc]at h;simp only[cond_false,zb4]at h;obtain⟨dd,h1,rfl⟩:=h;obtain⟨an,d2,q1,q2,q3⟩:=ZW (l:=b::l) h1 hz;refine⟨an,d2,?_,q2,q3⟩
   show cond (Oz a.1 ex) (some a.2) (Mn (b::l) ex)=_;rw[hc];exact q1
theorem Es(hX:XOK P X)(hE:IZ R cf X)(hcf:CfOK cf g X):∀(c:Code){α:Type}{st:TSt}{s:St}{Q:Am5 α}{z:α},RS st s->wtC X c st Q=some z->
  ∃ex st' s',Q ex st'=some z/\RS st' s'/\∀QV:Gk,QV ex s'->we P R cf g X.e c s QV
 |.skip,α,st,s,Q,z,hs,h=>⟨.normal,st,s,h,hs,fun QV hq=>hq⟩
 |.exit id,α,st,s,Q,z,hs,h=>⟨.exit id,st,s,h,hs,fun QV hq=>hq⟩
 |.ret,α,st,s,Q,z,hs,h=>⟨.ret,st,s,h,hs,fun QV hq=>hq⟩
 |.region id ops draw,α,st,s,Q,z,hs,h=>by
  obtain⟨st',s',h1,h2,h3,h4⟩:=SH (R:=R) (cf:=cf) hX hE _ 0 hs h;refine⟨.normal,_,{s' with c:=s'.c+ops.size},h1,⟨h2.tm,h2.hp,by show s'.c+_=st'.c+_;rw[h2.c]⟩,fun QV hq=> ?_⟩
  unfold we;exact h4 _ hq
 |.seq a b,α,st,s,Q,z,hs,h=>by
  unfold wtC at h;cases hj:Dl X.ann.joins (rid b)with
  |none=>
   rw[hj]at h;simp only at h;obtain⟨ex,st1,s1,h1,h2,h3⟩:=Es hX hE hcf a hs h;cases ex with
   |normal=>
    obtain⟨ex,st2,s2,q1,q2,q3⟩:=Es hX hE hcf b h2 h1;exact⟨ex,st2,s2,q1,q2,fun QV hq=>by unfold we;exact h3 _ (by show VR _ _ _ _;rw[hcf.nojoin _ hj];exact q3 QV hq)⟩
   |exit id=>exact⟨.exit id,st1,s1,h1,h2,fun QV hq=>by unfold we;exact h3 _ hq⟩
   |ret=>exact⟨.ret,st1,s1,h1,h2,fun QV hq=>by unfold we;exact h3 _ hq⟩
  |some an=>
   rw[hj]at h;simp only at h;obtain⟨w,hw,hz⟩:=Bb h;obtain⟨ex,st1,s1,h1,h2,h3⟩:=Es hX hE hcf a hs hw;have other:∀ex',ex'≠ .normal->ex=ex'->(Q ex' st1).map Sum.inl=some w->∃ex st' s',Q ex st'=some z/\RS st' s'/\∀QV:Gk,QV ex s'->we P R cf g X.e (a.seq b) s QV:=by
    intro ex' hne he h1;subst he;simp only[zb4]at h1;obtain⟨r,hr,rfl⟩:=h1;simp only[Sum.elim_inl,zb]at hz;subst hz;refine⟨ex,st1,s1,hr,h2,fun QV hq=> ?_⟩
    unfold we;refine h3 _ ?_
    cases ex with
    |normal=>exact absurd rfl hne
    |exit id=>exact hq
    |ret=>exact hq
   cases ex with
   |normal=>
    simp only[zb4]at h1;obtain⟨d,hd,rfl⟩:=h1;simp only[zd9]at hz;obtain⟨s2,c1,c2⟩:=Ju h2 hd;obtain⟨ex,st3,s3,q1,q2,q3⟩:=Es hX hE hcf b c2 hz;exact⟨ex,st3,s3,q1,q2,fun QV hq=>by unfold we;exact h3 _ (by show VR _ _ _ _;rw[hcf.join _ _ hj];exact c1 _ (q3 QV hq))⟩
   |exit id=>exact other (.exit id) (by simp) rfl h1
   |ret=>exact other .ret (by simp) rfl h1
 |.cond c x y,α,st,s,Q,z,hs,h=>by
  unfold wtC at h;have hc:=AX hs.tm c
  split at h
  ·rename_i t ht;rw[ht]at hc;have hc:=L7 hc;cases t with
   |true=>
    obtain⟨ex,st1,s1,h1,h2,h3⟩:=Es hX hE hcf x hs h;exact⟨ex,st1,s1,h1,h2,fun QV hq=>by unfold we;rw[hc];exact h3 QV hq⟩
   |false=>
    obtain⟨ex,st1,s1,h1,h2,h3⟩:=Es hX hE hcf y hs h;exact⟨ex,st1,s1,h1,h2,fun QV hq=>by unfold we;rw[hc];exact h3 QV hq⟩
  ·cases h
 |.block id c,α,st,s,Q,z,hs,h=>by
  unfold wtC at h;obtain⟨ex,st1,s1,h1,h2,h3⟩:=Es hX hE hcf c hs h;cases ex with
  |normal=>exact⟨.normal,st1,s1,h1,h2,fun QV hq=>by unfold we;exact h3 _ hq⟩
  |ret=>exact⟨.ret,st1,s1,h1,h2,fun QV hq=>by unfold we;exact h3 _ hq⟩
  |exit j=>
   simp only at h1;cases hj:Nat.beq j id with
   |true=>
    rw[hj]at h1;have hji:=za7 hj;exact⟨.normal,st1,s1,h1,h2,fun QV hq=>by unfold we;exact h3 _ (by show(if j=id then _ else _);rw[zw hji];exact hq)⟩
   |false=>
    rw[hj]at h1;have hji:j≠id:=fun he=>by subst he;rw[Nat.beq_refl]at hj;cases hj
    exact⟨.exit j,st1,s1,h1,h2,fun QV hq=>by unfold we;exact h3 _ (by show(if j=id then _ else _);rw[zi hji];exact hq)⟩
 |.loop c,α,st,s,Q,z,hs,h=>by
  unfold wtC at h
  split at h
  ·rename_i an outs ha ho;obtain⟨d0,hd0,h⟩:=Bb h;obtain⟨w,hw,hz⟩:=Bb h;obtain⟨n,hn⟩:=Kb hw;obtain⟨s0,c1,c2⟩:=Ju hs hd0;have key:∀(n:Nat)(d:Ca an)(s0:St),F8 (fun d=>wtC X c (GT an d) fun ex s=>match ex with|.normal=>(F6 X.e an s).map .inl|ex=>(YN X.e outs ex s).map .inr) n d=some w->RS (GT an d) s0->
     ∃ex st' s',Q ex st'=some z/\RS st' s'/\∀QV:Gk,QV ex s'->SC P R cf g X.e c s0 QV:=by
    intro n
    induction n with
    |zero=>intro d s0 h _;cases h
    |succ n ih=>
     intro d s0 h hs0;simp only[F8]at h;obtain⟨o,hb,h⟩:=Bb h;obtain⟨ex,st1,s1,h1,h2,h3⟩:=Es hX hE hcf c hs0 hb;have other:∀ex',ex'≠ .normal->ex=ex'->(YN X.e outs ex' st1).map Sum.inr=some o->∃ex st' s',Q ex st'=some z/\RS st' s'/\∀QV:Gk,QV ex s'->SC P R cf g X.e c s0 QV:=by
      intro ex' hne he h1;subst he;simp only[zb4]at h1;obtain⟨w',hw',rfl⟩:=h1;simp only[zd9,zb]at h;subst h;obtain⟨an2,dd,q1,q2,q3⟩:=ZW hw' hz;obtain⟨s2,e1,e2⟩:=Ju h2 q2;refine⟨ex,_,s2,q3,e2,fun QV hq=> ?_⟩
      rw[SE];refine h3 _ ?_
      cases ex with
      |normal=>exact absurd rfl hne
      |exit id=>show Ea _ _ _ _;rw[hcf.out _ _ _ _ ho q1];exact e1 _ hq
      |ret=>show Ea _ _ _ _;rw[hcf.out _ _ _ _ ho q1];exact e1 _ hq
     cases ex with
     |normal=>
      simp only[zb4]at h1;obtain⟨d',hd',rfl⟩:=h1;simp only[Sum.elim_inl]at h;obtain⟨s2,e1,e2⟩:=Ju h2 hd';obtain⟨ex,st3,s3,q1,q2,q3⟩:=ih d' s2 h e2;refine⟨ex,st3,s3,q1,q2,fun QV hq=> ?_⟩
      rw[SE];refine h3 _ ?_
      show Ea _ _ _ _;rw[hcf.live _ _ ha];exact e1 _ (q3 QV hq)
     |exit id=>exact other (.exit id) (by simp) rfl h1
     |ret=>exact other .ret (by simp) rfl h1
   obtain⟨ex,st',s',q1,q2,q3⟩:=key n d0 s0 hn c2;exact⟨ex,st',s',q1,q2,fun QV hq=>by rw[AC6,hcf.live _ _ ha];exact c1 _ (q3 QV hq)⟩
  ·cases h
 |.scope c,α,st,s,Q,z,hs,h=>by simp[wtC]at h
 |.label l,α,st,s,Q,z,hs,h=>by simp[wtC]at h
 |.goto l,α,st,s,Q,z,hs,h=>by simp[wtC]at h
 |.rangeFunc ..,α,st,s,Q,z,hs,h=>by simp[wtC]at h
 |.refuse _,α,st,s,Q,z,hs,h=>by simp[wtC]at h
end
end
section
open Go
section
variable {P:Program} {X:TX} {g:FuncId}
structure FnOK (P:Program) (cf:Cfg) (X:TX) (fn:Func) (c:Code):Prop where
 get:P.funcs[X.ann.g]? =some fn
 body:fn.body=some c
 ok:Mw fn c (E7 X.ann.params).length=true
 ext:cf.isExt X.ann.g=false
theorem LY{cf:Cfg}{ext:Rel}{fn:Func}{c:Code}{F:Ca X.ann.params->Option (Ca X.ann.res)}(hX:XOK P X)(hE:IZ (GN P cf ext) cf X)(hcf:CfOK cf X.ann.g X)(hf:FnOK P cf X fn c)
  (hF:∀x,wtF X fn x=F x):EL (GN P cf ext) ⟨X.ann,F⟩:=by
 intro x y args blks st0 hy hs0 hd hid hl he _;have hy:wtF X fn x=some y:=by rw[hF];exact hy
 unfold wtF at hy;rw[hf.body]at hy;simp only at hy;have he:(args.flatMap Af).eraseDups.length=X.e:=he;obtain⟨s0,k1,hs⟩:=Ju hs0 hd;obtain⟨ex,st',s',h1,h2,h3⟩:=Es hX hE hcf c hs hy;have main:∀ex',ex=ex'->(∀i,ex'≠ .exit i)->(Zh X st'.tm st'.hp fn.results.toList fun xs=>AD1 X.ann.res X.e st' xs)=some y->
   ∃r blks',GN P cf ext X.ann.g args blks r blks'/\ResRel X.ann.res y r blks':=by
  intro ex' hex hno h1;obtain⟨r,blks',q1,q2⟩:=Av6 (e:=X.e) (res:=X.ann.res) (rs:=fn.results.toList) (y:=y) hX h2 h1;refine⟨r,blks',GN.intro hf.ext hf.get hf.body (by rw[hl];exact hf.ok) hid ?_,q2⟩
  rw[he,hcf.par];refine k1 _ (h3 _ ?_)
  rw[hcf.res,hcf.rts];subst hex;cases ex with
  |exit i=>exact absurd rfl (hno i)
  |normal=>exact q1
  |ret=>exact q1
 cases ex with
 |exit i=>cases h1
 |normal=>exact main .normal rfl (by simp) h1
 |ret=>exact main .ret rfl (by simp) h1
theorem W7{R:Rel}{cf:Cfg}{X:TX}(h:X.ents=[]):IZ R cf X:=by
 intro g E hE;rw[h]at hE;cases hE
def Yg(R:Rel)(cf:Cfg):List Ent->Prop
 |[]=>True
 |E::l=>(EL R E/\cf.byref E.a.g=(EH E.a.params).map SN)/\Yg R cf l
theorem QC{R:Rel}{cf:Cfg}{X:TX}(h:Yg R cf X.ents):IZ R cf X:=by
 intro g E hE;generalize X.ents=l at h hE
 induction l with
 |nil=>cases hE
 |cons a l ih=>
  simp only[Ux]at hE;cases hg:Nat.beq a.a.g g with
  |true=>
   rw[hg]at hE;simp only[cond_true,zb]at hE;subst hE;have:=za7 hg;subst this;exact⟨h.1.1,rfl,h.1.2⟩
  |false=>
   rw[hg]at hE;exact ih h.2 hE
theorem ZD{tab:List FAnn}{ext:FuncId->Bool}{X:TX}(h:Le tab X.ann.g=some X.ann):CfOK (Kz tab ext) X.ann.g X where
 live r an hr:=by simp only[Kz,h,za0,hr]
 out r outs ex an hr he:=by simp only[Kz,h,za0,hr,he]
 join r an hr:=by simp only[Kz,h,za0,hr]
 nojoin r hr:=by simp only[Kz,h,za0,hr]
 res:=by simp only[Kz,h]
 par:=by simp only[Kz,h]
 rts:=by simp only[Kz,h]
end
end
section
open Go Go.RowKit
def shT:Sh->Ty
 |.int k=>.int k
 |.str=>.str
 |.bool=>.bool
 |.sl _ e=>.sl (shT e)
 |.pair a b=>.pair (shT a) (shT b)
def WFS:(s:Sh)->(shT s).den->Prop
 |.int k,n=>(Lit.int k n).wf=true
 |.str,s=>s.length<=Ad
 |.bool,_=>True
 |.sl bytes e,l=>(∀a∈(show List (shT e).den from l),WFS e a)/\(show List (shT e).den from l).length*bytes<=Ad
 |.pair a b,x=>WFS a (show(shT a).den×(shT b).den from x).1/\WFS b (show(shT a).den×(shT b).den from x).2
theorem ZI:∀{s:Sh}{xs:List V},DV s xs->∃x,RE (shT s) x xs/\WFS s x
 |.int k,xs,h=>by obtain⟨n,rfl,hn⟩:=h;exact⟨n,rfl,hn⟩
 |.str,xs,h=>by obtain⟨s,rfl,hs⟩:=h;exact⟨s.data.toList,by simp[RE,shT],by show s.data.toList.length<=Ad;rw[Array.length_toList];exact hs⟩
 |.bool,xs,h=>by obtain⟨b,rfl⟩:=h;exact⟨b,rfl,trivial⟩
 |.sl bytes e,xs,h=>by
  obtain⟨rows,rfl,hr,hb⟩:=h;have key:∀rows:List (List V),(∀r∈rows,DV e r)->∃l:List (shT e).den,RLx (RE (shT e)) l rows/\∀a∈l,WFS e a:=by
   intro rows
   induction rows with
   |nil=>intro _;exact⟨[],RLx.nil,by simp⟩
   |cons r rows ih=>
    intro h;obtain⟨a,h1,h2⟩:=ZI (h r (by simp));obtain⟨l,h3,h4⟩:=ih fun r' hr'=>h r' (by simp[hr'])
    refine⟨a::l,RLx.cons h1 h3,fun b hb=> ?_⟩
    rcases zc9.1 hb with rfl|hb
    ·exact h2
    ·exact h4 b hb
  obtain⟨l,h1,h2⟩:=key rows hr;exact⟨l,.inr ⟨rows,rfl,h1⟩,h2,by rw[<-h1.1];exact hb⟩
 |.pair a b,xs,h=>by
  obtain⟨l,r,rfl,h1,h2⟩:=h;obtain⟨x,q1,q2⟩:=ZI h1;obtain⟨y,q3,q4⟩:=ZI h2;exact⟨(x,y),⟨l,r,rfl,q1,q3⟩,q2,q4⟩
def Ok:Sh->AC
 |.int k=>.int k
 |.str=>.str
 |.bool=>.bool
 |.sl _ e=>.im (shT e)
 |.pair _ _=>.bool
def At7:Sh->Bool
 |.pair _ _=>false
 |_=>true
def WFC:(s:Sh)->(Ok s).den->Prop
 |.int k,n=>WFS (.int k) n
 |.str,s=>WFS .str s
 |.bool,b=>True
 |.sl n e,l=>WFS (.sl n e) l
 |.pair _ _,_=>True
theorem AB2{s:Sh}{x:V}(ho:At7 s=true)(h:DV s [x]):∃d:(Ok s).den,WFC s d/\∀hp,RV2 hp (Af5 (Ok s) d) x:=by
 obtain⟨d,h1,h2⟩:=ZI h;cases s with
 |int k=>
  have h1:[x]=[V.v (.int k d)]:=h1;cases h1
  exact⟨d,h2,fun hp=>rfl⟩
 |str=>
  have h1:[x]=[V.v (.string ⟨Array.mk d⟩)]:=h1;cases h1
  exact⟨d,h2,fun hp=>rfl⟩
 |bool=>
  have h1:[x]=[V.v (.bool d)]:=h1;cases h1
  exact⟨d,trivial,fun hp=>rfl⟩
 |sl n e=>
  refine⟨d,h2,fun hp=> ?_⟩
  rcases h1 with⟨e1,e2⟩|⟨rows,e2,e3⟩
  ·cases e2;exact .inl ⟨e1,rfl⟩
  ·cases e2;exact .inr ⟨rows,rfl,e3⟩
 |pair a b=>cases ho
def Ig:Nat->List Sh->List Item
 |_,[]=>[]
 |i,s::l=>.slot i (.cell (Ok s))::Ig (i+1) l
def WFP:(i:Nat)->(l:List Sh)->Ca (Ig i l)->Prop
 |_,[],_=>True
 |i,s::l,d=>WFC s (hdI (.slot i (.cell (Ok s))) (Ig (i+1) l) d)/\WFP (i+1) l (tlI (.slot i (.cell (Ok s))) (Ig (i+1) l) d)
def DVs:List Sh->List V->Prop
 |[],[]=>True
 |s::l,x::xs=>DV s [x]/\DVs l xs
 |_,_=>False
theorem DVs.length:∀{l:List Sh}{xs:List V},DVs l xs->xs.length=l.length
 |[],[],_=>rfl
 |_::l,_::xs,h=>by simp[DVs.length h.2]
 |[],_::_,h=>h.elim
 |_::_,[],h=>h.elim
theorem Aa1:∀(l:List Sh)(i:Nat){xs:List V},l.all At7=true->DVs l xs->∃d:Ca (Ig i l),WFP i l d/\(∀k,(Bm k (Ig i l) d).2=[])/\∀k hp,RT hp (Bm k (Ig i l) d).1 (lk .any (Nw i xs))
 |[],i,[],_,_=>⟨(),trivial,fun _=>rfl,fun k hp t=>trivial⟩
 |s::l,i,x::xs,ho,h=>by
  simp only[zc1,za2]at ho;obtain⟨a,h1,h2⟩:=AB2 ho.1 h.1;obtain⟨d,h3,h4,h5⟩:=Aa1 l (i+1) ho.2 h.2;refine⟨Nu (.slot i (.cell (Ok s))) (Ig (i+1) l) a d,⟨?_,?_⟩,fun k=> ?_,fun k hp=> ?_⟩
  ·rw[QE (.slot i (.cell (Ok s)))];exact h1
  ·rw[N7 (.slot i (.cell (Ok s)))];exact h3
  ·simp only[Ig,Bm];rw[N7 (.slot i (.cell (Ok s)))];exact h4 k
  ·simp only[Ig,Bm];rw[N7 (.slot i (.cell (Ok s))),QE (.slot i (.cell (Ok s)))];intro t;show RV2 hp (Co ((i,W3 (.cell (Ok s)) a)::_) t) (if t=i then x else lk .any (Nw (i+1) xs) t);rw[Et]
   split
   ·exact h2 hp
   ·exact h5 k hp t
 |[],_,_::_,_,h=>h.elim
 |_::_,_,[],_,h=>h.elim
section
variable {P:Program}
def Zt(P:Program):List TypeId->List Sh->Prop
 |[],[]=>True
 |t::ts,s::l=>Fits P t s/\Zt P ts l
 |_,_=>False
theorem Ve{H:Type}{enc:TypeId×Value->H}{W:World}:∀{ts:List TypeId}{l:List Sh}{vs:List Value}{ds:List (DataW H)}{p:List MemPlace},Zt P ts l->l.all At7=true->DataW.TrodAll enc P W 0 (fun _=>true) true ts vs ds p->
  (∀(j:Nat) t v,ts[j]? =some t->vs[j]? =some v->∃base,Value.okWide P W .any base t v)->(∀n∈DataW.weightsEach P ts ds,n<=reachBytes)->∃xs,DVs l xs/\WE W xs vs
 |[],[],vs,ds,p,_,_,h,_,_=>by
  obtain⟨rfl,rfl,rfl⟩:=ChangeShapes.trodAll_nil h;exact⟨[],trivial,trivial⟩
 |t::ts,s::l,vs,ds,p,hf,ho,h,hv,hw=>by
  obtain⟨v,vs',d,ds',p1,q,rfl,rfl,rfl,⟨fuel,h1⟩,h2⟩:=ChangeShapes.trodAll_cons h;simp only[zc1,za2]at ho;obtain⟨xs,q1,q2,q3⟩:=Mf fuel t s _ _ hf.1 h1 fun n hn=>hw n (by simp[DataW.weightsEach,hn])
  obtain⟨ys,q4,q5⟩:=Ve hf.2 ho.2 h2 (fun j t v h1 h2=>hv (j+1) t v (by simpa using h1) (by simpa using h2)) fun n hn=>hw n (by simp[DataW.weightsEach,hn])
  have hs1:s.size=1:=by cases s<;>first|rfl|(cases ho.1)
  obtain⟨x,rfl⟩:=List.length_eq_one_iff.1 (by rw[q2,hs1]);refine⟨x::ys,⟨q1,q4⟩,?_,q5⟩
  obtain⟨base,hok⟩:=hv 0 t v rfl rfl;have hc:v.cells.toList=[v]:=by
   cases hf.1 with
   |int ht=>simp only[Value.okWide,ht,Cell.okWide]at hok;cases v<;>simp_all [Cell.ok,Value.cells]
   |str ht=>simp only[Value.okWide,ht,Cell.okWide]at hok;cases v<;>simp_all [Cell.ok,Value.cells]
   |bool ht=>simp only[Value.okWide,ht,Cell.okWide]at hok;cases v<;>simp_all [Cell.ok,Value.cells]
   |sl ht=>obtain⟨a,n,c,rfl⟩:=WideShapes.okWide_slice ht hok;rfl
   |st=>cases ho.1
  rw[hc]at q3;exact q3.1
 |[],_::_,_,_,_,h,_,_,_,_=>h.elim
 |_::_,[],_,_,_,h,_,_,_,_=>h.elim
theorem Td{H:Type}{enc:TypeId×Value->H}{W W':World}(hl:laidOutB P=true)(hb:Below W.heap.size W W'):∀{ts:List TypeId}{vs:List Value}{ds:List (DataW H)}{p:List MemPlace},(∀t∈ts,P.readableRec t=true/\t<P.types.size)->DataW.TrodAll enc P W 0 (fun _=>true) true ts vs ds p->
  ∃q,DataW.TrodAll enc P W' 0 (fun b=>decide (b<W.heap.size)) true ts vs ds q
 |[],vs,ds,p,_,h=>by
  obtain⟨rfl,rfl,rfl⟩:=ChangeShapes.trodAll_nil h;exact⟨[],ChangeShapes.trodAll_mk0⟩
 |t::ts,vs,ds,p,hr,h=>by
  obtain⟨v,vs',d,ds',p1,q,rfl,rfl,rfl,h1,h2⟩:=ChangeShapes.trodAll_cons h;obtain⟨q',h3⟩:=Td hl hb (fun t ht=>hr t (by simp[ht])) h2;have hlt:∀x∈p1,x.block<W.heap.size:=by obtain⟨m,hm⟩:=h1;exact DataW.trod_lt m _ _ _ hm
  obtain⟨r1,r2⟩:=hr t (by simp);exact⟨_,trodAll_cons_mk (Below.trod hl r1 r2 h1 hb hlt) h3⟩
end
end
section
open Go Go.RowKit
theorem UX:∀(l:List Sh)(i:Nat),(E7 (Ig i l)).length=l.length
 |[],_=>rfl
 |s::l,i=>by simp[Ig,E7,UX l (i+1)]
section
variable {P:Program} {J:F3}
def AG0(P:Program):List (Nat×TyD)->Prop
 |[]=>True
 |x::l=>AY P x.1=some x.2/\AG0 P l
theorem AN2{l:List (Nat×TyD)}(h:AG0 P l):∀t d,getD l t=some d->AY P t=some d:=by
 intro t d hd
 induction l with
 |nil=>cases hd
 |cons x l ih=>
  obtain⟨k,y⟩:=x;simp only[getD]at hd;cases hk:Nat.beq t k with
  |true=>
   rw[hk]at hd;simp only[cond_true,zb]at hd;have:=za7 hk;subst this;subst hd;exact h.1
  |false=>
   rw[hk]at hd;exact ih h.2 hd
theorem As2{cf:Cfg}{ext:Rel}{g:FuncId}{shs:List Sh}{heads joins:List (Nat×List Item)}{outs:List (Nat×List (Ex×List Item))}{F:Ca (Ig 0 shs)->Option Bool}
  (hm:P.follows .mixedOrders=true) (hext:∀g args blks r blks',ext g args blks r blks'->CSpec P J g args blks r blks')
  (hE:EL (GN P cf ext) ⟨⟨g,0,Ig 0 shs,[.slot 0 (.cell .bool)],heads,outs,joins⟩,F⟩) (hD:∀d,F6 0 (Ig 0 shs) (GT (Ig 0 shs) d)=some d) (hF:∀d,WFP 0 shs d->F d=some true) (ho:shs.all At7=true)
  {w:World} (hJ:∀x∈J,w.heap[x.1]? =some x.2) {xs:List V} {vals:Array Value} (hx:DVs shs xs) (hv:WE w xs vals.toList):Calls P g vals w fun e w'=>e=.returned (.bool true)/\Below w.heap.size w w':=by
 obtain⟨d,h1,h2,h3⟩:=Aa1 shs 0 ho hx;have hrefs:=Vf hv;obtain⟨r,blks',q1,q2⟩:=hE d true xs [] (GT (Ig 0 shs) d) (hF d h1) ⟨h3 0 _,(fun id b hb=>by
  rw[show(GT (Ig 0 shs) d).hp=(Bm 0 (Ig 0 shs) d).2 from rfl,h2]at hb;exact absurd hb (by simp[AA])),rfl⟩ (hD d) (XY hv) (by rw[hx.length];exact(UX shs 0).symm) (by rw[hrefs];rfl) (fun _=>rfl)
 have hr:r=.v (.bool true):=q2.val;have hb:blks'=[]:=zb3 q2.len;subst hr;subst hb;exact Ah4 hm hext hJ hv q1
theorem VN{H:Type}{enc:TypeId×Value->H}{cf:Cfg}{ext:Rel}{g:FuncId}{shs:List Sh}{heads joins:List (Nat×List Item)}{outs:List (Nat×List (Ex×List Item))}{F:Ca (Ig 0 shs)->Option Bool}{fn:Func}{s:ChangeSpec}{ts:List TypeId}{rt:TypeId}
  (hm:P.follows .mixedOrders=true) (hext:∀g args blks r blks',ext g args blks r blks'->CSpec P J g args blks r blks')
  (hE:EL (GN P cf ext) ⟨⟨g,0,Ig 0 shs,[.slot 0 (.cell .bool)],heads,outs,joins⟩,F⟩) (hD:∀d,F6 0 (Ig 0 shs) (GT (Ig 0 shs) d)=some d) (hF:∀d,WFP 0 shs d->F d=some true) (ho:shs.all At7=true)
  (hp:fn.params.toList=ts) (hr:fn.resultTypes.toList=[rt]) (hrt:P.underlying rt=some .bool) (hf:Zt P ts shs) (hl:laidOutB P=true) (hread:∀t∈ts,P.readableRec t=true/\t<P.types.size) (hvars:s.vars=[])
  (hs:∀ds:List (DataW H),ds.length=ts.length->s.fn H (ds++[])={results:=[.lit (.bool true)],args:=ds,vars:=[]})
  {W:World} (hJ:∀x∈J,W.heap[x.1]? =some x.2) {base:Nat} {args:Array Value} {ds gs:List (DataW H)} {before:List MemPlace}
  (hval:∀(j:Nat) t v,fn.params[j]? =some t->args[j]? =some v->Value.okWide P W .any base t v) (hW:DataW.Whole enc P fn.params.toList s.vars false W args.toList ds gs before)
  (hsz:(DataW.weightsEach P (fn.params.toList++s.plain.varTypes P) (ds++gs)).all (· <=reachBytes)=true):
  Calls P g args W fun e W'=>∃v,e=.returned v/\s.post enc P fn false true false false W args v W':=by
 have hW':=hW;obtain⟨p,q,hA,hV,rfl,hfz,hnd⟩:=hW;rw[hvars]at hV;obtain⟨rfl,rfl⟩:=ChangeShapes.trodVars_none hV;rw[hp]at hA;have hlen:∀{ts:List TypeId}{vs:List Value}{ds:List (DataW H)}{p:List MemPlace},DataW.TrodAll enc P W 0 (fun _=>true) true ts vs ds p->ds.length=ts.length:=by
  intro ts
  induction ts with
  |nil=>intro vs ds p h;obtain⟨_,rfl,_⟩:=ChangeShapes.trodAll_nil h;rfl
  |cons t ts ih=>intro vs ds p h;obtain⟨v,vs',d,ds',p1,q,rfl,rfl,rfl,h1,h2⟩:=ChangeShapes.trodAll_cons h;simp[ih h2]
 have hdl:=hlen hA;have hwt:∀n∈DataW.weightsEach P ts ds,n<=reachBytes:=by
  intro n hn;have hmem:∀(a b:List TypeId)(c d:List (DataW H)),∀n∈DataW.weightsEach P a c,c.length=a.length->n∈DataW.weightsEach P (a++b) (c++d):=by
   intro a
   induction a with
   |nil=>intro b c d n hn hl;cases c<;>simp[DataW.weightsEach]at hn hl
   |cons t a ih=>
    intro b c d n hn hl;cases c with
    |nil=>simp[DataW.weightsEach]at hn
    |cons x c=>
     simp only[DataW.weightsEach,zb5,List.cons_append]at hn⊢
     rcases hn with hn|hn
     ·exact .inl hn
     ·exact .inr (ih b c d n hn (by simpa using hl))
  rw[hp]at hsz;have:=za6.1 hsz n (hmem ts _ ds _ n hn hdl);simpa using this
 obtain⟨xs,h1,h2⟩:=Ve hf ho hA (fun j t v h1 h2=>⟨base,hval j t v (by rw[<-hp]at h1;simpa using h1) (by simpa using h2)⟩) hwt;refine(As2 hm hext hE hD hF ho hJ h1 h2).mono fun e W' ⟨he,bel⟩=> ?_
 subst he;obtain⟨q',hq⟩:=Td hl bel hread hA;refine⟨_,rfl,ds,[],_,[],q',[],hW',?_,?_,?_,bel.frame _,fun h=>by cases h⟩
 ·rw[hs ds hdl,hr];have:((Value.bool true).resultList fn.resultTypes.size)=[.bool true]:=by
   have:fn.resultTypes.size=1:=by rw[<-Array.length_toList,hr];rfl
   rw[this];rfl
  rw[this];exact ChangeShapes.trodAll_mk1 (shut_bool hrt true)
 ·rw[hs ds hdl,hp];exact hq
 ·rw[hs ds hdl,hvars];rfl
end
end
section
open Go
theorem Ab{n:Int}(h1: -9223372036854775808<=n)(h2:n<=9223372036854775807):zj zk n=n:=by rw[IntKind.wrap_i64];omega
section
variable {σ τ ρ ρ':Type} {f:σ->Option (σ⊕ρ)} {g:τ->Option (τ⊕ρ')}
theorem BG{s s':σ}(h:f s=some (.inl s')):Ag f s=Ag f s':=by rw[Xu,h];rfl
theorem AE{s:σ}{r:ρ}(h:f s=some (.inr r)):Ag f s=some r:=by rw[Xu,h];rfl
theorem GW{I:σ->Prop}{R:ρ->Prop}(m:σ->Nat)(h:∀s,I s->(∃s',f s=some (.inl s')/\I s'/\m s'<m s)\/∃r,f s=some (.inr r)/\R r):∀s,I s->∃r,Ag f s=some r/\R r:=by
 have:∀n s,m s<n->I s->∃r,Ag f s=some r/\R r:=by
  intro n
  induction n with
  |zero=>intro s h;omega
  |succ n ih=>
   intro s hn hs;rcases h s hs with⟨s',h1,h2,h3⟩|⟨r,h1,h2⟩
   ·obtain⟨r,h4,h5⟩:=ih s' (by omega) h2;exact⟨r,by rw[BG h1,h4],h5⟩
   ·exact⟨r,AE h1,h2⟩
 exact fun s hs=>this (m s+1) s (by omega) hs
end
section
variable {α β γ:Type}
theorem Av(l:List α)(i:Nat):AI l (i:Int)=l[i]? :=by
 unfold AI;rw[zw (by omega)];simp
theorem ZP{l:List α}{i:Int}(h0:0<=i)(h1:i<l.length):∃a,AI l i=some a/\l[i.toNat]? =some a:=by
 unfold AI;rw[zw h0];have:i.toNat<l.length:=by omega
 exact⟨l[i.toNat],za1 this,za1 this⟩
theorem Be{i n:Nat}(h:i<n):AJ (i:Int) n=some i:=by
 unfold AJ;rw[zw (by omega)];simp
theorem GV{n b s:Nat}(h1:n*b<=Ad)(h2:n*s<=Ad):Mh (n:Int) b s=some n:=by
 unfold Mh;rw[zw (by simp;omega)];simp
end
section
variable {α σ ρ:Type} {body:σ->Option (σ⊕ρ)}
theorem Rx{l:List α}{st:Nat->σ}{p:α->Bool}{fin:ρ}{bad:Nat->ρ}(hgo:∀k a,l[k]? =some a->p a=true->body (st k)=some (.inl (st (k+1))))(hbad:∀k a,l[k]? =some a->p a=false->body (st k)=some (.inr (bad k)))(hend:body (st l.length)=some (.inr fin)):
  (l.all p=true->Ag body (st 0)=some fin)/\(l.all p=false->∃k,k<l.length/\Ag body (st 0)=some (bad k)):=by
 have key:∀(n k:Nat),k+n=l.length->((l.drop k).all p=true->Ag body (st k)=some fin)/\((l.drop k).all p=false->∃j,j<l.length/\Ag body (st k)=some (bad j)):=by
  intro n
  induction n with
  |zero=>
   intro k hk;have:k=l.length:=by omega
   subst this;rw[List.drop_length];exact⟨fun _=>AE hend,(fun h=>by cases h)⟩
  |succ n ih=>
   intro k hk;have hlt:k<l.length:=by omega
   have hd:l.drop k=l[k]::l.drop (k+1):=zb9 hlt;have he:l[k]? =some l[k]:=za1 hlt;rw[hd,zc1];cases hp:p l[k]with
   |true=>
    have h1:=hgo k _ he hp;obtain⟨q1,q2⟩:=ih (k+1) (by omega);rw[ze4,BG h1];exact⟨q1,q2⟩
   |false=>
    rw[Bool.false_and];exact⟨(fun h=>by cases h),fun _=>⟨k,hlt,AE (hbad k _ he hp)⟩⟩
 have:=key l.length 0 (by omega)
 rwa[ze7]at this
end
section
theorem BM{k:Nat}(h:k<4611686018427387904):zj zk ((k:Int)+1)=((k+1:Nat):Int):=by rw[Ab (by omega) (by omega)];omega
end
theorem Vu{β:Type}{b s:Nat}{l m:List β}(h1:(l.length+m.length)*b<=Ad)(h2:(l.length+m.length)*s<=Ad):D8 b s l m=some (l++m):=by
 unfold D8;rw[zw ⟨h1,h2⟩]
end
section
open Go
variable {P:Program} {J:F3}
def At2:Value:=.slice none 0 0
def HG(t tb:TypeId):Code:=
 .seq (.region 0 #[⟨some 2,.assign (.const At2),t, "slices.go:355", #[],none⟩] false)
  (.seq (.seq (.region 1 #[⟨some 3,.move (.tmp 0),t, "slices.go:357", #[],none⟩,⟨some 4,.binOp .eql t (.tmp 3) (.const At2) t,tb, "slices.go:357", #[⟨0,.data⟩],none⟩] false)
    (.cond (.tmp 4) (.seq (.region 2 #[⟨some 2,.assign (.const At2),t, "slices.go:358", #[],none⟩] false) .ret) .skip))
   (.seq (.region 3 #[⟨some 5,.buildSlice t 0 #[],t, "slices.go:362", #[],none⟩,⟨some 6,.move (.tmp 0),t, "slices.go:362", #[],none⟩,
     ⟨some 7,.call ⟨.builtin .append, #[.tmp 5,.tmp 6], #[t,t]⟩,t, "slices.go:362", #[⟨0,.data⟩,⟨1,.data⟩],none⟩,
     ⟨some 2,.assign (.tmp 7),t, "slices.go:362", #[⟨2,.data⟩,⟨2,.chain⟩,⟨0,.phase⟩,⟨1,.phase⟩,⟨2,.phase⟩],none⟩] false) .ret))
def cfN(e size:Nat)(deep:Bool):Cfg:={live:=fun _ _=>[],out:=fun _ _ _=>[],join:=fun _ _=>none,res:=fun _=>[.one (.own e size deep)],par:=fun _=>[(0,.one .keep)],rts:=fun _=>[],byref:=fun _=>[],isExt:=fun _=>false}
theorem Ae2{g:FuncId}{fn:Func}{t tb e:TypeId}{d de:TyD}(hfn:P.funcs[g]? =some fn)(hb:fn.body=some (HG t tb))(hok:Mw fn (HG t tb) 1=true)(hr:fn.results.toList=[.tmp 2])
  (hd:AY P t=some d) (he:d.elem=some e) (hde:AY P e=some de) (hst:DH P t=false) (a:Option Addr) (c:Nat):
  GN P (cfN e de.size (de.zero.all Qt)) (fun _ _ _ _ _=>False) g [.v (.slice a 0 c)] [] (.ar 0 0 0) [AG e de.size (de.zero.all Qt) []]:=by
 refine GN.intro rfl hfn hb hok rfl ?_
 rw[hr];have hsl:MI P t=true:=by unfold MI;rw[hd];simp[he]
 cases a with
 |none=>
  simp[Ea,Mp,Qc,Kv,Bl,R6,Nw,lk,upd,HX,Ec,Ah,Af,Ae,EQ,Cp,BR,lkB,AF,HG,we,reo,BZ,F4,isR,Bi,Aq,NN,Ax,Ev.put,drawn,Hy,CM,At2,hsl,VR,Uo,GZ,cfN,outs,FV,Kx,Av5,Ie,Cy,VW,SI,idx,Ee,AG,Ck]
 |some a=>
  simp[Ea,Mp,Qc,Kv,Bl,R6,Nw,lk,upd,HX,Ec,Ah,Af,Ae,EQ,Cp,BR,lkB,AF,HG,we,reo,BZ,F4,isR,Bi,Aq,NN,Ax,Ev.put,drawn,Hy,CM,At2,hsl,VR,Uo,GZ,cfN,outs,FV,Kx,Av5,Ie,Cy,VW,SI,idx,Ee,AG,Ck,Ap,hd,he,hde,Cb,Bp,Dc]
structure CloneOK (P:Program) (x:FuncId×TypeId×Nat×Bool):Prop where
 ok:∃(fn:Func)(t tb:TypeId)(d de:TyD),P.funcs[x.1]? =some fn/\fn.body=some (HG t tb)/\Mw fn (HG t tb) 1=true/\fn.results.toList=[.tmp 2]/\
  AY P t=some d/\d.elem=some x.2.1/\AY P x.2.1=some de/\DH P t=false/\de.size=x.2.2.1/\de.zero.all Qt=x.2.2.2
theorem PT(hm:P.follows .mixedOrders=true){x:FuncId×TypeId×Nat×Bool}(h:CloneOK P x){v:V}(hv:v=.em\/v=.im []):CSpec P J x.1 [v] [] (.ar 0 0 0) [AG x.2.1 x.2.2.1 x.2.2.2 []]:=by
 obtain⟨fn,t,tb,d,de,h1,h2,h3,h4,h5,h6,h7,h8,h9,h10⟩:=h.ok;have key:∀(a:Option Addr)(c:Nat),CSpec P J x.1 [.v (.slice a 0 c)] [] (.ar 0 0 0) [AG x.2.1 x.2.2.1 x.2.2.2 []]:=by
  intro a c;obtain⟨k,hk⟩:=Ae2 h1 h2 h3 h4 h5 h6 h7 h8 a c;rw[<-h9,<-h10];exact JK hm (fun _ _ _ _ _ h=>h.elim) k _ _ _ _ _ hk
 refine⟨(key none 0).enter,fun _ w A E vals hT hI hvl=> ?_⟩
 obtain⟨y,hy⟩:∃y,vals.toList=[y]:=by
  match hl:vals.toList with
  |[]=>rw[hl]at hvl;exact hvl.elim
  |[y]=>exact⟨y,rfl⟩
  |_::_::_=>rw[hl]at hvl;exact hvl.2.elim
 rw[hy]at hvl;have hv1:=hvl.1;obtain⟨a,c,hyc⟩:∃a c,y=.slice a 0 c:=by
  rcases hv with rfl|rfl
  ·have hv1:Rep w A .em y:=hv1;cases hv1 with
   |em a=>exact⟨a,0,rfl⟩
  ·have hv1:Rep w A (.im []) y:=hv1;cases hv1 with
   |im0 a c=>exact⟨a,c,rfl⟩
   |im b off cap=>exact⟨some ⟨b,off,none⟩,cap,rfl⟩
 subst hyc;have hk:=(key a c).calls rfl w A E vals hT hI (by rw[hy];exact⟨.v _ rfl,trivial⟩);refine hk.mono fun e w' he=> ?_
 obtain⟨y',E',G',q1,q2,q3,q4⟩:=he;refine⟨y',E',G',q1,q2,q3,fun j hj=> ?_⟩
 rcases hv with rfl|rfl<;>simp[Af,Ae]at hj
def RP(Rc:Rel)(tab:List (FuncId×TypeId×Nat×Bool)):Rel:=fun g args blks r blks'=>
 Rc g args blks r blks'\/∃x∈tab,g=x.1/\(args=[.em]\/args=[.im []])/\blks=[]/\r=.ar 0 0 0/\blks'=[AG x.2.1 x.2.2.1 x.2.2.2 []]
theorem Tv{cf:Cfg}{tab:List (FuncId×TypeId×Nat×Bool)}(hm:P.follows .mixedOrders=true)(ht:∀x∈tab,CloneOK P x):
  ∀g args blks r blks',RP (GN P cf fun _ _ _ _ _=>False) tab g args blks r blks'->CSpec P J g args blks r blks':=by
 intro g args blks r blks' h;rcases h with⟨k,hk⟩|⟨x,hx,rfl,ha,rfl,rfl,rfl⟩
 ·exact JK hm (fun _ _ _ _ _ h=>h.elim) k _ _ _ _ _ hk
 ·rcases ha with rfl|rfl
  ·exact PT hm (ht x hx) (.inl rfl)
  ·exact PT hm (ht x hx) (.inr rfl)
theorem AJ0{t:Ty}{st:TSt}{x:Ca [.slot 0 (.cell (.im t))]}(h:F6 0 [.slot 0 (.cell (.im t))] st=some x):FK st.hp t (Co st.tm 0)=some (show List t.den from x):=by
 unfold F6 at h
 split at h
 case isFalse=>cases h
 simp only[JC,Cv,tmS,tmC,tnS,tnV,tnC]at h;cases ha:FK st.hp t (Co st.tm 0)with
 |none=>rw[ha]at h;cases h
 |some l=>
  rw[ha]at h;simp only[zf5,Nat.ble_eq,if_true]at h;have hc:∀c,Ot 0 (E7 [.slot 0 (.cell (.im t))]) {tm:=(0,.im t l)::st.tm,hp:=DG st.hp (frV (Co st.tm 0)),c:=c}=some {tm:=[(0,.im t l)],hp:=[],c:=1}:=fun c=>rfl
  rw[hc]at h;simp only[rdI,rdS,rdC,Nat.beq_refl,if_true,dite_true]at h;rw[<-zy h];rfl
def Z8{α β:Type}(F:List α->Option (List β))(l:List α):Option (List β):=match l with|[]=>some []|a::l=>F (a::l)
theorem RU{ext:Rel}{cf:Cfg}{Rc:Rel}{tab:List (FuncId×TypeId×Nat×Bool)}{g:FuncId}{e:TypeId}{deep:Bool}{t:Ty}{heads joins:List (Nat×List Item)}{outs:List (Nat×List (Ex×List Item))}{F:List t.den->Option (List t.den)}
  (h:EL Rc ⟨⟨g,0,[.slot 0 (.cell (.im t))],[.blk (.arr e deep t),.slot 0 (.ref 0 false)],heads,outs,joins⟩,F⟩) (hmem:(g,e,t.size,deep)∈tab) (hext:∀g args blks r blks',RP Rc tab g args blks r blks'->ext g args blks r blks'):
  EL (GN P cf ext) ⟨⟨g,0,[.slot 0 (.cell (.im t))],[.blk (.arr e deep t),.slot 0 (.ref 0 false)],heads,outs,joins⟩,fun l=>Z8 F l⟩:=by
 intro x y args blks st hF hs hd hid hlen href hb0;have ha:=AJ0 hd;cases hx:(show List t.den from x)with
 |cons a l=>
  have hx':x=(show Ca [.slot 0 (.cell (.im t))]from(a::l:List t.den)):=hx;subst hx';obtain⟨r,blks',q1,q2⟩:=h _ y args blks st hF hs hd hid hlen href hb0;exact⟨r,blks',GN.ext (hext _ _ _ _ _ (.inl q1)),q2⟩
 |nil=>
  have hx':x=(show Ca [.slot 0 (.cell (.im t))]from([]:List t.den)):=hx;subst hx';have hy:y=(show Ca [.blk (.arr e deep t),.slot 0 (.ref 0 false)]from([]:List t.den)):=(zy hF).symm;subst hy;obtain⟨v,rfl⟩:∃v,args=[v]:=by
   match args,hlen with
   |[v],_=>exact⟨v,rfl⟩
  have hrefs:([v]:List V).flatMap Af=[]:=by
   cases hr:([v]:List V).flatMap Af with
   |nil=>rfl
   |cons i l=>rw[hr]at href;simp[List.eraseDups_cons]at href
  have hv:=hs.tm 0;have hv:RV2 st.hp (Co st.tm 0) v:=hv;have hcase:v=.em\/v=.im []:=by
   generalize Co st.tm 0=u at ha hv;cases u with
   |em=>exact .inl hv
   |im t' l=>
    simp only[FK,asL]at ha;rcases hv with⟨_,hv⟩|⟨rows,hv,hl⟩
    ·exact .inl hv
    ·split at ha
     ·rename_i ht;subst ht;have h0:l=[]:=by have:=zy ha;exact this
      subst h0;have:rows=[]:=zb3 (by have:=hl.1;simpa using this);subst this;exact .inr hv
     ·cases ha
   |ow id=>
    obtain⟨n,rfl,_⟩:=hv;simp[Af,Ae]at hrefs
   |ar id lo n=>
    have hv:v=.ar id lo n:=hv;subst hv;simp[Af,Ae]at hrefs
   |_=>simp[FK,asL]at ha
  have hblks:blks=[]:=hb0 rfl;subst hblks;refine⟨.ar 0 0 0,[AG e t.size deep []],GN.ext (hext _ _ _ _ _ (.inr ⟨_,hmem,rfl,?_,rfl,rfl,rfl⟩)),?_,?_,rfl⟩
  ·rcases hcase with rfl|rfl
   ·exact .inl rfl
   ·exact .inr rfl
  ·exact⟨0,rfl,fun b hb=>by cases hb;rfl⟩
  ·intro id b hb;have hb:AA [(0,some (TB.arr e deep t []))] id=some b:=hb;simp only[AA]at hb;cases hi:Nat.beq id 0 with
   |false=>rw[hi]at hb;cases hb
   |true=>
    rw[hi]at hb;have hb:some (TB.arr e deep t [])=some b:=hb;cases hb
    have:id=0:=za7 hi;subst this;exact⟨_,rfl,rfl,rfl,rfl,rfl,RLx.nil⟩
end
section
open Go Go.RowKit
def Vk:(c:AC)->c.den->V->Prop
 |.int k,n,v=>v=.v (.int k n)
 |.bool,b,v=>v=.v (.bool b)
 |.str,s,v=>v=.v (.string ⟨s.toArray⟩)
 |.err,b,v=>v=.er b
 |.im t,l,v=>(l=[]/\v=.em)\/∃rows,v=.im rows/\RLx (RE t) l rows
 |.at _,_,_=>False
section
variable {hp hp':THp} {u v:SV} {a:V} {b n:Nat} {c:AC}
theorem Ax9(hc:c.isU=false)(h:tnC (tmC [] c) u hp b=some (v,hp',n))(hr:RV2 hp u a)(ha:Af a=[]):hp'=hp/\∀f d,rdC c (BB f v)=some d->Vk c d a:=by
 cases c with
 | «at» j=>cases hc
 |im t=>
  simp only[tmC,tnC]at h;cases hl:FK hp t u with
  |none=>rw[hl]at h;cases h
  |some l=>
   rw[hl]at h;simp only[zb,Prod.mk.injEq]at h;obtain⟨rfl,rfl,_⟩:=h;have key:frV u=[]/\Vk (.im t) l a:=by
    cases u with
    |em=>
     simp only[FK,asL,zb]at hl;subst hl;exact⟨rfl,.inl ⟨rfl,hr⟩⟩
    |im t' l'=>
     simp only[FK,asL]at hl
     split at hl
     ·rename_i ht;subst ht;have hl:l'=l:=zy hl;subst hl;exact⟨rfl,hr⟩
     ·cases hl
    |ow id=>
     obtain⟨m,rfl,_⟩:=hr;simp[Af,Ae]at ha
    |ar id lo m=>
     have hr:a=.ar id lo m:=hr;subst hr;simp[Af,Ae]at ha
    |_=>simp[FK,asL]at hl
   refine⟨by rw[key.1];rfl,fun f d hd=> ?_⟩
   simp only[BB,DJ,rdC,dite_true]at hd;have hd:l=d:=zy hd;subst hd;exact key.2
 |int k=>
  simp only[tmC,tnC,zb,Prod.mk.injEq]at h;obtain⟨rfl,rfl,_⟩:=h;refine⟨rfl,fun f d hd=> ?_⟩
  cases u with
  |int k' m=>
   simp only[BB,DJ,rdC]at hd
   split at hd
   ·rename_i hk;subst hk;cases hd;exact hr
   ·cases hd
  |ow id=>simp only[BB,DJ]at hd;split at hd<;>cases hd
  |ar id lo m=>simp only[BB,DJ]at hd;split at hd<;>cases hd
  |rf id r c=>simp only[BB,DJ]at hd;split at hd<;>cases hd
  |cl g caps=>cases hd
  |_=>cases hd
 |bool=>
  simp only[tmC,tnC,zb,Prod.mk.injEq]at h;obtain⟨rfl,rfl,_⟩:=h;refine⟨rfl,fun f d hd=> ?_⟩
  cases u with
  |bool m=>cases hd;exact hr
  |ow id=>simp only[BB,DJ]at hd;split at hd<;>cases hd
  |ar id lo m=>simp only[BB,DJ]at hd;split at hd<;>cases hd
  |rf id r c=>simp only[BB,DJ]at hd;split at hd<;>cases hd
  |cl g caps=>cases hd
  |_=>cases hd
 |str=>
  simp only[tmC,tnC,zb,Prod.mk.injEq]at h;obtain⟨rfl,rfl,_⟩:=h;refine⟨rfl,fun f d hd=> ?_⟩
  cases u with
  |str m=>cases hd;exact hr
  |ow id=>simp only[BB,DJ]at hd;split at hd<;>cases hd
  |ar id lo m=>simp only[BB,DJ]at hd;split at hd<;>cases hd
  |rf id r c=>simp only[BB,DJ]at hd;split at hd<;>cases hd
  |cl g caps=>cases hd
  |_=>cases hd
 |err=>
  simp only[tmC,tnC,zb,Prod.mk.injEq]at h;obtain⟨rfl,rfl,_⟩:=h;refine⟨rfl,fun f d hd=> ?_⟩
  cases u with
  |er m=>cases hd;exact hr
  |ow id=>simp only[BB,DJ]at hd;split at hd<;>cases hd
  |ar id lo m=>simp only[BB,DJ]at hd;split at hd<;>cases hd
  |rf id r c=>simp only[BB,DJ]at hd;split at hd<;>cases hd
  |cl g caps=>cases hd
  |_=>cases hd
end
theorem AS0{c c':AC}{st:TSt}{x:Ca [.slot 0 (.cell c),.slot 1 (.cell c')]}{a a':V}(hc:c.isU=false)(hc':c'.isU=false)(h:F6 0 [.slot 0 (.cell c),.slot 1 (.cell c')] st=some x)
  (hr:RV2 st.hp (Co st.tm 0) a) (hr':RV2 st.hp (Co st.tm 1) a') (ha:Af a=[]) (ha':Af a'=[]):
  ∃d d',x=Nu (.slot 0 (.cell c)) [.slot 1 (.cell c')] d (Nu (.slot 1 (.cell c')) [] d' ())/\Vk c d a/\Vk c' d' a':=by
 unfold F6 at h
 split at h
 case isFalse=>cases h
 simp only[JC,Cv,tmS,tnS,tnV]at h;cases h1:tnC (tmC [] c) (Co st.tm 0) st.hp (16*st.c)with
 |none=>rw[h1]at h;cases h
 |some z=>
  obtain⟨v,hp1,n⟩:=z;rw[h1]at h;simp only at h;obtain⟨rfl,h2⟩:=Ax9 hc h1 hr ha
  split at h
  case h_2=>cases h
  rename_i st1 hle
  split at hle
  case isFalse=>cases hle
  have hg:Co ((0,v)::st.tm) 1=Co st.tm 1:=rfl;rw[hg]at hle;cases h3:tnC (tmC [] c') (Co st.tm 1) st.hp (16*(st.c+1))with
  |none=>rw[h3]at hle;cases hle
  |some z=>
   obtain⟨v',hp2,n'⟩:=z;rw[h3]at hle;simp only at hle;obtain⟨rfl,h4⟩:=Ax9 hc' h3 hr' ha'
   split at hle
   case isFalse=>cases hle
   cases hle
   split at h
   case h_2=>cases h
   rename_i st2 hst2;unfold Ot at hst2
   split at hst2
   case isFalse=>cases hst2
   split at hst2
   case h_2=>cases hst2
   rename_i o ho
   split at hst2
   case isFalse=>cases hst2
   have hst2:=zy hst2;subst hst2;have g0:Co ((1,v')::(0,v)::st.tm) 0=v:=rfl;have g1:Co ((1,v')::(0,v)::st.tm) 1=v':=rfl;simp only[E7,zc2,List.map_nil,g0,g1]at h;cases hhp:FU st.hp (Dm o) 0 o with
   |cons y l=>
    rw[hhp]at h;cases e1:rdS (.cell c) (BB (Dm o) v)with
    |none=>simp[rdI,e1]at h
    |some d=>cases e2:rdS (.cell c') (BB (Dm o) v')with
     |none=>simp[rdI,e1,e2]at h
     |some d'=>simp[rdI,e1,e2]at h
   |nil=>
    rw[hhp]at h;cases e1:rdS (.cell c) (BB (Dm o) v)with
    |none=>simp[rdI,e1]at h
    |some d=>cases e2:rdS (.cell c') (BB (Dm o) v')with
     |none=>simp[rdI,e1,e2]at h
     |some d'=>
      simp only[rdI,e1,e2,Nat.beq_refl,if_true,zb]at h;exact⟨d,d',h.symm,h2 _ _ e1,h4 _ _ e2⟩
section
variable {P:Program} {J:F3} {cf:Cfg} {ext:Rel}
theorem Aj0{args:List V}(h:(args.flatMap Af).eraseDups.length=0):∀v∈args,Af v=[]:=by
 have h0:args.flatMap Af=[]:=by
  cases hr:args.flatMap Af with
  |nil=>rfl
  |cons i l=>rw[hr]at h;simp[List.eraseDups_cons]at h
 intro v hv;rw[List.flatMap_eq_nil_iff]at h0;exact h0 v hv
theorem As3{g:FuncId}{c c':AC}{res:List Item}{F:Ca [.slot 0 (.cell c),.slot 1 (.cell c')]->Option (Ca res)}(hc:c.isU=false)(hc':c'.isU=false)
  (h:∀d d' y a a',Vk c d a->Vk c' d' a'->F (Nu (.slot 0 (.cell c)) [.slot 1 (.cell c')] d (Nu (.slot 1 (.cell c')) [] d' ()))=some y->∃r blks',ext g [a,a'] [] r blks'/\ResRel res y r blks'):
  EL (GN P cf ext) ⟨⟨g,0,[.slot 0 (.cell c),.slot 1 (.cell c')],res,[],[],[]⟩,F⟩:=by
 intro x y args blks st hF hs hd hid hlen href hb0
 match args,hlen with
 |[a,a'],_=>
  have hb:blks=[]:=hb0 rfl;subst hb;have hn:=Aj0 href;have h0:RV2 st.hp (Co st.tm 0) a:=hs.tm 0;have h1:RV2 st.hp (Co st.tm 1) a':=hs.tm 1;obtain⟨d,d',rfl,hA,hA'⟩:=AS0 hc hc' hd h0 h1 (hn a (by simp)) (hn a' (by simp));obtain⟨r,blks',h1,h2⟩:=h d d' y a a' hA hA' hF;exact⟨r,blks',GN.ext h1,h2⟩
def AH7(P:Program)(g:FuncId):Prop:=∃fn,P.funcs[g]? =some fn/\NO fn=true/\fn.body.isSome=true
theorem XE{E:Env}{b:Nat}:¬Own E (lkB []) b:=fun⟨id,k,hk,_⟩=>by simp[lkB]at hk
theorem Ah2{w w':World}{A:Nat->Prop}{E:Env}(hI:HpInv w (Own E (lkB [])) A E A (lkB []) w)(h:Below w.heap.size w w'):HpInv w (Own E (lkB [])) A E A (lkB []) w':=by
 refine⟨⟨h.os,h.tape,h.output,h.size,fun b hb _=>h.block b hb,fun b cur ty fz hb=>⟨cur,fz,?_,rfl⟩⟩,fun b hb=> ?_,fun b _=>XE,fun b hb=>absurd hb XE,fun id k id' k' hk=>by simp[lkB]at hk,fun id k b hk=>by simp[lkB]at hk,fun id k hk=>by simp[lkB]at hk⟩
 ·rw[h.block b (Array.getElem?_eq_some_iff.1 hb).1];exact hb
 ·have h1:=hI.g1 b hb;have:=h.size;exact⟨by omega,h1.2⟩
end
end
section
open Go Go.RowKit
section
variable {P:Program} {J:F3} {cf:Cfg} {ext:Rel} {g:FuncId}
end
end
section
open Go Go.RowKit
def C2:Nat->List AC->List Item
 |_,[]=>[]
 |i,c::l=>.slot i (.cell c)::C2 (i+1) l
def Al8:(l:List AC)->(i:Nat)->Ca (C2 i l)->List V->Prop
 |[],_,_,[]=>True
 |c::l,i,d,x::xs=>Vk c (hdI (.slot i (.cell c)) (C2 (i+1) l) d) x/\Al8 l (i+1) (tlI (.slot i (.cell c)) (C2 (i+1) l) d) xs
 |_,_,_,_=>False
theorem AI4{c:AC}{d:c.den}{a:V}(hp:THp)(h:Vk c d a):RV2 hp (Af5 c d) a:=by
 cases c with
 |int k=>exact h
 |bool=>exact h
 |str=>exact h
 |err=>exact h
 |im t=>exact h
 | «at» j=>exact h.elim
theorem Am9{c:AC}{d:c.den}{a:V}(h:Vk c d a):Af a=[]:=by
 cases c with
 |int k=>have h:a=_:=h;rw[h];rfl
 |bool=>have h:a=_:=h;rw[h];rfl
 |str=>have h:a=_:=h;rw[h];rfl
 |err=>have h:a=_:=h;rw[h];rfl
 |im t=>
  rcases h with⟨_,rfl⟩|⟨rows,rfl,_⟩
  ·rfl
  ·rfl
 | «at» j=>exact h.elim
theorem WN:∀(l:List AC)(i:Nat)(d:Ca (C2 i l)){xs:List V},Al8 l i d xs->(∀k,(Bm k (C2 i l) d).2=[])/\(∀k hp,RT hp (Bm k (C2 i l) d).1 (lk .any (Nw i xs)))/\xs.flatMap Af=[]/\xs.length=(E7 (C2 i l)).length
 |[],i,d,[],_=>⟨fun _=>rfl,fun k hp t=>trivial,rfl,rfl⟩
 |c::l,i,d,x::xs,h=>by
  obtain⟨h1,h2⟩:=h;obtain⟨k1,k2,k3,k4⟩:=WN l (i+1) _ h2;refine⟨fun k=> ?_,fun k hp=> ?_,?_,?_⟩
  ·simp only[C2,Bm];exact k1 k
  ·simp only[C2,Bm];intro t;show RV2 hp (Co ((i,W3 (.cell c) _)::_) t) (if t=i then x else lk .any (Nw (i+1) xs) t);rw[Et]
   split
   ·exact AI4 hp h1
   ·exact k2 k hp t
  ·rw[zb2,Am9 h1,k3];rfl
  ·simp only[C2,E7,zc6,k4]
 |[],_,_,_::_,h=>h.elim
 |_::_,_,_,[],h=>h.elim
theorem Ap2{R:Rel}{g:FuncId}{cs:List AC}{res:List Item}{heads joins:List (Nat×List Item)}{outs:List (Nat×List (Ex×List Item))}{F:Ca (C2 0 cs)->Option (Ca res)}
  (hE:EL R ⟨⟨g,0,C2 0 cs,res,heads,outs,joins⟩,F⟩) {d:Ca (C2 0 cs)} {y:Ca res} {xs:List V} (hD:F6 0 (C2 0 cs) (GT (C2 0 cs) d)=some d) (hA:Al8 cs 0 d xs) (hF:F d=some y):
  ∃r blks',R g xs [] r blks'/\ResRel res y r blks'/\xs.flatMap Af=[]:=by
 obtain⟨k1,k2,k3,k4⟩:=WN cs 0 d hA;obtain⟨r,blks',q1,q2⟩:=hE d y xs [] (GT (C2 0 cs) d) hF ⟨k2 0 _,(fun id b hb=>by
  rw[show(GT (C2 0 cs) d).hp=(Bm 0 (C2 0 cs) d).2 from rfl,k1]at hb;exact absurd hb (by simp[AA])),rfl⟩ hD (by unfold Hg;rw[k3];rfl) k4 (by rw[k3];rfl) (fun _=>rfl)
 exact⟨r,blks',q1,q2,k3⟩
section
variable {P:Program} {J:F3}
end
section
variable {P:Program} {K:F3->Prop} {cf:Cfg} {ext:Rel} {g gw ga gh:FuncId} {hw ha hh jw ja jh:List (Nat×List Item)} {ow oa oh:List (Nat×List (Ex×List Item))}
end
end
section
open Go Go.RowKit
section
variable {P:Program}
theorem SU(w:World)(dT sT ty elem:TypeId)(g o dLen dCap:Nat)(a:Addr)(sLen sCap:Nat)(cur:Array Value)(t:TypeId)(k:Nat)(cs:List Value)
  (hu:P.underlying dT=some (.slice elem)) (hs:(P.info? elem).map (·.size)=some k)
  (hg:w.heap[g]? =some (.cells cur t (0,0))) (hn:cs.length=Nat.min sLen dLen*k)
  (hsrc:∀j v,cs[j]? =some v->w.cell? (a.add j)=some v) (hfit:o+cs.length<=cur.size) (h1:∀v∈cs,v.oneCell'=true):
  (Builtin.copy_ #[dT,sT] ty #[.slice (some ⟨g,o,none⟩) dLen dCap,.slice (some a) sLen sCap]).run P w=
   .ok (goInt (Nat.min sLen dLen)) (w.setRow g (cur.toList.take o++cs++cur.toList.drop (o+cs.length)).toArray):=by
 have hl:=run_loadCells_list (P:=P) w a cs hsrc;have hst:=run_storeCells_at P g o t cs 0 cur w hg (by simpa using hfit) h1;cases hq:P.info? elem with
 |none=>simp[hq]at hs
 |some i=>
  have hi:i.size=k:=by simpa[hq]using hs
  simp[Builtin.copy_,run_underlying hu,Builtin.lenOf,Builtin.firstCells,sizeOf,typeInfo,hq,hi,<-hn,hl,hst]
theorem Wk{ops:Array Oper}{o:Oper}{a:Act}{w:World}{K:Act->World->Prop}{Q:Exit->Act->World->Prop}{E:Prop}(hgd:o.guard=none)(d s:Operand)(dT sT:TypeId)
  (ho:o.op=.call {callee:=.builtin .copy,args:= #[d,s],argTypes:= #[dT,sT]}) (elem:TypeId) (hu:P.underlying dT=some (.slice elem)) (k:Nat) (hsz:(P.info? elem).map (·.size)=some k)
  (g off dLen dCap:Nat) (ad:Addr) (sLen sCap:Nat) (hd:a.eval d=.slice (some ⟨g,off,none⟩) dLen dCap) (hs:a.eval s=.slice (some ad) sLen sCap)
  (cur:List Value) (t:TypeId) (hg:w.heap[g]? =some (.cells cur.toArray t (0,0))) (cs:List Value) (m:Nat) (hm:Nat.min sLen dLen=m) (hn:cs.length=m*k)
  (hsrc:∀(j:Nat) v,cs[j]? =some v->w.cell? (ad.add j)=some v) (hfit:off+cs.length<=cur.length) (h1:∀v∈cs,v.oneCell'=true) (B:Nat) (w0:World) (hb:Below B w0 w) (hBg:B<=g)
  (h:∀w',Hid (w'.heap[g]? =some (.cells (splice cur off cs).toArray t (0,0)))->Below B w0 w'->K (a.put o.dst (goInt m)) w'):
  if Region.wanted o (yielded ops a.tmps)=true then Oper.wp P o a w K Q else E:=by
 have hw:Region.wanted o (yielded ops a.tmps)=true:=by simp[Region.wanted,hgd]
 rw[zw hw];subst hm;have hrun:=SU (P:=P) w dT sT o.type elem g off dLen dCap ad sLen sCap cur.toArray t k cs hu hsz hg hn hsrc (by simpa using hfit) h1;unfold Oper.wp;simp[execOp,ho,resolve,invoke,builtin,hd,hs,hrun,Result.andThen];have:=h _ (show _=_ by simpa[splice]using setRow_heap w g _ _ t _ hg) (below_setRow hb hBg _);rw[Oper.upon_value];simpa using this
end
end
section
open Go Go.RowKit
section
variable {P:Program} {J:F3} {cf:Cfg} {ext:Rel}
theorem VC{g:FuncId}{args:List V}{e size:Nat}{rows:List (List V)}(hent:AH7 P g)(h0:0<size)(hna:args.flatMap Af=[])
  (h:∀(w:World)(A:Nat->Prop)(E:Env)(vals:List Value),(∀x∈J,w.heap[x.1]? =some x.2)->(∀b,A b->b<w.heap.size)->VL (VR1 w E (lkB []) A) args vals->
   Calls P g vals.toArray w fun ee w'=>∃(b cap:Nat)(cur:Array Value),ee=.returned (.slice (some ⟨b,0,none⟩) rows.length cap)/\Below w.heap.size w w'/\w.heap.size<=b/\b<w'.heap.size/\w'.heap[b]? =some (.cells cur e (0,0))/\
    cur.size=cap*size/\cap<=maxLen/\rows.length<=cap/\(∀(i:Nat)(row:List V),rows[i]? =some row->row.length=size)/\
    ∀(i j:Nat)(row:List V)(x:V),rows[i]? =some row->row[j]? =some x->∃u,cur[i*size+j]? =some u/\Rep w' A x u):CSpec P J g args [] (.ar 0 0 rows.length) [AG e size false rows]:=by
 refine⟨hent,fun _ w A E vals hT hI hvl=> ?_⟩
 refine(show Calls P g vals w _ from(h w A E vals.toList (fun x hx=>(hT x hx).1) (fun b hb=>(hI.g1 b hb).1) hvl)).mono ?_
 rintro ee w' ⟨b,cap,cur,rfl,hb,hbn,hbs,hbk,hsz,hcap,hle,hrl,hre⟩;have hk0:∀id k,lkB [AG e size false rows] id=some k->id=0/\k=AG e size false rows:=by
  intro id k hk;cases id with
  |zero=>simp[lkB]at hk;exact⟨rfl,hk.symm⟩
  |succ id=>simp[lkB]at hk
 have hown:∀x,Own ⟨fun i=>if i=0 then some b else none,fun _ _=>False⟩ (lkB [AG e size false rows]) x->x=b:=by
  rintro x ⟨id,k,hk,_,hx⟩;obtain⟨rfl,rfl⟩:=hk0 id k hk;rcases hx with hx|hx
  ·simpa using hx.symm
  ·exact hx.elim
 have hI':=Ah2 hI hb;refine⟨_,⟨fun i=>if i=0 then some b else none,fun _ _=>False⟩,A,rfl,⟨hI'.fr,hI'.g1,fun x hx ho=> ?_,fun x ho=> ?_,fun id k id' k' hk _ hk' _ _ _ _=> ?_,fun id k x _ _ _ hn=>hn,fun id k hk=> ?_⟩,?_,fun j hj k' hk'=> ?_⟩
 ·rw[hown x ho]at hx;have:=(hI.g1 b hx).1;omega
 ·rw[hown x ho];exact⟨hbs,.inr hbn⟩
 ·rw[(hk0 id k hk).1,(hk0 id' k' hk').1]
 ·obtain⟨rfl,rfl⟩:=hk0 id k hk;exact .inr ⟨b,cur,cap,rfl,hbk,h0,hsz,hcap,hle,hrl,fun i j row x h1 h2=>by
   obtain⟨u,h3,h4⟩:=hre i j row x h1 h2;exact⟨u,h3,by simpa[AG]using h4⟩⟩
 ·refine⟨some ⟨b,0,none⟩,cap,rfl,fun k hk=> ?_⟩
  have hk:some (AG e size false rows)=some k:=hk;cases hk
  refine⟨by simp[AG],by simp[AG],.inr ⟨b,cur,e,(0,0),rfl,by simp,hle,hbk,by simp[AG];exact hsz⟩⟩
 ·rw[hna]at hj;cases hj
end
def Jh{α:Type}(fb:Int->Int->Option (Int×Int))(l:List α)(n:Int):Option (List α):=match l with
 |[x]=>if 0<=n/\n<=1000 then(fb 1 n).bind fun y=>if y=(0,n)then some (List.replicate n.toNat x)else none else none
 |_=>none
theorem Y7{α:Type}{fb:Int->Int->Option (Int×Int)}{l y:List α}{n:Int}(h:Jh fb l n=some y):∃(x:α)(m:Nat),l=[x]/\n=(m:Int)/\m<=1000/\fb 1 n=some (0,n)/\y=List.replicate m x:=by
 unfold Jh at h
 split at h
 ·rename_i x;by_cases h0:0<=n/\n<=1000
  ·rw[zw h0]at h;cases hb:fb 1 n with
   |none=>rw[hb]at h;cases h
   |some z=>
    rw[hb,za0]at h;by_cases hz:z=(0,n)
    ·rw[zw hz]at h;exact⟨x,n.toNat,rfl,by omega,by omega,by rw[hz],(zy h).symm⟩
    ·rw[zi hz]at h;cases h
  ·rw[zi h0]at h;cases h
 ·cases h
abbrev CST(P:Program)(K:F3->Prop)(g:FuncId)(xs:List V)(x:V):Prop:=∀J,K J->CSpec P J g xs [] x []
def Ob(n:Int):V:=.v (.int .u64 n)
def V5(P:Program)(K:F3->Prop)(g gb:FuncId)(e:TypeId)(dp:Bool)(t:Ty):Rel:=fun g' args blks r blks'=>g'=g/\blks=[]/\∃(x:t.den)(n:Nat)(row:List V),n<=1000/\RE t x row/\args=[.im [row],.v (.int .i64 n)]/\r=.ar 0 0 n/\
 blks'=[AG e t.size dp (List.replicate n row)]/\CST P K gb [Ob 1,Ob n] (.tup [Ob 0,Ob n])
def AQ0(g:FuncId)(e:TypeId)(dp:Bool)(t:Ty):FAnn:=⟨g,0,[.slot 0 (.cell (.im t)),.slot 1 (.cell (.int .i64))],[.blk (.arr e dp t),.slot 0 (.ref 0 false)],[],[],[]⟩
abbrev rU2:List Item:=[.slot 0 (.cell (.int .u64)),.slot 1 (.cell (.int .u64))]
theorem Av4{P:Program}{K:F3->Prop}{cf:Cfg}{ext:Rel}{g gb:FuncId}{e:TypeId}{dp:Bool}{t:Ty}{hh jj:List (Nat×List Item)}{oo:List (Nat×List (Ex×List Item))}(fb:Int->Int->Option (Int×Int))(hm:P.follows .mixedOrders=true)
  (hext:∀J,K J->∀g args blks r blks',ext g args blks r blks'->CSpec P J g args blks r blks')
  (Eb:EL (GN P cf ext) ⟨⟨gb,0,C2 0 [.int .u64,.int .u64],rU2,hh,oo,jj⟩,fun(x:Int×Int)=>fb x.1 x.2⟩)
  (hx:∀g' args blks r blks',V5 P K g gb e dp t g' args blks r blks'->ext g' args blks r blks'):EL (GN P cf ext) ⟨AQ0 g e dp t,fun(x:List t.den×Int)=>Jh fb x.1 x.2⟩:=by
 have cb:∀(n:Int),fb 1 n=some (0,n)->CST P K gb [Ob 1,Ob n] (.tup [Ob 0,Ob n]):=fun n h=>by
  obtain⟨r,blks',q1,q2,_⟩:=Ap2 (cs:=[.int .u64,.int .u64]) Eb (d:=((1,n):Int×Int)) (y:=((0,n):Int×Int)) (xs:=[Ob 1,Ob n]) (by rfl) ⟨rfl,rfl,trivial⟩ h;have hr:r=.tup [Ob 0,Ob n]:=by
   obtain⟨us,h1,h2⟩:=q2.val;subst h1
   match us,h2 with
   |[a,b],h2=>
    have ha:a=Ob 0:=h2.1;have hb:b=Ob n:=h2.2.1;rw[ha,hb]
   |[],h2=>exact h2.elim
   |[_],h2=>exact h2.2.elim
   |_::_::_::_,h2=>exact h2.2.2.elim
  have hb:blks'=[]:=zb3 q2.len;subst hr;subst hb;intro J hJ;obtain⟨k,q1⟩:=q1;exact JK hm (hext J hJ) k _ _ _ _ _ q1
 refine As3 rfl rfl fun l n y a a' ha ha' hF=> ?_
 have hF:Jh fb l n=some y:=hF;obtain⟨x,m,rfl,rfl,hm1,hb,rfl⟩:=Y7 hF;have ha':a'=.v (.int .i64 (m:Int)):=ha';obtain⟨row,rfl,hrow⟩:∃row,a=.im [row]/\RE t x row:=by
  rcases ha with⟨h0,_⟩|⟨rows,rfl,hr⟩
  ·cases h0
  ·match rows,hr with
   |[row],hr=>exact⟨row,rfl,hr.2 0 x row rfl rfl⟩
   |[],hr=>exact absurd hr.1 (by simp)
   |_::_::_,hr=>exact absurd hr.1 (by simp)
 have hrl:RLx (RE t) (List.replicate m x) (List.replicate m row):=⟨by simp,fun i u v h1 h2=>by
  rw[zc8]at h1 h2
  split at h1
  ·cases h1
   rw[zw (by assumption)]at h2;cases h2
   exact hrow
  ·cases h1⟩
 refine⟨_,_,hx _ _ _ _ _ ⟨rfl,rfl,x,m,row,hm1,hrow,by rw[ha'],rfl,rfl,cb m hb⟩,⟨_,rfl,fun b hb=> ?_⟩,fun id b hb=> ?_,rfl⟩
 ·have hb:some (TB.arr e dp t (List.replicate m x))=some b:=hb;cases hb
  simp[Er]
 ·have hb:AA [(0,some (TB.arr e dp t (List.replicate m x)))] id=some b:=hb;simp only[AA]at hb;cases hi:Nat.beq id 0 with
  |false=>rw[hi]at hb;cases hb
  |true=>
   rw[hi]at hb;have hb:some (TB.arr e dp t (List.replicate m x))=some b:=hb;cases hb
   have:id=0:=za7 hi;subst this;exact⟨_,rfl,rfl,rfl,rfl,rfl,hrl⟩
section
variable {P:Program} {J:F3}
theorem Ae8{g:FuncId}{xs:List V}{x x':Value}(hs:CSpec P J g xs [] (.tup [.v x,.v x']) [])(hx:xs.flatMap Af=[]){w:World}(hJ:∀x∈J,w.heap[x.1]? =some x.2){A:Nat->Prop}(hA:∀b,A b->b<w.heap.size){vals:List Value}
  (hv:VL (Rep w A) xs vals):Calls P g vals.toArray w fun e w'=>e=.returned (.tuple #[x,x'])/\Below w.heap.size w w':=by
 have hno:∀E b,¬Own E (lkB []) b:=fun E b ⟨id,k,hk,_⟩=>by simp[lkB]at hk
 have hI:HpInv w (Own ⟨fun _=>none,fun _ _=>False⟩ (lkB [])) A ⟨fun _=>none,fun _ _=>False⟩ A (lkB []) w:=
  ⟨Fr.refl _ w,fun b hb=>⟨hA b hb,.inl hb⟩,fun b _=>hno _ b,fun b h=>absurd h (hno _ b),fun id k id' k' hk=>by simp[lkB]at hk,fun id k b hk=>by simp[lkB]at hk,fun id k hk=>by simp[lkB]at hk⟩
 refine(hs.calls (by unfold Hg;rw[hx];rfl) w A ⟨fun _=>none,fun _ _=>False⟩ vals.toArray (fun x hx=>⟨hJ x hx,hno _ _⟩) hI (hv.mono fun x _ y hx=>by
  cases hx with
  |v _ hs=>exact .v _ hs
  |em a=>exact .em a
  |er0=>exact .er0
  |er1 t x=>exact .er1 t x
  |im0 a cap=>exact .im0 a cap
  |im b off cap size rows f h1 h2 h3 h4 h5 h6 h7=>exact .im b off cap size rows f h1 h2 h3 h4 h5 h6 h7)).mono ?_
 rintro e w' ⟨y,E',G',rfl,hI',hy,_⟩;obtain⟨us,rfl,hu⟩:=hy;have tl:∀l:List Value,VL (VR1 w' E' (lkB []) G') [.v x,.v x'] l->l=[x,x']:=fun l hl=>by
  match l,hl with
  |[a,b],hu=>
   have h1:Rep w' G' (.v x) a:=hu.1;have h2:Rep w' G' (.v x') b:=hu.2.1;cases h1;cases h2;rfl
  |[],hu=>exact hu.elim
  |[_],hu=>exact hu.2.elim
  |_::_::_::_,hu=>exact hu.2.2.elim
 have e1:=tl us.toList hu;have:us= #[x,x']:=by rw[<-Array.toArray_toList (xs:=us),e1]
 subst this;exact⟨rfl,hI'.fr.os,hI'.fr.tape,hI'.fr.output,hI'.fr.size,fun b hb=>hI'.fr.block b hb (hno _ b)⟩
end
end
section
open Go Go.RowKit
def xs4(us:List Value)(m:Nat):List Value:=(List.replicate m us).flatten
theorem EA{us:List Value}(h:us.length=4)(m:Nat):(xs4 us m).length=m*4:=by unfold xs4;rw[List.length_flatten,List.map_replicate,h,List.sum_replicate_nat]
theorem QW(us:List Value)(a b:Nat):xs4 us (a+b)=xs4 us a++xs4 us b:=by unfold xs4;rw[show List.replicate (a+b) us=List.replicate a us++List.replicate b us from(List.replicate_append_replicate ..).symm,List.flatten_append]
theorem Ac5{us:List Value}{m:Nat}{v:Value}(h:v∈xs4 us m):v∈us:=by
 unfold xs4 at h;obtain⟨l,h1,h2⟩:=List.mem_flatten.1 h;rw[List.eq_of_mem_replicate h1]at h2;exact h2
theorem AF7{us:List Value}(h:us.length=4):∀(m i j:Nat)(v:Value),i<m->us[j]? =some v->(xs4 us m)[i*4+j]? =some v:=by
 intro m i j v hi hj;have hj4:j<4:=by rw[<-h];exact(za3.1 hj).1
 obtain⟨r,rfl⟩:∃r,m=i+(1+r):=⟨m-i-1,by omega⟩;rw[QW,QW,List.getElem?_append_right (by rw[EA h];omega),EA h,show i*4+j-i*4=j by omega,zd6 (by rw[EA h];omega)];have:xs4 us 1=us:=by unfold xs4;simp
 rw[this];exact hj
theorem Au8:(Tryz.prog.info? 36).map (fun i=>(i.zero,i.size,i.bytes))=some (some (.agg #[.bool false,.slice none 0 0,.bool false,.slice none 0 0]),4,64):=by kernel_rfl
set_option maxHeartbeats 4000000 in
set_option maxRecDepth 1000000 in
theorem Av3 {w : World} {n : Nat} (hn : n <= 1000) {bk off cap : Nat} {us : List Value} (hu : us.length = 4) (h1 : ∀ v ∈ us, v.oneCell' = true) (hbk : bk < w.heap.size) (hc : ∀ (j : Nat) v, us[j]? = some v -> w.cell? ⟨bk, off + j, none⟩ = some v)
  (qm : Calls Tryz.prog 193 #[.int .u64 1, .int .u64 n] w fun e w' => e = .returned (.tuple #[.int .u64 0, .int .u64 n]) /\ Below w.heap.size w w') :
  Calls Tryz.prog 149 #[.slice (some ⟨bk, off, none⟩) 1 cap, .int .i64 n] w fun e w' => ∃ b : Nat, e = .returned (.slice (some ⟨b, 0, none⟩) n n) /\ Below w.heap.size w w' /\ w.heap.size <= b /\ w'.heap[b]? = some (.cells (xs4 us n).toArray 36 (0, 0)) := by
 obtain ⟨i0, hi, hz0, hz1, hz2⟩ := info_parts Au8
 go_enter Tryz.func149, Tryz.ntmps149
 go_wp2_with (go_at_call 193; refine qm.mono ?_)
 rintro e w1 ⟨rfl, b1⟩;have hs1 := b1.size
 go_wp2_with (at_make; refine wpList_make_full _ rfl _ _ 23 rfl w.heap.size 36 i0 _ 4 Tryz.underlying23 hi hz0 hz1 .i64 .i64 _ _ n rfl rfl ?hL ?hC ?b2 ?b3 ?b4 ?_)
 case hL => first | rfl | omega | go_num
 case hC => first | rfl | omega | go_num
 case b2 => rw [hz2]; omega
 case b3 => unfold maxLen; omega
 case b4 => omega
 intro w2 hown hgr;have b2 : Below w.heap.size w w2 := b1.grown hgr hs1 (fun k hk => by cases hk);obtain ⟨cur, hrow, hsz⟩ : ∃ cur : Array Value, w2.heap[w1.heap.size]? = some (.cells cur 36 (0, 0)) /\ cur.size = n * 4 := by
  rcases hown.2 with ⟨hv, _⟩ | ⟨g, cap', cur, hv, _, hg, _, _, hs, _⟩
  ·cases hv
  ·cases hv
   exact ⟨cur, hg, hs⟩
 clear hown
 obtain ⟨L, rfl⟩ : ∃ L : List Value, cur = L.toArray := ⟨cur.toList, by simp⟩;have hL : L.length = n * 4 := by simpa using hsz
 have hsz4 : (Tryz.prog.info? 36).map (·.size) = some 4 := by rw [hi]; simp [hz1]
 have hx1 : ∀ (j : Nat) v, (xs4 us (Nat.min 1 n))[j]? = some v -> us[j]? = some v := fun j v hj => by
  rcases Nat.eq_zero_or_pos n with h0 | h0
  ·rw [h0] at hj; simp [xs4] at hj
  ·rw [show Nat.min 1 n = 1 by simp [Nat.min_def]; omega] at hj;simpa [xs4] using hj
 have hmin : Nat.min 1 n <= n /\ (n = 0 \/ Nat.min 1 n = 1) := by
  rcases Nat.eq_zero_or_pos n with h0 | h0
  ·rw [h0]; exact ⟨za8 _, .inl rfl⟩
  ·have : Nat.min 1 n = 1 := Nat.min_eq_left h0;rw [this]; exact ⟨h0, .inr rfl⟩
 have hadd : ∀ (b o j : Nat), (⟨b, o, none⟩ : Addr).add j = ⟨b, o + j, none⟩ := fun b o j => by unfold Addr.add; split <;> simp_all
 obtain ⟨w3, hrun, hr3, b3⟩ : ∃ w3, (Builtin.copy_ #[23, 23] 3 #[.slice (some ⟨w1.heap.size, 0, none⟩) n n, .slice (some ⟨bk, off, none⟩) 1 cap]).run Tryz.prog w2 = .ok (.int .i64 (Nat.min 1 n : Nat)) w3 /\
   (∃ Z : List Value, Z.length = (n - Nat.min 1 n) * 4 /\ w3.heap[w1.heap.size]? = some (.cells (xs4 us (Nat.min 1 n) ++ Z).toArray 36 (0, 0))) /\ Below w.heap.size w w3 := by
  refine ⟨_, SU (P := Tryz.prog) w2 23 23 3 36 w1.heap.size 0 n n ⟨bk, off, none⟩ 1 cap L.toArray 36 4 (xs4 us (Nat.min 1 n)) Tryz.underlying23 hsz4 hrow (EA hu _) (fun j v hj => by
   rw [hadd, b2.cell (p := ⟨bk, off + j, none⟩) hbk];exact hc j v (hx1 j v hj)) (by rw [EA hu]; simp only [List.size_toArray, hL]; omega) (fun v hv => h1 v (Ac5 hv)), ⟨L.drop (Nat.min 1 n * 4), by rw [List.length_drop, hL, Nat.sub_mul], ?_⟩, below_setRow b2 hs1 _⟩
  rw [setRow_heap w2 w1.heap.size _ _ _ _ hrow];simp [EA hu]
 generalize hm0 : Nat.min 1 n = m0 at *
 clear hx1 hc qm hbk hL hsz hrow b2 hgr hm0
 go_wp2
 go_loopw [8] (fun v wr => ∃ m : Nat, m <= n /\ (n = 0 \/ 1 <= m) /\ v = .int .i64 m /\ (∃ Z : List Value, Z.length = (n - m) * 4 /\ wr.heap[w1.heap.size]? = some (.cells (xs4 us m ++ Z).toArray 36 (0, 0))) /\ Below w.heap.size w wr) (fun v wr => n - (intOf v).toNat)
 case atStart =>
  exact ⟨m0, hmin.1, by omega, rfl, hr3, b3⟩
 case round =>
  obtain ⟨m, hmn, hm1, rfl, ⟨Z, hZ, hrow⟩, hb⟩ := hrel;by_cases hlt : m < n
  ·obtain ⟨c, hcd⟩ : ∃ c, c = Nat.min m (n - m) := ⟨_, rfl⟩;have hc1 : c <= m /\ c <= n - m /\ 1 <= c := by
    rw [hcd];refine ⟨Nat.min_le_left _ _, Nat.min_le_right _ _, ?_⟩
    exact Nat.le_min.2 ⟨by omega, by omega⟩
   have hxm : xs4 us m = xs4 us c ++ xs4 us (m - c) := by rw [<- QW, show c + (m - c) = m by omega]
   have s1 : Hid (Nat.min m (n - m) = c) := hcd.symm;have s2 : Hid ((xs4 us c).length = c * 4) := EA hu c;have s3 : Hid (∀ (j : Nat) v, (xs4 us c)[j]? = some v -> wr.drew.cell? ((⟨w1.heap.size, 0, none⟩ : Addr).add j) = some v) := fun j v hj => by
    rw [hadd, ze6];show wr.cell? ⟨w1.heap.size, j, none⟩ = some v;simp only [World.cell?, hrow];have hlen := (za3.1 hj).1;simp only [hxm, List.append_assoc, List.getElem?_toArray];rw [zd6 hlen];simpa using hj
   have s4 : Hid (m * 4 + (xs4 us c).length <= (xs4 us m ++ Z).length) := by
    show m * 4 + (xs4 us c).length <= (xs4 us m ++ Z).length;rw [ze5, EA hu, EA hu, hZ]; omega
   have s5 : Hid (∀ v ∈ xs4 us c, v.oneCell' = true) := fun v hv => h1 v (Ac5 hv)
   have s6 : Hid (wr.drew.heap[w1.heap.size]? = some (.cells (xs4 us m ++ Z).toArray 36 (0, 0))) := hrow;have s7 : Hid (Below w.heap.size w wr.drew) := hb.drew;have s8 : Hid (splice (xs4 us m ++ Z) (m * 4) (xs4 us c) = xs4 us (m + c) ++ Z.drop (c * 4)) := by
    show splice (xs4 us m ++ Z) (m * 4) (xs4 us c) = xs4 us (m + c) ++ Z.drop (c * 4);unfold splice;rw [QW, EA hu, List.take_left' (EA hu m), <- List.drop_drop, List.drop_left' (EA hu m), List.append_assoc]
   have hp0 : (0 : Int) <= (m : Int) := by omega
   have hp1 : (m : Int) <= (n : Int) := by omega
   have hp2 : ((m : Int)).toNat = m := by omega
   have hmn' : m <= n := hmn;have hne : ¬ n = m := by omega
   clear hrun hr3 hcd
   go_wp2_with fail
   go_region_law (refine Wk rfl (.tmp 41) (.tmp 44) 23 23 rfl 36 Tryz.underlying23 4 hsz4 w1.heap.size (m * 4) (n - m) (n - m) ⟨w1.heap.size, 0, none⟩ m n (by simp [Act.eval, Act.put, hne]) (by simp [Act.eval, Act.put]) (xs4 us m ++ Z) 36 s6.out (xs4 us c) c s1.out s2.out s3.out s4.out s5.out w.heap.size w s7.out hs1 ?_; intro w4 hr4 b4)
   have e4 := hr4.out;rw [s8.out] at e4
   clear hr4 s1 s2 s3 s4 s5 s6 s7 s8 hrow hxm
   have hmc : IntKind.i64.wrap ((m : Int) + (c : Int)) = ((m + c : Nat) : Int) := by rw [IntKind.wrap_i64]; omega
   simp only [List.getElem_toArray, List.getElem_cons_succ, List.getElem_cons_zero]
   go_frame
   go_wp2
   go_roundw
   case rel => exact ⟨m + c, by omega, .inr (by omega), by go_num, ⟨Z.drop (c * 4), by rw [List.length_drop, hZ]; omega, e4⟩, b4⟩
   case measure => simp [intOf]; omega
  ·have hme : m = n := by omega
   subst hme;have hZ0 : Z = [] := zb3 (by rw [hZ]; omega);rw [hZ0, List.append_nil] at hrow
   go_wp2
   go_ret
   exact ⟨_, rfl, hb, hs1, hrow⟩
abbrev AS5:Ty:=.pair (.pair .bool (.sl (.int .i64))) (.pair .bool (.sl (.int .i64)))
theorem Aj3{K:F3->Prop}{J:F3}(hent:AH7 Tryz.prog 149)(hJ:K J):∀g' args blks r blks',V5 Tryz.prog K 149 193 36 false AS5 g' args blks r blks'->CSpec Tryz.prog J g' args blks r blks':=by
 rintro g' args blks r blks' ⟨rfl,rfl,x,n,row,hn,hrow,rfl,rfl,rfl,hb⟩;have hlen:row.length=4:=hrow.len;have key:CSpec Tryz.prog J 149 [.im [row],.v (.int .i64 n)] [] (.ar 0 0 (List.replicate n row).length) [AG 36 4 false (List.replicate n row)]:=by
  refine VC hent (by decide) rfl fun w A E vals hT hA hvl=> ?_
  obtain⟨y,rfl,hy⟩:∃y,vals=[y,.int .i64 n]/\Rep w A (.im [row]) y:=by
   match vals,hvl with
   |[y1,y2],h=>
    have k1:Rep w A (.im [row]) y1:=h.1;have k2:Rep w A (.v (.int .i64 n)) y2:=h.2.1;cases k2
    exact⟨y1,rfl,k1⟩
   |[],h=>exact h.elim
   |[_],h=>exact h.2.elim
   |_::_::_::_,h=>exact h.2.2.elim
  cases hy with
  |im bk off cap size rows f hbA hs hcap hcm hrl hcell hrep=>
   have hs4:size=4:=by have:=hrl 0 row rfl;omega
   subst hs4;have hus:((List.range 4).map (f 0)).length=4:=by simp
   have hget:∀(j:Nat) v,((List.range 4).map (f 0))[j]? =some v->j<4/\v=f 0 j:=fun j v hj=>by
    have h4:j<4:=by have:=(za3.1 hj).1;simpa using this
    rw[zd5,List.getElem?_range h4]at hj;exact⟨h4,(zy hj).symm⟩
   have hrowj:∀j,j<4->∃z,row[j]? =some z:=fun j hj=>⟨row[j],za1 (by omega)⟩
   refine(Av3 hn hus (fun v hv=> ?_) (hA bk hbA) (fun j v hj=> ?_) (Ae8 (hb J hJ) rfl hT hA (vals:=[.int .u64 1,.int .u64 n]) ⟨.v _ rfl,.v _ rfl,trivial⟩)).mono ?_
   ·obtain⟨j,hj⟩:=ze3 hv;obtain⟨h4,rfl⟩:=hget j v hj;obtain⟨z,hz⟩:=hrowj j h4;exact(hrep 0 j row z rfl hz).one
   ·obtain⟨h4,rfl⟩:=hget j v hj;obtain⟨z,hz⟩:=hrowj j h4;have:=hcell 0 j row z rfl hz;rw[Nat.zero_mul,Nat.add_zero]at this;exact this
   ·rintro e w' ⟨b,rfl,hbel,hge,hheap⟩;refine⟨b,n,(xs4 ((List.range 4).map (f 0)) n).toArray,by rw[List.length_replicate],hbel,hge,(Array.getElem?_eq_some_iff.1 hheap).1,hheap,by rw[List.size_toArray,EA hus],by unfold maxLen;omega,by rw[List.length_replicate];exact za8 _,fun i r' hr=> ?_,fun i j r' z hr hz=> ?_⟩
    ·rw[zc8]at hr
     split at hr
     ·cases hr;exact hlen
     ·cases hr
    ·rw[zc8]at hr
     split at hr
     ·rename_i hi;cases hr
      have h4:j<4:=by have:=(za3.1 hz).1;omega
      refine⟨f 0 j,?_,(hrep 0 j row z rfl hz).same (fun b hb=>hbel.block b (hA b hb)) (fun _ h=>h)⟩
      rw[List.getElem?_toArray];exact AF7 hus n i j _ hi (by rw[zd5,List.getElem?_range h4];rfl)
     ·cases hr
 rw[List.length_replicate]at key;exact key
end
section
open Go
set_option maxRecDepth 100000
abbrev Tq0:Type:=((Bool×(List Int))×Bool×(List Int))
abbrev Tq1:Type:=(Bool×(List Int)×Bool×(List Int))
abbrev Tq2:Type:=((Bool×List (Int))×Bool×List (Int))
abbrev Tq3:Type:=(Bool×(List Int))
abbrev Tq4:Type:=(Bool×List (Int)×Bool×List (Int))
abbrev Tq5:Type:=((List Int)×Int×Int)
abbrev Tq6:Type:=((List Int)×(List Int)×(List Int)×Int×Int)
abbrev Tq7:Type:=((List Int)×(List Int)×Int×Int×Int)
abbrev Tq8:Type:=((List Int)×(List Int)×(List Int)×Int×Int×Int×Int×Int×Int×Int⊕(List Int)×(List Int)×(List Int)×Int×Int×Int×Int×Int)
abbrev Tq9:Type:=((List Tq0)×Tq1×(List Tq0)×Int×(List Tq0)×Int×Int×(List Tq0)×Int×Int⊕(List Tq0)×(List Tq0)×(List Tq0)×Int×Int)
abbrev Tq10:Type:=((List Tq0)×(List Tq0)×(List Tq0)×Int×Int)
abbrev Tq11:Type:=(Bool×List (Int))
abbrev Tq12:Type:=((List Int)×(List Int)×(List Int)×Int×Int⊕(List Int))
abbrev Tq13:Type:=((List Tq0)×(List Tq0)×(List Tq0)×Int×Int⊕(List Tq0))
abbrev Tq14:Type:=(List (Int)×Int×Int)
abbrev Tq15:Type:=((List Int)×(List Int)×Int×Int×Int⊕(List Int))
abbrev Tq16:Type:=((List Tq0)×(List Tq0)×Int×Int)
abbrev Tq17:Type:=((List Tq0)×Tq1×(List Tq0)×Int×(List Tq0)×Int×Int×(List Tq0)×Int×Int)
abbrev Tq18:Type:=(List Tq2×Bool)
abbrev Yq0:Ty:=(.pair (.pair .bool (.sl (.int .i64))) (.pair .bool (.sl (.int .i64))))
abbrev Yq1:Ty:=(.pair (.bool) (.sl (.int .i64)))
def AN3:TyD:=⟨1,8,false,[(.v (.int .i64 0))],none,false,(some .i64),[],false⟩
def AR1:TyD:=⟨1,1,false,[(.v (.bool false))],none,false,none,[],false⟩
def AR2:TyD:=⟨1,1,false,[(.v (.int .u8 0))],none,false,(some .u8),[],false⟩
def AH2:TyD:=⟨1,24,false,[.em],(some 5),false,none,[],false⟩
def Ay5:TyD:=⟨1,24,false,[.em],(some 36),false,none,[],false⟩
def Ay6:TyD:=⟨1,24,false,[.em],(some 3),false,none,[],false⟩
def AH3:TyD:=⟨2,32,true,[(.v (.bool false)),.em],none,false,none,[⟨0,4,1,false⟩,⟨1,32,1,false⟩],false⟩
def Ay7:TyD:=⟨4,64,true,[(.v (.bool false)),.em,(.v (.bool false)),.em],none,false,none,[⟨0,34,2,true⟩,⟨2,34,2,true⟩],false⟩
def AH4:TyD:=⟨1,8,false,[(.v (.int .u64 0))],none,false,(some .u64),[],false⟩
def AH5:TyD:=⟨3,40,true,[.em,(.v (.int .i64 0)),(.v (.int .u64 0))],none,false,none,[⟨0,22,1,false⟩,⟨1,3,1,false⟩,⟨2,88,1,false⟩],false⟩
def Ay3:TyD:=⟨1,8,false,[(.v (.int .u64 0))],none,false,(some .u64),[],false⟩
def Ay4:TyD:=⟨1,24,false,[.em],(some 34),false,none,[],false⟩
theorem ty3:AY Tryz.prog 3=some AN3:=by kernel_rfl
theorem ty4:AY Tryz.prog 4=some AR1:=by kernel_rfl
theorem ty5:AY Tryz.prog 5=some AR2:=by kernel_rfl
theorem AS6:AY Tryz.prog 22=some AH2:=by kernel_rfl
theorem AQ8:AY Tryz.prog 23=some Ay5:=by kernel_rfl
theorem AQ9:AY Tryz.prog 32=some Ay6:=by kernel_rfl
theorem AS7:AY Tryz.prog 34=some AH3:=by kernel_rfl
theorem AR0:AY Tryz.prog 36=some Ay7:=by kernel_rfl
theorem AS8:AY Tryz.prog 88=some AH4:=by kernel_rfl
theorem AS9:AY Tryz.prog 90=some AH5:=by kernel_rfl
theorem AQ6:AY Tryz.prog 148=some Ay3:=by kernel_rfl
theorem AQ7:AY Tryz.prog 164=some Ay4:=by kernel_rfl
def Oa:List (Nat×TyD):=[(3,AN3),(4,AR1),(5,AR2),(22,AH2),(23,Ay5),(32,Ay6),(34,AH3),(36,Ay7),(88,AH4),(90,AH5),(148,Ay3),(164,Ay4)]
def MA:List (Nat×Ty):=[(3,.int .i64),(5,.int .u8),(34,.pair (.bool) (.sl (.int .i64))),(36,.pair Yq1 Yq1)]
theorem Al1:∀t d,getD Oa t=some d->AY Tryz.prog t=some d:=AN2 (by unfold Oa;exact⟨ty3,⟨ty4,⟨ty5,⟨AS6,⟨AQ8,⟨AQ9,⟨AS7,⟨AR0,⟨AS8,⟨AS9,⟨AQ6,⟨AQ7,trivial⟩⟩⟩⟩⟩⟩⟩⟩⟩⟩⟩⟩)
theorem AO4:Tryz.prog.underlying 4=some .bool:=by kernel_rfl
theorem Oq:∀t,([4]:List Nat).contains t=true->Tryz.prog.underlying t=some .bool:=by
 intro t h;simp at h;rcases h with rfl
 all_goals first|exact AO4
theorem Af8:∀t,([]:List Nat).contains t=true->AN8 Tryz.prog t:=by
 intro t h;simp at h
 try exact h.elim
abbrev qC(i:Nat)(c:AC):Item:=.slot i (.cell c)
abbrev qI(i:Nat):Item:=.slot i (.cell (.int .i64))
abbrev qB(i:Nat):Item:=.slot i (.cell .bool)
abbrev qS(i:Nat):Item:=.slot i (.cell .str)
abbrev qA(i:Nat)(l:List AC):Item:=.slot i (.agg l)
abbrev qT(i j:Nat):Item:=.slot i (.ref j true)
abbrev qF(i j:Nat):Item:=.slot i (.ref j false)
abbrev qb0:List AC:=[.bool,.im (.int .i64)]
abbrev qb1:List AC:=[.bool,.im (.int .i64),.bool,.im (.int .i64)]
abbrev qb:Item:=.blk (.arr 36 false Yq0)
abbrev qa:Item:=.blk (.arr 3 true (.int .i64))
abbrev qj:Item:=qC 0 (.im Yq0)
abbrev ql:Item:=qC 1 (.im Yq0)
abbrev qe:Item:=.blk (.box 34 qb0)
abbrev qr:Item:=.blk (.box 36 qb1)
abbrev qn:Item:=.blk (.box 90 [.im (.int .u8),.int .i64,.int .u64])
abbrev qg:Item:=qC 0 (.im (.int .i64))
abbrev qh:Item:=qC 1 (.im (.int .i64))
abbrev qap:Item:=qC 5 (.im Yq0)
abbrev qaj:Item:=qA 0 qb1
abbrev qah:Item:=.blk (.box 3 [.int .i64])
abbrev qa4:Item:=qC 24 (.im Yq0)
abbrev qa5:Item:=qC 18 (.im Yq0)
abbrev qa6:Item:=qC 6 (.im Yq0)
abbrev qav:Item:=qA 1 qb1
abbrev qaw:Item:=qC 0 (.im (.pair .bool (.sl (.int .i64))))
abbrev qk:Item:=qF 5 0
abbrev qf:Item:=qI 6
abbrev qax:Item:=qA 0 qb0
abbrev qaq:Item:=qC 1 (.im (.int .u8))
abbrev qs:Item:=qF 0 0
abbrev qx:Item:=qF 10 0
abbrev qz:Item:=qF 11 1
abbrev qay:Item:=qC 20 (.im (.int .i64))
abbrev qu:Item:=qI 13
abbrev qaa:Item:=qT 2 0
abbrev qab:Item:=qF 6 0
abbrev qaf:Item:=qF 12 2
abbrev qae:Item:=qT 0 0
abbrev qar:List Item:=[qn,qae]
abbrev qaz:List Item:=[qn,qI 0]
abbrev qa7:List Item:=[qn,qae,qI 1]
abbrev qd:List Item:=[qB 0]
abbrev qac:List Item:=[qg]
abbrev qad:List Item:=[qa,qs]
abbrev qa8:List Item:=[qB 0,qh]
abbrev qa0:List Item:=[qa,qA 0 [.bool,.at 0]]
abbrev qi:List Item:=[qI 0]
abbrev qp:List Item:=[qax]
abbrev qv:List Item:=[qg,qh]
abbrev qa9:List Item:=[qg,qh,qI 5]
abbrev qak:List Item:=[qg,qI 1]
abbrev qba:List Item:=[qa,qa,qs,qF 1 1]
abbrev qbb:List Item:=[qa,qg,qI 1,qab,qI 7,qI 8]
abbrev qbc:List Item:=[qa,qab,qI 7]
abbrev qai:List Item:=[qa,qk]
abbrev qbd:List Item:=[qg,qh,qI 2,qI 7,qI 9,qI 10]
abbrev qbe:List Item:=[qa]
abbrev qbf:List Item:=[qa,qs,qh,qf]
abbrev qw:List Item:=[qax,qA 1 qb0]
abbrev qc:List Item:=[qaj]
abbrev qag:List Item:=[qaj,qB 1]
abbrev qq:List Item:=[qj]
abbrev qan:List Item:=[qb,qs]
abbrev qbg:List Item:=[qa,qh,qk,qC 18 (.im (.int .i64)),qI 19,qI 20]
abbrev qbh:List Item:=[qa,qh,qk,qf,qI 7,qI 8,qI 9,qC 18 (.im (.int .i64)),qI 19,qI 20]
abbrev qy:List Item:=[qaj,qav]
abbrev qal:List Item:=[qa,qg,qh,qk,qf,qI 7]
abbrev qo:List Item:=[qj,ql]
abbrev qa1:List Item:=[qb,qj,ql,qk,qf]
abbrev qbi:List Item:=[qb,ql,qk,qa4,qI 25,qI 26]
abbrev qas:List Item:=[qb,qk]
abbrev qbj:List Item:=[qn,qb,qae,qF 3 1]
abbrev qao:List Item:=[qC 0 (.im (.int .u8))]
abbrev qa2:List Item:=[qb,qb,qs,qF 1 1]
abbrev qbk:List Item:=[qg,.slot 1 (.clo 231)]
abbrev qbl:List Item:=[qaw,.slot 1 (.clo 219)]
abbrev qbm:List Item:=[qg,qI 3]
abbrev qbn:List Item:=[qa,qa,qa,qf,qI 9,qx,qz,qaf,qu,qI 15,qI 16]
abbrev qbo:List Item:=[qah,qB 0]
abbrev qbp:List Item:=[qah,qj,.slot 1 (.cap 156 [0])]
abbrev qbq:List Item:=[qj,qI 3]
abbrev qam:List Item:=[qb,qs,qB 1]
abbrev qa3:List Item:=[qb,qF 4 0]
abbrev qbr:List Item:=[qj,qI 1]
abbrev qat:List Item:=[qC 0 (.int .u64),qC 1 (.int .u64)]
abbrev qbs:List Item:=[qb,ql,qk,qa5,qI 19,qI 20]
abbrev qbt:List Item:=[qb,qb,ql,qab,qI 7,qF 8 1,qI 9]
abbrev qbu:List Item:=[qb,qb,qs,qF 1 1,qB 2]
abbrev qbv:List Item:=[qb,qb,ql,qab,qF 7 1,qI 9]
abbrev qau:List Item:=[qj,qav]
abbrev qbw:List Item:=[qr,qr,qr,qj,qT 3 0,qT 4 1,qT 5 2,qf]
abbrev qbx:List Item:=[qr,qr,qT 4 0,qT 5 1]
abbrev qby:List Item:=[qg,.slot 1 (.clo 97)]
abbrev qbz:List Item:=[qj,qB 1]
def KR:FAnn:=⟨173,1,qar,qaz,[],[],[(4,[qn,qae,qI 3])]⟩
def KT:FAnn:=⟨94,1,qa7,qaz,[],[],[]⟩
def WI:FAnn:=⟨100,0,[qI 0,qI 1,qI 2],qd,[],[],[]⟩
def T3:FAnn:=⟨201,0,qac,qad,[(1,qac)],[(1,[(.exit 0,qac)])],[]⟩
def Ro:FAnn:=⟨172,0,qa8,qa0,[],[],[]⟩
def TZ:FAnn:=⟨175,0,qi,qp,[(3,[qe,qa,qI 0,qaa,qF 3 1,qI 4])],[(3,[(.exit 0,[qe,qa,qI 0,qaa,qF 3 1])])],[]⟩
def T2:FAnn:=⟨161,0,qv,qi,[(6,qa9)],[(6,[(.exit 0,[]),(.ret,[qI 4])])],[]⟩
def PM:FAnn:=⟨222,0,qak,qba,[(4,qbb)],[(4,[(.exit 0,qbc)])],[]⟩
def WJ:FAnn:=⟨223,0,qak,qad,[(3,[qa,qI 1,qk,qC 13 (.im (.int .i64)),qI 14,qI 15])],[(3,[(.exit 0,qai)])],[]⟩
def PL:FAnn:=⟨224,0,[qg,qh,qI 2],qi,[(5,qbd)],[(5,[(.exit 0,[qI 9])])],[(6,qbd)]⟩
def Rn:FAnn:=⟨229,0,qak,qi,[],[],[]⟩
def Rm:FAnn:=⟨225,1,[qa,qs,qh,qI 2,qI 3],[qa,qI 0],[(3,[qa,qs,qh,qI 2,qI 3,qI 9,qI 10])],[(3,[(.exit 0,[qa,qI 9])])],[(10,[qa,qs,qh,qI 2,qI 3,qI 9,qI 10,qI 11])]⟩
def Rj:FAnn:=⟨226,1,[qa,qs,qh,qI 2],qbe,[(2,[qa,qs,qh,qI 2,qf,qI 7])],[(2,[(.exit 0,qbe)])],[]⟩
def Rl:FAnn:=⟨227,0,qak,qad,[(3,[qa,qg,qI 1,qk,qI 11,qI 12])],[(3,[(.exit 0,qai)])],[]⟩
def KW:FAnn:=⟨200,0,qv,qba,[(7,qbf),(13,[qa,qa,qa,qf,qF 7 0,qF 8 1,qF 9 2,qI 10])],[(7,[(.exit 0,qbf)]),(13,[(.exit 2,[qa,qa,qf,qF 7 0,qF 9 1])])],[]⟩
def T5:FAnn:=⟨162,0,qv,qad,[(1,qv)],[(1,[(.exit 0,qac)])],[]⟩
def T4:FAnn:=⟨206,0,qw,qw,[],[],[]⟩
def T7:FAnn:=⟨207,0,qp,qp,[],[],[]⟩
def Rq:FAnn:=⟨171,0,qw,qc,[],[],[]⟩
def T0:FAnn:=⟨169,0,[qI 0,qI 1],qag,[],[],[]⟩
def Ml:FAnn:=⟨135,1,qa7,[qn,qB 0],[],[],[]⟩
def Rv:FAnn:=⟨79,0,qc,qd,[],[],[]⟩
def Uf:FAnn:=⟨102,0,qq,qan,[(1,qq)],[(1,[(.exit 0,qq)])],[]⟩
def Ua:FAnn:=⟨101,0,qi,qc,[],[],[]⟩
def KX:FAnn:=⟨215,0,qv,qad,[(3,qbg),(7,qbh)],[(3,[(.exit 0,qai)]),(7,[(.exit 2,qbg)])],[(9,qbh)]⟩
def T6:FAnn:=⟨192,0,qw,qp,[],[],[]⟩
def Ub:FAnn:=⟨150,0,qy,qc,[],[],[]⟩
def KQ:FAnn:=⟨213,0,qv,qad,[(4,qal)],[(4,[(.exit 0,qai)])],[(6,qal)]⟩
def KY:FAnn:=⟨214,0,qv,qad,[(4,[qa,qg,qh,qk,qf,qI 10,qI 11])],[(4,[(.exit 0,qai)])],[]⟩
def T1:FAnn:=⟨191,0,qw,qp,[],[],[]⟩
def T8:FAnn:=⟨147,0,qy,qc,[],[],[]⟩
def Uh:FAnn:=⟨73,0,qo,qan,[(3,qa1),(7,qbi),(10,[qb,qr,ql,qk,qI 7,qT 8 1,qa4,qI 25,qI 26,qC 31 (.im Yq0),qI 32,qI 33])],[(3,[(.exit 0,[qb,qj,ql,qk])]),(7,[(.exit 2,qas)]),(10,[(.exit 4,qbi)])],[]⟩
def KU:FAnn:=⟨90,1,qar,[qn,qb,qF 0 1],[(3,[qn,qb,qae,qF 3 1,qI 4])],[(3,[(.exit 0,qbj)])],[(9,qbj)]⟩
def Ks:FAnn:=⟨66,0,qao,qa2,[],[],[]⟩
def Kt:FAnn:=⟨7,0,qao,qa2,[],[],[]⟩
def Rh:FAnn:=⟨80,0,[qI 0,qI 1,qI 2],qd,[],[],[]⟩
def Mj:FAnn:=⟨231,0,qi,qd,[],[],[]⟩
def Ce:FAnn:=⟨174,0,qbk,qi,[(2,[qg,.slot 1 (.clo 231),qI 7,qI 8])],[(2,[(.exit 0,[]),(.ret,[qI 4])])],[]⟩
def BU:FAnn:=⟨96,0,qbk,qd,[],[],[]⟩
def Pu:FAnn:=⟨220,0,qp,qd,[],[],[]⟩
def M8:FAnn:=⟨219,0,qp,qd,[],[],[]⟩
def CO:FAnn:=⟨230,0,qbl,qi,[(2,[qaw,.slot 1 (.clo 219),qI 7,qI 8])],[(2,[(.exit 0,[]),(.ret,[qI 4])])],[]⟩
def Ct:FAnn:=⟨218,0,qbl,qd,[],[],[]⟩
def Re:FAnn:=⟨197,0,[qaw],qd,[],[],[]⟩
def M2:FAnn:=⟨198,0,qp,qi,[],[],[]⟩
def Ko:FAnn:=⟨232,0,qi,qd,[],[],[]⟩
def IR:FAnn:=⟨221,0,[qI 0,qI 1],qi,[],[],[]⟩
def Jp:FAnn:=⟨204,0,qv,qi,[(4,qa9)],[(4,[(.exit 0,[]),(.ret,[qI 4])])],[]⟩
def Zv:FAnn:=⟨212,0,qac,qac,[(2,qbm)],[(2,[(.exit 0,qbm)])],[]⟩
def Na:FAnn:=⟨228,0,qak,qak,[(4,qbb)],[(4,[(.exit 0,qbc)])],[]⟩
def Bw:FAnn:=⟨211,0,qac,qad,[],[],[]⟩
def TT:FAnn:=⟨190,0,qa8,qa0,[],[],[]⟩
def TR:FAnn:=⟨82,0,qi,qp,[(6,[qe,qa,qaa,qB 3,qC 4 (.int .u64),qF 5 1])],[(6,[(.exit 0,[qe,qa,qaa,qB 3,qF 5 1])])],[(5,[qe,qaa,qB 3,qC 4 (.int .u64)])]⟩
def Pr:FAnn:=⟨166,0,qw,qa0,[(3,[qe,qe,qe,qa,qaa,qT 3 1,qT 4 2,qF 5 3,qay,qI 21,qI 22]),(7,[qe,qe,qe,qa,qaa,qT 3 1,qT 4 2,qF 5 3,qf,qI 7,qI 8,qay,qI 21,qI 22,qC 28 (.im (.int .i64)),qI 29,qI 30])],[(3,[(.exit 0,[qe,qe,qe,qa,qaa,qT 3 1,qT 4 2,qF 5 3])]),(7,[(.exit 2,[qe,qe,qe,qa,qaa,qT 3 1,qT 4 2,qF 5 3,qf,qI 8,qay,qI 21,qI 22])])],[]⟩
def M9:FAnn:=⟨202,0,qv,qv,[(10,[qa,qa,qg,qf,qI 9,qx,qz]),(14,[qa,qa,qa,qf,qI 9,qx,qz,qaf,qu]),(18,qbn),(23,[qa,qa,qa,qf,qI 9,qx,qz,qaf,qu,qI 15,qI 17,qI 153,qI 154]),(37,[qa,qa,qa,qf,qI 9,qx,qz,qaf,qu,qI 15,qI 20,qI 208,qI 209])],[(10,[(.exit 0,[qa,qa,qf,qI 9,qx,qz])]),(14,[(.exit 2,[qa,qa,qf,qI 9,qx,qF 12 1])]),(18,[(.exit 4,[qa,qa,qa,qf,qI 9,qx,qz,qaf,qu,qI 15])]),(23,[(.exit 6,[qa,qa,qa,qf,qI 9,qx,qz,qaf,qu,qI 15,qI 17])]),(37,[(.exit 8,[qa,qa,qa,qf,qI 9,qx,qz,qaf,qu,qI 15,qI 20])])],[(19,qbn),(30,[qa,qa,qa,qf,qI 9,qx,qz,qaf,qu,qI 15,qI 17,qI 18,qI 19,qI 153,qI 154])]⟩
def Pq:FAnn:=⟨163,0,qw,qp,[(2,[qe,qT 4 0,qC 5 (.im (.int .i64)),qC 6 (.im (.int .i64))])],[(2,[(.exit 0,[qe,qT 4 0,qC 5 (.im (.int .i64))])])],[]⟩
def KN:FAnn:=⟨199,0,qw,qi,[],[],[]⟩
def Pv:FAnn:=⟨157,0,qc,qd,[],[],[]⟩
def Kp:FAnn:=⟨158,0,[qaj,qI 1],qd,[],[],[]⟩
def Nb:FAnn:=⟨156,1,[qah,qaj,qT 1 0],qbo,[],[],[]⟩
def CP:FAnn:=⟨196,1,qbp,[qah,qI 0],[(2,[qah,qj,.slot 1 (.cap 156 [0]),qI 7,qI 8])],[(2,[(.exit 0,[qah]),(.ret,[qah,qI 4])])],[]⟩
def Cu:FAnn:=⟨155,1,qbp,qbo,[],[],[]⟩
def M6:FAnn:=⟨159,0,qc,qi,[],[],[]⟩
def Rf:FAnn:=⟨76,0,[qj,qI 1,qI 2],qd,[],[],[]⟩
def M4:FAnn:=⟨15,0,qq,qd,[],[],[]⟩
def TY:FAnn:=⟨98,0,qi,qc,[],[],[]⟩
def M7:FAnn:=⟨203,0,qv,qad,[(4,qal)],[(4,[(.exit 0,qai)])],[(6,qal),(8,qal),(10,qal)]⟩
def Nc:FAnn:=⟨205,0,qv,qac,[(4,[qa,qh,qk,qf,qI 11,qI 12])],[(4,[(.exit 0,qai)])],[(9,[qa,qh,qk,qI 7,qI 11,qI 12])]⟩
def Po:FAnn:=⟨167,0,qw,qp,[],[],[]⟩
def Ps:FAnn:=⟨164,0,qp,qp,[],[],[]⟩
def Pp:FAnn:=⟨165,0,qw,qw,[],[],[]⟩
def TV:FAnn:=⟨81,0,qw,qc,[],[],[(4,[qe,qe,qr,qe,qaa,qT 3 1,qT 4 2,qT 5 3])]⟩
def Px:FAnn:=⟨87,0,qy,qc,[],[],[]⟩
def WH:FAnn:=⟨99,0,qq,qq,[(2,qbq)],[(2,[(.exit 0,qbq)])],[]⟩
def WG:FAnn:=⟨68,0,qo,qq,[(3,[qb,qj,ql,qk,qu,qI 14])],[(3,[(.exit 0,qas)])],[(8,[qb,qr,qj,ql,qk,qf,qT 7 1,qu,qI 14])]⟩
def Rg:FAnn:=⟨146,0,qc,qc,[],[],[]⟩
def Kq:FAnn:=⟨67,0,qq,qam,[(3,[qb,qF 4 0,qC 9 (.im Yq0),qI 10,qI 11])],[(3,[(.exit 0,qa3)])],[]⟩
def Pn:FAnn:=⟨8,0,qo,qam,[],[],[]⟩
def PN:FAnn:=⟨77,0,qc,qd,[],[],[]⟩
def PI:FAnn:=⟨160,0,qp,qd,[(2,[qe,qT 1 0,qC 7 (.im (.int .i64)),qI 8,qI 9])],[(2,[(.exit 0,[qe,qT 1 0]),(.ret,[qB 2])])],[]⟩
def PJ:FAnn:=⟨78,0,qc,qd,[],[],[]⟩
def Ni:FAnn:=⟨16,0,qq,qd,[(2,[qj,qap,qf,qI 7])],[(2,[(.exit 0,qq),(.ret,[qB 2])])],[]⟩
def Rr:FAnn:=⟨69,0,qo,qd,[],[],[]⟩
def Rs:FAnn:=⟨148,0,qbr,qc,[],[],[]⟩
def Ue:FAnn:=⟨71,0,qo,qan,[(3,qa1)],[(3,[(.exit 0,qas)])],[(5,qa1)]⟩
def Rp:FAnn:=⟨92,0,qc,qag,[],[],[]⟩
def Ru:FAnn:=⟨70,0,qq,qam,[(5,[qb,qF 4 0,qC 12 (.im Yq0),qu,qI 14])],[(5,[(.exit 0,qa3)])],[]⟩
def PG:FAnn:=⟨9,0,qo,qam,[],[],[]⟩
def IS:FAnn:=⟨217,0,qat,qat,[],[],[]⟩
def Kr:FAnn:=⟨193,0,qat,qat,[],[],[]⟩
def Dk:FAnn:=⟨149,0,qbr,qan,[],[],[]⟩
def Pz:FAnn:=⟨89,0,qy,qc,[],[],[]⟩
def TW:FAnn:=⟨72,0,qo,qq,[(3,qbs),(6,[qb,qr,ql,qk,qf,qT 7 1,qa5,qI 19,qI 20,qC 25 (.im Yq0),qI 26,qI 27])],[(3,[(.exit 0,qas)]),(6,[(.exit 2,qbs)])],[]⟩
def Pw:FAnn:=⟨10,0,qo,qam,[],[],[]⟩
def PK:FAnn:=⟨11,0,qo,qam,[],[],[]⟩
def Bd:FAnn:=⟨151,0,qq,qan,[],[],[]⟩
def Py:FAnn:=⟨119,0,qy,qc,[],[],[]⟩
def PA:FAnn:=⟨194,0,qc,qc,[],[],[]⟩
def PB:FAnn:=⟨152,0,qy,qc,[],[],[]⟩
def PD:FAnn:=⟨74,0,qo,qo,[(5,qbt),(9,[qb,qb,ql,qab,qI 7,qF 8 1,qI 9,qC 48 (.im Yq0),qI 49,qI 50])],[(5,[(.exit 0,[qb,qb,qab,qF 8 1])]),(9,[(.exit 2,qbt)])],[]⟩
def Pt:FAnn:=⟨12,0,qo,qbu,[],[],[]⟩
def T9:FAnn:=⟨153,0,qy,qc,[],[],[]⟩
def Uc:FAnn:=⟨195,0,qc,qc,[],[],[]⟩
def Ud:FAnn:=⟨154,0,qy,qc,[],[],[]⟩
def Ug:FAnn:=⟨75,0,qo,qa2,[(4,[qb,qb,qj,ql,qab,qF 7 1,qI 8]),(8,qbv),(13,[qb,qb,qr,ql,qab,qF 7 1,qI 9,qT 10 2,qC 54 (.im Yq0),qI 55,qI 56])],[(4,[(.exit 0,[qb,qb,qj,ql,qab,qF 7 1])]),(8,[(.exit 2,[qb,qb,qab,qF 7 1])]),(13,[(.exit 4,qbv)])],[]⟩
def PH:FAnn:=⟨13,0,qo,qbu,[],[],[]⟩
def Nf:FAnn:=⟨168,0,qv,qd,[(4,[qg,qh,qI 12,qu])],[(4,[(.exit 0,[]),(.ret,[qB 4])])],[]⟩
def PE:FAnn:=⟨88,0,qw,qd,[],[],[]⟩
def PF:FAnn:=⟨21,0,qy,qd,[],[],[]⟩
def Ng:FAnn:=⟨14,0,qo,qd,[(4,[qj,ql,qI 12,qu])],[(4,[(.exit 0,[]),(.ret,[qB 4])])],[]⟩
def Nd:FAnn:=⟨18,0,qao,qi,[(3,[qI 3,qC 6 (.im (.int .u8)),qI 7,qI 8])],[(3,[(.exit 0,[qI 3])])],[]⟩
def TS:FAnn:=⟨17,0,[qI 0,qI 1],qag,[],[],[]⟩
def TU:FAnn:=⟨83,0,qc,qd,[],[],[]⟩
def Am7:FAnn:=⟨85,0,qau,qc,[(3,qbw)],[(3,[(.exit 0,qbx)])],[]⟩
def KM:FAnn:=⟨84,0,qc,qag,[],[],[]⟩
def M3:FAnn:=⟨19,0,qau,qag,[],[],[]⟩
def PC:FAnn:=⟨86,0,qq,qd,[(2,[qap,qf,qI 7])],[(2,[(.exit 0,[]),(.ret,[qB 2])])],[]⟩
def Ra:FAnn:=⟨20,0,qy,qag,[],[],[]⟩
def Rb:FAnn:=⟨22,0,qy,qag,[],[],[]⟩
def Ku:FAnn:=⟨95,1,[qn,qae,qh],qaz,[],[],[]⟩
def Mk:FAnn:=⟨170,1,qar,[qn,qax],[(5,[qn,qe,qa,qae,qT 2 1,qI 3,qF 4 2])],[(5,[(.exit 0,[qn,qe,qa,qae,qT 2 1,qF 4 2])])],[(4,[qn,qe,qae,qT 2 1,qI 3])]⟩
def Mm:FAnn:=⟨91,1,qar,[qn,qaj],[],[],[]⟩
def Jq:FAnn:=⟨23,0,qao,[qb,qs,qav],[],[],[]⟩
def Rt:FAnn:=⟨93,0,qau,qc,[(3,qbw)],[(3,[(.exit 0,qbx)])],[]⟩
def Nh:FAnn:=⟨24,0,qau,qag,[],[],[]⟩
def KP:FAnn:=⟨25,0,qao,qad,[(4,[qn,qa,qT 3 0,qF 4 1,qI 5])],[(4,[(.exit 0,[qa,qF 4 0])])],[]⟩
def M5:FAnn:=⟨97,0,qi,qd,[],[],[]⟩
def B2:FAnn:=⟨174,0,qby,qi,[(2,[qg,.slot 1 (.clo 97),qI 7,qI 8])],[(2,[(.exit 0,[]),(.ret,[qI 4])])],[]⟩
def BE:FAnn:=⟨96,0,qby,qd,[],[],[]⟩
def Rd:FAnn:=⟨26,0,qac,qbz,[(5,[qb,qF 4 0,qC 15 (.im (.int .i64)),qI 16,qI 17])],[(5,[(.exit 0,qa3)])],[]⟩
def Ri:FAnn:=⟨27,0,qac,qbz,[(3,[qb,qg,qF 4 0,qC 7 (.im (.int .i64)),qI 8,qI 9])],[(3,[(.exit 0,[qb,qg,qF 4 0]),(.ret,[qC 2 (.im Yq0),qB 3])])],[]⟩
def KO:FAnn:=⟨3,0,[qC 0 (.im (.int .u8)),qaq],qd,[],[],[(22,[qb,qb,qb,qr,qr,qr,qaq,qap,qa6,qF 11 0,qB 12,qF 15 1,qF 16 2,qB 17,qT 21 3,qT 23 4,qB 24,qT 25 5,qB 26]),(27,[qb,qb,qaq,qap,qa6,qF 15 0,qF 16 1,qB 17]),(32,[qaq])]⟩
def Am8:List FAnn:=[KR,KT,WI,T3,Ro,TZ,T2,PM,WJ,PL,Rn,Rm,Rj,Rl,KW,T5,T4,T7,Rq,T0,Ml,Rv,Uf,Ua,KX,T6,Ub,KQ,KY,T1,T8,Uh,KU,Ks,Kt,Rh,Mj,Ce,BU,Pu,M8,CO,Ct,Re,M2,Ko,IR,Jp,Zv,Na,Bw,TT,TR,Pr,M9,Pq,KN,Pv,Kp,Nb,CP,Cu,M6,Rf,M4,TY,M7,Nc,Po,Ps,Pp,TV,Px,WH,WG,Rg,Kq,Pn,PN,PI,PJ,Ni,Rr,Rs,Ue,Rp,Ru,PG,IS,Kr,Dk,Pz,TW,Pw,PK,Bd,Py,PA,PB,PD,Pt,T9,Uc,Ud,Ug,PH,Nf,PE,PF,Ng,Nd,TS,TU,Am7,KM,M3,PC,Ra,Rb,Ku,Mk,Mm,Jq,Rt,Nh,KP,M5,B2,BE,Rd,Ri,KO]
def At3:Rel:=fun _ _ _ _ _=>False
def cfC:Cfg:=Kz [Bw,Bd] fun _=>false
def RQ:List (FuncId×TypeId×Nat×Bool):=[(211,3,Ty.size (.int .i64),true),(151,36,Ty.size (.pair Yq1 Yq1),false)]
theorem I3:CloneOK Tryz.prog (211,3,Ty.size (.int .i64),true):=⟨Tryz.f211,32,4,Ay6,AN3,Tryz.func211,by kernel_rfl,by kernel_rfl,rfl,AQ9,rfl,ty3,by kernel_rfl,rfl,rfl⟩
theorem G8:CloneOK Tryz.prog (151,36,Ty.size (.pair Yq1 Yq1),false):=⟨Tryz.f151,23,4,Ay5,Ay7,Tryz.func151,by kernel_rfl,by kernel_rfl,rfl,AQ8,rfl,AR0,by kernel_rfl,rfl,rfl⟩
theorem Ae3:∀x∈RQ,CloneOK Tryz.prog x:=by
 intro x hx;simp only[RQ,zc9,List.not_mem_nil,or_false]at hx;rcases hx with rfl|rfl
 ·exact I3
 ·exact G8
structure LibJ (J:F3):Prop where
 any:True
def AJ6:Rel:=fun g args blks r blks'=>RP (GN Tryz.prog cfC At3) RQ g args blks r blks'\/V5 Tryz.prog LibJ 149 193 36 false (.pair Yq1 Yq1) g args blks r blks'
theorem Ap1:AH7 Tryz.prog 149:=⟨Tryz.f149,Tryz.func149,by kernel_rfl,by kernel_rfl⟩
theorem W8{J:F3}(hJ:LibJ J):∀g args blks r blks',AJ6 g args blks r blks'->CSpec Tryz.prog J g args blks r blks':=by
 intro g args blks r blks' h;rcases h with h|h
 ·exact Tv (by kernel_rfl) Ae3 _ _ _ _ _ h
 ·exact Aj3 Ap1 hJ _ _ _ _ _ h
def cf0:Cfg:=Kz Am8 fun g=>([211,151,149]:List Nat).contains g
abbrev RR:Rel:=GN Tryz.prog cf0 AJ6
structure OKE where
 E:Ent
 k:EL RR E
 r:cf0.byref E.a.g=(EH E.a.params).map SN
theorem AP8:∀l:List OKE,Yg RR cf0 (l.map (·.E))
 |[]=>trivial
 |x::l=>⟨⟨x.k,x.r⟩,AP8 l⟩
def fq(a:FAnn)(F:Ca a.params->Option (Ca a.res))(l:List OKE){fn:Func}(h0:Tryz.prog.funcs[a.g]? =some fn)(h1:fn.body.isSome=true:=by rfl)(h2:Mw fn (fn.body.get h1) (E7 a.params).length=true:=by kernel_rfl)(h3:cf0.isExt a.g=false:=by rfl)(h:Le Am8 a.g=some a:=by kernel_rfl)(hF:∀x,wtF ⟨Oa,MA,[],[4],l.map (·.E),a⟩ fn x=F x:=by intro _;kernel_rfl)(hr:cf0.byref a.g=(EH a.params).map SN:=by rfl):OKE:=
 ⟨⟨a,F⟩,LY (X:=⟨Oa,MA,[],[4],l.map (·.E),a⟩) ⟨Al1,Oq,Af8⟩ (QC (AP8 l)) (ZD h) ⟨h0,(Option.some_get h1).symm,h2,h3⟩ hF,hr⟩
def YH{α:Type}:List (Ex×α)->Ex->Option α
 |[],_=>none
 |(e,x)::l,i=>cond (Oz e i) (some x) (YH l i)
theorem Jz{α β:Type}(f:α->β):∀(l:List (Nat×α))(r:Nat),Dl (l.map fun p=>(p.1,f p.2)) r=(Dl l r).map f
 |[],_=>rfl
 |(n,a)::l,r=>by
  show cond (Nat.beq n r) (some (f a)) (Dl (l.map fun p=>(p.1,f p.2)) r)=Option.map f (cond (Nat.beq n r) (some a) (Dl l r));rw[Jz f l r];cases Nat.beq n r<;>rfl
theorem OB:∀(l:List (Ex×List Item))(i:Ex),(Mn l i).map BQ=YH (l.map fun q=>(q.1,BQ q.2)) i
 |[],_=>rfl
 |(e,x)::l,i=>by
  show Option.map BQ (cond (Oz e i) (some x) (Mn l i))=cond (Oz e i) (some (BQ x)) (YH (l.map fun q=>(q.1,BQ q.2)) i);rw[<-OB l i];cases Oz e i<;>rfl
theorem An6{tab:List FAnn}{ext:FuncId->Bool}{X:TX}(a:FAnn)(h:Le tab X.ann.g=some a)(e1:(a.heads.map fun p=>(p.1,BQ p.2))=X.ann.heads.map fun p=>(p.1,BQ p.2))
  (e2:(a.outs.map fun p=>(p.1,p.2.map fun q=>(q.1,BQ q.2)))=X.ann.outs.map fun p=>(p.1,p.2.map fun q=>(q.1,BQ q.2))) (e3:(a.joins.map fun p=>(p.1,BQ p.2))=X.ann.joins.map fun p=>(p.1,BQ p.2))
  (e4:BQ a.res=BQ X.ann.res) (e5:BQ a.params=BQ X.ann.params) (e6:EF (Qu (Cv a.res) a.e 0 (Cv a.res))=EF (Qu (Cv X.ann.res) X.ann.e 0 (Cv X.ann.res))):CfOK (Kz tab ext) X.ann.g X where
 live r an hr:=by
  have k:=congrArg (fun l=>Dl l r) e1;simp only[Jz,hr,zd1]at k;cases hf:Dl a.heads r with
  |none=>rw[hf]at k;cases k
  |some l=>
   rw[hf]at k;simp only[Kz,h,za0,hf];exact zy k
 out r outs ex an hr he:=by
  have k:=congrArg (fun l=>Dl l r) e2;simp only[Jz (fun q:List (Ex×List Item)=>q.map fun q=>(q.1,BQ q.2)),hr,zd1]at k;cases hf:Dl a.outs r with
  |none=>rw[hf]at k;cases k
  |some l=>
   rw[hf]at k;have k3:(l.map fun q=>(q.1,BQ q.2))=outs.map fun q=>(q.1,BQ q.2):=zy k
   have k2:(Mn l ex).map BQ=(Mn outs ex).map BQ:=by rw[OB,OB,k3]
   rw[he]at k2;simp only[Kz,h,za0,hf];cases hg:Mn l ex with
   |none=>rw[hg]at k2;cases k2
   |some q=>rw[hg]at k2;exact zy k2
 join r an hr:=by
  have k:=congrArg (fun l=>Dl l r) e3;simp only[Jz,hr,zd1]at k;cases hf:Dl a.joins r with
  |none=>rw[hf]at k;cases k
  |some l=>
   rw[hf]at k;simp only[Kz,h,za0,hf];exact congrArg some (zy k)
 nojoin r hr:=by
  have k:=congrArg (fun l=>Dl l r) e3;simp only[Jz,hr,Option.map_none]at k;cases hf:Dl a.joins r with
  |none=>simp only[Kz,h,za0,hf]
  |some l=>rw[hf]at k;cases k
 res:=by simp only[Kz,h];rw[e4]
 par:=by simp only[Kz,h];rw[e5]
 rts:=by simp only[Kz,h];rw[e6]
def D2 (a0:Tq5):Option (Tq14×Int):=(bif decide (a0.2.1<(a0.1.length:Int))then(AI a0.1 a0.2.1).bind fun x0=>some (Sum.inr ((a0.1,a0.2.1,a0.2.2),(zj zk x0)))else some (Sum.inr ((a0.1,a0.2.1,a0.2.2),(0:Int)))).bind fun x1=>Sum.elim (fun x2=>some x2) (fun x3=>bif decide ((zj zk (x3.1.2.1+1))<=(x3.1.1.length:Int))then some ((x3.1.1,(zj zk (x3.1.2.1+1)),(zj zx ((zj zx ((zj zx (x3.1.2.2*6364136223846793005))+(zj zx x3.2)))+1442695040888963407))),x3.2)else some ((x3.1.1,(zj zk (x3.1.2.1+1)),(zj zx ((zj zx ((zj zx (x3.1.2.2*6364136223846793005))+(zj zx x3.2)))+1442695040888963407))),(zj zk (Mv Go.IntKind.u64 (Lu Go.IntKind.u64 (zj zx ((zj zx ((zj zx (x3.1.2.2*6364136223846793005))+(zj zx x3.2)))+1442695040888963407)) (40:Int)) (255:Int))))) x1
def Q3:OKE:=fq KR (fun x=>D2 x) [] Tryz.func173
def AK (a0:Tq5) (a1:Int):Option (Tq14×Int):=bif decide (a1<=1)then some ((a0.1,a0.2.1,a0.2.2),(0:Int))else(D2 (a0.1,a0.2.1,a0.2.2)).bind fun x0=>bif decide (a1>200)then(D2 (x0.1.1,x0.1.2.1,x0.1.2.2)).bind fun x1=>bif(a1==0)then none else some ((x1.1.1,x1.1.2.1,x1.1.2.2),(Int.tmod (zj zk ((zj zk (x0.2*256))+x1.2)) a1))else bif(a1==0)then none else some ((x0.1.1,x0.1.2.1,x0.1.2.2),(Int.tmod x0.2 a1))
def C0:OKE:=fq KT (fun x=>AK x.1 x.2) [Q3] Tryz.func94
def FF (a0 a1 a2:Int):Option Bool:=bif decide (a0>=a1)then some (decide (a0<=a2))else some false
def Q4:OKE:=fq WI (fun x=>FF x.1 x.2.1 x.2.2) [] Tryz.func100
def Iz (s0:List Int):Option ((List Int)⊕(List Int)):=bif decide ((s0.length:Int)>0)then(AI s0 (zj zk ((s0.length:Int)-1))).bind fun x0=>bif(x0==0)then(KC (0:Int) (zj zk ((s0.length:Int)-1)) (List.length s0)).bind fun x1=>some (Sum.inl (List.drop x1.1 (List.take x1.2 s0)))else some (Sum.inr s0)else some (Sum.inr s0)
def B6 (a0:List Int):Option (List Int):=(Ag (fun(s:List Int)=>Iz s) a0).bind fun x0=>bif(Ij (List.length x0) 8 1)then some x0 else none
def Gh:OKE:=fq T3 (fun x=>B6 x) [] Tryz.func201
def Ba (a0:Bool) (a1:List Int):Option (List Int×Bool):=(B6 a1).bind fun x0=>bif a0 then some (x0,decide ((x0.length:Int)>0))else some (x0,false)
def D6:OKE:=fq Ro (fun x=>Ba x.1 x.2) [Gh] Tryz.func172
def Iy (s0:Tq3) (s1:List Int) (s2 s3:Int):Option (Tq3×(List Int)×Int×Int⊕Tq3×(List Int)×Int):=bif(s3 != (0:Int))then bif decide ((Int.tmod s3 65536)<0)then(D8 8 1 s1 ([(zj zk ((0:Int)-(Int.tmod s3 65536)))]:List Int)).bind fun x0=>some (Sum.inl ((s0.1,s0.2),x0,s2,(zj zk (Int.tdiv s3 65536))))else(D8 8 1 s1 ([(Int.tmod s3 65536)]:List Int)).bind fun x1=>some (Sum.inl ((s0.1,s0.2),x1,s2,(zj zk (Int.tdiv s3 65536))))else some (Sum.inr ((s0.1,s0.2),s1,s2))
def Ff (a0:Int):Option Tq11:=(Ag (fun(s:(Tq3×(List Int)×Int×Int))=>Iy s.1 s.2.1 s.2.2.1 s.2.2.2) ((false,([]:List Int)),([]:List Int),a0,a0)).bind fun x0=>(Ba (decide (x0.2.2<0)) x0.2.1).bind fun x1=>some (x1.2,x1.1)
def TL:OKE:=fq TZ (fun x=>Ff x) [D6] Tryz.func175
def CC (s0 s1:List Int) (s2:Int):Option ((List Int)×(List Int)×Int⊕(Unit⊕Int)):=bif decide (s2>=0)then(AI s0 s2).bind fun x0=>(AI s1 s2).bind fun x1=>bif decide (x0<x1)then some (Sum.inr (Sum.inr (-(1:Int))))else(AI s0 s2).bind fun x2=>(AI s1 s2).bind fun x3=>bif decide (x2>x3)then some (Sum.inr (Sum.inr (1:Int)))else some (Sum.inl (s0,s1,(zj zk (s2-1))))else some (Sum.inr (Sum.inl ()))
def HA (a0 a1:List Int):Option Int:=bif((a0.length:Int) != (a1.length:Int))then bif decide ((a0.length:Int)<(a1.length:Int))then some (-(1:Int))else some (1:Int)else(Ag (fun(s:((List Int)×(List Int)×Int))=>CC s.1 s.2.1 s.2.2) (a0,a1,(zj zk ((a0.length:Int)-1)))).bind fun x0=>Sum.elim (fun x1=>some (0:Int)) (fun x2=>some x2) x0
def Oh:OKE:=fq T2 (fun x=>HA x.1 x.2) [] Tryz.func161
def EK (s0 s1:List Int) (s2 s3 s4:Int):Option ((List Int)×(List Int)×Int×Int×Int⊕(List Int)×Int):=bif decide (s4>=0)then(AI s1 s4).bind fun x0=>bif(s2==0)then none else(AJ s4 (List.length s0)).bind fun x1=>(AO s0 x1).bind fun x2=>bif(s2==0)then none else some (Sum.inl ((List.set s0 x1 (zj zk (Int.tdiv (zj zk ((zj zk (s3*65536))+x0)) s2))),s1,s2,(Int.tmod (zj zk ((zj zk (s3*65536))+x0)) s2),(zj zk (s4-1))))else some (Sum.inr (s0,s3))
def IM (a0:List Int) (a1:Int):Option (List Int×List Int):=(Mh (a0.length:Int) 8 1).bind fun x0=>(Ag (fun(s:Tq7)=>EK s.1 s.2.1 s.2.2.1 s.2.2.2.1 s.2.2.2.2) ((List.replicate x0 (0:Int)),a0,a1,(0:Int),(zj zk ((a0.length:Int)-1)))).bind fun x1=>(B6 x1.1).bind fun x2=>(B6 ([x1.2]:List Int)).bind fun x3=>some (x2,x3)
def WC:OKE:=fq PM (fun x=>IM x.1 x.2) [Gh] Tryz.func222
def JP (s0:List Int) (s1:Int) (s2:List Int) (s3 s4:Int):Option ((List Int)×Int×(List Int)×Int×Int⊕(List Int)):=bif decide (s4<s3)then(AI s2 s4).bind fun x0=>bif decide ((zj zx s1)<0)then none else(AJ s4 (List.length s0)).bind fun x1=>(AO s0 x1).bind fun x2=>(AJ s4 (List.length s0)).bind fun x3=>(AO s0 x3).bind fun x4=>(AJ (zj zk (s4+1)) (List.length (List.set s0 x3 (orI Go.IntKind.i64 x2 (Int.tmod (O2 Go.IntKind.i64 x0 (zj zx s1)) 65536))))).bind fun x5=>(AO (List.set s0 x3 (orI Go.IntKind.i64 x2 (Int.tmod (O2 Go.IntKind.i64 x0 (zj zx s1)) 65536))) x5).bind fun x6=>some (Sum.inl ((List.set (List.set s0 x3 (orI Go.IntKind.i64 x2 (Int.tmod (O2 Go.IntKind.i64 x0 (zj zx s1)) 65536))) x5 (zj zk (Int.tdiv (O2 Go.IntKind.i64 x0 (zj zx s1)) 65536))),s1,s2,s3,(zj zk (s4+1))))else some (Sum.inr s0)
def KE (a0:List Int) (a1:Int):Option (List Int):=(Mh (zj zk ((a0.length:Int)+1)) 8 1).bind fun x0=>(Ag (fun(s:((List Int)×Int×(List Int)×Int×Int))=>JP s.1 s.2.1 s.2.2.1 s.2.2.2.1 s.2.2.2.2) ((List.replicate x0 (0:Int)),a1,a0,(a0.length:Int),(0:Int))).bind fun x1=>some x1
def Am3:OKE:=fq WJ (fun x=>KE x.1 x.2) [] Tryz.func223
def Dt (s0 s1:List Int) (s2 s3:Int) (s4 s5:Int):Option ((List Int)×(List Int)×Int×Int×Int×Int⊕Int):=(bif decide (s5<65536)then bif decide (s4>=65536)then some (Sum.inr (s0,s1,s2,s3,s4,s5))else(AI s1 (zj zk (s3-2))).bind fun x0=>(AI s0 (zj zk ((zj zk (s2+s3))-2))).bind fun x1=>bif decide ((zj zk (s4*x0))>(zj zk ((zj zk (s5*65536))+x1)))then some (Sum.inr (s0,s1,s2,s3,s4,s5))else some (Sum.inl (Sum.inr s4))else some (Sum.inl (Sum.inr s4))).bind fun x2=>Sum.elim (fun x3=>some x3) (fun x4=>(AI x4.2.1 (zj zk (x4.2.2.2.1-1))).bind fun x5=>some (Sum.inl (x4.1,x4.2.1,x4.2.2.1,x4.2.2.2.1,(zj zk (x4.2.2.2.2.1-1)),(zj zk (x4.2.2.2.2.2+x5))))) x2
def IL (a0 a1:List Int) (a2:Int):Option Int:=(AI a0 (zj zk (a2+(a1.length:Int)))).bind fun x0=>(AI a0 (zj zk ((zj zk (a2+(a1.length:Int)))-1))).bind fun x1=>(AI a1 (zj zk ((a1.length:Int)-1))).bind fun x2=>bif(x2==0)then none else(AI a1 (zj zk ((a1.length:Int)-1))).bind fun x3=>bif(x3==0)then none else(Ag (fun(s:((List Int)×(List Int)×Int×Int×Int×Int))=>Dt s.1 s.2.1 s.2.2.1 s.2.2.2.1 s.2.2.2.2.1 s.2.2.2.2.2) (a0,a1,a2,(a1.length:Int),(zj zk (Int.tdiv (zj zk ((zj zk (x0*65536))+x1)) x2)),(Int.tmod (zj zk ((zj zk (x0*65536))+x1)) x3))).bind fun x4=>some x4
def WB:OKE:=fq PL (fun x=>IL x.1 x.2.1 x.2.2) [] Tryz.func224
def CL (a0:List Int) (a1:Int):Option Int:=bif decide (a1<(a0.length:Int))then(AI a0 a1).bind fun x0=>some x0 else some (0:Int)
def Gi:OKE:=fq Rn (fun x=>CL x.1 x.2) [] Tryz.func229
def Hj (s0 s1:List Int) (s2 s3:Int) (s4 s5:Int):Option ((List Int)×(List Int)×Int×Int×Int×Int⊕(List Int)×Int):=bif decide (s5<=(s1.length:Int))then(AJ (zj zk (s2+s5)) (List.length s0)).bind fun x0=>(AO s0 x0).bind fun x1=>(CL s1 s5).bind fun x2=>(bif decide ((zj zk ((zj zk (x1-(zj zk (s3*x2))))-s4))<0)then some (Sum.inr (s0,s1,s2,s3,(zj zk (Int.tdiv (zj zk ((zj zk ((zj zk ((0:Int)-(zj zk ((zj zk (x1-(zj zk (s3*x2))))-s4))))+65536))-1)) 65536)),s5,(zj zk ((zj zk ((zj zk (x1-(zj zk (s3*x2))))-s4))+(zj zk ((zj zk (Int.tdiv (zj zk ((zj zk ((zj zk ((0:Int)-(zj zk ((zj zk (x1-(zj zk (s3*x2))))-s4))))+65536))-1)) 65536))*65536))))))else some (Sum.inr (s0,s1,s2,s3,(0:Int),s5,(zj zk ((zj zk (x1-(zj zk (s3*x2))))-s4))))).bind fun x3=>Sum.elim (fun x4=>some x4) (fun x5=>(AJ (zj zk (x5.2.2.1+x5.2.2.2.2.2.1)) (List.length x5.1)).bind fun x6=>(AO x5.1 x6).bind fun x7=>some (Sum.inl ((List.set x5.1 x6 x5.2.2.2.2.2.2),x5.2.1,x5.2.2.1,x5.2.2.2.1,x5.2.2.2.2.1,(zj zk (x5.2.2.2.2.2.1+1))))) x3 else some (Sum.inr (s0,s4))
def JT (a0 a1:List Int) (a2 a3:Int):Option (List Int×Int):=(Ag (fun(s:((List Int)×(List Int)×Int×Int×Int×Int))=>Hj s.1 s.2.1 s.2.2.1 s.2.2.2.1 s.2.2.2.2.1 s.2.2.2.2.2) (a0,a1,a2,a3,(0:Int),(0:Int))).bind fun x0=>some (x0.1,x0.2)
def Ym:OKE:=fq Rm (fun x=>JT x.1 x.2.1 x.2.2.1 x.2.2.2) [Gi] Tryz.func225
def Hh (s0 s1:List Int) (s2 s3 s4:Int):Option Tq15:=bif decide (s4<=(s1.length:Int))then(AJ (zj zk (s2+s4)) (List.length s0)).bind fun x0=>(AO s0 x0).bind fun x1=>(CL s1 s4).bind fun x2=>(AJ (zj zk (s2+s4)) (List.length s0)).bind fun x3=>(AO s0 x3).bind fun x4=>some (Sum.inl ((List.set s0 x3 (Int.tmod (zj zk ((zj zk (x1+x2))+s3)) 65536)),s1,s2,(zj zk (Int.tdiv (zj zk ((zj zk (x1+x2))+s3)) 65536)),(zj zk (s4+1))))else some (Sum.inr s0)
def JR (a0 a1:List Int) (a2:Int):Option (List Int):=(Ag (fun(s:Tq7)=>Hh s.1 s.2.1 s.2.2.1 s.2.2.2.1 s.2.2.2.2) (a0,a1,a2,(0:Int),(0:Int))).bind fun x0=>some x0
def Yk:OKE:=fq Rj (fun x=>JR x.1 x.2.1 x.2.2) [Gi] Tryz.func226
def Hi (s0 s1:List Int) (s2 s3 s4:Int):Option Tq15:=bif decide (s4<s3)then(AI s1 s4).bind fun x0=>(CL s1 (zj zk (s4+1))).bind fun x1=>bif decide ((zj zx s2)<0)then none else(AJ s4 (List.length s0)).bind fun x2=>(AO s0 x2).bind fun x3=>some (Sum.inl ((List.set s0 x2 (Int.tmod (Lu Go.IntKind.i64 (orI Go.IntKind.i64 x0 (O2 Go.IntKind.i64 x1 (16:Int))) (zj zx s2)) 65536)),s1,s2,s3,(zj zk (s4+1))))else some (Sum.inr s0)
def JS (a0:List Int) (a1:Int):Option (List Int):=(Mh (a0.length:Int) 8 1).bind fun x0=>(Ag (fun(s:Tq7)=>Hi s.1 s.2.1 s.2.2.1 s.2.2.2.1 s.2.2.2.2) ((List.replicate x0 (0:Int)),a0,a1,(a0.length:Int),(0:Int))).bind fun x1=>(B6 x1).bind fun x2=>some x2
def Yl:OKE:=fq Rl (fun x=>JS x.1 x.2) [Gi,Gh] Tryz.func227
def CU (s0 s1:List Int) (s2:Int):Option ((List Int)×(List Int)×Int⊕(List Int)×(List Int)×Int):=(AI s1 (zj zk ((s1.length:Int)-1))).bind fun x0=>bif decide ((zj zx s2)<0)then none else bif decide ((O2 Go.IntKind.i64 x0 (zj zx s2))<32768)then some (Sum.inl (s0,s1,(zj zk (s2+1))))else some (Sum.inr (s0,s1,s2))
def BS (s0 s1 s2:List Int) (s3 s4:Int):Option ((List Int)×(List Int)×(List Int)×Int×Int⊕(List Int)×(List Int)×Int):=bif decide (s4>=0)then(IL s0 s1 s4).bind fun x0=>(JT s0 s1 s4 x0).bind fun x1=>bif decide ((List.length x1.1)=(List.length s0))then bif decide (x1.2>0)then(JR x1.1 s1 s4).bind fun x2=>bif decide ((List.length x2)=(List.length x1.1))then(AJ s4 (List.length s2)).bind fun x3=>(AO s2 x3).bind fun x4=>some (Sum.inl (x2,s1,(List.set s2 x3 (zj zk (x0-1))),s3,(zj zk (s4-1))))else none else(AJ s4 (List.length s2)).bind fun x5=>(AO s2 x5).bind fun x6=>some (Sum.inl (x1.1,s1,(List.set s2 x5 x0),s3,(zj zk (s4-1))))else none else some (Sum.inr (s0,s2,s3))
def D3 (a0 a1:List Int):Option (List Int×List Int):=(B6 a0).bind fun x0=>(HA x0 a1).bind fun x1=>bif decide (x1<0)then some (([]:List Int),x0)else bif((a1.length:Int)==1)then(AI a1 0).bind fun x2=>(IM x0 x2).bind fun x3=>some (x3.1,x3.2)else(Ag (fun(s:((List Int)×(List Int)×Int))=>CU s.1 s.2.1 s.2.2) (x0,a1,(0:Int))).bind fun x4=>(KE x4.1 x4.2.2).bind fun x5=>(KE x4.2.1 x4.2.2).bind fun x6=>(B6 x6).bind fun x7=>(Mh (zj zk ((zj zk ((x4.1.length:Int)-(x4.2.1.length:Int)))+1)) 8 1).bind fun x8=>(Ag (fun(s:Tq6)=>BS s.1 s.2.1 s.2.2.1 s.2.2.2.1 s.2.2.2.2) (x5,x7,(List.replicate x8 (0:Int)),x4.2.2,(zj zk ((x4.1.length:Int)-(x4.2.1.length:Int))))).bind fun x9=>(B6 x9.2.1).bind fun x10=>(B6 x9.1).bind fun x11=>(JS x11 x9.2.2).bind fun x12=>some (x10,x12)
def KL:OKE:=fq KW (fun x=>D3 x.1 x.2) [Gh,Oh,WC,Am3,WB,Ym,Yk,Yl] Tryz.func200
def IA (s0 s1:List Int):Option ((List Int)×(List Int)⊕(List Int)):=bif decide ((s1.length:Int)>0)then(D3 s0 s1).bind fun x0=>some (Sum.inl (s1,x0.2))else some (Sum.inr s0)
def Jk (a0 a1:List Int):Option (List Int):=(Ag (fun(s:((List Int)×(List Int)))=>IA s.1 s.2) (a0,a1)).bind fun x0=>(B6 x0).bind fun x1=>some x1
def TO:OKE:=fq T5 (fun x=>Jk x.1 x.2) [KL,Gh] Tryz.func162
def Jj (a0 a1:Tq3):Option Tq2:=(D3 a0.2 a1.2).bind fun x0=>(Ba (!(a0.1==a1.1)) x0.1).bind fun x1=>(Ba a0.1 x0.2).bind fun x2=>some ((x1.2,x1.1),x2.2,x2.1)
def Ad0:OKE:=fq T4 (fun x=>Jj x.1 x.2) [KL,D6] Tryz.func206
def HB (a0:Tq3):Option Tq11:=(Ba (!a0.1) a0.2).bind fun x0=>some (x0.2,x0.1)
def TP:OKE:=fq T7 (fun x=>HB x) [D6] Tryz.func207
def D5 (a0 a1:Tq3):Option Tq4:=(Jk a0.2 a1.2).bind fun x0=>(Ba false x0).bind fun x1=>(Jj (a0.1,a0.2) (x1.2,x1.1)).bind fun x2=>(Jj (a1.1,a1.2) (x1.2,x1.1)).bind fun x3=>bif x3.1.1 then(HB (x2.1.1,x2.1.2)).bind fun x4=>(HB (x3.1.1,x3.1.2)).bind fun x5=>some (x4.1,x4.2,x5.1,x5.2)else some (x2.1.1,x2.1.2,x3.1.1,x3.1.2)
def HV:OKE:=fq Rq (fun x=>D5 x.1 x.2) [TO,D6,Ad0,TP] Tryz.func171
def Ji (a0 a1:Int):Option (Tq4×Bool):=(FF a0 (-(4611686018427387904:Int)) 4611686018427387904).bind fun x0=>bif(!x0)then some ((false,([]:List Int),false,([]:List Int)),false)else(FF a1 (-(4611686018427387904:Int)) 4611686018427387904).bind fun x1=>bif(!x1)then some ((false,([]:List Int),false,([]:List Int)),false)else bif(a1==0)then some ((false,([]:List Int),false,([]:List Int)),false)else(Ff a0).bind fun x2=>(Ff a1).bind fun x3=>(D5 (x2.1,x2.2) (x3.1,x3.2)).bind fun x4=>some ((x4.1,x4.2.1,x4.2.2.1,x4.2.2.2),true)
def TN:OKE:=fq T0 (fun x=>Ji x.1 x.2) [Q4,TL,HV] Tryz.func169
def Bq (a0:Tq5) (a1:Int):Option (Tq14×Bool):=(AK (a0.1,a0.2.1,a0.2.2) a1).bind fun x0=>some ((x0.1.1,x0.1.2.1,x0.1.2.2),(x0.2==0))
def I1:OKE:=fq Ml (fun x=>Bq x.1 x.2) [C0] Tryz.func135
def HS (a0:Tq1):Option Bool:=some ((a0.2.1.length:Int)==0)
def Q8:OKE:=fq Rv (fun x=>HS x) [] Tryz.func79
def Ch (s0:List Tq0):Option ((List Tq0)⊕(List Tq0)):=bif decide ((s0.length:Int)>0)then(AI s0 (zj zk ((s0.length:Int)-1))).bind fun x0=>(HS (x0.1.1,x0.1.2,x0.2.1,x0.2.2)).bind fun x1=>bif x1 then(KC (0:Int) (zj zk ((s0.length:Int)-1)) (List.length s0)).bind fun x2=>some (Sum.inl (List.drop x2.1 (List.take x2.2 s0)))else some (Sum.inr s0)else some (Sum.inr s0)
def Dv (a0:List Tq0):Option (List Tq2):=(Ag (fun(s:List Tq0)=>Ch s) a0).bind fun x0=>bif(Ij (List.length x0) 64 4)then some x0 else none
def Jn:OKE:=fq Uf (fun x=>Dv x) [Q8] Tryz.func102
def CB (a0:Int):Option Tq4:=(Ff a0).bind fun x0=>(Ff 1).bind fun x1=>some (x0.1,x0.2,x1.1,x1.2)
def HE:OKE:=fq Ua (fun x=>CB x) [TL] Tryz.func101
def CV (s0 s1:List Int) (s2 s3:Int) (s4 s5:Int) (s6:List Int) (s7 s8:Int):Option ((List Int)×(List Int)×Int×Int×Int×Int×(List Int)×Int×Int⊕(List Int)×(List Int)×(List Int)×Int×Int):=(bif decide (s5<(s1.length:Int))then some (Sum.inr (s0,s1,s2,s3,s4,s5,s6,s7,s8))else bif decide (s4>0)then some (Sum.inr (s0,s1,s2,s3,s4,s5,s6,s7,s8))else some (Sum.inl (Sum.inr (s0,s1,s6,s7,s8)))).bind fun x0=>Sum.elim (fun x1=>some x1) (fun x2=>(AJ (zj zk (x2.2.2.1+x2.2.2.2.2.2.1)) (List.length x2.1)).bind fun x3=>(AO x2.1 x3).bind fun x4=>(CL x2.2.1 x2.2.2.2.2.2.1).bind fun x5=>(AJ (zj zk (x2.2.2.1+x2.2.2.2.2.2.1)) (List.length x2.1)).bind fun x6=>(AO x2.1 x6).bind fun x7=>some (Sum.inl ((List.set x2.1 x6 (Int.tmod (zj zk ((zj zk (x4+(zj zk (x2.2.2.2.1*x5))))+x2.2.2.2.2.1)) 65536)),x2.2.1,x2.2.2.1,x2.2.2.2.1,(zj zk (Int.tdiv (zj zk ((zj zk (x4+(zj zk (x2.2.2.2.1*x5))))+x2.2.2.2.2.1)) 65536)),(zj zk (x2.2.2.2.2.2.1+1)),x2.2.2.2.2.2.2.1,x2.2.2.2.2.2.2.2.1,x2.2.2.2.2.2.2.2.2))) x0
def Ek (s0 s1 s2:List Int) (s3 s4:Int):Option Tq12:=bif decide (s4<s3)then(AI s2 s4).bind fun x0=>(Ag (fun(s:((List Int)×(List Int)×Int×Int×Int×Int×(List Int)×Int×Int))=>CV s.1 s.2.1 s.2.2.1 s.2.2.2.1 s.2.2.2.2.1 s.2.2.2.2.2.1 s.2.2.2.2.2.2.1 s.2.2.2.2.2.2.2.1 s.2.2.2.2.2.2.2.2) (s0,s1,s4,x0,(0:Int),(0:Int),s2,s3,s4)).bind fun x1=>some (Sum.inl (x1.1,x1.2.1,x1.2.2.1,x1.2.2.2.1,(zj zk (x1.2.2.2.2+1))))else some (Sum.inr s0)
def FG (a0 a1:List Int):Option (List Int):=(Mh (zj zk ((zj zk ((a0.length:Int)+(a1.length:Int)))+1)) 8 1).bind fun x0=>(Ag (fun(s:Tq6)=>Ek s.1 s.2.1 s.2.2.1 s.2.2.2.1 s.2.2.2.2) ((List.replicate x0 (0:Int)),a1,a0,(a0.length:Int),(0:Int))).bind fun x1=>(B6 x1).bind fun x2=>some x2
def Q5:OKE:=fq KX (fun x=>FG x.1 x.2) [Gi,Gh] Tryz.func215
def Du (a0 a1:Tq3):Option Tq11:=(FG a0.2 a1.2).bind fun x0=>(Ba (!(a0.1==a1.1)) x0).bind fun x1=>some (x1.2,x1.1)
def Oi:OKE:=fq T6 (fun x=>Du x.1 x.2) [Q5,D6] Tryz.func192
def HC (a0 a1:Tq1):Option Tq4:=(Du (a0.1,a0.2.1) (a1.1,a1.2.1)).bind fun x0=>(Du (a0.2.2.1,a0.2.2.2) (a1.2.2.1,a1.2.2.2)).bind fun x1=>(D5 (x0.1,x0.2) (x1.1,x1.2)).bind fun x2=>some (x2.1,x2.2.1,x2.2.2.1,x2.2.2.2)
def Oj:OKE:=fq Ub (fun x=>HC x.1 x.2) [Oi,HV] Tryz.func150
def CT (s0 s1 s2:List Int) (s3 s4:Int):Option Tq12:=(bif decide (s4<(s1.length:Int))then some (Sum.inr (s0,s1,s2,s3,s4))else bif decide (s4<(s2.length:Int))then some (Sum.inr (s0,s1,s2,s3,s4))else bif decide (s3>0)then some (Sum.inr (s0,s1,s2,s3,s4))else some (Sum.inl (Sum.inr s0))).bind fun x0=>Sum.elim (fun x1=>some x1) (fun x2=>(CL x2.2.1 x2.2.2.2.2).bind fun x3=>(CL x2.2.2.1 x2.2.2.2.2).bind fun x4=>(D8 8 1 x2.1 ([(Int.tmod (zj zk ((zj zk (x3+x4))+x2.2.2.2.1)) 65536)]:List Int)).bind fun x5=>some (Sum.inl (x5,x2.2.1,x2.2.2.1,(zj zk (Int.tdiv (zj zk ((zj zk (x3+x4))+x2.2.2.2.1)) 65536)),(zj zk (x2.2.2.2.2+1))))) x0
def FE (a0 a1:List Int):Option (List Int):=(Ag (fun(s:Tq6)=>CT s.1 s.2.1 s.2.2.1 s.2.2.2.1 s.2.2.2.2) (([]:List Int),a0,a1,(0:Int),(0:Int))).bind fun x0=>some x0
def Q2:OKE:=fq KQ (fun x=>FE x.1 x.2) [Gi] Tryz.func213
def El (s0 s1 s2:List Int) (s3 s4 s5:Int):Option ((List Int)×(List Int)×(List Int)×Int×Int×Int⊕(List Int)):=bif decide (s5<s4)then(AI s1 s5).bind fun x0=>(CL s2 s5).bind fun x1=>bif decide ((zj zk ((zj zk (x0-x1))-s3))<0)then(D8 8 1 s0 ([(zj zk ((zj zk ((zj zk (x0-x1))-s3))+65536))]:List Int)).bind fun x2=>some (Sum.inl (x2,s1,s2,(1:Int),s4,(zj zk (s5+1))))else(D8 8 1 s0 ([(zj zk ((zj zk (x0-x1))-s3))]:List Int)).bind fun x3=>some (Sum.inl (x3,s1,s2,(0:Int),s4,(zj zk (s5+1))))else some (Sum.inr s0)
def D4 (a0 a1:List Int):Option (List Int):=(Ag (fun(s:((List Int)×(List Int)×(List Int)×Int×Int×Int))=>El s.1 s.2.1 s.2.2.1 s.2.2.2.1 s.2.2.2.2.1 s.2.2.2.2.2) (([]:List Int),a0,a1,(0:Int),(a0.length:Int),(0:Int))).bind fun x0=>(B6 x0).bind fun x1=>some x1
def Q6:OKE:=fq KY (fun x=>D4 x.1 x.2) [Gi,Gh] Tryz.func214
def LF (a0 a1:Tq3):Option Tq11:=bif(a0.1==a1.1)then(FE a0.2 a1.2).bind fun x0=>(Ba a0.1 x0).bind fun x1=>some (x1.2,x1.1)else(HA a0.2 a1.2).bind fun x2=>bif decide (x2>=0)then(D4 a0.2 a1.2).bind fun x3=>(Ba a0.1 x3).bind fun x4=>some (x4.2,x4.1)else(D4 a1.2 a0.2).bind fun x5=>(Ba a1.1 x5).bind fun x6=>some (x6.2,x6.1)
def Ac9:OKE:=fq T1 (fun x=>LF x.1 x.2) [Q2,D6,Oh,Q6] Tryz.func191
def Gc (a0 a1:Tq1):Option Tq4:=(Du (a0.1,a0.2.1) (a1.2.2.1,a1.2.2.2)).bind fun x0=>(Du (a1.1,a1.2.1) (a0.2.2.1,a0.2.2.2)).bind fun x1=>(LF (x0.1,x0.2) (x1.1,x1.2)).bind fun x2=>(Du (a0.2.2.1,a0.2.2.2) (a1.2.2.1,a1.2.2.2)).bind fun x3=>(D5 (x2.1,x2.2) (x3.1,x3.2)).bind fun x4=>some (x4.1,x4.2.1,x4.2.2.1,x4.2.2.2)
def LN:OKE:=fq T8 (fun x=>Gc x.1 x.2) [Oi,Ac9,HV] Tryz.func147
def Fb (s0 s1 s2:List Tq0) (s3:Int):Option ((List Tq0)×(List Tq0)×(List Tq0)×Int⊕(List Tq0)×(List Tq0)×(List Tq0)):=bif decide (s3<(zj zk ((s1.length:Int)+(s2.length:Int))))then(CB 0).bind fun x0=>(D8 64 4 s0 ([((x0.1,x0.2.1),x0.2.2.1,x0.2.2.2)]:List Tq0)).bind fun x1=>some (Sum.inl (x1,s1,s2,(zj zk (s3+1))))else some (Sum.inr (s0,s1,s2))
def DW (s0:List Tq0) (s1:Tq1) (s2:List Tq0) (s3:Int) (s4:List Tq0) (s5 s6:Int) (s7:List Tq0) (s8 s9:Int):Option Tq9:=bif decide (s9<s8)then(AI s7 s9).bind fun x0=>(AJ (zj zk (s3+s9)) (List.length s0)).bind fun x1=>(AO s0 x1).bind fun x2=>(HC (s1.1,s1.2.1,s1.2.2.1,s1.2.2.2) (x0.1.1,x0.1.2,x0.2.1,x0.2.2)).bind fun x3=>(Gc (x2.1.1,x2.1.2,x2.2.1,x2.2.2) (x3.1,x3.2.1,x3.2.2.1,x3.2.2.2)).bind fun x4=>(AJ (zj zk (s3+s9)) (List.length s0)).bind fun x5=>(AO s0 x5).bind fun x6=>some (Sum.inl ((List.set s0 x5 ((x4.1,x4.2.1),x4.2.2.1,x4.2.2.2)),(s1.1,s1.2.1,s1.2.2.1,s1.2.2.2),s2,s3,s4,s5,s6,s7,s8,(zj zk (s9+1))))else some (Sum.inr (s0,s2,s4,s5,s6))
def DU (s0 s1 s2:List Tq0) (s3 s4:Int):Option Tq13:=bif decide (s4<s3)then(AI s2 s4).bind fun x0=>(Ag (fun(s:Tq17)=>DW s.1 s.2.1 s.2.2.1 s.2.2.2.1 s.2.2.2.2.1 s.2.2.2.2.2.1 s.2.2.2.2.2.2.1 s.2.2.2.2.2.2.2.1 s.2.2.2.2.2.2.2.2.1 s.2.2.2.2.2.2.2.2.2) (s0,(x0.1.1,x0.1.2,x0.2.1,x0.2.2),s1,s4,s2,s3,s4,s1,(s1.length:Int),(0:Int))).bind fun x1=>some (Sum.inl (x1.1,x1.2.1,x1.2.2.1,x1.2.2.2.1,(zj zk (x1.2.2.2.2+1))))else some (Sum.inr s0)
def HD (a0 a1:List Tq0):Option (List Tq2):=(Ag (fun(s:((List Tq0)×(List Tq0)×(List Tq0)×Int))=>Fb s.1 s.2.1 s.2.2.1 s.2.2.2) (([]:List Tq0),a0,a1,(0:Int))).bind fun x0=>(Ag (fun(s:Tq10)=>DU s.1 s.2.1 s.2.2.1 s.2.2.2.1 s.2.2.2.2) (x0.1,x0.2.2,x0.2.1,(x0.2.1.length:Int),(0:Int))).bind fun x1=>(Dv x1).bind fun x2=>some x2
def TQ:OKE:=fq Uh (fun x=>HD x.1 x.2) [HE,Oj,LN,Jn] Tryz.func73
def Cn (s0:Tq5) (s1:List Tq0) (s2:Int):Option (Tq5×(List Tq0)×Int⊕Tq5×(List Tq0)):=bif decide (s2>0)then(AK (s0.1,s0.2.1,s0.2.2) 11).bind fun x0=>(AK (x0.1.1,x0.1.2.1,x0.1.2.2) 3).bind fun x1=>(Ji (zj zk (x0.2-5)) (zj zk ((1:Int)+x1.2))).bind fun x2=>(D8 64 4 s1 ([((x2.1.1,x2.1.2.1),x2.1.2.2.1,x2.1.2.2.2)]:List Tq0)).bind fun x3=>some (Sum.inl ((x1.1.1,x1.1.2.1,x1.1.2.2),x3,(zj zk (s2-1))))else some (Sum.inr ((s0.1,s0.2.1,s0.2.2),s1))
def CZ (a0:Tq5):Option (Tq14×List Tq2):=(AK (a0.1,a0.2.1,a0.2.2) 5).bind fun x0=>(Ag (fun(s:(Tq5×(List Tq0)×Int))=>Cn s.1 s.2.1 s.2.2) ((x0.1.1,x0.1.2.1,x0.1.2.2),([]:List Tq0),x0.2)).bind fun x1=>((Bq (x1.1.1,x1.1.2.1,x1.1.2.2) 12).bind fun x2=>bif(!x2.2)then(Dv x1.2).bind fun x3=>some (Sum.inr ((x2.1.1,x2.1.2.1,x2.1.2.2),x3))else some (Sum.inr ((x2.1.1,x2.1.2.1,x2.1.2.2),x1.2))).bind fun x4=>Sum.elim (fun x5=>some x5) (fun x6=>(Bq (x6.1.1,x6.1.2.1,x6.1.2.2) 4).bind fun x7=>bif x7.2 then bif decide ((x6.2.length:Int)>0)then bif decide ((x6.2.length:Int)<4)then(AK (x7.1.1,x7.1.2.1,x7.1.2.2) 5).bind fun x8=>(CB (zj zk (x8.2-2))).bind fun x9=>(CB 1).bind fun x10=>(HD ([((x9.1,x9.2.1),x9.2.2.1,x9.2.2.2),((x10.1,x10.2.1),x10.2.2.1,x10.2.2.2)]:List Tq0) ([((x9.1,x9.2.1),x9.2.2.1,x9.2.2.2),((x10.1,x10.2.1),x10.2.2.1,x10.2.2.2)]:List Tq0)).bind fun x11=>(HD x6.2 x11).bind fun x12=>some ((x8.1.1,x8.1.2.1,x8.1.2.2),x12)else some ((x7.1.1,x7.1.2.1,x7.1.2.2),x6.2)else some ((x7.1.1,x7.1.2.1,x7.1.2.2),x6.2)else some ((x7.1.1,x7.1.2.1,x7.1.2.2),x6.2)) x4
def KK:OKE:=fq KU (fun x=>CZ x) [C0,TN,I1,Jn,HE,TQ] Tryz.func90
def G4 (a0:List Int):Option (List Tq2×List Tq2):=(CZ (a0,(0:Int),(0:Int))).bind fun x0=>(CZ (x0.1.1,x0.1.2.1,x0.1.2.2)).bind fun x1=>some (x0.2,x1.2)
def Qr:OKE:=fq Ks (fun x=>G4 x) [KK] Tryz.func66
def ET (a0:List Int):Option (List Tq2×List Tq2):=(G4 a0).bind fun x0=>some (x0.1,x0.2)
def Km:OKE:=fq Kt (fun x=>ET x) [Qr] Tryz.func7
def C9 (a0 a1 a2:Int):Option Bool:=bif decide (a0>=a1)then some (decide (a0<=a2))else some false
def Ms:OKE:=fq Rh (fun x=>C9 x.1 x.2.1 x.2.2) [] Tryz.func80
def Gw (a0:Int):Option Bool:=(C9 a0 0 65535).bind fun x0=>some (!x0)
def Tq:OKE:=fq Mj (fun x=>Gw x) [Ms] Tryz.func231
def A0 (s0:List Int) (s1 s2:Int):Option ((List Int)×Int×Int⊕(Unit⊕Int)):=bif decide (s2<s1)then(AI s0 s2).bind fun x0=>(Gw x0).bind fun x1=>bif x1 then some (Sum.inr (Sum.inr s2))else some (Sum.inl (s0,s1,(zj zk (s2+1))))else some (Sum.inr (Sum.inl ()))
def Cd (a0:List Int):Option Int:=(Ag (fun(s:Tq5)=>A0 s.1 s.2.1 s.2.2) (a0,(a0.length:Int),(0:Int))).bind fun x0=>Sum.elim (fun x1=>some (-(1:Int))) (fun x2=>some x2) x0
def Hs:OKE:=fq Ce (fun x=>Cd x) [Tq] Tryz.func174
def Ay (a0:List Int):Option Bool:=(Cd a0).bind fun x0=>some (decide (x0>=0))
def Gj:OKE:=fq BU (fun x=>Ay x) [Hs] Tryz.func96
def ID (a0:Tq3):Option Bool:=bif decide ((a0.2.length:Int)>40)then some false else bif((a0.2.length:Int)==0)then bif a0.1 then some false else bif decide ((a0.2.length:Int)>0)then(AI a0.2 (zj zk ((a0.2.length:Int)-1))).bind fun x0=>bif(x0==0)then some false else(Ay a0.2).bind fun x1=>some (!x1)else(Ay a0.2).bind fun x2=>some (!x2)else bif decide ((a0.2.length:Int)>0)then(AI a0.2 (zj zk ((a0.2.length:Int)-1))).bind fun x3=>bif(x3==0)then some false else(Ay a0.2).bind fun x4=>some (!x4)else(Ay a0.2).bind fun x5=>some (!x5)
def Wv:OKE:=fq Pu (fun x=>ID x) [Gj] Tryz.func220
def Hm (a0:Tq3):Option Bool:=(ID (a0.1,a0.2)).bind fun x0=>some (!x0)
def Vp:OKE:=fq M8 (fun x=>Hm x) [Wv] Tryz.func219
def AM (s0:List Tq3) (s1 s2:Int):Option ((List Tq3)×Int×Int⊕(Unit⊕Int)):=bif decide (s2<s1)then(AI s0 s2).bind fun x0=>(Hm (x0.1,x0.2)).bind fun x1=>bif x1 then some (Sum.inr (Sum.inr s2))else some (Sum.inl (s0,s1,(zj zk (s2+1))))else some (Sum.inr (Sum.inl ()))
def BN (a0:List Tq3):Option Int:=(Ag (fun(s:((List Tq3)×Int×Int))=>AM s.1 s.2.1 s.2.2) (a0,(a0.length:Int),(0:Int))).bind fun x0=>Sum.elim (fun x1=>some (-(1:Int))) (fun x2=>some x2) x0
def F1:OKE:=fq CO (fun x=>BN x) [Vp] Tryz.func230
def Bs (a0:List Tq3):Option Bool:=(BN a0).bind fun x0=>some (decide (x0>=0))
def EX:OKE:=fq Ct (fun x=>Bs x) [F1] Tryz.func218
def HP (a0:List Tq3):Option Bool:=(Bs a0).bind fun x0=>some (!x0)
def Yh:OKE:=fq Re (fun x=>HP x) [EX] Tryz.func197
def Br (a0:Tq3):Option Int:=bif((a0.2.length:Int)==0)then some (0:Int)else bif a0.1 then some (-(1:Int))else some (1:Int)
def JV:OKE:=fq M2 (fun x=>Br x) [] Tryz.func198
def ES (a0:Int):Option Bool:=some (a0 != a0)
def Qp:OKE:=fq Ko (fun x=>ES x) [] Tryz.func232
def B5 (a0 a1:Int):Option Int:=(ES a0).bind fun x0=>(ES a1).bind fun x1=>bif x0 then bif x1 then some (0:Int)else some (-(1:Int))else bif x1 then some (1:Int)else bif decide (a0<a1)then some (-(1:Int))else bif decide (a0>a1)then some (1:Int)else some (0:Int)
def IN:OKE:=fq IR (fun x=>B5 x.1 x.2) [Qp] Tryz.func221
def A1 (s0 s1:List Int) (s2:Int):Option ((List Int)×(List Int)×Int⊕(Unit⊕Int)):=bif decide (s2>=0)then(AI s0 s2).bind fun x0=>(AI s1 s2).bind fun x1=>bif(x0 != x1)then(AI s0 s2).bind fun x2=>(AI s1 s2).bind fun x3=>(B5 x2 x3).bind fun x4=>some (Sum.inr (Sum.inr x4))else some (Sum.inl (s0,s1,(zj zk (s2-1))))else some (Sum.inr (Sum.inl ()))
def BT (a0 a1:List Int):Option Int:=bif((a0.length:Int) != (a1.length:Int))then(B5 (a0.length:Int) (a1.length:Int)).bind fun x0=>some x0 else(Ag (fun(s:((List Int)×(List Int)×Int))=>A1 s.1 s.2.1 s.2.2) (a0,a1,(zj zk ((a0.length:Int)-1)))).bind fun x1=>Sum.elim (fun x2=>some (0:Int)) (fun x3=>some x3) x1
def Gg:OKE:=fq Jp (fun x=>BT x.1 x.2) [IN] Tryz.func204
def LD (s0:List Int) (s1:Int):Option ((List Int)×Int⊕(List Int)×Int):=bif decide (s1>0)then(AI s0 (zj zk (s1-1))).bind fun x0=>bif(x0==0)then some (Sum.inl (s0,(zj zk (s1-1))))else some (Sum.inr (s0,s1))else some (Sum.inr (s0,s1))
def Hn (a0:List Int):Option (List Int):=(Ag (fun(s:((List Int)×Int))=>LD s.1 s.2) (a0,(a0.length:Int))).bind fun x0=>(KC (0:Int) x0.2 (List.length x0.1)).bind fun x1=>some (List.drop x1.1 (List.take x1.2 x0.1))
def Qv:OKE:=fq Zv (fun x=>Hn x) [] Tryz.func212
def DP (s0 s1:List Int) (s2 s3 s4:Int):Option ((List Int)×(List Int)×Int×Int×Int⊕(List Int)×Int):=bif decide (s4>=0)then(AI s1 s4).bind fun x0=>bif(s2==0)then none else(AJ s4 (List.length s0)).bind fun x1=>(AO s0 x1).bind fun x2=>bif(s2==0)then none else some (Sum.inl ((List.set s0 x1 (zj zk (Int.tdiv (zj zk ((zj zk (s3*65536))+x0)) s2))),s1,s2,(Int.tmod (zj zk ((zj zk (s3*65536))+x0)) s2),(zj zk (s4-1))))else some (Sum.inr (s0,s3))
def Fz (a0:List Int) (a1:Int):Option (List Int×Int):=(Mh (a0.length:Int) 8 1).bind fun x0=>(Ag (fun(s:Tq7)=>DP s.1 s.2.1 s.2.2.1 s.2.2.2.1 s.2.2.2.2) ((List.replicate x0 (0:Int)),a0,a1,(0:Int),(zj zk ((a0.length:Int)-1)))).bind fun x1=>(Hn x1.1).bind fun x2=>some (x2,x1.2)
def Vq:OKE:=fq Na (fun x=>Fz x.1 x.2) [Qv] Tryz.func228
def BC (a0:List Int):Option (List Int):=(neL a0).bind fun x0=>bif(Ij (List.length a0) 8 1)then some a0 else none
def HL:Ent:=⟨Bw,fun x=>BC x⟩
def Fk:TX:=⟨Oa,MA,[],[4],[],Bw⟩
theorem Jo(a0:List (Int)):wtF Fk Tryz.f211 a0=BC a0:=by kernel_rfl
theorem It:EL (GN Tryz.prog cfC At3) HL:=LY (X:=Fk) ⟨Al1,Oq,Af8⟩ (W7 rfl) (ZD (by kernel_rfl)) ⟨Tryz.func211,rfl,by kernel_rfl,rfl⟩ (fun x=>by exact Jo x)
def Bu (a0:List Int):Option (List Int):=Z8 BC a0
def Fc:Ent:=⟨Bw,fun x=>Bu x⟩
theorem I0:EL RR Fc:=RU It (.head _) fun _ _ _ _ _ h=>Or.inl h
def Fj:OKE:=⟨Fc,I0,rfl⟩
def A8 (a0:Bool) (a1:List Int):Option (List Int×Bool):=(Hn a1).bind fun x0=>(Bu x0).bind fun x1=>bif a0 then some (x1,decide ((x1.length:Int)>0))else some (x1,false)
def Fi:OKE:=fq TT (fun x=>A8 x.1 x.2) [Qv,Fj] Tryz.func190
def Ix (s0:Tq3) (s1:List Int) (s2:Bool) (s3:Int):Option (Tq3×(List Int)×Bool×Int⊕Tq3×(List Int)×Bool):=bif decide (s3>0)then(D8 8 1 s1 ([(zj zk (Int.tmod s3 65536))]:List Int)).bind fun x0=>some (Sum.inl ((s0.1,s0.2),x0,s2,(zj zx (Int.tdiv s3 65536))))else some (Sum.inr ((s0.1,s0.2),s1,s2))
def CW (a0:Int):Option Tq11:=(bif decide (a0<0)then some (Sum.inr ((false,([]:List Int)),decide (a0<0),(zj zx ((0:Int)-(zj zx a0)))))else some (Sum.inr ((false,([]:List Int)),decide (a0<0),(zj zx a0)))).bind fun x0=>Sum.elim (fun x1=>some x1) (fun x2=>(Ag (fun(s:(Tq3×(List Int)×Bool×Int))=>Ix s.1 s.2.1 s.2.2.1 s.2.2.2) ((x2.1.1,x2.1.2),([]:List Int),x2.2.1,x2.2.2)).bind fun x3=>some (x3.2.2,x3.2.1)) x0
def LL:OKE:=fq TR (fun x=>CW x) [] Tryz.func82
def EI (s0 s1 s2:Tq3) (s3:List Int) (s4 s5 s6:Int) (s7:List Int) (s8 s9:Int) (s10:List Int) (s11 s12:Int):Option (Tq3×Tq3×Tq3×(List Int)×Int×Int×Int×(List Int)×Int×Int×(List Int)×Int×Int⊕Tq3×Tq3×Tq3×(List Int)×Int×Int×(List Int)×Int×Int):=bif decide (s12<s11)then(AI s10 s12).bind fun x0=>(AJ (zj zk (s4+s12)) (List.length s3)).bind fun x1=>(AO s3 x1).bind fun x2=>(AJ (zj zk (s4+s12)) (List.length s3)).bind fun x3=>(AO s3 x3).bind fun x4=>some (Sum.inl ((s0.1,s0.2),(s1.1,s1.2),(s2.1,s2.2),(List.set s3 x3 (Int.tmod (zj zk (s6+(zj zk (x2+(zj zk (s5*x0)))))) 65536)),s4,s5,(zj zk (Int.tdiv (zj zk (s6+(zj zk (x2+(zj zk (s5*x0)))))) 65536)),s7,s8,s9,s10,s11,(zj zk (s12+1))))else some (Sum.inr ((s0.1,s0.2),(s1.1,s1.2),(s2.1,s2.2),s3,s4,s6,s7,s8,s9))
def Gu (s0 s1 s2:Tq3) (s3 s4:List Int) (s5 s6:Int):Option (Tq3×Tq3×Tq3×(List Int)×(List Int)×Int×Int⊕Tq3×Tq3×Tq3×(List Int)):=bif decide (s6<s5)then(AI s4 s6).bind fun x0=>(Ag (fun(s:(Tq3×Tq3×Tq3×(List Int)×Int×Int×Int×(List Int)×Int×Int×(List Int)×Int×Int))=>EI s.1 s.2.1 s.2.2.1 s.2.2.2.1 s.2.2.2.2.1 s.2.2.2.2.2.1 s.2.2.2.2.2.2.1 s.2.2.2.2.2.2.2.1 s.2.2.2.2.2.2.2.2.1 s.2.2.2.2.2.2.2.2.2.1 s.2.2.2.2.2.2.2.2.2.2.1 s.2.2.2.2.2.2.2.2.2.2.2.1 s.2.2.2.2.2.2.2.2.2.2.2.2) ((s0.1,s0.2),(s1.1,s1.2),(s2.1,s2.2),s3,s6,x0,(0:Int),s4,s5,s6,s1.2,(s1.2.length:Int),(0:Int))).bind fun x1=>(AJ (zj zk (x1.2.2.2.2.1+(x1.2.1.2.length:Int))) (List.length x1.2.2.2.1)).bind fun x2=>(AO x1.2.2.2.1 x2).bind fun x3=>(AJ (zj zk (x1.2.2.2.2.1+(x1.2.1.2.length:Int))) (List.length x1.2.2.2.1)).bind fun x4=>(AO x1.2.2.2.1 x4).bind fun x5=>some (Sum.inl ((x1.1.1,x1.1.2),(x1.2.1.1,x1.2.1.2),(x1.2.2.1.1,x1.2.2.1.2),(List.set x1.2.2.2.1 x4 (zj zk (x3+x1.2.2.2.2.2.1))),x1.2.2.2.2.2.2.1,x1.2.2.2.2.2.2.2.1,(zj zk (x1.2.2.2.2.2.2.2.2+1))))else some (Sum.inr ((s0.1,s0.2),(s1.1,s1.2),(s2.1,s2.2),s3))
def BI (a0 a1:Tq3):Option (List Int×Bool):=(Mh (zj zk ((a0.2.length:Int)+(a1.2.length:Int))) 8 1).bind fun x0=>(Ag (fun(s:(Tq3×Tq3×Tq3×(List Int)×(List Int)×Int×Int))=>Gu s.1 s.2.1 s.2.2.1 s.2.2.2.1 s.2.2.2.2.1 s.2.2.2.2.2.1 s.2.2.2.2.2.2) ((a0.1,a0.2),(a1.1,a1.2),(false,([]:List Int)),(List.replicate x0 (0:Int)),a0.2,(a0.2.length:Int),(0:Int))).bind fun x1=>(A8 (!(x1.1.1==x1.2.1.1)) x1.2.2.2).bind fun x2=>some (x2.1,x2.2)
def IP:OKE:=fq Pr (fun x=>BI x.1 x.2) [Fi] Tryz.func166
def KD (s0 s1 s2:List Int) (s3 s4:Int):Option ((List Int)×(List Int)×(List Int)×Int×Int⊕(List Int)×(List Int)×Int×Int):=bif decide ((s0.length:Int)<(zj zk ((s2.length:Int)+1)))then(D8 8 1 s0 ([0]:List Int)).bind fun x0=>some (Sum.inl (x0,s1,s2,s3,s4))else some (Sum.inr (s0,s1,s3,s4))
def Cr (s0 s1 s2:List Int) (s3 s4:Int) (s5 s6 s7:Int):Option ((List Int)×(List Int)×(List Int)×Int×Int×Int×Int×Int⊕(List Int)×(List Int)×(List Int)×Int×Int×Int×Int):=(bif decide (s6>=65536)then some (Sum.inr (s0,s1,s2,s3,s4,s5,s6,s7))else bif decide (s7<65536)then(AJ (zj zk (s3-2)) (List.length s1)).bind fun x0=>(AO s1 x0).bind fun x1=>(AJ (zj zk ((zj zk (s5+s3))-2)) (List.length s0)).bind fun x2=>(AO s0 x2).bind fun x3=>bif decide ((zj zk (s6*x1))>(zj zk ((zj zk (s7*65536))+x3)))then some (Sum.inr (s0,s1,s2,s3,s4,s5,s6,s7))else some (Sum.inl (Sum.inr (s0,s1,s2,s3,s4,s5,s6)))else some (Sum.inl (Sum.inr (s0,s1,s2,s3,s4,s5,s6)))).bind fun x4=>Sum.elim (fun x5=>some x5) (fun x6=>(AJ (zj zk (x6.2.2.2.1-1)) (List.length x6.2.1)).bind fun x7=>(AO x6.2.1 x7).bind fun x8=>some (Sum.inl (x6.1,x6.2.1,x6.2.2.1,x6.2.2.2.1,x6.2.2.2.2.1,x6.2.2.2.2.2.1,(zj zk (x6.2.2.2.2.2.2.1-1)),(zj zk (x6.2.2.2.2.2.2.2+x8))))) x4
def DN (s0 s1 s2:List Int) (s3 s4:Int) (s5 s6:Int) (s7 s8 s9:Int):Option Tq8:=bif decide (s9<s8)then(AJ (zj zk (s5+s9)) (List.length s0)).bind fun x0=>(AO s0 x0).bind fun x1=>(AJ s9 (List.length s1)).bind fun x2=>(AO s1 x2).bind fun x3=>(bif decide ((zj zk ((zj zk (x1-(zj zk (s6*x3))))-s7))<0)then some (Sum.inr (s0,s1,s2,s3,s4,s5,s6,(zj zk (Int.tdiv (zj zk ((zj zk ((zj zk ((0:Int)-(zj zk ((zj zk (x1-(zj zk (s6*x3))))-s7))))+65536))-1)) 65536)),s9,(zj zk ((zj zk ((zj zk (x1-(zj zk (s6*x3))))-s7))+(zj zk ((zj zk (Int.tdiv (zj zk ((zj zk ((zj zk ((0:Int)-(zj zk ((zj zk (x1-(zj zk (s6*x3))))-s7))))+65536))-1)) 65536))*65536)))),s8,s9))else some (Sum.inr (s0,s1,s2,s3,s4,s5,s6,(0:Int),s9,(zj zk ((zj zk (x1-(zj zk (s6*x3))))-s7)),s8,s9))).bind fun x4=>Sum.elim (fun x5=>some x5) (fun x6=>(AJ (zj zk (x6.2.2.2.2.2.1+x6.2.2.2.2.2.2.2.2.1)) (List.length x6.1)).bind fun x7=>(AO x6.1 x7).bind fun x8=>some (Sum.inl ((List.set x6.1 x7 x6.2.2.2.2.2.2.2.2.2.1),x6.2.1,x6.2.2.1,x6.2.2.2.1,x6.2.2.2.2.1,x6.2.2.2.2.2.1,x6.2.2.2.2.2.2.1,x6.2.2.2.2.2.2.2.1,x6.2.2.2.2.2.2.2.2.2.2.1,(zj zk (x6.2.2.2.2.2.2.2.2.2.2.2+1))))) x4 else some (Sum.inr (s0,s1,s2,s3,s4,s5,s6,s7))
def DO (s0 s1 s2:List Int) (s3 s4:Int) (s5 s6:Int) (s7 s8 s9:Int):Option Tq8:=bif decide (s9<s8)then(AJ (zj zk (s5+s9)) (List.length s0)).bind fun x0=>(AO s0 x0).bind fun x1=>(AJ s9 (List.length s1)).bind fun x2=>(AO s1 x2).bind fun x3=>(AJ (zj zk (s5+s9)) (List.length s0)).bind fun x4=>(AO s0 x4).bind fun x5=>some (Sum.inl ((List.set s0 x4 (Int.tmod (zj zk (s7+(zj zk (x1+x3)))) 65536)),s1,s2,s3,s4,s5,s6,(zj zk (Int.tdiv (zj zk (s7+(zj zk (x1+x3)))) 65536)),s8,(zj zk (s9+1))))else some (Sum.inr (s0,s1,s2,s3,s4,s5,s6,s7))
def Cq (s0 s1 s2:List Int) (s3 s4 s5:Int):Option ((List Int)×(List Int)×(List Int)×Int×Int×Int⊕(List Int)×(List Int)×Int×Int):=bif decide (s5>=0)then(AJ (zj zk (s5+s3)) (List.length s0)).bind fun x0=>(AO s0 x0).bind fun x1=>(AJ (zj zk ((zj zk (s5+s3))-1)) (List.length s0)).bind fun x2=>(AO s0 x2).bind fun x3=>(AJ (zj zk (s3-1)) (List.length s1)).bind fun x4=>(AO s1 x4).bind fun x5=>bif(x5==0)then none else(AJ (zj zk (s3-1)) (List.length s1)).bind fun x6=>(AO s1 x6).bind fun x7=>bif(x7==0)then none else(Ag (fun(s:((List Int)×(List Int)×(List Int)×Int×Int×Int×Int×Int))=>Cr s.1 s.2.1 s.2.2.1 s.2.2.2.1 s.2.2.2.2.1 s.2.2.2.2.2.1 s.2.2.2.2.2.2.1 s.2.2.2.2.2.2.2) (s0,s1,s2,s3,s4,s5,(zj zk (Int.tdiv (zj zk ((zj zk (x1*65536))+x3)) x5)),(Int.tmod (zj zk ((zj zk (x1*65536))+x3)) x7))).bind fun x8=>(Ag (fun(s:((List Int)×(List Int)×(List Int)×Int×Int×Int×Int×Int×Int×Int))=>DN s.1 s.2.1 s.2.2.1 s.2.2.2.1 s.2.2.2.2.1 s.2.2.2.2.2.1 s.2.2.2.2.2.2.1 s.2.2.2.2.2.2.2.1 s.2.2.2.2.2.2.2.2.1 s.2.2.2.2.2.2.2.2.2) (x8.1,x8.2.1,x8.2.2.1,x8.2.2.2.1,x8.2.2.2.2.1,x8.2.2.2.2.2.1,x8.2.2.2.2.2.2,(0:Int),x8.2.2.2.1,(0:Int))).bind fun x9=>(AJ (zj zk (x9.2.2.2.2.2.1+x9.2.2.2.1)) (List.length x9.1)).bind fun x10=>(AO x9.1 x10).bind fun x11=>(AJ (zj zk (x9.2.2.2.2.2.1+x9.2.2.2.1)) (List.length x9.1)).bind fun x12=>(AO x9.1 x12).bind fun x13=>(AJ (zj zk (x9.2.2.2.2.2.1+x9.2.2.2.1)) (List.length (List.set x9.1 x12 (zj zk (x11-x9.2.2.2.2.2.2.2))))).bind fun x14=>(AO (List.set x9.1 x12 (zj zk (x11-x9.2.2.2.2.2.2.2))) x14).bind fun x15=>bif decide (x15<0)then(Ag (fun(s:((List Int)×(List Int)×(List Int)×Int×Int×Int×Int×Int×Int×Int))=>DO s.1 s.2.1 s.2.2.1 s.2.2.2.1 s.2.2.2.2.1 s.2.2.2.2.2.1 s.2.2.2.2.2.2.1 s.2.2.2.2.2.2.2.1 s.2.2.2.2.2.2.2.2.1 s.2.2.2.2.2.2.2.2.2) ((List.set x9.1 x12 (zj zk (x11-x9.2.2.2.2.2.2.2))),x9.2.1,x9.2.2.1,x9.2.2.2.1,x9.2.2.2.2.1,x9.2.2.2.2.2.1,(zj zk (x9.2.2.2.2.2.2.1-1)),(0:Int),x9.2.2.2.1,(0:Int))).bind fun x16=>(AJ (zj zk (x16.2.2.2.2.2.1+x16.2.2.2.1)) (List.length x16.1)).bind fun x17=>(AO x16.1 x17).bind fun x18=>(AJ (zj zk (x16.2.2.2.2.2.1+x16.2.2.2.1)) (List.length x16.1)).bind fun x19=>(AO x16.1 x19).bind fun x20=>(AJ x16.2.2.2.2.2.1 (List.length x16.2.2.1)).bind fun x21=>(AO x16.2.2.1 x21).bind fun x22=>some (Sum.inl ((List.set x16.1 x19 (zj zk (x18+x16.2.2.2.2.2.2.2))),x16.2.1,(List.set x16.2.2.1 x21 x16.2.2.2.2.2.2.1),x16.2.2.2.1,x16.2.2.2.2.1,(zj zk (x16.2.2.2.2.2.1-1))))else(AJ x9.2.2.2.2.2.1 (List.length x9.2.2.1)).bind fun x23=>(AO x9.2.2.1 x23).bind fun x24=>some (Sum.inl ((List.set x9.1 x12 (zj zk (x11-x9.2.2.2.2.2.2.2))),x9.2.1,(List.set x9.2.2.1 x23 x9.2.2.2.2.2.2.1),x9.2.2.2.1,x9.2.2.2.2.1,(zj zk (x9.2.2.2.2.2.1-1))))else some (Sum.inr (s0,s2,s3,s4))
def Fy (a0 a1:List Int):Option (List Int×List Int):=(BT a0 a1).bind fun x0=>bif decide (x0<0)then some (([]:List Int),a0)else bif((a1.length:Int)==1)then(AI a1 0).bind fun x1=>(Fz a0 x1).bind fun x2=>(Hn ([x2.2]:List Int)).bind fun x3=>some (x2.1,x3)else(AI a1 (zj zk ((a1.length:Int)-1))).bind fun x4=>bif((zj zk (x4+1))==0)then none else(A8 false a0).bind fun x5=>(CW (zj zk (Int.tdiv 65536 (zj zk (x4+1))))).bind fun x6=>(BI (x5.2,x5.1) (x6.1,x6.2)).bind fun x7=>(D8 8 1 x7.1 ([0]:List Int)).bind fun x8=>(A8 false a1).bind fun x9=>(CW (zj zk (Int.tdiv 65536 (zj zk (x4+1))))).bind fun x10=>(BI (x9.2,x9.1) (x10.1,x10.2)).bind fun x11=>(Ag (fun(s:Tq6)=>KD s.1 s.2.1 s.2.2.1 s.2.2.2.1 s.2.2.2.2) (x8,x11.1,a0,(a1.length:Int),(zj zk (Int.tdiv 65536 (zj zk (x4+1)))))).bind fun x12=>(Mh (zj zk ((x12.1.length:Int)-x12.2.2.1)) 8 1).bind fun x13=>(Ag (fun(s:((List Int)×(List Int)×(List Int)×Int×Int×Int))=>Cq s.1 s.2.1 s.2.2.1 s.2.2.2.1 s.2.2.2.2.1 s.2.2.2.2.2) (x12.1,x12.2.1,(List.replicate x13 (0:Int)),x12.2.2.1,x12.2.2.2,(zj zk ((zj zk ((x12.1.length:Int)-x12.2.2.1))-1)))).bind fun x14=>(KC (0:Int) x14.2.2.1 (List.length x14.1)).bind fun x15=>(Hn (List.drop x15.1 (List.take (x15.1+(x15.2-x15.1)) x14.1))).bind fun x16=>(Fz x16 x14.2.2.2).bind fun x17=>(Hn x14.2.1).bind fun x18=>some (x18,x17.1)
def MX:OKE:=fq M9 (fun x=>Fy x.1 x.2) [Gg,Vq,Qv,Fi,LL,IP] Tryz.func202
def Gt (s0:Tq3) (s1 s2:List Int):Option (Tq3×(List Int)×(List Int)⊕Tq3×(List Int)):=bif decide ((s2.length:Int)>0)then(Fy s1 s2).bind fun x0=>some (Sum.inl ((s0.1,s0.2),s2,x0.2))else some (Sum.inr ((s0.1,s0.2),s1))
def GF (a0 a1:Tq3):Option Tq11:=(Ag (fun(s:(Tq3×(List Int)×(List Int)))=>Gt s.1 s.2.1 s.2.2) ((false,([]:List Int)),a0.2,a1.2)).bind fun x0=>(A8 false x0.2).bind fun x1=>some (x1.2,x1.1)
def Pb:OKE:=fq Pq (fun x=>GF x.1 x.2) [MX,Fi] Tryz.func163
def Fx (a0 a1:Tq3):Option Int:=(Br (a0.1,a0.2)).bind fun x0=>(Br (a1.1,a1.2)).bind fun x1=>bif(x0 != x1)then(Br (a0.1,a0.2)).bind fun x2=>(Br (a1.1,a1.2)).bind fun x3=>(B5 x2 x3).bind fun x4=>some x4 else(Br (a0.1,a0.2)).bind fun x5=>(BT a0.2 a1.2).bind fun x6=>some (zj zk (x5*x6))
def Q0:OKE:=fq KN (fun x=>Fx x.1 x.2) [JV,IN,Gg] Tryz.func199
def DX (a0:Tq1):Option Bool:=(HP ([(a0.1,a0.2.1),(a0.2.2.1,a0.2.2.2)]:List Tq3)).bind fun x0=>bif x0 then(Br (a0.2.2.1,a0.2.2.2)).bind fun x1=>bif decide (x1>0)then(GF (a0.1,a0.2.1) (a0.2.2.1,a0.2.2.2)).bind fun x2=>(CW 1).bind fun x3=>(Fx (x2.1,x2.2) (x3.1,x3.2)).bind fun x4=>some (x4==0)else some false else some false
def KG:OKE:=fq Pv (fun x=>DX x) [Yh,JV,Pb,LL,Q0] Tryz.func157
def BJ (a0:Tq1) (a1:Int):Option Bool:=bif decide ((a0.2.1.length:Int)<=a1)then some (decide ((a0.2.2.2.length:Int)<=a1))else some false
def G6:OKE:=fq Kp (fun x=>BJ x.1 x.2) [] Tryz.func158
def Ho (a0:Int) (a1:Tq1):Option (Int×Bool):=(DX (a1.1,a1.2.1,a1.2.2.1,a1.2.2.2)).bind fun x0=>bif(!x0)then some (a0,true)else(BJ (a1.1,a1.2.1,a1.2.2.1,a1.2.2.2) a0).bind fun x1=>some (a0,(!x1))
def Vr:OKE:=fq Nb (fun x=>Ho x.1 x.2) [KG,G6] Tryz.func156
def Ak (s0:Int) (s1:List Tq0) (s2 s3:Int):Option (Int×(List Tq0)×Int×Int⊕(Int⊕Int×Int)):=bif decide (s3<s2)then(AI s1 s3).bind fun x0=>(Ho s0 (x0.1.1,x0.1.2,x0.2.1,x0.2.2)).bind fun x1=>bif x1.2 then some (Sum.inr (Sum.inr (x1.1,s3)))else some (Sum.inl (x1.1,s1,s2,(zj zk (s3+1))))else some (Sum.inr (Sum.inl s0))
def BO (a0:Int) (a1:List Tq0):Option (Int×Int):=(Ag (fun(s:(Int×(List Tq0)×Int×Int))=>Ak s.1 s.2.1 s.2.2.1 s.2.2.2) (a0,a1,(a1.length:Int),(0:Int))).bind fun x0=>Sum.elim (fun x1=>some (x1,(-(1:Int)))) (fun x2=>some (x2.1,x2.2)) x0
def F2:OKE:=fq CP (fun x=>BO x.1 x.2) [Vr] Tryz.func196
def A2 (a0:Int) (a1:List Tq0):Option (Int×Bool):=(BO a0 a1).bind fun x0=>some (x0.1,decide (x0.2>=0))
def EY:OKE:=fq Cu (fun x=>A2 x.1 x.2) [F2] Tryz.func155
def Fw (a0:Tq1):Option Int:=(Br (a0.1,a0.2.1)).bind fun x0=>some x0
def MW:OKE:=fq M6 (fun x=>Fw x) [JV] Tryz.func159
def Mr (a0:List Tq0) (a1 a2:Int):Option Bool:=bif decide ((a0.length:Int)>a1)then some false else(A2 a2 a0).bind fun x0=>bif x0.2 then some false else bif((a0.length:Int)==0)then some true else(AI a0 (zj zk ((a0.length:Int)-1))).bind fun x1=>(Fw (x1.1.1,x1.1.2,x1.2.1,x1.2.2)).bind fun x2=>some (x2 != (0:Int))
def Yi:OKE:=fq Rf (fun x=>Mr x.1 x.2.1 x.2.2) [EY,MW] Tryz.func76
def Bj (a0:List Tq0):Option Bool:=(Mr a0 7 6).bind fun x0=>some x0
def Da:OKE:=fq M4 (fun x=>Bj x) [Yi] Tryz.func15
def Eo (a0:Int):Option Tq4:=(CW a0).bind fun x0=>(CW 1).bind fun x1=>some (x0.1,x0.2,x1.1,x1.2)
def Jl:OKE:=fq TY (fun x=>Eo x) [LL] Tryz.func98
def DM (s0 s1 s2:List Int) (s3 s4:Int):Option Tq12:=(bif decide (s4<(VQ ([(s1.length:Int),(s2.length:Int)]:List Int)))then some (Sum.inr (s0,s1,s2,s3,s4))else bif decide (s3>0)then some (Sum.inr (s0,s1,s2,s3,s4))else some (Sum.inl (Sum.inr s0))).bind fun x0=>Sum.elim (fun x1=>some x1) (fun x2=>(bif decide (x2.2.2.2.2<(x2.2.1.length:Int))then(AI x2.2.1 x2.2.2.2.2).bind fun x3=>some (Sum.inr (x2.1,x2.2.1,x2.2.2.1,(zj zk (x2.2.2.2.1+x3)),x2.2.2.2.2))else some (Sum.inr (x2.1,x2.2.1,x2.2.2.1,x2.2.2.2.1,x2.2.2.2.2))).bind fun x4=>Sum.elim (fun x5=>some x5) (fun x6=>(bif decide (x6.2.2.2.2<(x6.2.2.1.length:Int))then(AI x6.2.2.1 x6.2.2.2.2).bind fun x7=>some (Sum.inr (x6.1,x6.2.1,x6.2.2.1,(zj zk (x6.2.2.2.1+x7)),x6.2.2.2.2))else some (Sum.inr (x6.1,x6.2.1,x6.2.2.1,x6.2.2.2.1,x6.2.2.2.2))).bind fun x8=>Sum.elim (fun x9=>some x9) (fun x10=>(D8 8 1 x10.1 ([(Int.tmod x10.2.2.2.1 65536)]:List Int)).bind fun x11=>some (Sum.inl (x11,x10.2.1,x10.2.2.1,(zj zk (Int.tdiv x10.2.2.2.1 65536)),(zj zk (x10.2.2.2.2+1))))) x8) x4) x0
def Hl (a0 a1:List Int):Option (List Int):=(Ag (fun(s:Tq6)=>DM s.1 s.2.1 s.2.2.1 s.2.2.2.1 s.2.2.2.2) (([]:List Int),a0,a1,(0:Int),(0:Int))).bind fun x0=>some x0
def Vo:OKE:=fq M7 (fun x=>Hl x.1 x.2) [] Tryz.func203
def Ft (s0 s1:List Int) (s2 s3 s4:Int):Option Tq15:=bif decide (s4<s3)then(AJ s4 (List.length s0)).bind fun x0=>(AO s0 x0).bind fun x1=>(AJ s4 (List.length s0)).bind fun x2=>(AO s0 x2).bind fun x3=>(bif decide (s4<(s1.length:Int))then(AJ s4 (List.length (List.set s0 x2 (zj zk (x1-s2))))).bind fun x4=>(AO (List.set s0 x2 (zj zk (x1-s2))) x4).bind fun x5=>(AI s1 s4).bind fun x6=>(AJ s4 (List.length (List.set s0 x2 (zj zk (x1-s2))))).bind fun x7=>(AO (List.set s0 x2 (zj zk (x1-s2))) x7).bind fun x8=>some (Sum.inr ((List.set (List.set s0 x2 (zj zk (x1-s2))) x7 (zj zk (x5-x6))),s1,s4,s3,s4))else some (Sum.inr ((List.set s0 x2 (zj zk (x1-s2))),s1,s4,s3,s4))).bind fun x9=>Sum.elim (fun x10=>some x10) (fun x11=>(AJ x11.2.2.1 (List.length x11.1)).bind fun x12=>(AO x11.1 x12).bind fun x13=>bif decide (x13<0)then(AJ x11.2.2.1 (List.length x11.1)).bind fun x14=>(AO x11.1 x14).bind fun x15=>(AJ x11.2.2.1 (List.length x11.1)).bind fun x16=>(AO x11.1 x16).bind fun x17=>some (Sum.inl ((List.set x11.1 x16 (zj zk (x15+65536))),x11.2.1,(1:Int),x11.2.2.2.1,(zj zk (x11.2.2.2.2+1))))else some (Sum.inl (x11.1,x11.2.1,(0:Int),x11.2.2.2.1,(zj zk (x11.2.2.2.2+1))))) x9 else some (Sum.inr s0)
def FA (a0 a1:List Int):Option (List Int):=(Bu a0).bind fun x0=>(Ag (fun(s:Tq7)=>Ft s.1 s.2.1 s.2.2.1 s.2.2.2.1 s.2.2.2.2) (x0,a1,(0:Int),(x0.length:Int),(0:Int))).bind fun x1=>(Hn x1).bind fun x2=>some x2
def Vs:OKE:=fq Nc (fun x=>FA x.1 x.2) [Fj,Qv] Tryz.func205
def IB (a0 a1:Tq3):Option Tq11:=bif(a0.1==a1.1)then(Hl a0.2 a1.2).bind fun x0=>(A8 a0.1 x0).bind fun x1=>some (x1.2,x1.1)else(BT a0.2 a1.2).bind fun x2=>bif decide (x2>=0)then(FA a0.2 a1.2).bind fun x3=>(A8 a0.1 x3).bind fun x4=>some (x4.2,x4.1)else(FA a1.2 a0.2).bind fun x5=>(A8 a1.1 x5).bind fun x6=>some (x6.2,x6.1)
def Wt:OKE:=fq Po (fun x=>IB x.1 x.2) [Vo,Fi,Gg,Vs] Tryz.func167
def GG (a0:Tq3):Option Tq11:=(A8 (!a0.1) a0.2).bind fun x0=>some (x0.2,x0.1)
def Pc:OKE:=fq Ps (fun x=>GG x) [Fi] Tryz.func164
def GE (a0 a1:Tq3):Option Tq2:=(Fy a0.2 a1.2).bind fun x0=>(A8 (!(a0.1==a1.1)) x0.1).bind fun x1=>(A8 a0.1 x0.2).bind fun x2=>some ((x1.2,x1.1),x2.2,x2.1)
def Wu:OKE:=fq Pp (fun x=>GE x.1 x.2) [MX,Fi] Tryz.func165
def Gb (a0 a1:Tq3):Option Tq4:=(GF (a0.1,a0.2) (a1.1,a1.2)).bind fun x0=>(bif a1.1 then(GG (x0.1,x0.2)).bind fun x1=>some (Sum.inr ((a0.1,a0.2),(a1.1,a1.2),(false,([]:List Int),false,([]:List Int)),x1.1,x1.2))else some (Sum.inr ((a0.1,a0.2),(a1.1,a1.2),(false,([]:List Int),false,([]:List Int)),x0.1,x0.2))).bind fun x2=>Sum.elim (fun x3=>some x3) (fun x4=>(GE (x4.1.1,x4.1.2) (x4.2.2.2.1,x4.2.2.2.2)).bind fun x5=>(GE (x4.2.1.1,x4.2.1.2) (x4.2.2.2.1,x4.2.2.2.2)).bind fun x6=>some (x5.1.1,x5.1.2,x6.1.1,x6.1.2)) x2
def LM:OKE:=fq TV (fun x=>Gb x.1 x.2) [Pb,Pc,Wu] Tryz.func81
def CE (a0 a1:Tq1):Option Tq4:=(BI (a0.1,a0.2.1) (a1.2.2.1,a1.2.2.2)).bind fun x0=>(BI (a1.1,a1.2.1) (a0.2.2.1,a0.2.2.2)).bind fun x1=>(IB (x0.2,x0.1) (x1.2,x1.1)).bind fun x2=>(BI (a0.2.2.1,a0.2.2.2) (a1.2.2.1,a1.2.2.2)).bind fun x3=>(Gb (x2.1,x2.2) (x3.2,x3.1)).bind fun x4=>some (x4.1,x4.2.1,x4.2.2.1,x4.2.2.2)
def GM:OKE:=fq Px (fun x=>CE x.1 x.2) [IP,Wt,LM] Tryz.func87
def C8 (s0:List Tq0) (s1:Int):Option ((List Tq0)×Int⊕(List Tq0)×Int):=bif decide (s1>0)then(AI s0 (zj zk (s1-1))).bind fun x0=>(Fw (x0.1.1,x0.1.2,x0.2.1,x0.2.2)).bind fun x1=>bif(x1==0)then some (Sum.inl (s0,(zj zk (s1-1))))else some (Sum.inr (s0,s1))else some (Sum.inr (s0,s1))
def FB (a0:List Tq0):Option (List Tq2):=(Ag (fun(s:((List Tq0)×Int))=>C8 s.1 s.2) (a0,(a0.length:Int))).bind fun x0=>(KC (0:Int) x0.2 (List.length x0.1)).bind fun x1=>some (List.drop x1.1 (List.take x1.2 x0.1))
def KH:OKE:=fq WH (fun x=>FB x) [MW] Tryz.func99
def F9 (s0 s1 s2:List Tq0) (s3 s4:Int):Option Tq13:=bif decide (s4<s3)then(Eo 0).bind fun x0=>(bif decide (s4<(s1.length:Int))then(AI s1 s4).bind fun x1=>(CE (x0.1,x0.2.1,x0.2.2.1,x0.2.2.2) (x1.1.1,x1.1.2,x1.2.1,x1.2.2)).bind fun x2=>some (Sum.inr (s0,(x2.1,x2.2.1,x2.2.2.1,x2.2.2.2),s1,s2,s4,s3,s4))else some (Sum.inr (s0,(x0.1,x0.2.1,x0.2.2.1,x0.2.2.2),s1,s2,s4,s3,s4))).bind fun x3=>Sum.elim (fun x4=>some x4) (fun x5=>bif decide (x5.2.2.2.2.1<(x5.2.2.2.1.length:Int))then(AI x5.2.2.2.1 x5.2.2.2.2.1).bind fun x6=>(CE (x5.2.1.1,x5.2.1.2.1,x5.2.1.2.2.1,x5.2.1.2.2.2) (x6.1.1,x6.1.2,x6.2.1,x6.2.2)).bind fun x7=>(D8 64 4 x5.1 ([((x7.1,x7.2.1),x7.2.2.1,x7.2.2.2)]:List Tq0)).bind fun x8=>some (Sum.inl (x8,x5.2.2.1,x5.2.2.2.1,x5.2.2.2.2.2.1,(zj zk (x5.2.2.2.2.2.2+1))))else(D8 64 4 x5.1 ([((x5.2.1.1,x5.2.1.2.1),x5.2.1.2.2.1,x5.2.1.2.2.2)]:List Tq0)).bind fun x9=>some (Sum.inl (x9,x5.2.2.1,x5.2.2.2.1,x5.2.2.2.2.2.1,(zj zk (x5.2.2.2.2.2.2+1))))) x3 else some (Sum.inr s0)
def MT (a0 a1:List Tq0):Option (List Tq2):=(Ag (fun(s:Tq10)=>F9 s.1 s.2.1 s.2.2.1 s.2.2.2.1 s.2.2.2.2) (([]:List Tq0),a0,a1,(VQ ([(a0.length:Int),(a1.length:Int)]:List Int)),(0:Int))).bind fun x0=>(FB x0).bind fun x1=>some x1
def Am2:OKE:=fq WG (fun x=>MT x.1 x.2) [Jl,GM,KH] Tryz.func68
def JQ (a0:Tq1):Option Tq4:=(A8 a0.1 a0.2.1).bind fun x0=>(A8 false a0.2.2.2).bind fun x1=>some (x0.2,x0.1,x1.2,x1.1)
def Yj:OKE:=fq Rg (fun x=>JQ x) [Fi] Tryz.func146
def B3 (s0 s1:List Tq0) (s2 s3:Int):Option ((List Tq0)×(List Tq0)×Int×Int⊕(List Tq0)):=bif decide (s3<s2)then(AI s1 s3).bind fun x0=>(JQ (x0.1.1,x0.1.2,x0.2.1,x0.2.2)).bind fun x1=>(D8 64 4 s0 ([((x1.1,x1.2.1),x1.2.2.1,x1.2.2.2)]:List Tq0)).bind fun x2=>some (Sum.inl (x2,s1,s2,(zj zk (s3+1))))else some (Sum.inr s0)
def B7 (a0:List Tq0):Option Tq18:=(FB a0).bind fun x0=>(Ag (fun(s:Tq16)=>B3 s.1 s.2.1 s.2.2.1 s.2.2.2) (([]:List Tq0),x0,(x0.length:Int),(0:Int))).bind fun x1=>(Bj x1).bind fun x2=>bif(!x2)then some (([]:List Tq0),false)else some (x1,true)
def G7:OKE:=fq Kq (fun x=>B7 x) [KH,Yj,Da] Tryz.func67
def Fd (a0 a1:List Tq0):Option Tq18:=(Bj a0).bind fun x0=>bif(!x0)then some (([]:List Tq0),false)else(Bj a1).bind fun x1=>bif(!x1)then some (([]:List Tq0),false)else(MT a0 a1).bind fun x2=>(B7 x2).bind fun x3=>some (x3.1,x3.2)
def Pa:OKE:=fq Pn (fun x=>Fd x.1 x.2) [Da,Am2,G7] Tryz.func8
def Fh (a0:Tq1):Option Bool:=bif decide ((a0.2.1.length:Int)<=6)then some (decide ((a0.2.2.2.length:Int)<=6))else some false
def Pl:OKE:=fq PN (fun x=>Fh x) [] Tryz.func77
def EJ (s0:Tq3) (s1:List Int) (s2 s3:Int):Option (Tq3×(List Int)×Int×Int⊕(Bool×(List Int)⊕Bool)):=bif decide (s3<s2)then(AI s1 s3).bind fun x0=>(FF x0 0 65535).bind fun x1=>bif(!x1)then some (Sum.inr (Sum.inr false))else some (Sum.inl ((s0.1,s0.2),s1,s2,(zj zk (s3+1))))else some (Sum.inr (Sum.inl (s0.1,s0.2)))
def D1 (a0:Tq3):Option Bool:=(Ag (fun(s:(Tq3×(List Int)×Int×Int))=>EJ s.1 s.2.1 s.2.2.1 s.2.2.2) ((a0.1,a0.2),a0.2,(a0.2.length:Int),(0:Int))).bind fun x0=>Sum.elim (fun x1=>bif((x1.2.length:Int)==0)then some (!x1.1)else bif decide ((x1.2.length:Int)<=40)then(AI x1.2 (zj zk ((x1.2.length:Int)-1))).bind fun x2=>some (x2 != (0:Int))else some false) (fun x3=>some x3) x0
def Pi:OKE:=fq PI (fun x=>D1 x) [Q4] Tryz.func160
def Fg (a0:Tq1):Option Bool:=(D1 (a0.1,a0.2.1)).bind fun x0=>bif(!x0)then some false else(D1 (a0.2.2.1,a0.2.2.2)).bind fun x1=>bif(!x1)then some false else bif a0.2.2.1 then some false else bif((a0.2.2.2.length:Int)==0)then some false else(Jk a0.2.1 a0.2.2.2).bind fun x2=>(HA x2 ([1]:List Int)).bind fun x3=>some (x3==0)
def Pj:OKE:=fq PJ (fun x=>Fg x) [Pi,TO,Oh] Tryz.func78
def DS (s0 s1:List Tq0) (s2 s3:Int):Option ((List Tq0)×(List Tq0)×Int×Int⊕((List Tq0)⊕Bool)):=bif decide (s3<s2)then(AI s1 s3).bind fun x0=>(Fh (x0.1.1,x0.1.2,x0.2.1,x0.2.2)).bind fun x1=>bif(!x1)then some (Sum.inr (Sum.inr false))else(Fg (x0.1.1,x0.1.2,x0.2.1,x0.2.2)).bind fun x2=>bif(!x2)then some (Sum.inr (Sum.inr false))else some (Sum.inl (s0,s1,s2,(zj zk (s3+1))))else some (Sum.inr (Sum.inl s0))
def Cc (a0:List Tq0):Option Bool:=(Ag (fun(s:Tq16)=>DS s.1 s.2.1 s.2.2.1 s.2.2.2) (a0,a0,(a0.length:Int),(0:Int))).bind fun x0=>Sum.elim (fun x1=>bif decide ((x1.length:Int)<=7)then bif((x1.length:Int)==0)then some true else(AI x1 (zj zk ((x1.length:Int)-1))).bind fun x2=>(HS (x2.1.1,x2.1.2,x2.2.1,x2.2.2)).bind fun x3=>some (!x3)else some false) (fun x4=>some x4) x0
def FH:OKE:=fq Ni (fun x=>Cc x) [Pl,Pj,Q8] Tryz.func16
def Ge (a0 a1:List Tq0):Option Bool:=(Cc a0).bind fun x0=>bif x0 then(Cc a1).bind fun x1=>some x1 else some false
def Mt:OKE:=fq Rr (fun x=>Ge x.1 x.2) [FH] Tryz.func69
def HR (a0:List Tq0) (a1:Int):Option Tq4:=bif decide (a1<(a0.length:Int))then(AI a0 a1).bind fun x0=>some (x0.1.1,x0.1.2,x0.2.1,x0.2.2)else(CB 0).bind fun x1=>some (x1.1,x1.2.1,x1.2.2.1,x1.2.2.2)
def Yn:OKE:=fq Rs (fun x=>HR x.1 x.2) [HE] Tryz.func148
def E8 (s0 s1 s2:List Tq0) (s3:Int):Option ((List Tq0)×(List Tq0)×(List Tq0)×Int⊕(List Tq0)):=(bif decide (s3<(s1.length:Int))then some (Sum.inr (s0,s1,s2,s3))else bif decide (s3<(s2.length:Int))then some (Sum.inr (s0,s1,s2,s3))else some (Sum.inl (Sum.inr s0))).bind fun x0=>Sum.elim (fun x1=>some x1) (fun x2=>(HR x2.2.1 x2.2.2.2).bind fun x3=>(HR x2.2.2.1 x2.2.2.2).bind fun x4=>(Gc (x3.1,x3.2.1,x3.2.2.1,x3.2.2.2) (x4.1,x4.2.1,x4.2.2.1,x4.2.2.2)).bind fun x5=>(D8 64 4 x2.1 ([((x5.1,x5.2.1),x5.2.2.1,x5.2.2.2)]:List Tq0)).bind fun x6=>some (Sum.inl (x6,x2.2.1,x2.2.2.1,(zj zk (x2.2.2.2+1))))) x0
def LJ (a0 a1:List Tq0):Option (List Tq2):=(Ag (fun(s:((List Tq0)×(List Tq0)×(List Tq0)×Int))=>E8 s.1 s.2.1 s.2.2.1 s.2.2.2) (([]:List Tq0),a0,a1,(0:Int))).bind fun x0=>(Dv x0).bind fun x1=>some x1
def Ad4:OKE:=fq Ue (fun x=>LJ x.1 x.2) [Yn,LN,Jn] Tryz.func71
def Gd (a0:Tq1):Option (Tq4×Bool):=bif decide ((a0.2.1.length:Int)>40)then some ((false,([]:List Int),false,([]:List Int)),false)else bif decide ((a0.2.2.2.length:Int)>40)then some ((false,([]:List Int),false,([]:List Int)),false)else(Ba a0.1 a0.2.1).bind fun x0=>(Ba false a0.2.2.2).bind fun x1=>some ((x0.2,x0.1,x1.2,x1.1),true)
def Q7:OKE:=fq Rp (fun x=>Gd x) [D6] Tryz.func92
def En (s0 s1:List Tq0) (s2 s3:Int):Option ((List Tq0)×(List Tq0)×Int×Int⊕(List Tq0)):=bif decide (s3<s2)then(AI s1 s3).bind fun x0=>(Gd (x0.1.1,x0.1.2,x0.2.1,x0.2.2)).bind fun x1=>(D8 64 4 s0 ([((x1.1.1,x1.1.2.1),x1.1.2.2.1,x1.1.2.2.2)]:List Tq0)).bind fun x2=>some (Sum.inl (x2,s1,s2,(zj zk (s3+1))))else some (Sum.inr s0)
def EW (a0:List Tq0):Option Tq18:=(Cc a0).bind fun x0=>bif(!x0)then some (([]:List Tq0),false)else(Ag (fun(s:Tq16)=>En s.1 s.2.1 s.2.2.1 s.2.2.2) (([]:List Tq0),a0,(a0.length:Int),(0:Int))).bind fun x1=>some (x1,true)
def Mu:OKE:=fq Ru (fun x=>EW x) [FH,Q7] Tryz.func70
def II (a0 a1:List Tq0):Option Tq18:=(Ge a0 a1).bind fun x0=>bif(!x0)then some (([]:List Tq0),false)else(LJ a0 a1).bind fun x1=>(EW x1).bind fun x2=>some (x2.1,x2.2)
def Pg:OKE:=fq PG (fun x=>II x.1 x.2) [Mt,Ad4,Mu] Tryz.func9
def FD (a0 a1:Int):Option (Int×Int):=some ((zj zx ((zj zx ((zj zx ((Lu Go.IntKind.u64 a0 (32:Int))*(Lu Go.IntKind.u64 a1 (32:Int))))+(Lu Go.IntKind.u64 (zj zx ((zj zx ((Lu Go.IntKind.u64 a0 (32:Int))*(Mv Go.IntKind.u64 a1 (4294967295:Int))))+(Lu Go.IntKind.u64 (zj zx ((Mv Go.IntKind.u64 a0 (4294967295:Int))*(Mv Go.IntKind.u64 a1 (4294967295:Int)))) (32:Int)))) (32:Int))))+(Lu Go.IntKind.u64 (zj zx ((Mv Go.IntKind.u64 (zj zx ((zj zx ((Lu Go.IntKind.u64 a0 (32:Int))*(Mv Go.IntKind.u64 a1 (4294967295:Int))))+(Lu Go.IntKind.u64 (zj zx ((Mv Go.IntKind.u64 a0 (4294967295:Int))*(Mv Go.IntKind.u64 a1 (4294967295:Int)))) (32:Int)))) (4294967295:Int))+(zj zx ((Mv Go.IntKind.u64 a0 (4294967295:Int))*(Lu Go.IntKind.u64 a1 (32:Int)))))) (32:Int)))),(zj zx (a0*a1)))
def M0:OKE:=fq IS (fun x=>FD x.1 x.2) [] Tryz.func217
def Dg (a0 a1:Int):Option (Int×Int):=(FD a0 a1).bind fun x0=>some (x0.1,x0.2)
def Qq:OKE:=fq Kr (fun x=>Dg x.1 x.2) [M0] Tryz.func193
def A5 (a0:List Tq2) (a1:Int):Option (List Tq2):=Jh Dg a0 a1
def Df:Ent:=⟨Dk,fun x=>A5 x.1 x.2⟩
theorem GK:EL RR Df:=Av4 Dg (by kernel_rfl) (fun J hJ=>W8 hJ) Qq.k fun _ _ _ _ _ h=>Or.inr (h)
def Dh:OKE:=⟨Df,GK,rfl⟩
def DY (a0 a1:Tq1):Option Tq4:=(BI (a0.1,a0.2.1) (a1.1,a1.2.1)).bind fun x0=>(BI (a0.2.2.1,a0.2.2.2) (a1.2.2.1,a1.2.2.2)).bind fun x1=>(Gb (x0.2,x0.1) (x1.2,x1.1)).bind fun x2=>some (x2.1,x2.2.1,x2.2.2.1,x2.2.2.2)
def IQ:OKE:=fq Pz (fun x=>DY x.1 x.2) [IP,LM] Tryz.func89
def DR (s0:List Tq0) (s1:Tq1) (s2:List Tq0) (s3:Int) (s4:List Tq0) (s5 s6:Int) (s7:List Tq0) (s8 s9:Int):Option Tq9:=bif decide (s9<s8)then(AI s7 s9).bind fun x0=>(AJ (zj zk (s3+s9)) (List.length s0)).bind fun x1=>(AO s0 x1).bind fun x2=>(DY (s1.1,s1.2.1,s1.2.2.1,s1.2.2.2) (x0.1.1,x0.1.2,x0.2.1,x0.2.2)).bind fun x3=>(CE (x2.1.1,x2.1.2,x2.2.1,x2.2.2) (x3.1,x3.2.1,x3.2.2.1,x3.2.2.2)).bind fun x4=>(AJ (zj zk (s3+s9)) (List.length s0)).bind fun x5=>(AO s0 x5).bind fun x6=>some (Sum.inl ((List.set s0 x5 ((x4.1,x4.2.1),x4.2.2.1,x4.2.2.2)),(s1.1,s1.2.1,s1.2.2.1,s1.2.2.2),s2,s3,s4,s5,s6,s7,s8,(zj zk (s9+1))))else some (Sum.inr (s0,s2,s4,s5,s6))
def DQ (s0 s1 s2:List Tq0) (s3 s4:Int):Option Tq13:=bif decide (s4<s3)then(AI s2 s4).bind fun x0=>(Ag (fun(s:Tq17)=>DR s.1 s.2.1 s.2.2.1 s.2.2.2.1 s.2.2.2.2.1 s.2.2.2.2.2.1 s.2.2.2.2.2.2.1 s.2.2.2.2.2.2.2.1 s.2.2.2.2.2.2.2.2.1 s.2.2.2.2.2.2.2.2.2) (s0,(x0.1.1,x0.1.2,x0.2.1,x0.2.2),s1,s4,s2,s3,s4,s1,(s1.length:Int),(0:Int))).bind fun x1=>some (Sum.inl (x1.1,x1.2.1,x1.2.2.1,x1.2.2.2.1,(zj zk (x1.2.2.2.2+1))))else some (Sum.inr s0)
def LE (a0 a1:List Tq0):Option (List Tq2):=(Eo 0).bind fun x0=>(A5 ([((x0.1,x0.2.1),x0.2.2.1,x0.2.2.2)]:List Tq0) (zj zk ((a0.length:Int)+(a1.length:Int)))).bind fun x1=>(Ag (fun(s:Tq10)=>DQ s.1 s.2.1 s.2.2.1 s.2.2.2.1 s.2.2.2.2) (x1,a1,a0,(a0.length:Int),(0:Int))).bind fun x2=>(FB x2).bind fun x3=>some x3
def Ac8:OKE:=fq TW (fun x=>LE x.1 x.2) [Jl,Dh,IQ,GM,KH] Tryz.func72
def Fe (a0 a1:List Tq0):Option Tq18:=(Bj a0).bind fun x0=>bif(!x0)then some (([]:List Tq0),false)else(Bj a1).bind fun x1=>bif(!x1)then some (([]:List Tq0),false)else(LE a0 a1).bind fun x2=>(B7 x2).bind fun x3=>some (x3.1,x3.2)
def Pe:OKE:=fq Pw (fun x=>Fe x.1 x.2) [Da,Ac8,G7] Tryz.func10
def IK (a0 a1:List Tq0):Option Tq18:=(Ge a0 a1).bind fun x0=>bif(!x0)then some (([]:List Tq0),false)else(HD a0 a1).bind fun x1=>(EW x1).bind fun x2=>some (x2.1,x2.2)
def Pk:OKE:=fq PK (fun x=>IK x.1 x.2) [Mt,TQ,Mu] Tryz.func11
def AV (a0:List Tq0):Option (List Tq2):=(neL a0).bind fun x0=>bif(Ij (List.length a0) 64 4)then some a0 else none
def Ga:Ent:=⟨Bd,fun x=>AV x⟩
def DE:TX:=⟨Oa,MA,[],[4],[],Bd⟩
theorem Ht(a0:List ((Tq11×Tq11))):wtF DE Tryz.f151 a0=AV a0:=by kernel_rfl
theorem GL:EL (GN Tryz.prog cfC At3) Ga:=LY (X:=DE) ⟨Al1,Oq,Af8⟩ (W7 rfl) (ZD (by kernel_rfl)) ⟨Tryz.func151,rfl,by kernel_rfl,rfl⟩ (fun x=>by exact Ht x)
def Bz (a0:List Tq2):Option (List Tq2):=Z8 AV a0
def DD:Ent:=⟨Bd,fun x=>Bz x⟩
theorem G5:EL RR DD:=RU GL (.tail _ (.head _)) fun _ _ _ _ _ h=>Or.inl h
def Hr:OKE:=⟨DD,G5,rfl⟩
def IE (a0 a1:Tq1):Option Tq4:=(BI (a0.1,a0.2.1) (a1.2.2.1,a1.2.2.2)).bind fun x0=>(BI (a0.2.2.1,a0.2.2.2) (a1.1,a1.2.1)).bind fun x1=>(Gb (x0.2,x0.1) (x1.2,x1.1)).bind fun x2=>some (x2.1,x2.2.1,x2.2.2.1,x2.2.2.2)
def Ww:OKE:=fq Py (fun x=>IE x.1 x.2) [IP,LM] Tryz.func119
def IF (a0:Tq1):Option Tq4:=(GG (a0.1,a0.2.1)).bind fun x0=>(A8 false a0.2.2.2).bind fun x1=>some (x0.1,x0.2,x1.2,x1.1)
def Wx:OKE:=fq PA (fun x=>IF x) [Pc,Fi] Tryz.func194
def IG (a0 a1:Tq1):Option Tq4:=(IF (a1.1,a1.2.1,a1.2.2.1,a1.2.2.2)).bind fun x0=>(CE (a0.1,a0.2.1,a0.2.2.1,a0.2.2.2) (x0.1,x0.2.1,x0.2.2.1,x0.2.2.2)).bind fun x1=>some (x1.1,x1.2.1,x1.2.2.1,x1.2.2.2)
def Wy:OKE:=fq PB (fun x=>IG x.1 x.2) [Wx,GM] Tryz.func152
def CK (s0 s1 s2:List Tq0) (s3 s4:Int) (s5:List Tq0) (s6 s7:Int):Option ((List Tq0)×(List Tq0)×(List Tq0)×Int×Int×(List Tq0)×Int×Int⊕(List Tq0)×(List Tq0)×(List Tq0)×Int×Int):=bif decide (s7<s6)then(AI s5 s7).bind fun x0=>(AJ (zj zk (s4+s7)) (List.length s0)).bind fun x1=>(AO s0 x1).bind fun x2=>(AJ s4 (List.length s1)).bind fun x3=>(AO s1 x3).bind fun x4=>(DY (x4.1.1,x4.1.2,x4.2.1,x4.2.2) (x0.1.1,x0.1.2,x0.2.1,x0.2.2)).bind fun x5=>(IG (x2.1.1,x2.1.2,x2.2.1,x2.2.2) (x5.1,x5.2.1,x5.2.2.1,x5.2.2.2)).bind fun x6=>(AJ (zj zk (s4+s7)) (List.length s0)).bind fun x7=>(AO s0 x7).bind fun x8=>some (Sum.inl ((List.set s0 x7 ((x6.1,x6.2.1),x6.2.2.1,x6.2.2.2)),s1,s2,s3,s4,s5,s6,(zj zk (s7+1))))else some (Sum.inr (s0,s1,s2,s3,s4))
def Ds (s0 s1 s2:List Tq0) (s3 s4:Int):Option ((List Tq0)×(List Tq0)×(List Tq0)×Int×Int⊕(List Tq0)×(List Tq0)):=bif decide (s4>=0)then(AJ (zj zk ((zj zk (s4+s3))-1)) (List.length s0)).bind fun x0=>(AO s0 x0).bind fun x1=>(AI s2 (zj zk (s3-1))).bind fun x2=>(IE (x1.1.1,x1.1.2,x1.2.1,x1.2.2) (x2.1.1,x2.1.2,x2.2.1,x2.2.2)).bind fun x3=>(AJ s4 (List.length s1)).bind fun x4=>(AO s1 x4).bind fun x5=>(Ag (fun(s:((List Tq0)×(List Tq0)×(List Tq0)×Int×Int×(List Tq0)×Int×Int))=>CK s.1 s.2.1 s.2.2.1 s.2.2.2.1 s.2.2.2.2.1 s.2.2.2.2.2.1 s.2.2.2.2.2.2.1 s.2.2.2.2.2.2.2) (s0,(List.set s1 x4 ((x3.1,x3.2.1),x3.2.2.1,x3.2.2.2)),s2,s3,s4,s2,(s2.length:Int),(0:Int))).bind fun x6=>some (Sum.inl (x6.1,x6.2.1,x6.2.2.1,x6.2.2.2.1,(zj zk (x6.2.2.2.2-1))))else some (Sum.inr (s0,s1))
def IH (a0 a1:List Tq0):Option (List Tq2×List Tq2):=(Bz a0).bind fun x0=>(Eo 0).bind fun x1=>(A5 ([((x1.1,x1.2.1),x1.2.2.1,x1.2.2.2)]:List Tq0) (VQ ([0,(zj zk ((zj zk ((a0.length:Int)-(a1.length:Int)))+1))]:List Int))).bind fun x2=>(Ag (fun(s:Tq10)=>Ds s.1 s.2.1 s.2.2.1 s.2.2.2.1 s.2.2.2.2) (x0,x2,a1,(a1.length:Int),(zj zk ((x2.length:Int)-1)))).bind fun x3=>(FB x3.2).bind fun x4=>(FB x3.1).bind fun x5=>some (x4,x5)
def Wz:OKE:=fq PD (fun x=>IH x.1 x.2) [Hr,Jl,Dh,Ww,IQ,Wy,KH] Tryz.func74
def IC (a0 a1:List Tq0):Option (List Tq2×List Tq2×Bool):=(Bj a0).bind fun x0=>bif(!x0)then some (([]:List Tq0),([]:List Tq0),false)else(Bj a1).bind fun x1=>bif(!x1)then some (([]:List Tq0),([]:List Tq0),false)else bif((a1.length:Int)==0)then some (([]:List Tq0),([]:List Tq0),false)else(IH a0 a1).bind fun x2=>(B7 x2.1).bind fun x3=>(B7 x2.2).bind fun x4=>bif(!x3.2)then some (([]:List Tq0),([]:List Tq0),false)else bif(!x4.2)then some (([]:List Tq0),([]:List Tq0),false)else some (x3.1,x4.1,true)
def Pd:OKE:=fq Pt (fun x=>IC x.1 x.2) [Da,Wz,G7] Tryz.func12
def LG (a0 a1:Tq1):Option Tq4:=(Du (a0.1,a0.2.1) (a1.2.2.1,a1.2.2.2)).bind fun x0=>(Du (a0.2.2.1,a0.2.2.2) (a1.1,a1.2.1)).bind fun x1=>(D5 (x0.1,x0.2) (x1.1,x1.2)).bind fun x2=>some (x2.1,x2.2.1,x2.2.2.1,x2.2.2.2)
def Ad1:OKE:=fq T9 (fun x=>LG x.1 x.2) [Oi,HV] Tryz.func153
def LH (a0:Tq1):Option Tq4:=(HB (a0.1,a0.2.1)).bind fun x0=>some (x0.1,x0.2,a0.2.2.1,a0.2.2.2)
def Ad2:OKE:=fq Uc (fun x=>LH x) [TP] Tryz.func195
def LI (a0 a1:Tq1):Option Tq4:=(LH (a1.1,a1.2.1,a1.2.2.1,a1.2.2.2)).bind fun x0=>(Gc (a0.1,a0.2.1,a0.2.2.1,a0.2.2.2) (x0.1,x0.2.1,x0.2.2.1,x0.2.2.2)).bind fun x1=>some (x1.1,x1.2.1,x1.2.2.1,x1.2.2.2)
def Ad3:OKE:=fq Ud (fun x=>LI x.1 x.2) [Ad2,LN] Tryz.func154
def E9 (s0 s1:List Tq0) (s2 s3:List Tq0) (s4:Int):Option ((List Tq0)×(List Tq0)×(List Tq0)×(List Tq0)×Int⊕(List Tq0)×(List Tq0)×(List Tq0)×(List Tq0)):=bif decide (s4<(s2.length:Int))then(CB 0).bind fun x0=>(D8 64 4 s1 ([((x0.1,x0.2.1),x0.2.2.1,x0.2.2.2)]:List Tq0)).bind fun x1=>some (Sum.inl (s0,x1,s2,s3,(zj zk (s4+1))))else some (Sum.inr (s0,s1,s2,s3))
def DT (s0 s1:List Tq0) (s2:Tq1) (s3:List Tq0) (s4:Int) (s5:List Tq0) (s6 s7:Int):Option ((List Tq0)×(List Tq0)×Tq1×(List Tq0)×Int×(List Tq0)×Int×Int⊕(List Tq0)×(List Tq0)×(List Tq0)×Int):=bif decide (s7<s6)then(AI s5 s7).bind fun x0=>(AJ (zj zk (s4+s7)) (List.length s0)).bind fun x1=>(AO s0 x1).bind fun x2=>(HC (s2.1,s2.2.1,s2.2.2.1,s2.2.2.2) (x0.1.1,x0.1.2,x0.2.1,x0.2.2)).bind fun x3=>(LI (x2.1.1,x2.1.2,x2.2.1,x2.2.2) (x3.1,x3.2.1,x3.2.2.1,x3.2.2.2)).bind fun x4=>(AJ (zj zk (s4+s7)) (List.length s0)).bind fun x5=>(AO s0 x5).bind fun x6=>some (Sum.inl ((List.set s0 x5 ((x4.1,x4.2.1),x4.2.2.1,x4.2.2.2)),s1,(s2.1,s2.2.1,s2.2.2.1,s2.2.2.2),s3,s4,s5,s6,(zj zk (s7+1))))else some (Sum.inr (s0,s1,s3,s4))
def Fa (s0 s1 s2:List Tq0) (s3:Int):Option ((List Tq0)×(List Tq0)×(List Tq0)×Int⊕(List Tq0)×(List Tq0)):=bif decide (s3>=0)then(AJ (zj zk ((zj zk (s3+(s2.length:Int)))-1)) (List.length s0)).bind fun x0=>(AO s0 x0).bind fun x1=>(AI s2 (zj zk ((s2.length:Int)-1))).bind fun x2=>(LG (x1.1.1,x1.1.2,x1.2.1,x1.2.2) (x2.1.1,x2.1.2,x2.2.1,x2.2.2)).bind fun x3=>(AJ s3 (List.length s1)).bind fun x4=>(AO s1 x4).bind fun x5=>(Ag (fun(s:((List Tq0)×(List Tq0)×Tq1×(List Tq0)×Int×(List Tq0)×Int×Int))=>DT s.1 s.2.1 s.2.2.1 s.2.2.2.1 s.2.2.2.2.1 s.2.2.2.2.2.1 s.2.2.2.2.2.2.1 s.2.2.2.2.2.2.2) (s0,(List.set s1 x4 ((x3.1,x3.2.1),x3.2.2.1,x3.2.2.2)),(x3.1,x3.2.1,x3.2.2.1,x3.2.2.2),s2,s3,s2,(s2.length:Int),(0:Int))).bind fun x6=>some (Sum.inl (x6.1,x6.2.1,x6.2.2.1,(zj zk (x6.2.2.2-1))))else some (Sum.inr (s0,s1))
def LK (a0 a1:List Tq0):Option (List Tq2×List Tq2):=bif(Ij (List.length a0) 64 4)then(Ag (fun(s:((List Tq0)×(List Tq0)×(List Tq0)×(List Tq0)×Int))=>E9 s.1 s.2.1 s.2.2.1 s.2.2.2.1 s.2.2.2.2) (a0,([]:List Tq0),a0,a1,(0:Int))).bind fun x0=>(Ag (fun(s:((List Tq0)×(List Tq0)×(List Tq0)×Int))=>Fa s.1 s.2.1 s.2.2.1 s.2.2.2) (x0.1,x0.2.1,x0.2.2.2,(zj zk ((x0.2.2.1.length:Int)-(x0.2.2.2.length:Int))))).bind fun x1=>(Dv x1.2).bind fun x2=>(Dv x1.1).bind fun x3=>some (x2,x3)else none
def Ad5:OKE:=fq Ug (fun x=>LK x.1 x.2) [HE,Ad1,Oj,Ad3,Jn] Tryz.func75
def IJ (a0 a1:List Tq0):Option (List Tq2×List Tq2×Bool):=(Ge a0 a1).bind fun x0=>bif(!x0)then some (([]:List Tq0),([]:List Tq0),false)else bif((a1.length:Int)==0)then some (([]:List Tq0),([]:List Tq0),false)else(LK a0 a1).bind fun x1=>(EW x1.1).bind fun x2=>(EW x1.2).bind fun x3=>bif(!x2.2)then some (([]:List Tq0),([]:List Tq0),false)else bif(!x3.2)then some (([]:List Tq0),([]:List Tq0),false)else some (x2.1,x3.1,true)
def Ph:OKE:=fq PH (fun x=>IJ x.1 x.2) [Mt,Ad5,Mu] Tryz.func13
def Fu (s0 s1:List Int) (s2 s3:Int):Option ((List Int)×(List Int)×Int×Int⊕(Unit⊕Bool)):=bif decide (s3<s2)then(AI s0 s3).bind fun x0=>(AI s1 s3).bind fun x1=>bif(x0 != x1)then some (Sum.inr (Sum.inr false))else some (Sum.inl (s0,s1,s2,(zj zk (s3+1))))else some (Sum.inr (Sum.inl ()))
def Hq (a0 a1:List Int):Option Bool:=bif((a0.length:Int) != (a1.length:Int))then some false else(Ag (fun(s:((List Int)×(List Int)×Int×Int))=>Fu s.1 s.2.1 s.2.2.1 s.2.2.2) (a0,a1,(a0.length:Int),(0:Int))).bind fun x0=>Sum.elim (fun x1=>some true) (fun x2=>some x2) x0
def Vt:OKE:=fq Nf (fun x=>Hq x.1 x.2) [] Tryz.func168
def GI (a0 a1:Tq3):Option Bool:=bif(a0.1==a1.1)then(Hq a0.2 a1.2).bind fun x0=>some x0 else some false
def WA:OKE:=fq PE (fun x=>GI x.1 x.2) [Vt] Tryz.func88
def Bh (a0 a1:Tq1):Option Bool:=(GI (a0.1,a0.2.1) (a1.1,a1.2.1)).bind fun x0=>bif x0 then(GI (a0.2.2.1,a0.2.2.2) (a1.2.2.1,a1.2.2.2)).bind fun x1=>some x1 else some false
def KI:OKE:=fq PF (fun x=>Bh x.1 x.2) [WA] Tryz.func21
def CS (s0 s1:List Tq0) (s2 s3:Int):Option ((List Tq0)×(List Tq0)×Int×Int⊕(Unit⊕Bool)):=bif decide (s3<s2)then(AI s0 s3).bind fun x0=>(AI s1 s3).bind fun x1=>(Bh (x0.1.1,x0.1.2,x0.2.1,x0.2.2) (x1.1.1,x1.1.2,x1.2.1,x1.2.2)).bind fun x2=>bif(!x2)then some (Sum.inr (Sum.inr false))else some (Sum.inl (s0,s1,s2,(zj zk (s3+1))))else some (Sum.inr (Sum.inl ()))
def AL (a0 a1:List Tq0):Option Bool:=bif((a0.length:Int) != (a1.length:Int))then some false else(Ag (fun(s:Tq16)=>CS s.1 s.2.1 s.2.2.1 s.2.2.2) (a0,a1,(a0.length:Int),(0:Int))).bind fun x0=>Sum.elim (fun x1=>some true) (fun x2=>some x2) x0
def MZ:OKE:=fq Ng (fun x=>AL x.1 x.2) [KI] Tryz.func14
def Cs (s0:Int) (s1:List Int) (s2 s3:Int):Option (Int×(List Int)×Int×Int⊕Int):=bif decide (s3<s2)then(AI s1 s3).bind fun x0=>some (Sum.inl ((Int.tmod (zj zk ((zj zk ((31:Int)*s0))+(zj zk x0))) 1000003),s1,s2,(zj zk (s3+1))))else some (Sum.inr s0)
def FC (a0:List Int):Option Int:=(Ag (fun(s:(Int×(List Int)×Int×Int))=>Cs s.1 s.2.1 s.2.2.1 s.2.2.2) ((0:Int),a0,(a0.length:Int),(0:Int))).bind fun x0=>some x0
def MY:OKE:=fq Nd (fun x=>FC x) [] Tryz.func18
def Jf (a0 a1:Int):Option (Tq4×Bool):=bif(a1==0)then some ((false,([]:List Int),false,([]:List Int)),false)else(C9 a0 (-(4611686018427387904:Int)) 4611686018427387904).bind fun x0=>bif(!x0)then some ((false,([]:List Int),false,([]:List Int)),false)else(C9 a1 (-(4611686018427387904:Int)) 4611686018427387904).bind fun x1=>bif(!x1)then some ((false,([]:List Int),false,([]:List Int)),false)else(CW a0).bind fun x2=>(CW a1).bind fun x3=>(Gb (x2.1,x2.2) (x3.1,x3.2)).bind fun x4=>some ((x4.1,x4.2.1,x4.2.2.1,x4.2.2.2),true)
def TK:OKE:=fq TS (fun x=>Jf x.1 x.2) [Ms,LL,LM] Tryz.func17
def Jg (a0:Tq1):Option Bool:=(DX (a0.1,a0.2.1,a0.2.2.1,a0.2.2.2)).bind fun x0=>bif x0 then(BJ (a0.1,a0.2.1,a0.2.2.1,a0.2.2.2) 6).bind fun x1=>some x1 else some false
def Ac7:OKE:=fq TU (fun x=>Jg x) [KG,G6] Tryz.func83
def Je (s0 s1 s2:Tq1) (s3:List Tq0) (s4:Int):Option (Tq1×Tq1×Tq1×(List Tq0)×Int⊕Tq1×Bool×(List Int)×Bool×(List Int)):=bif decide (s4>=0)then(AI s3 s4).bind fun x0=>(DY (s2.1,s2.2.1,s2.2.2.1,s2.2.2.2) (s0.1,s0.2.1,s0.2.2.1,s0.2.2.2)).bind fun x1=>(CE (x1.1,x1.2.1,x1.2.2.1,x1.2.2.2) (x0.1.1,x0.1.2,x0.2.1,x0.2.2)).bind fun x2=>some (Sum.inl ((s0.1,s0.2.1,s0.2.2.1,s0.2.2.2),(s1.1,s1.2.1,s1.2.2.1,s1.2.2.2),(x2.1,x2.2.1,x2.2.2.1,x2.2.2.2),s3,(zj zk (s4-1))))else some (Sum.inr ((s1.1,s1.2.1,s1.2.2.1,s1.2.2.2),s2.1,s2.2.1,s2.2.2.1,s2.2.2.2))
def Vl (a0:List Tq0) (a1:Tq1):Option Tq4:=(Eo 0).bind fun x0=>(Ag (fun(s:(Tq1×Tq1×Tq1×(List Tq0)×Int))=>Je s.1 s.2.1 s.2.2.1 s.2.2.2.1 s.2.2.2.2) ((a1.1,a1.2.1,a1.2.2.1,a1.2.2.2),(false,([]:List Int),false,([]:List Int)),(x0.1,x0.2.1,x0.2.2.1,x0.2.2.2),a0,(zj zk ((a0.length:Int)-1)))).bind fun x1=>some (x1.2.1,x1.2.2.1,x1.2.2.2.1,x1.2.2.2.2)
def AI0:OKE:=fq Am7 (fun x=>Vl x.1 x.2) [Jl,IQ,GM] Tryz.func85
def CX (a0:Tq1):Option (Tq4×Bool):=(BJ (a0.1,a0.2.1,a0.2.2.1,a0.2.2.2) 40).bind fun x0=>bif(!x0)then some ((false,([]:List Int),false,([]:List Int)),false)else some ((a0.1,a0.2.1,a0.2.2.1,a0.2.2.2),true)
def HU:OKE:=fq KM (fun x=>CX x) [G6] Tryz.func84
def Bc (a0:List Tq0) (a1:Tq1):Option (Tq4×Bool):=(Bj a0).bind fun x0=>bif(!x0)then some ((false,([]:List Int),false,([]:List Int)),false)else(Jg (a1.1,a1.2.1,a1.2.2.1,a1.2.2.2)).bind fun x1=>bif(!x1)then some ((false,([]:List Int),false,([]:List Int)),false)else(Vl a0 (a1.1,a1.2.1,a1.2.2.1,a1.2.2.2)).bind fun x2=>(CX (x2.1,x2.2.1,x2.2.2.1,x2.2.2.2)).bind fun x3=>some ((x3.1.1,x3.1.2.1,x3.1.2.2.1,x3.1.2.2.2),x3.2)
def MU:OKE:=fq M3 (fun x=>Bc x.1 x.2) [Da,Ac7,AI0,HU] Tryz.func19
def Gv (s0:List Tq0) (s1 s2:Int):Option ((List Tq0)×Int×Int⊕(Unit⊕Bool)):=bif decide (s2<s1)then(AI s0 s2).bind fun x0=>(DX (x0.1.1,x0.1.2,x0.2.1,x0.2.2)).bind fun x1=>bif(!x1)then some (Sum.inr (Sum.inr false))else some (Sum.inl (s0,s1,(zj zk (s2+1))))else some (Sum.inr (Sum.inl ()))
def DZ (a0:List Tq0):Option Bool:=(Ag (fun(s:((List Tq0)×Int×Int))=>Gv s.1 s.2.1 s.2.2) (a0,(a0.length:Int),(0:Int))).bind fun x0=>Sum.elim (fun x1=>some true) (fun x2=>some x2) x0
def Pf:OKE:=fq PC (fun x=>DZ x) [KG] Tryz.func86
def HM (a0 a1:Tq1):Option (Tq4×Bool):=(DZ ([((a0.1,a0.2.1),a0.2.2.1,a0.2.2.2),((a1.1,a1.2.1),a1.2.2.1,a1.2.2.2)]:List Tq0)).bind fun x0=>bif(!x0)then some ((false,([]:List Int),false,([]:List Int)),false)else(CE (a0.1,a0.2.1,a0.2.2.1,a0.2.2.2) (a1.1,a1.2.1,a1.2.2.1,a1.2.2.2)).bind fun x1=>(CX (x1.1,x1.2.1,x1.2.2.1,x1.2.2.2)).bind fun x2=>some ((x2.1.1,x2.1.2.1,x2.1.2.2.1,x2.1.2.2.2),x2.2)
def QX:OKE:=fq Ra (fun x=>HM x.1 x.2) [Pf,GM,HU] Tryz.func20
def HN (a0 a1:Tq1):Option (Tq4×Bool):=(DZ ([((a0.1,a0.2.1),a0.2.2.1,a0.2.2.2),((a1.1,a1.2.1),a1.2.2.1,a1.2.2.2)]:List Tq0)).bind fun x0=>bif(!x0)then some ((false,([]:List Int),false,([]:List Int)),false)else(DY (a0.1,a0.2.1,a0.2.2.1,a0.2.2.2) (a1.1,a1.2.1,a1.2.2.1,a1.2.2.2)).bind fun x1=>(CX (x1.1,x1.2.1,x1.2.2.1,x1.2.2.2)).bind fun x2=>some ((x2.1.1,x2.1.2.1,x2.1.2.2.1,x2.1.2.2.2),x2.2)
def QY:OKE:=fq Rb (fun x=>HN x.1 x.2) [Pf,IQ,HU] Tryz.func22
def BK (a0:Tq5) (a1:List Int):Option (Tq14×Int):=(AK (a0.1,a0.2.1,a0.2.2) (a1.length:Int)).bind fun x0=>(AI a1 x0.2).bind fun x1=>some ((x0.1.1,x0.1.2.1,x0.1.2.2),x1)
def Kn:OKE:=fq Ku (fun x=>BK x.1 x.2) [C0] Tryz.func95
def De (s0:Tq5) (s1:Tq3) (s2:List Int) (s3:Int):Option (Tq5×Tq3×(List Int)×Int⊕Tq5×Tq3×(List Int)):=bif decide (s3>0)then(AK (s0.1,s0.2.1,s0.2.2) 256).bind fun x0=>(AK (x0.1.1,x0.1.2.1,x0.1.2.2) 256).bind fun x1=>(BK (x1.1.1,x1.1.2.1,x1.1.2.2) ([0,1,65535,32768,(zj zk ((zj zk ((256:Int)*x0.2))+x1.2)),7]:List Int)).bind fun x2=>(D8 8 1 s2 ([x2.2]:List Int)).bind fun x3=>some (Sum.inl ((x2.1.1,x2.1.2.1,x2.1.2.2),(s1.1,s1.2),x3,(zj zk (s3-1))))else some (Sum.inr ((s0.1,s0.2.1,s0.2.2),(s1.1,s1.2),s2))
def EM (a0:Tq5):Option (Tq14×Bool×List Int):=(AK (a0.1,a0.2.1,a0.2.2) 6).bind fun x0=>((Bq (x0.1.1,x0.1.2.1,x0.1.2.2) 12).bind fun x1=>bif x1.2 then(BK (x1.1.1,x1.1.2.1,x1.1.2.2) ([20,39,40,41]:List Int)).bind fun x2=>some (Sum.inr ((x2.1.1,x2.1.2.1,x2.1.2.2),(false,([]:List Int)),x2.2))else some (Sum.inr ((x1.1.1,x1.1.2.1,x1.1.2.2),(false,([]:List Int)),x0.2))).bind fun x3=>Sum.elim (fun x4=>some x4) (fun x5=>(Ag (fun(s:(Tq5×Tq3×(List Int)×Int))=>De s.1 s.2.1 s.2.2.1 s.2.2.2) ((x5.1.1,x5.1.2.1,x5.1.2.2),(x5.2.1.1,x5.2.1.2),([]:List Int),x5.2.2)).bind fun x6=>(Bq (x6.1.1,x6.1.2.1,x6.1.2.2) 3).bind fun x7=>(Ba x7.2 x6.2.2).bind fun x8=>(Bq (x7.1.1,x7.1.2.1,x7.1.2.2) 40).bind fun x9=>bif x9.2 then(BK (x9.1.1,x9.1.2.1,x9.1.2.2) ([0,(-(1:Int)),65536]:List Int)).bind fun x10=>(D8 8 1 x8.1 ([x10.2]:List Int)).bind fun x11=>some ((x10.1.1,x10.1.2.1,x10.1.2.2),x8.2,x11)else some ((x9.1.1,x9.1.2.1,x9.1.2.2),x8.2,x8.1)) x3
def Tr:OKE:=fq Mk (fun x=>EM x) [C0,I1,Kn,D6] Tryz.func170
def Gx (a0:Tq5):Option (Tq14×Bool×List Int×Bool×List Int):=(Bq (a0.1,a0.2.1,a0.2.2) 12).bind fun x0=>bif x0.2 then(EM (x0.1.1,x0.1.2.1,x0.1.2.2)).bind fun x1=>(EM (x1.1.1,x1.1.2.1,x1.1.2.2)).bind fun x2=>(D1 (x1.2.1,x1.2.2)).bind fun x3=>bif x3 then(D1 (x2.2.1,x2.2.2)).bind fun x4=>bif x4 then bif decide ((x2.2.2.length:Int)>0)then(D5 (x1.2.1,x1.2.2) (x2.2.1,x2.2.2)).bind fun x5=>some ((x2.1.1,x2.1.2.1,x2.1.2.2),x5.1,x5.2.1,x5.2.2.1,x5.2.2.2)else some ((x2.1.1,x2.1.2.1,x2.1.2.2),x1.2.1,x1.2.2,x2.2.1,x2.2.2)else some ((x2.1.1,x2.1.2.1,x2.1.2.2),x1.2.1,x1.2.2,x2.2.1,x2.2.2)else some ((x2.1.1,x2.1.2.1,x2.1.2.2),x1.2.1,x1.2.2,x2.2.1,x2.2.2)else(AK (x0.1.1,x0.1.2.1,x0.1.2.2) 41).bind fun x6=>(AK (x6.1.1,x6.1.2.1,x6.1.2.2) 12).bind fun x7=>(Ji (zj zk (x6.2-20)) (zj zk ((1:Int)+x7.2))).bind fun x8=>some ((x7.1.1,x7.1.2.1,x7.1.2.2),x8.1.1,x8.1.2.1,x8.1.2.2.1,x8.1.2.2.2)
def Ts:OKE:=fq Mm (fun x=>Gx x) [I1,Tr,Pi,HV,C0,TN] Tryz.func91
def CY (a0:List Int):Option (List Tq2×Bool×List Int×Bool×List Int):=(CZ (a0,(0:Int),(0:Int))).bind fun x0=>(Gx (x0.1.1,x0.1.2.1,x0.1.2.2)).bind fun x1=>some (x0.2,x1.2.1,x1.2.2.1,x1.2.2.2.1,x1.2.2.2.2)
def Jm:OKE:=fq Jq (fun x=>CY x) [KK,Ts] Tryz.func23
def Em (s0 s1 s2:Tq1) (s3:List Tq0) (s4:Int):Option (Tq1×Tq1×Tq1×(List Tq0)×Int⊕Tq1×Bool×(List Int)×Bool×(List Int)):=bif decide (s4>=0)then(AI s3 s4).bind fun x0=>(HC (s2.1,s2.2.1,s2.2.2.1,s2.2.2.2) (s0.1,s0.2.1,s0.2.2.1,s0.2.2.2)).bind fun x1=>(Gc (x1.1,x1.2.1,x1.2.2.1,x1.2.2.2) (x0.1.1,x0.1.2,x0.2.1,x0.2.2)).bind fun x2=>some (Sum.inl ((s0.1,s0.2.1,s0.2.2.1,s0.2.2.2),(s1.1,s1.2.1,s1.2.2.1,s1.2.2.2),(x2.1,x2.2.1,x2.2.2.1,x2.2.2.2),s3,(zj zk (s4-1))))else some (Sum.inr ((s1.1,s1.2.1,s1.2.2.1,s1.2.2.2),s2.1,s2.2.1,s2.2.2.1,s2.2.2.2))
def JU (a0:List Tq0) (a1:Tq1):Option Tq4:=(CB 0).bind fun x0=>(Ag (fun(s:(Tq1×Tq1×Tq1×(List Tq0)×Int))=>Em s.1 s.2.1 s.2.2.1 s.2.2.2.1 s.2.2.2.2) ((a1.1,a1.2.1,a1.2.2.1,a1.2.2.2),(false,([]:List Int),false,([]:List Int)),(x0.1,x0.2.1,x0.2.2.1,x0.2.2.2),a0,(zj zk ((a0.length:Int)-1)))).bind fun x1=>some (x1.2.1,x1.2.2.1,x1.2.2.2.1,x1.2.2.2.2)
def Yo:OKE:=fq Rt (fun x=>JU x.1 x.2) [HE,Oj,LN] Tryz.func93
def CF (a0:List Tq0) (a1:Tq1):Option (Tq4×Bool):=(Cc a0).bind fun x0=>bif(!x0)then some ((false,([]:List Int),false,([]:List Int)),false)else(Fh (a1.1,a1.2.1,a1.2.2.1,a1.2.2.2)).bind fun x1=>bif(!x1)then some ((false,([]:List Int),false,([]:List Int)),false)else(Fg (a1.1,a1.2.1,a1.2.2.1,a1.2.2.2)).bind fun x2=>bif(!x2)then some ((false,([]:List Int),false,([]:List Int)),false)else(JU a0 (a1.1,a1.2.1,a1.2.2.1,a1.2.2.2)).bind fun x3=>(Gd (x3.1,x3.2.1,x3.2.2.1,x3.2.2.2)).bind fun x4=>some ((x4.1.1,x4.1.2.1,x4.1.2.2.1,x4.1.2.2.2),x4.2)
def M1:OKE:=fq Nh (fun x=>CF x.1 x.2) [FH,Pl,Pj,Yo,Q7] Tryz.func24
def Cm (s0:Tq5) (s1:List Int) (s2:Int):Option (Tq5×(List Int)×Int⊕(List Int)):=bif decide (s2>0)then(BK (s0.1,s0.2.1,s0.2.2) ([0,0,1,(-(1:Int)),5,1000,(-(1000:Int)),1001]:List Int)).bind fun x0=>(D8 8 1 s1 ([x0.2]:List Int)).bind fun x1=>some (Sum.inl ((x0.1.1,x0.1.2.1,x0.1.2.2),x1,(zj zk (s2-1))))else some (Sum.inr s1)
def D0 (a0:List Int):Option (List Int):=(AK (a0,(0:Int),(0:Int)) 9).bind fun x0=>(Ag (fun(s:(Tq5×(List Int)×Int))=>Cm s.1 s.2.1 s.2.2) ((x0.1.1,x0.1.2.1,x0.1.2.2),([]:List Int),x0.2)).bind fun x1=>some x1
def KJ:OKE:=fq KP (fun x=>D0 x) [C0,Kn] Tryz.func25
def Hk (a0:Int):Option Bool:=(C9 a0 (-(1000:Int)) 1000).bind fun x0=>some (!x0)
def MV:OKE:=fq M5 (fun x=>Hk x) [Ms] Tryz.func97
def An (s0:List Int) (s1 s2:Int):Option ((List Int)×Int×Int⊕(Unit⊕Int)):=bif decide (s2<s1)then(AI s0 s2).bind fun x0=>(Hk x0).bind fun x1=>bif x1 then some (Sum.inr (Sum.inr s2))else some (Sum.inl (s0,s1,(zj zk (s2+1))))else some (Sum.inr (Sum.inl ()))
def Bo (a0:List Int):Option Int:=(Ag (fun(s:Tq5)=>An s.1 s.2.1 s.2.2) (a0,(a0.length:Int),(0:Int))).bind fun x0=>Sum.elim (fun x1=>some (-(1:Int))) (fun x2=>some x2) x0
def C6:Ent:=⟨B2,fun x=>Bo x⟩
def C7:TX:=⟨Oa,MA,[],[4],[MV.E],B2⟩
theorem GO(a0:List (Int)):wtF C7 Tryz.f174 (a0)=Bo a0:=by kernel_rfl
theorem Gf:EL RR C6:=LY (X:=C7) ⟨Al1,Oq,Af8⟩ (QC (by exact⟨⟨MV.k,rfl⟩,trivial⟩)) (An6 Ce (by kernel_rfl) rfl rfl rfl rfl rfl rfl) ⟨Tryz.func174,rfl,by kernel_rfl,rfl⟩ (fun x=>by exact GO x)
def AP (a0:List Int):Option Bool:=(Bo a0).bind fun x0=>some (decide (x0>=0))
def CD:Ent:=⟨BE,fun x=>AP x⟩
def CH:TX:=⟨Oa,MA,[],[4],[C6],BE⟩
theorem FJ(a0:List (Int)):wtF CH Tryz.f96 (a0)=AP a0:=by kernel_rfl
theorem Fs:EL RR CD:=LY (X:=CH) ⟨Al1,Oq,Af8⟩ (QC (by exact⟨⟨Gf,rfl⟩,trivial⟩)) (An6 BU (by kernel_rfl) rfl rfl rfl rfl rfl rfl) ⟨Tryz.func96,rfl,by kernel_rfl,rfl⟩ (fun x=>by exact FJ x)
def FI:OKE:=⟨CD,Fs,rfl⟩
def Ei (s0:List Tq0) (s1:List Int) (s2 s3:Int):Option ((List Tq0)×(List Int)×Int×Int⊕(List Tq0)):=bif decide (s3<s2)then(AI s1 s3).bind fun x0=>(Eo x0).bind fun x1=>(D8 64 4 s0 ([((x1.1,x1.2.1),x1.2.2.1,x1.2.2.2)]:List Tq0)).bind fun x2=>some (Sum.inl (x2,s1,s2,(zj zk (s3+1))))else some (Sum.inr s0)
def HO (a0:List Int):Option Tq18:=bif decide ((a0.length:Int)>7)then some (([]:List Tq0),false)else(AP a0).bind fun x0=>bif x0 then some (([]:List Tq0),false)else(Ag (fun(s:((List Tq0)×(List Int)×Int×Int))=>Ei s.1 s.2.1 s.2.2.1 s.2.2.2) (([]:List Tq0),a0,(a0.length:Int),(0:Int))).bind fun x1=>(FB x1).bind fun x2=>some (x2,true)
def QZ:OKE:=fq Rd (fun x=>HO x) [FI,Jl,KH] Tryz.func26
def Ej (s0:List Tq0) (s1 s2:List Int) (s3 s4:Int):Option ((List Tq0)×(List Int)×(List Int)×Int×Int⊕((List Tq0)×(List Int)⊕(List Tq0)×Bool)):=bif decide (s4<s3)then(AI s2 s4).bind fun x0=>(FF x0 (-(1000:Int)) 1000).bind fun x1=>bif(!x1)then some (Sum.inr (Sum.inr (([]:List Tq0),false)))else(CB x0).bind fun x2=>(D8 64 4 s0 ([((x2.1,x2.2.1),x2.2.2.1,x2.2.2.2)]:List Tq0)).bind fun x3=>some (Sum.inl (x3,s1,s2,s3,(zj zk (s4+1))))else some (Sum.inr (Sum.inl (s0,s1)))
def HQ (a0:List Int):Option Tq18:=(Ag (fun(s:((List Tq0)×(List Int)×(List Int)×Int×Int))=>Ej s.1 s.2.1 s.2.2.1 s.2.2.2.1 s.2.2.2.2) (([]:List Tq0),a0,a0,(a0.length:Int),(0:Int))).bind fun x0=>Sum.elim (fun x1=>bif decide ((x1.2.length:Int)>7)then some (([]:List Tq0),false)else(Dv x1.1).bind fun x2=>some (x2,true)) (fun x3=>some (x3.1,x3.2)) x0
def Q1:OKE:=fq Ri (fun x=>HQ x) [Q4,HE,Jn] Tryz.func27
def GH (a0 a1:List Int):Option Bool:=bif decide ((zj zk ((a0.length:Int)+(a1.length:Int)))>1048576)then some true else(ET a0).bind fun x0=>(Fd x0.1 x0.2).bind fun x1=>(II x0.1 x0.2).bind fun x2=>(Fe x0.1 x0.2).bind fun x3=>(IK x0.1 x0.2).bind fun x4=>(IC x0.1 x0.2).bind fun x5=>(IJ x0.1 x0.2).bind fun x6=>bif(!(x1.2==x2.2))then some false else(AL x1.1 x2.1).bind fun x7=>bif(!x7)then some false else bif(!(x3.2==x4.2))then some false else(AL x3.1 x4.1).bind fun x8=>bif(!x8)then some false else bif(!(x5.2.2==x6.2.2))then some false else(AL x5.1 x6.1).bind fun x9=>bif(!x9)then some false else(AL x5.2.1 x6.2.1).bind fun x10=>bif(!x10)then some false else(Bj x0.1).bind fun x11=>(Cc x0.1).bind fun x12=>bif(!(x11==x12))then some false else(FC a1).bind fun x13=>(FC a1).bind fun x14=>(Jf (zj zk ((Int.tmod x13 7)-3)) (zj zk ((1:Int)+(Int.tmod x14 3)))).bind fun x15=>(Bc x0.1 (x15.1.1,x15.1.2.1,x15.1.2.2.1,x15.1.2.2.2)).bind fun x16=>(Bc x0.2 (x15.1.1,x15.1.2.1,x15.1.2.2.1,x15.1.2.2.2)).bind fun x17=>bif(!x15.2)then some false else(bif x1.2 then bif x16.2 then bif x17.2 then(Bc x1.1 (x15.1.1,x15.1.2.1,x15.1.2.2.1,x15.1.2.2.2)).bind fun x18=>(HM (x16.1.1,x16.1.2.1,x16.1.2.2.1,x16.1.2.2.2) (x17.1.1,x17.1.2.1,x17.1.2.2.1,x17.1.2.2.2)).bind fun x19=>bif x18.2 then bif x19.2 then(Bh (x18.1.1,x18.1.2.1,x18.1.2.2.1,x18.1.2.2.2) (x19.1.1,x19.1.2.1,x19.1.2.2.1,x19.1.2.2.2)).bind fun x20=>bif(!x20)then some (Sum.inl false)else some (Sum.inr (x3.1,x5.1,x5.2.1,(x15.1.1,x15.1.2.1,x15.1.2.2.1,x15.1.2.2.2),(x16.1.1,x16.1.2.1,x16.1.2.2.1,x16.1.2.2.2),(x17.1.1,x17.1.2.1,x17.1.2.2.1,x17.1.2.2.2),a1,x0.1,x0.2,x3.2,x5.2.2,x16.2,x17.2))else some (Sum.inr (x3.1,x5.1,x5.2.1,(x15.1.1,x15.1.2.1,x15.1.2.2.1,x15.1.2.2.2),(x16.1.1,x16.1.2.1,x16.1.2.2.1,x16.1.2.2.2),(x17.1.1,x17.1.2.1,x17.1.2.2.1,x17.1.2.2.2),a1,x0.1,x0.2,x3.2,x5.2.2,x16.2,x17.2))else some (Sum.inr (x3.1,x5.1,x5.2.1,(x15.1.1,x15.1.2.1,x15.1.2.2.1,x15.1.2.2.2),(x16.1.1,x16.1.2.1,x16.1.2.2.1,x16.1.2.2.2),(x17.1.1,x17.1.2.1,x17.1.2.2.1,x17.1.2.2.2),a1,x0.1,x0.2,x3.2,x5.2.2,x16.2,x17.2))else some (Sum.inr (x3.1,x5.1,x5.2.1,(x15.1.1,x15.1.2.1,x15.1.2.2.1,x15.1.2.2.2),(x16.1.1,x16.1.2.1,x16.1.2.2.1,x16.1.2.2.2),(x17.1.1,x17.1.2.1,x17.1.2.2.1,x17.1.2.2.2),a1,x0.1,x0.2,x3.2,x5.2.2,x16.2,x17.2))else some (Sum.inr (x3.1,x5.1,x5.2.1,(x15.1.1,x15.1.2.1,x15.1.2.2.1,x15.1.2.2.2),(x16.1.1,x16.1.2.1,x16.1.2.2.1,x16.1.2.2.2),(x17.1.1,x17.1.2.1,x17.1.2.2.1,x17.1.2.2.2),a1,x0.1,x0.2,x3.2,x5.2.2,x16.2,x17.2))else some (Sum.inr (x3.1,x5.1,x5.2.1,(x15.1.1,x15.1.2.1,x15.1.2.2.1,x15.1.2.2.2),(x16.1.1,x16.1.2.1,x16.1.2.2.1,x16.1.2.2.2),(x17.1.1,x17.1.2.1,x17.1.2.2.1,x17.1.2.2.2),a1,x0.1,x0.2,x3.2,x5.2.2,x16.2,x17.2))).bind fun x21=>Sum.elim (fun x22=>some x22) (fun x23=>(bif x23.2.2.2.2.2.2.2.2.2.1 then bif x23.2.2.2.2.2.2.2.2.2.2.2.1 then bif x23.2.2.2.2.2.2.2.2.2.2.2.2 then(Bc x23.1 (x23.2.2.2.1.1,x23.2.2.2.1.2.1,x23.2.2.2.1.2.2.1,x23.2.2.2.1.2.2.2)).bind fun x24=>(HN (x23.2.2.2.2.1.1,x23.2.2.2.2.1.2.1,x23.2.2.2.2.1.2.2.1,x23.2.2.2.2.1.2.2.2) (x23.2.2.2.2.2.1.1,x23.2.2.2.2.2.1.2.1,x23.2.2.2.2.2.1.2.2.1,x23.2.2.2.2.2.1.2.2.2)).bind fun x25=>bif x24.2 then bif x25.2 then(Bh (x24.1.1,x24.1.2.1,x24.1.2.2.1,x24.1.2.2.2) (x25.1.1,x25.1.2.1,x25.1.2.2.1,x25.1.2.2.2)).bind fun x26=>bif(!x26)then some (Sum.inl false)else some (Sum.inr (x23.2.1,x23.2.2.1,x23.2.2.2.2.2.2.1,x23.2.2.2.2.2.2.2.1,x23.2.2.2.2.2.2.2.2.1,x23.2.2.2.2.2.2.2.2.2.2.1))else some (Sum.inr (x23.2.1,x23.2.2.1,x23.2.2.2.2.2.2.1,x23.2.2.2.2.2.2.2.1,x23.2.2.2.2.2.2.2.2.1,x23.2.2.2.2.2.2.2.2.2.2.1))else some (Sum.inr (x23.2.1,x23.2.2.1,x23.2.2.2.2.2.2.1,x23.2.2.2.2.2.2.2.1,x23.2.2.2.2.2.2.2.2.1,x23.2.2.2.2.2.2.2.2.2.2.1))else some (Sum.inr (x23.2.1,x23.2.2.1,x23.2.2.2.2.2.2.1,x23.2.2.2.2.2.2.2.1,x23.2.2.2.2.2.2.2.2.1,x23.2.2.2.2.2.2.2.2.2.2.1))else some (Sum.inr (x23.2.1,x23.2.2.1,x23.2.2.2.2.2.2.1,x23.2.2.2.2.2.2.2.1,x23.2.2.2.2.2.2.2.2.1,x23.2.2.2.2.2.2.2.2.2.2.1))else some (Sum.inr (x23.2.1,x23.2.2.1,x23.2.2.2.2.2.2.1,x23.2.2.2.2.2.2.2.1,x23.2.2.2.2.2.2.2.2.1,x23.2.2.2.2.2.2.2.2.2.2.1))).bind fun x27=>Sum.elim (fun x28=>some x28) (fun x29=>(bif x29.2.2.2.2.2 then(Fe x29.1 x29.2.2.2.2.1).bind fun x30=>(Fd x30.1 x29.2.1).bind fun x31=>bif decide ((x29.2.1.length:Int)>=(x29.2.2.2.2.1.length:Int))then some (Sum.inl false)else bif x30.2 then bif x31.2 then(AL x31.1 x29.2.2.2.1).bind fun x32=>bif(!x32)then some (Sum.inl false)else some (Sum.inr x29.2.2.1)else some (Sum.inr x29.2.2.1)else some (Sum.inr x29.2.2.1)else some (Sum.inr x29.2.2.1)).bind fun x33=>Sum.elim (fun x34=>some x34) (fun x35=>(CY x35).bind fun x36=>(Bc x36.1 (x36.2.1,x36.2.2.1,x36.2.2.2.1,x36.2.2.2.2)).bind fun x37=>(CF x36.1 (x36.2.1,x36.2.2.1,x36.2.2.2.1,x36.2.2.2.2)).bind fun x38=>(D0 x35).bind fun x39=>(HO x39).bind fun x40=>(HQ x39).bind fun x41=>bif(x37.2==x38.2)then(Bh (x37.1.1,x37.1.2.1,x37.1.2.2.1,x37.1.2.2.2) (x38.1.1,x38.1.2.1,x38.1.2.2.1,x38.1.2.2.2)).bind fun x42=>bif x42 then bif(x40.2==x41.2)then(AL x40.1 x41.1).bind fun x43=>some x43 else some false else some false else some false) x33) x27) x21
def Ws:Ent:=⟨KO,fun x=>GH x.1 x.2⟩
def Pm:TX:=⟨Oa,MA,[],[4],[Km.E,Pa.E,Pg.E,Pe.E,Pk.E,Pd.E,Ph.E,MZ.E,Da.E,FH.E,MY.E,TK.E,MU.E,QX.E,KI.E,QY.E,Jm.E,M1.E,KJ.E,QZ.E,Q1.E],KO⟩
theorem WF(a0:List (Int))(a1:List (Int)):wtF Pm Tryz.f3 (a0,a1)=GH a0 a1:=by kernel_rfl
theorem Vn:EL RR Ws:=LY (X:=Pm) ⟨Al1,Oq,Af8⟩ (QC (by exact⟨⟨Km.k,rfl⟩,⟨⟨Pa.k,rfl⟩,⟨⟨Pg.k,rfl⟩,⟨⟨Pe.k,rfl⟩,⟨⟨Pk.k,rfl⟩,⟨⟨Pd.k,rfl⟩,⟨⟨Ph.k,rfl⟩,⟨⟨MZ.k,rfl⟩,⟨⟨Da.k,rfl⟩,⟨⟨FH.k,rfl⟩,⟨⟨MY.k,rfl⟩,⟨⟨TK.k,rfl⟩,⟨⟨MU.k,rfl⟩,⟨⟨QX.k,rfl⟩,⟨⟨KI.k,rfl⟩,⟨⟨QY.k,rfl⟩,⟨⟨Jm.k,rfl⟩,⟨⟨M1.k,rfl⟩,⟨⟨KJ.k,rfl⟩,⟨⟨QZ.k,rfl⟩,⟨⟨Q1.k,rfl⟩,trivial⟩⟩⟩⟩⟩⟩⟩⟩⟩⟩⟩⟩⟩⟩⟩⟩⟩⟩⟩⟩⟩)) (ZD (by kernel_rfl)) ⟨Tryz.func3,rfl,by kernel_rfl,rfl⟩ (fun x=>by exact WF x.1 x.2)
end
section
open Go
section
variable {α β σ ρ:Type} {body:σ->Option (σ⊕ρ)}
theorem UA{l:List α}(st:Nat->β->σ)(step:β->α->β)(fin:β->ρ)(I:Nat->β->Prop)
  (hgo:∀k b a,l[k]? =some a->I k b->body (st k b)=some (.inl (st (k+1) (step b a)))/\I (k+1) (step b a))
  (hend:∀b,I l.length b->body (st l.length b)=some (.inr (fin b))) (b:β) (h0:I 0 b):
  Ag body (st 0 b)=some (fin (l.foldl step b))/\I l.length (l.foldl step b):=by
 have key:∀(n k:Nat)(b:β),k+n=l.length->I k b->Ag body (st k b)=some (fin ((l.drop k).foldl step b))/\I l.length ((l.drop k).foldl step b):=by
  intro n
  induction n with
  |zero=>
   intro k b hk hI;have:k=l.length:=by omega
   subst this;rw[List.drop_length];exact⟨AE (hend b hI),hI⟩
  |succ n ih=>
   intro k b hk hI;have hlt:k<l.length:=by omega
   have hd:l.drop k=l[k]::l.drop (k+1):=zb9 hlt;have he:l[k]? =some l[k]:=za1 hlt;obtain⟨h1,h2⟩:=hgo k b _ he hI;rw[hd,List.foldl_cons,BG h1];exact ih (k+1) _ (by omega) h2
 have:=key l.length 0 b (by omega) h0
 rwa[ze7]at this
def JA(step:β->α->ρ⊕β):β->List α->ρ⊕β
 |b,[]=>.inr b
 |b,a::l=>match step b a with|.inl r=>.inl r|.inr b'=>JA step b' l
theorem Te{l:List α}(st:Nat->β->σ)(step:β->α->ρ⊕β)(fin:β->ρ)(I:Nat->β->Prop)
  (hgo:∀k b a,l[k]? =some a->I k b->(∃b',step b a=.inr b'/\body (st k b)=some (.inl (st (k+1) b'))/\I (k+1) b')\/∃r,step b a=.inl r/\body (st k b)=some (.inr r))
  (hend:∀b,I l.length b->body (st l.length b)=some (.inr (fin b))) (b:β) (h0:I 0 b):
  Ag body (st 0 b)=some (Sum.elim id fin (JA step b l))/\∀b',JA step b l=.inr b'->I l.length b':=by
 have key:∀(n k:Nat)(b:β),k+n=l.length->I k b->Ag body (st k b)=some (Sum.elim id fin (JA step b (l.drop k)))/\∀b',JA step b (l.drop k)=.inr b'->I l.length b':=by
  intro n
  induction n with
  |zero=>
   intro k b hk hI;have:k=l.length:=by omega
   subst this;rw[List.drop_length];exact⟨AE (hend b hI),fun b' h=>by cases h;exact hI⟩
  |succ n ih=>
   intro k b hk hI;have hlt:k<l.length:=by omega
   have hd:l.drop k=l[k]::l.drop (k+1):=zb9 hlt;have he:l[k]? =some l[k]:=za1 hlt;rw[hd];unfold JA;rcases hgo k b _ he hI with⟨b',h1,h2,h3⟩|⟨r,h1,h2⟩
   ·rw[h1,BG h2];exact ih (k+1) _ (by omega) h3
   ·rw[h1];exact⟨AE h2,fun b' h=>by cases h⟩
 have:=key l.length 0 b (by omega) h0
 rwa[ze7]at this
theorem HH(st:Nat->β->σ)(fin:β->ρ)(I:Nat->β->Prop)
  (hgo:∀n b,I (n+1) b->∃b',body (st (n+1) b)=some (.inl (st n b'))/\I n b')
  (hend:∀b,I 0 b->body (st 0 b)=some (.inr (fin b))):∀n b,I n b->∃b',Ag body (st n b)=some (fin b')/\I 0 b':=by
 intro n
 induction n with
 |zero=>intro b h;exact⟨b,AE (hend b h),h⟩
 |succ n ih=>
  intro b h;obtain⟨b1,h1,h2⟩:=hgo n b h;obtain⟨b2,h3,h4⟩:=ih b1 h2;exact⟨b2,by rw[BG h1,h3],h4⟩
end
theorem Cg{β σ ρ:Type}{body:σ->Option (σ⊕ρ)}(st:Nat->β->σ)(fin:β->ρ)(I:Nat->β->Prop)(e:Nat)
  (hgo:∀k b,k<e->I k b->∃b',body (st k b)=some (.inl (st (k+1) b'))/\I (k+1) b')
  (hend:∀b,I e b->body (st e b)=some (.inr (fin b))):∀k b,k<=e->I k b->∃b',Ag body (st k b)=some (fin b')/\I e b':=by
 have key:∀(n k:Nat)(b:β),k+n=e->I k b->∃b',Ag body (st k b)=some (fin b')/\I e b':=by
  intro n
  induction n with
  |zero=>
   intro k b hk hI;have:k=e:=by omega
   subst this;exact⟨b,AE (hend b hI),hI⟩
  |succ n ih=>
   intro k b hk hI;obtain⟨b1,h1,h2⟩:=hgo k b (by omega) hI;obtain⟨b2,h3,h4⟩:=ih (k+1) b1 (by omega) h2;exact⟨b2,by rw[BG h1,h3],h4⟩
 intro k b hk hI;exact key (e-k) k b (by omega) hI
theorem RJ{α β γ:Type}{X:Option (α⊕β)}{f:α->Option γ}{g:β->Option γ}{v:β}{r:Option γ}(h:X=some (.inr v))(h2:g v=r):X.bind (fun t=>Sum.elim f g t)=r:=by
 rw[h];exact h2
theorem Qn{n:Int}(h1:0<=n)(h2:n<18446744073709551616):zj zx n=n:=by rw[IntKind.wrap_u64];omega
theorem Az3(n:Int):0<=zj zx n/\zj zx n<18446744073709551616:=by rw[IntKind.wrap_u64];omega
theorem J5{α:Type}{l:List α}{k:Nat}{a:α}(h:l[k]? =some a):k<l.length:=(za3.1 h).1
structure Cur (B:Nat) (c:List Int×Int×Int):Prop where
 bytes:∀b∈c.1,0<=b/\b<=255
 short:c.1.length<=1048576
 lo:0<=c.2.1
 hi:c.2.1<=(B:Int)
 seed0:0<=c.2.2
 seed1:c.2.2<18446744073709551616
theorem Cur.start{l:List Int}(h:∀b∈l,0<=b/\b<=255)(hl:l.length<=1048576):Cur 0 (l,0,0):=⟨h,hl,by simp,by simp,by simp,by simp⟩
theorem Cur.mono{B B':Nat}{c:List Int×Int×Int}(h:Cur B c)(hb:B<=B'):Cur B' c:=⟨h.bytes,h.short,h.lo,by have:=h.hi;omega,h.seed0,h.seed1⟩
theorem obs{α β:Type}(a:α)(f:α->Option β):(some a).bind f=f a:=(rfl)
theorem cT{α:Type}(a b:α):(bif true then a else b)=a:=(rfl)
theorem cF{α:Type}(a b:α):(bif false then a else b)=b:=(rfl)
theorem nT:(!true)=false:=(rfl)
theorem nF:(!false)=true:=(rfl)
theorem Ha{α β:Type}(p:α×β):(p.1,p.2)=p:=by cases p;rfl
theorem sEr{α β γ:Type}(f:α->γ)(g:β->γ)(x:β):Sum.elim f g (.inr x)=g x:=(rfl)
end
section
open Go
theorem AI3(a:Int):0<=Mv .u64 a 255/\Mv .u64 a 255<=255:=by
 unfold Mv;have h:((BitVec.ofInt (IntKind.bits .u64) a&&& BitVec.ofInt (IntKind.bits .u64) 255).toNat)<=255:=by
  rw[BitVec.toNat_and];exact zd0 Nat.and_le_right (by decide)
 rw[Qn (by omega) (by omega)];omega
theorem Z4{B:Nat}{c:List Int×Int×Int}(h:Cur B c)(hB:B<=1125899906842624):∃c' v,D2 c=some (c',v)/\Cur (B+1) c'/\0<=v/\v<=255:=by
 obtain⟨l,i,s⟩:=c;obtain⟨h1,h2,h3,h4,h5,h6⟩:=h;simp only at h1 h2 h3 h4 h5 h6;have w1:zj zk (i+1)=i+1:=Ab (by omega) (by omega);have hcur:∀x:Int,Cur (B+1) (l,i+1,zj zx x):=fun x=>⟨h1,h2,by simp only;omega,by simp only;omega,(Az3 x).1,(Az3 x).2⟩
 unfold D2;by_cases hi:i<(l.length:Int)
 ·obtain⟨a,ha,hm⟩:=ZP h3 hi;have hb:=h1 a (za5 hm);have hd:decide (i<(l.length:Int))=true:=by simpa using hi
  have hd2:decide (i+1<=(l.length:Int))=true:=by simp;omega
  simp only[hd,cond_true,ha,za0,zd9,w1,hd2,Ab (show-9223372036854775808<=a by omega) (show a<=9223372036854775807 by omega)];exact⟨_,_,rfl,hcur _,hb.1,hb.2⟩
 ·have hd:decide (i<(l.length:Int))=false:=by simpa using hi
  have hd2:decide (i+1<=(l.length:Int))=false:=by simp;omega
  simp only[hd,cond_false,za0,zd9,w1,hd2];refine⟨_,_,rfl,hcur _,?_⟩
  have:=AI3 (Lu .u64 (zj zx (zj zx (zj zx (s*6364136223846793005)+zj zx 0)+1442695040888963407)) 40);rw[Ab (by omega) (by omega)];exact this
theorem Wn{a n:Int}(h0:0<=a)(hn:1<n):0<=a.tmod n/\a.tmod n<n:=by
 rw[zc5 h0];exact⟨Int.emod_nonneg _ (by omega),Int.emod_lt_of_pos _ (by omega)⟩
theorem EU{B:Nat}{c:List Int×Int×Int}(h:Cur B c)(hB:B<=1000000000000000)(n:Int):∃c' v,AK c n=some (c',v)/\Cur (B+2) c'/\0<=v/\(1<=n->v<n):=by
 unfold AK;by_cases h1:n<=1
 ·have hd:decide (n<=1)=true:=by simpa using h1
  simp only[hd,cond_true];exact⟨_,_,rfl,h.mono (by omega),by omega,by omega⟩
 ·have hd:decide (n<=1)=false:=by simpa using h1
  have hz:(n==0)=false:=by simp;omega
  obtain⟨c1,v1,e1,q1,b1,b2⟩:=Z4 h (by omega);simp only[hd,cond_false,e1,za0,hz];by_cases h2:n>200
  ·obtain⟨c2,v2,e2,q2,b3,b4⟩:=Z4 q1 (by omega);have hd2:decide (n>200)=true:=by simpa using h2
   simp only[hd2,cond_true,e2,za0];refine⟨_,_,rfl,q2.mono (by omega),?_⟩
   rw[Ab (by rw[Ab (by omega) (by omega)];omega) (by rw[Ab (by omega) (by omega)];omega),Ab (by omega) (by omega)];have:=Wn (a:=v1*256+v2) (n:=n) (by omega) (by omega);exact⟨this.1,fun _=>this.2⟩
  ·have hd2:decide (n>200)=false:=by simpa using h2
   simp only[hd2,cond_false];have:=Wn (a:=v1) (n:=n) (by omega) (by omega);exact⟨_,_,rfl,q1.mono (by omega),this.1,fun _=>this.2⟩
theorem OX{B:Nat}{c:List Int×Int×Int}(h:Cur B c)(hB:B<=1000000000000000)(n:Int):∃c' v,Bq c n=some (c',v)/\Cur (B+2) c':=by
 unfold Bq;obtain⟨c1,v1,e1,q1,_⟩:=EU h hB n;simp only[e1,za0];exact⟨_,_,rfl,q1⟩
theorem Nm{B:Nat}{c:List Int×Int×Int}(h:Cur B c)(hB:B<=1000000000000000)(l:List Int)(h1:1<=l.length)(h2:l.length<1000000):∃c' v,BK c l=some (c',v)/\Cur (B+2) c'/\v∈l:=by
 unfold BK;obtain⟨c1,v1,e1,q1,b1,b2⟩:=EU h hB (l.length:Int);have:=b2 (by omega);obtain⟨a,ha,hm⟩:=ZP b1 this;simp only[e1,za0,ha];exact⟨_,_,rfl,q1,za5 hm⟩
end
section
open Go
def B:Nat->Int
 |0=>1
 |n+1=>65536*B n
theorem Fv:∀n,0<B n
 |0=>by decide
 |n+1=>by have:=Fv n;simp only[B];omega
theorem MS:∀m n,B (m+n)=B m*B n
 |0,n=>by simp[B]
 |m+1,n=>by rw[show m+1+n=(m+n)+1 by omega];simp only[B];rw[MS m n,zf4]
theorem IY{m n:Nat}(h:m<=n):B m<=B n:=by
 induction h with
 |refl=>exact Int.le_refl _
 | @step n h ih=>have:=Fv n;simp only[B];omega
def val:List Int->Int
 |[]=>0
 |x::l=>x+65536*val l
def LB(l:List Int):Prop:=∀x∈l,0<=x/\x<65536
theorem LB.nil:LB []:=fun _ h=>absurd h (List.not_mem_nil)
theorem LB.head{x:Int}{l:List Int}(h:LB (x::l)):0<=x/\x<65536:=h x (List.mem_cons_self ..)
theorem LB.tail{x:Int}{l:List Int}(h:LB (x::l)):LB l:=fun y hy=>h y (List.mem_cons_of_mem _ hy)
theorem LB.cons{x:Int}{l:List Int}(hx:0<=x/\x<65536)(h:LB l):LB (x::l):=fun y hy=>by
 rcases zc9.1 hy with rfl|hy
 ·exact hx
 ·exact h y hy
theorem LB.append{l m:List Int}(h:LB l)(h':LB m):LB (l++m):=fun y hy=>(zb5.1 hy).elim (h y) (h' y)
theorem LB.take{l:List Int}(h:LB l)(n:Nat):LB (l.take n):=fun y hy=>h y (List.mem_of_mem_take hy)
theorem LB.drop{l:List Int}(h:LB l)(n:Nat):LB (l.drop n):=fun y hy=>h y (List.mem_of_mem_drop hy)
theorem LB.get{l:List Int}(h:LB l){k:Nat}{x:Int}(hk:l[k]? =some x):0<=x/\x<65536:=h x (za5 hk)
theorem LB.set{l:List Int}(h:LB l){k:Nat}{x:Int}(hx:0<=x/\x<65536):LB (l.set k x):=fun y hy=>by
 rcases List.mem_or_eq_of_mem_set hy with hy|rfl
 ·exact h y hy
 ·exact hx
theorem LB.zeros(n:Nat):LB (List.replicate n 0):=fun y hy=>by have:=List.eq_of_mem_replicate hy;omega
theorem AR:∀{l:List Int},LB l->0<=val l
 |[],_=>Int.le_refl _
 |x::l,h=>by have:=h.head;have:=AR h.tail;simp only[val];omega
theorem Kj:∀{l:List Int},LB l->val l<B l.length
 |[],_=>by decide
 |x::l,h=>by have:=h.head;have:=Kj h.tail;simp only[val,zc6,B];omega
theorem MR:∀(l m:List Int),val (l++m)=val l+B l.length*val m
 |[],m=>by simp[val,B]
 |x::l,m=>by
  simp only[List.cons_append,val,zc6,B,MR l m];rw[zd7,zf4];omega
theorem Ez:∀n,val (List.replicate n 0)=0
 |0=>rfl
 |n+1=>by simp only[List.replicate_succ,val,Ez n];omega
theorem JO(l:List Int)(x:Int):val (l++[x])=val l+B l.length*x:=by rw[MR];simp[val]
theorem O6(l:List Int)(n:Nat)(h:n<=l.length):val l=val (l.take n)+B n*val (l.drop n):=by
 have:=MR (l.take n) (l.drop n);rw[List.take_append_drop,zc7,Nat.min_eq_left h]at this;exact this
theorem EV:∀{l:List Int}{k:Nat}{x y:Int},l[k]? =some x->val (l.set k y)=val l+B k*(y-x)
 |[],k,x,y,h=>by simp at h
 |a::l,0,x,y,h=>by
  simp at h;subst h;simp only[List.set_cons_zero,val,B];omega
 |a::l,k+1,x,y,h=>by
  simp only[List.getElem?_cons_succ]at h;simp only[List.set_cons_succ,val,B,EV (y:=y) h];rw[zd7,zf4];omega
def NB(l:List Int):Prop:=∀x,l.getLast?=some x->x≠0
theorem NB.nil:NB []:=fun x h=>by simp at h
theorem NB.tail{x:Int}{l:List Int}(h:NB (x::l)):NB l:=fun y hy=>by
 cases l with
 |nil=>simp at hy
 |cons a t=>exact h y (by rw[List.getLast?_cons_cons];exact hy)
theorem Wp:∀{l:List Int},LB l->NB l->l≠[]->B (l.length-1)<=val l
 |[],_,_,h=>absurd rfl h
 |[x],h,hn,_=>by
  have h1:=h.head;have h2:=hn x rfl;simp only[val,zc6,List.length_nil,B];simp[B];omega
 |x::y::l,h,hn,_=>by
  have h1:=h.head;have h2:=Wp h.tail hn.tail (by simp);simp only[zc6,Nat.add_sub_cancel]at h2⊢
  rw[val];simp only[B];omega
theorem X6{l:List Int}(h:LB l)(hn:NB l)(h0:val l=0):l=[]:=by
 cases l with
 |nil=>rfl
 |cons x l=>
  have h1:=Wp h hn (by simp);have h2:=Fv ((x::l).length-1);omega
theorem Ac4:∀{l m:List Int},LB l->NB l->LB m->NB m->val l=val m->l=m
 |[],m,_,_,hm,nm,h=>by
  have:val m=0:=by rw[<-h];rfl
  exact(X6 hm nm this).symm
 |x::l,[],hl,nl,_,_,h=>X6 hl nl (by rw[h];rfl)
 |x::l,y::m,hl,nl,hm,nm,h=>by
  have h1:=hl.head;have h2:=hm.head;simp only[val]at h;have hx:x=y:=by omega
  have hv:val l=val m:=by omega
  rw[hx,Ac4 hl.tail nl.tail hm.tail nm.tail hv]
def lim(n:Nat):List Int:=if h:n=0 then []else((n%65536:Nat):Int)::lim (n/65536)
termination_by n
decreasing_by omega
theorem BF:lim 0=[]:=by unfold lim;simp
theorem Az(n:Nat):LB (lim n):=by
 induction n using Nat.strongRecOn with
 |_ n ih=>
  unfold lim
  split
  ·exact LB.nil
  ·exact LB.cons (by omega) (ih (n/65536) (by omega))
theorem Ao(n:Nat):val (lim n)=n:=by
 induction n using Nat.strongRecOn with
 |_ n ih=>
  unfold lim
  split
  ·rename_i h;rw[h];rfl
  ·simp only[val,ih (n/65536) (by omega)];omega
theorem Hw{n:Nat}:lim n=[]↔n=0:=by
 constructor
 ·intro h;have:=Ao n;rw[h]at this;simp only[val]at this;omega
 ·rintro rfl;exact BF
theorem OR(n:Nat):NB (lim n):=by
 induction n using Nat.strongRecOn with
 |_ n ih=>
  unfold lim
  split
  ·exact NB.nil
  ·rename_i hn;intro x hx;by_cases h0:n/65536=0
   ·rw[h0,BF]at hx;simp at hx;omega
   ·have hne:lim (n/65536)≠[]:=fun h=>h0 (Hw.1 h)
    cases hl:lim (n/65536)with
    |nil=>exact absurd hl hne
    |cons a t=>
     rw[hl,List.getLast?_cons_cons]at hx;exact ih (n/65536) (by omega) x (by rw[hl];exact hx)
theorem As4{l:List Int}(h:LB l)(hn:NB l):l=lim (val l).toNat:=Ac4 h hn (Az _) (OR _) (by rw[Ao];have:=AR h;omega)
theorem Al{n k:Nat}:(lim n).length<=k↔(n:Int)<B k:=by
 constructor
 ·intro h;have h1:=Kj (Az n);rw[Ao]at h1;have:=IY h;omega
 ·intro h;rcases zd3 k (lim n).length with hk|hk
  ·exfalso
   have hne:lim n≠[]:=by intro h0;rw[h0]at hk;simp at hk
   have h1:=Wp (Az n) (OR n) hne;rw[Ao]at h1;have:=IY (show k<=(lim n).length-1 by omega);omega
  ·exact hk
def Eg:List Int->List Int
 |[]=>[]
 |x::l=>match Eg l with|[]=>if x=0 then []else [x]|m=>x::m
theorem S5:∀{l:List Int},LB l->LB (Eg l)/\NB (Eg l)/\val (Eg l)=val l
 |[],_=>⟨LB.nil,NB.nil,rfl⟩
 |x::l,h=>by
  obtain⟨h1,h2,h3⟩:=S5 h.tail;simp only[Eg];cases hs:Eg l with
  |nil=>
   rw[hs]at h3;simp only[val]at h3;simp only
   split
   ·rename_i hx;subst hx;exact⟨LB.nil,NB.nil,by simp only[val];omega⟩
   ·rename_i hx;exact⟨LB.cons h.head LB.nil,fun y hy=>by simp at hy;subst hy;exact hx,by simp only[val];omega⟩
  |cons a t=>
   rw[hs]at h1 h2 h3;simp only;exact⟨LB.cons h.head h1,fun y hy=>h2 y (by rw[List.getLast?_cons_cons]at hy;exact hy),by rw[val,h3];rfl⟩
theorem BX{l:List Int}(h:LB l):Eg l=lim (val l).toNat:=by
 obtain⟨h1,h2,h3⟩:=S5 h;rw[As4 h1 h2,h3]
theorem Hc:∀(l:List Int),Eg (l++[0])=Eg l
 |[]=>rfl
 |x::l=>by simp only[List.cons_append,Eg,Hc l]
theorem Ly:∀{l:List Int},NB l->Eg l=l
 |[],_=>rfl
 |x::l,h=>by
  simp only[Eg,Ly h.tail];cases l with
  |nil=>simp only;rw[zi (h x rfl)]
  |cons a t=>rfl
theorem O4:∀(l:List Int),(Eg l).length<=l.length
 |[]=>za8 _
 |x::l=>by
  have:=O4 l;simp only[Eg]
  split
  ·split<;>simp
  ·rename_i m hm;simp only[zc6]at*;omega
end
section
open Go
def Ar(l:List Int):Prop:=l.length<=100000000
theorem Ab3{l:List Int}(h:l≠[]):∃m x,l=m++[x]:=⟨l.dropLast,l.getLast h,(List.dropLast_concat_getLast h).symm⟩
theorem Z3{m:List Int}{x:Int}(h:x≠0):NB (m++[x]):=fun y hy=>by
 rw[List.getLast?_append]at hy;simp at hy;subst hy;exact h
theorem AG5{n:Nat}(h:n<=200000000):Ij n 8 1=true:=by unfold Ij;rw[zp (by unfold Ad;omega),zp (by unfold Ad;omega)];rfl
theorem FY{l:List Int}(hb:Ar l):B6 l=some (Eg l):=by
 have key:∀(n:Nat)(l:List Int),l.length=n->n<=100000000->Ag (fun(s:(List Int))=>Iz s) l=some (Eg l):=by
  intro n
  induction n with
  |zero=>
   intro l hl _;have:l=[]:=zb3 hl;subst this;exact AE rfl
  |succ n ih=>
   intro l hl hn;obtain⟨m,x,rfl⟩:=Ab3 (l:=l) (by intro h;subst h;simp at hl);have hm:m.length=n:=by simpa using hl
   have hlen:(((m++[x]).length:Nat):Int)=(n:Int)+1:=by simp[hm]
   have hg:AI (m++[x]) (n:Int)=some x:=by rw[Av,<-hm];simp
   have hstep:Iz (m++[x])=if x=0 then some (Sum.inl m)else some (Sum.inr (m++[x])):=by
    unfold Iz;rw[hlen,Ab (by omega) (by omega),show(n:Int)+1-1=(n:Int) by omega,hg,zp (by omega)];simp only[cond_true,za0];by_cases hx:x=0
    ·rw[zw hx,beq_iff_eq.2 hx];have:KC 0 (n:Int) (m++[x]).length=some (0,n):=by unfold KC;simp[hm];omega
     rw[this];simp[<-hm]
    ·rw[zi hx,beq_eq_false_iff_ne.2 hx];rfl
   by_cases hx:x=0
   ·rw[zw hx]at hstep;rw[BG hstep,ih m hm (by omega),hx,Hc]
   ·rw[zi hx]at hstep;rw[AE hstep,Ly (Z3 hx)]
 unfold B6;have h:=O4 l;unfold Ar at hb;rw[key _ l rfl hb];simp only[za0,AG5 (show(Eg l).length<=200000000 by omega),cond_true]
theorem UK{l:List Int}(hb:Ar l):Hn l=some (Eg l):=by
 unfold Ar at hb;have key:∀(n:Nat),n<=l.length->Eg (l.take n)=Eg l->∃k:Nat,k<=l.length/\l.take k=Eg l/\Ag (fun(s:((List Int)×Int))=>LD s.1 s.2) (l,(n:Int))=some (l,(k:Int)):=by
  intro n
  induction n with
  |zero=>
   intro _ h;exact⟨0,by omega,by simpa[Eg]using h,AE rfl⟩
  |succ n ih=>
   intro hn h;have hlt:n<l.length:=by omega
   have hg:AI l (n:Int)=some l[n]:=by rw[Av,za1 hlt]
   have ht:l.take (n+1)=l.take n++[l[n]]:=by rw[List.take_add_one,za1 hlt];rfl
   have hstep:LD l ((n+1:Nat):Int)=if l[n]=0 then some (Sum.inl (l,(n:Int)))else some (Sum.inr (l,((n+1:Nat):Int))):=by
    unfold LD;rw[Ab (by omega) (by omega),show((n+1:Nat):Int)-1=(n:Int) by omega,hg,zp (by omega)];simp only[cond_true,za0];by_cases hx:l[n]=0
    ·rw[zw hx,beq_iff_eq.2 hx];rfl
    ·rw[zi hx,beq_eq_false_iff_ne.2 hx];rfl
   by_cases hx:l[n]=0
   ·rw[zw hx]at hstep;obtain⟨k,h1,h2,h3⟩:=ih (by omega) (by rw[<-h,ht,hx,Hc]);exact⟨k,h1,h2,by rw[BG hstep];exact h3⟩
   ·rw[zi hx]at hstep;refine⟨n+1,hn,?_,AE hstep⟩
    rw[<-h,ht,Ly (Z3 hx)]
 obtain⟨k,h1,h2,h3⟩:=key l.length (za8 _) (by rw[zf1]);unfold Hn;rw[h3];have:KC 0 (k:Int) l.length=some (0,k):=by unfold KC;simp[h1]
 simp only[za0,this,ze7,h2]
theorem Ur{l:List Int}(hb:Ar l):Bu l=some l:=by
 unfold Bu Z8;cases l with
 |nil=>rfl
 |cons a t=>
  unfold Ar at hb;simp only[BC,neL,za0,AG5 (show(a::t).length<=200000000 by omega),cond_true]
theorem XU{l:List Int}(h:Ar l):Ar (Eg l):=by have:=O4 l;unfold Ar at*;omega
theorem Lk(l:List Int):decide (((l.length:Nat):Int)>0)= !l.isEmpty:=by cases l<;>simp<;>omega
theorem JH(n:Nat):(!(lim n).isEmpty)=decide (n≠0):=by
 cases h:lim n with
 |nil=>rw[Hw.1 h];rfl
 |cons a t=>simp;intro h0;rw[h0,BF]at h;cases h
theorem Gz{l:List Int}(h:LB l)(hb:Ar l)(neg:Bool):A8 neg l=some (lim (val l).toNat,neg&&decide ((val l).toNat≠0)):=by
 unfold A8;simp only[UK hb,za0,Ur (XU hb),Lk];rw[BX h,JH];cases neg<;>rfl
theorem Ef{l:List Int}(h:LB l)(hb:Ar l)(neg:Bool):Ba neg l=some (lim (val l).toNat,neg&&decide ((val l).toNat≠0)):=by
 unfold Ba;simp only[FY hb,za0,Lk];rw[BX h,JH];cases neg<;>rfl
def big(z:Int):Bool×List Int:=(decide (z<0),lim z.natAbs)
theorem Zz{x y:Int}(h:big x=big y):x=y:=by
 unfold big at h;have h1:=congrArg Prod.fst h;have h2:=congrArg Prod.snd h;simp only at h1 h2;have h3:x.natAbs=y.natAbs:=by
  have:=congrArg val h2;rw[Ao,Ao]at this;omega
 by_cases hx:x<0<;>by_cases hy:y<0<;>simp[hx,hy]at h1<;>omega
def EB(b:Bool×List Int):Bool:=(b.2.all fun x=>decide (0<=x)&&decide (x<=65535))&&(match b.2.getLast? with|none=> !b.1|some x=>decide (b.2.length<=40)&&(x != 0))
theorem Eu{b:Bool×List Int}:EB b=true↔∃z:Int,(z.natAbs:Int)<B 40/\b=big z:=by
 obtain⟨neg,l⟩:=b;unfold EB;simp only[za2,za6,decide_eq_true_eq];constructor
 ·rintro⟨h1,h2⟩;have hl:LB l:=fun x hx=>by have:=h1 x hx;omega
  cases hg:l.getLast? with
  |none=>
   rw[hg]at h2;have:l=[]:=List.getLast?_eq_none_iff.1 hg;subst this;have hn:neg=false:=by simpa using h2
   subst hn;exact⟨0,by decide,by unfold big;simp[BF]⟩
  |some x=>
   rw[hg]at h2;simp only[za2,decide_eq_true_eq,bne_iff_ne]at h2;have hn:NB l:=fun y hy=>by rw[hg]at hy;cases hy;exact h2.2
   have hv:=As4 hl hn;have h0:(val l).toNat≠0:=by
    intro h0;rw[h0,BF]at hv;rw[hv]at hg;simp at hg
   have hlt:((val l).toNat:Int)<B 40:=Al.1 (by rw[<-hv];exact h2.1);refine⟨if neg then-((val l).toNat:Int)else((val l).toNat:Int),?_,?_⟩
   ·cases neg<;>simp<;>omega
   ·unfold big;cases neg
    ·simp only[zb8,if_false];rw[zq (by omega),ze9,<-hv]
    ·simp only[if_true];rw[zp (by omega),Int.natAbs_neg,ze9,<-hv]
 ·rintro⟨z,hz,h⟩;unfold big at h;have hn:neg=decide (z<0):=congrArg Prod.fst h;have hl:l=lim z.natAbs:=congrArg Prod.snd h;subst hl;refine⟨fun x hx=>by have:=Az _ x hx;omega,?_⟩
  cases hg:(lim z.natAbs).getLast? with
  |none=>
   have:lim z.natAbs=[]:=List.getLast?_eq_none_iff.1 hg;have:=Hw.1 this;rw[hn];simp;omega
  |some x=>
   simp only[za2,decide_eq_true_eq,bne_iff_ne];exact⟨Al.2 hz,OR _ x hg⟩
theorem LZ{z:Int}(h:(z.natAbs:Int)<B 40):EB (big z)=true:=Eu.2 ⟨z,h,rfl⟩
theorem OL(a b c:Int):C9 a b c=some (decide (b<=a)&&decide (a<=c)):=by
 unfold C9;by_cases h:a>=b<;>simp[h]
theorem Wd(a b c:Int):FF a b c=some (decide (b<=a)&&decide (a<=c)):=by
 unfold FF;by_cases h:a>=b<;>simp[h]
theorem Kc{k:Nat}{α:Type}{l:List α}{a:α}(h:l[k]? =some a):decide ((k:Int)<(l.length:Int))=true:=by have:=J5 h;simpa using this
theorem QD{α:Type}(l:List α):decide ((l.length:Int)<(l.length:Int))=false:=by simp
theorem VB{l:List Int}(hb:Ar l):Ay l=some (!(l.all fun x=>decide (0<=x)&&decide (x<=65535))):=by
 unfold Ay Cd;unfold Ar at hb;have key:=Rx (body:=fun(s:((List Int)×(Int×Int)))=>A0 s.1 s.2.1 s.2.2) (l:=l) (st:=fun k=>(l,(l.length:Int),(k:Int))) (p:=fun x=>decide (0<=x)&&decide (x<=65535)) (fin:=.inl ()) (bad:=fun k=>.inr (k:Int))
  (fun k a hk hp=>by
   have:=J5 hk;unfold A0 Gw;simp only[Kc hk,cond_true,Av,hk,za0,OL,hp,Bool.not_true,cond_false,BM (show k<4611686018427387904 by omega)])
  (fun k a hk hp=>by
   unfold A0 Gw;simp only[Kc hk,cond_true,Av,hk,za0,OL,hp,Bool.not_false])
  (by unfold A0;simp only[QD,cond_false])
 cases hall:l.all fun x=>decide (0<=x)&&decide (x<=65535)with
 |true=>
  have h:=key.1 hall;rw[show((0:Nat):Int)=0 from rfl]at h;simp only[h,za0,Sum.elim_inl];rfl
 |false=>
  obtain⟨k,_,h⟩:=key.2 hall;rw[show((0:Nat):Int)=0 from rfl]at h;simp only[h,za0,zd9];have:decide ((k:Int)>=0)=true:=by simp
  rw[this];rfl
theorem P2{l:List Int}{x:Int}(h:l.getLast?=some x):l.length≠0/\AI l ((l.length:Int)-1)=some x:=by
 have hne:l≠[]:=by intro h0;subst h0;simp at h
 obtain⟨m,y,rfl⟩:=Ab3 hne;rw[List.getLast?_append]at h;simp at h;subst h;refine⟨by simp,?_⟩
 have:(((m++[y]).length:Nat):Int)-1=(m.length:Int):=by simp
 rw[this,Av];simp
theorem UI{b:Bool×List Int}(hb:Ar b.2):ID b=some (EB b):=by
 obtain⟨neg,l⟩:=b;unfold ID EB;have hb':=hb;unfold Ar at hb';simp only at hb hb'⊢
 rw[Ab (by omega) (by omega),VB hb];cases hg:l.getLast? with
 |none=>
  have:l=[]:=List.getLast?_eq_none_iff.1 hg;subst this;cases neg<;>rfl
 |some x=>
  obtain⟨h0,h1⟩:=P2 hg;have e0:(((l.length:Nat):Int)==0)=false:=beq_eq_false_iff_ne.2 (by omega);have e1:decide (((l.length:Nat):Int)>0)=true:=zp (by omega);by_cases h40:l.length<=40
  ·have e2:decide (((l.length:Nat):Int)>40)=false:=zq (by omega);simp only[e2,e0,e1,cond_false,cond_true,h1,za0,Bool.not_not,zp h40,ze4];by_cases hx:x=0
   ·subst hx;simp
   ·rw[beq_eq_false_iff_ne.2 hx];simp[hx]
  ·have e2:decide (((l.length:Nat):Int)>40)=true:=zp (by omega);simp only[e2,cond_true,zq h40,Bool.false_and,Bool.and_false]
theorem L8{b:Bool×List Int}(hb:Ar b.2):D1 b=some (EB b):=by
 obtain⟨neg,l⟩:=b;unfold D1 EB;have hb':=hb;unfold Ar at hb';simp only at hb hb'⊢
 have key:=Rx (body:=fun(s:((Bool×(List Int))×((List Int)×(Int×Int))))=>EJ s.1 s.2.1 s.2.2.1 s.2.2.2) (l:=l) (st:=fun k=>((neg,l),(l,((l.length:Int),(k:Int))))) (p:=fun x=>decide (0<=x)&&decide (x<=65535)) (fin:=.inl (neg,l)) (bad:=fun k=>.inr false)
  (fun k a hk hp=>by
   have:=J5 hk;unfold EJ;simp only[Kc hk,cond_true,Av,hk,za0,Wd,hp,Bool.not_true,cond_false,BM (show k<4611686018427387904 by omega)])
  (fun k a hk hp=>by
   unfold EJ;simp only[Kc hk,cond_true,Av,hk,za0,Wd,hp,Bool.not_false])
  (by unfold EJ;simp only[QD,cond_false])
 rw[show((0:Nat):Int)=0 from rfl]at key;cases hall:l.all fun x=>decide (0<=x)&&decide (x<=65535)with
 |false=>obtain⟨k,_,h⟩:=key.2 hall;rw[h];rfl
 |true=>
  rw[key.1 hall];simp only[za0,Sum.elim_inl,ze4];rw[Ab (by omega) (by omega)];cases hg:l.getLast? with
  |none=>
   have:l=[]:=List.getLast?_eq_none_iff.1 hg;subst this;rfl
  |some x=>
   obtain⟨h0,h1⟩:=P2 hg;have e0:(((l.length:Nat):Int)==0)=false:=beq_eq_false_iff_ne.2 (by omega);simp only[e0,cond_false,h1,za0];by_cases h40:l.length<=40
   ·rw[zp (show((l.length:Nat):Int)<=40 by omega),zp h40];rfl
   ·rw[zq (show ¬((l.length:Nat):Int)<=40 by omega),zq h40];rfl
theorem Aq8{l:List (Bool×List Int)}(hl:l.length<=1000)(hb:∀b∈l,Ar b.2):HP l=some (l.all EB):=by
 unfold HP Bs BN;have key:=Rx (body:=fun(s:((List (Bool×(List Int)))×(Int×Int)))=>AM s.1 s.2.1 s.2.2) (l:=l) (st:=fun k=>(l,(l.length:Int),(k:Int))) (p:=EB) (fin:=.inl ()) (bad:=fun k=>.inr (k:Int))
  (fun k a hk hp=>by
   have:=J5 hk;unfold AM Hm;simp only[Kc hk,cond_true,Av,hk,za0,UI (hb a (za5 hk)),hp,Bool.not_true,cond_false,BM (show k<4611686018427387904 by omega)])
  (fun k a hk hp=>by
   unfold AM Hm;simp only[Kc hk,cond_true,Av,hk,za0,UI (hb a (za5 hk)),hp,Bool.not_false])
  (by unfold AM;simp only[QD,cond_false])
 rw[show((0:Nat):Int)=0 from rfl]at key;cases hall:l.all EB with
 |true=>rw[key.1 hall];rfl
 |false=>
  obtain⟨k,_,h⟩:=key.2 hall;rw[h];simp only[za0,zd9];have:decide ((k:Int)>=0)=true:=by simp
  rw[this];rfl
end
section
open Go
def CR(a b:Int):Int:=if a<b then-1 else if b<a then 1 else 0
theorem FM{a b:Int}(h:a<b):CR a b= -1:=by unfold CR;rw[zw h]
theorem JZ{a b:Int}(h:b<a):CR a b=1:=by unfold CR;rw[zi (by omega),zw h]
theorem Us(a:Int):CR a a=0:=by unfold CR;simp
theorem Db(a b:Int):(CR a b= -1/\a<b)\/(CR a b=1/\b<a)\/(CR a b=0/\a=b):=by unfold CR;split<;>(try split)<;>omega
theorem OI(a b:Int):B5 a b=some (CR a b):=by
 unfold B5 ES CR;by_cases h1:a<b<;>by_cases h2:b<a<;>simp[h1,h2]
theorem Xx{k:Nat}{d:Int}(h:d<= -1):B k*d<= -B k:=by
 have:=zb1 h (ze1 (Fv k));omega
theorem ZH{l m:List Int}(hl:LB l)(hm:LB m){k:Nat}{x y:Int}(hx:l[k]? =some x)(hy:m[k]? =some y)(hd:l.drop (k+1)=m.drop (k+1)):(x<y->val l<val m)/\(y<x->val m<val l):=by
 have kl:=J5 hx;have km:=J5 hy;have e1:=O6 l k (by omega);have e2:=O6 m k (by omega);have d1:l.drop k=x::l.drop (k+1):=by rw[zb9 kl];congr 1;rw[za1 kl]at hx;exact zy hx
 have d2:m.drop k=y::m.drop (k+1):=by rw[zb9 km];congr 1;rw[za1 km]at hy;exact zy hy
 rw[d1]at e1;rw[d2,<-hd]at e2;simp only[val]at e1 e2;have t1:=AR (hl.take k);have t2:=AR (hm.take k);have t3:=Kj (hl.take k);have t4:=Kj (hm.take k);rw[zc7,Nat.min_eq_left (by omega)]at t3 t4;rw[zd7]at e1 e2;constructor
 ·intro h;have:=Xx (k:=k) (show x-y<= -1 by omega);rw[Int.mul_sub]at this;omega
 ·intro h;have:=Xx (k:=k) (show y-x<= -1 by omega);rw[Int.mul_sub]at this;omega
theorem Qz{a b:Nat}:((lim a).length<(lim b).length->a<b):=by
 intro h;rcases zd3 a b with h1|h1
 ·exact h1
 ·exfalso
  have h2:=(Al (n:=a) (k:=(lim a).length)).1 (za8 _);have:=(Al (n:=b) (k:=(lim a).length)).2 (by omega);omega
section
variable {l m:List Int} (hl:LB l) (hm:LB m) (hlen:l.length=m.length) (hb:Ar l)
include hl hm hlen hb
theorem YK:(val l=val m->Ag (fun(s:((List Int)×((List Int)×Int)))=>A1 s.1 s.2.1 s.2.2) (l,(m,(l.length:Int)-1))=some (.inl ()))/\
  (val l≠val m->Ag (fun(s:((List Int)×((List Int)×Int)))=>A1 s.1 s.2.1 s.2.2) (l,(m,(l.length:Int)-1))=some (.inr (CR (val l) (val m)))):=by
 unfold Ar at hb;have key:∀(n:Nat),n<=l.length->l.drop n=m.drop n->(l=m->Ag (fun(s:((List Int)×((List Int)×Int)))=>A1 s.1 s.2.1 s.2.2) (l,(m,(n:Int)-1))=some (.inl ()))/\(l≠m->Ag (fun(s:((List Int)×((List Int)×Int)))=>A1 s.1 s.2.1 s.2.2) (l,(m,(n:Int)-1))=some (.inr (CR (val l) (val m)))/\val l≠val m):=by
  intro n
  induction n with
  |zero=>
   intro _ h;simp only[ze7]at h;refine⟨fun _=>AE rfl,fun hn=>absurd h hn⟩
  |succ n ih=>
   intro hn h;have k1:n<l.length:=by omega
   have k2:n<m.length:=by omega
   have hx:l[n]? =some l[n]:=za1 k1;have hy:m[n]? =some m[n]:=za1 k2;have hs:((n+1:Nat):Int)-1=(n:Int):=by omega
   rw[hs];by_cases he:l[n]=m[n]
   ·have hd:l.drop n=m.drop n:=by rw[zb9 k1,zb9 k2,he,h]
    have hstep:A1 l m (n:Int)=some (.inl (l,(m,(n:Int)-1))):=by
     unfold A1;rw[zp (show(n:Int)>=0 by omega),Av,Av,hx,hy,Ab (by omega) (by omega)];simp only[cond_true,za0,he,bne_self_eq_false,cond_false]
    obtain⟨i1,i2⟩:=ih (by omega) hd;exact⟨fun hh=>by rw[BG hstep];exact i1 hh,fun hh=>by rw[BG hstep];exact i2 hh⟩
   ·obtain⟨c1,c2⟩:=ZH hl hm hx hy h;have hne:l≠m:=fun hh=>he (by subst hh;rfl)
    have hc:CR l[n] m[n]=CR (val l) (val m):=by
     rcases Int.lt_or_gt_of_ne he with h1|h1
     ·rw[FM h1,FM (c1 h1)]
     ·rw[JZ h1,JZ (c2 h1)]
    have hstep:A1 l m (n:Int)=some (.inr (.inr (CR (val l) (val m)))):=by
     unfold A1;rw[zp (show(n:Int)>=0 by omega),Av,Av,hx,hy];have hb:(l[n] != m[n])=true:=by simpa using he
     simp only[cond_true,za0,hb,OI,hc]
    refine⟨fun hh=>absurd hh hne,fun _=>⟨AE hstep,?_⟩⟩
    rcases Int.lt_or_gt_of_ne he with h1|h1
    ·have:=c1 h1;omega
    ·have:=c2 h1;omega
 obtain⟨h1,h2⟩:=key l.length (za8 _) (by rw[List.drop_length,hlen,List.drop_length]);constructor
 ·intro hv;by_cases he:l=m
  ·exact h1 he
  ·exact absurd hv (h2 he).2
 ·intro hv;exact(h2 fun he=>hv (by rw[he])).1
theorem Zb:(val l=val m->Ag (fun(s:((List Int)×((List Int)×Int)))=>CC s.1 s.2.1 s.2.2) (l,(m,(l.length:Int)-1))=some (.inl ()))/\
  (val l≠val m->Ag (fun(s:((List Int)×((List Int)×Int)))=>CC s.1 s.2.1 s.2.2) (l,(m,(l.length:Int)-1))=some (.inr (CR (val l) (val m)))):=by
 unfold Ar at hb;have key:∀(n:Nat),n<=l.length->l.drop n=m.drop n->(l=m->Ag (fun(s:((List Int)×((List Int)×Int)))=>CC s.1 s.2.1 s.2.2) (l,(m,(n:Int)-1))=some (.inl ()))/\(l≠m->Ag (fun(s:((List Int)×((List Int)×Int)))=>CC s.1 s.2.1 s.2.2) (l,(m,(n:Int)-1))=some (.inr (CR (val l) (val m)))/\val l≠val m):=by
  intro n
  induction n with
  |zero=>
   intro _ h;simp only[ze7]at h;refine⟨fun _=>AE rfl,fun hn=>absurd h hn⟩
  |succ n ih=>
   intro hn h;have k1:n<l.length:=by omega
   have k2:n<m.length:=by omega
   have hx:l[n]? =some l[n]:=za1 k1;have hy:m[n]? =some m[n]:=za1 k2;have hs:((n+1:Nat):Int)-1=(n:Int):=by omega
   rw[hs];by_cases he:l[n]=m[n]
   ·have hd:l.drop n=m.drop n:=by rw[zb9 k1,zb9 k2,he,h]
    have hstep:CC l m (n:Int)=some (.inl (l,(m,(n:Int)-1))):=by
     unfold CC;rw[zp (show(n:Int)>=0 by omega),Av,Av,hx,hy,Ab (by omega) (by omega)];simp only[cond_true,za0,he];rw[zq (Int.lt_irrefl _)];rfl
    obtain⟨i1,i2⟩:=ih (by omega) hd;exact⟨fun hh=>by rw[BG hstep];exact i1 hh,fun hh=>by rw[BG hstep];exact i2 hh⟩
   ·obtain⟨c1,c2⟩:=ZH hl hm hx hy h;have hne:l≠m:=fun hh=>he (by subst hh;rfl)
    have hstep:CC l m (n:Int)=some (.inr (.inr (CR (val l) (val m)))):=by
     unfold CC;rw[zp (show(n:Int)>=0 by omega),Av,Av,hx,hy];simp only[cond_true,za0];rcases Int.lt_or_gt_of_ne he with h1|h1
     ·rw[zp h1,FM (c1 h1)];rfl
     ·rw[zq (by omega),zp h1,JZ (c2 h1)];rfl
    refine⟨fun hh=>absurd hh hne,fun _=>⟨AE hstep,?_⟩⟩
    rcases Int.lt_or_gt_of_ne he with h1|h1
    ·have:=c1 h1;omega
    ·have:=c2 h1;omega
 obtain⟨h1,h2⟩:=key l.length (za8 _) (by rw[List.drop_length,hlen,List.drop_length]);constructor
 ·intro hv;by_cases he:l=m
  ·exact h1 he
  ·exact absurd hv (h2 he).2
 ·intro hv;exact(h2 fun he=>hv (by rw[he])).1
end
theorem H9{a b:Nat}(ha:Ar (lim a))(hb:Ar (lim b)):BT (lim a) (lim b)=some (CR a b):=by
 unfold BT;have ha':=ha;have hb':=hb;unfold Ar at ha' hb';by_cases h:(lim a).length=(lim b).length
 ·have e:((((lim a).length:Nat):Int) != (((lim b).length:Nat):Int))=false:=by simp[h]
  rw[e,Ab (by omega) (by omega)];simp only[cond_false];obtain⟨h1,h2⟩:=YK (Az a) (Az b) h ha;rw[Ao,Ao]at h1 h2;by_cases hv:(a:Int)=b
  ·rw[h1 hv,hv,Us];rfl
  ·rw[h2 hv];rfl
 ·have e:((((lim a).length:Nat):Int) != (((lim b).length:Nat):Int))=true:=by simp;omega
  rw[e];simp only[cond_true,OI,za0];rcases Nat.lt_or_gt_of_ne h with h1|h1
  ·have:=Qz h1;rw[FM (by omega),FM (by omega)]
  ·have:=Qz h1;rw[JZ (by omega),JZ (by omega)]
theorem Wc{a b:Nat}(ha:Ar (lim a))(hb:Ar (lim b)):HA (lim a) (lim b)=some (CR a b):=by
 unfold HA;have ha':=ha;have hb':=hb;unfold Ar at ha' hb';by_cases h:(lim a).length=(lim b).length
 ·have e:((((lim a).length:Nat):Int) != (((lim b).length:Nat):Int))=false:=by simp[h]
  rw[e,Ab (by omega) (by omega)];simp only[cond_false];obtain⟨h1,h2⟩:=Zb (Az a) (Az b) h ha;rw[Ao,Ao]at h1 h2;by_cases hv:(a:Int)=b
  ·rw[h1 hv,hv,Us];rfl
  ·rw[h2 hv];rfl
 ·have e:((((lim a).length:Nat):Int) != (((lim b).length:Nat):Int))=true:=by simp;omega
  rw[e];simp only[cond_true];rcases Nat.lt_or_gt_of_ne h with h1|h1
  ·have:=Qz h1;rw[zp (by omega),FM (by omega)];rfl
  ·have:=Qz h1;rw[zq (by omega),JZ (by omega)];rfl
def dg(l:List Int)(k:Nat):Int:=l.getD k 0
theorem E4{l:List Int}{k:Nat}{x:Int}(h:l[k]? =some x):dg l k=x:=by unfold dg;rw[za4,h];rfl
theorem G9{l:List Int}{k:Nat}(h:l.length<=k):dg l k=0:=by unfold dg;rw[za4,List.getElem?_eq_none h];rfl
theorem A3{l:List Int}(h:LB l)(k:Nat):0<=dg l k/\dg l k<65536:=by
 rcases zd3 k l.length with hk|hk
 ·rw[E4 (za1 hk)];exact h _ (List.getElem_mem _)
 ·rw[G9 hk];omega
theorem AT(l:List Int)(k:Nat):val (l.take (k+1))=val (l.take k)+B k*dg l k:=by
 rcases zd3 k l.length with hk|hk
 ·have he:=za1 hk;rw[List.take_add_one,he,E4 he,Option.toList_some,JO,zc7,Nat.min_eq_left (by omega)]
 ·rw[G9 hk,zc0 (by omega),zc0 hk];omega
theorem JL{l:List Int}(k:Nat):CL l (k:Int)=some (dg l k):=by
 unfold CL;rcases zd3 k l.length with hk|hk
 ·rw[zp (by omega),Av,za1 hk,E4 (za1 hk)];rfl
 ·rw[zq (by omega),G9 hk];rfl
theorem Tt{l:List Int}{x:Int}(h:l.length<=100000000):D8 8 1 l [x]=some (l++[x]):=Vu (by simp[Ad];omega) (by simp[Ad];omega)
theorem Wb{a b:List Int}(ha:LB a)(hb:LB b)(na:a.length<=10000000)(nb:b.length<=10000000):
  ∃r,FE a b=some r/\LB r/\val r=val a+val b/\r.length<=max a.length b.length+1/\(r.length<=max a.length b.length\/B (max a.length b.length)<=val a+val b):=by
 unfold FE;obtain⟨r,h1,h2⟩:=GW (f:=fun(s:((List Int)×((List Int)×((List Int)×(Int×Int)))))=>CT s.1 s.2.1 s.2.2.1 s.2.2.2.1 s.2.2.2.2)
  (I:=fun s=>∃(k:Nat)(out:List Int)(c:Int),s=(out,(a,(b,(c,(k:Int)))))/\out.length=k/\k<=max a.length b.length+1/\LB out/\(c=0\/c=1)/\(k=max a.length b.length+1->c=0/\B (max a.length b.length)<=val a+val b)/\val out+B k*c=val (a.take k)+val (b.take k))
  (R:=fun r=>LB r/\val r=val a+val b/\r.length<=max a.length b.length+1/\(r.length<=max a.length b.length\/B (max a.length b.length)<=val a+val b)) (fun s=>max a.length b.length+2-s.1.length) (by
   rintro s ⟨k,out,c,rfl,h1,h2,h3,h4,h4',h5⟩;simp only;have da:=A3 ha k;have db:=A3 hb k;have go:k<max a.length b.length\/c=1->∃c',CT out a b c (k:Int)=some (.inl (out++[(dg a k+dg b k+c)%65536],(a,(b,(c',((k+1:Nat):Int))))))/\c'=(dg a k+dg b k+c)/65536:=by
    intro hgo;refine⟨_,?_,rfl⟩
    have hkk:k<=max a.length b.length:=by rcases hgo with h|h<;>omega
    unfold CT;have hcond:(bif decide ((k:Int)<((a.length:Nat):Int))then some (Sum.inr (α:=(List Int×List Int×List Int×Int×Int)⊕List Int) (out,(a,(b,(c,(k:Int))))))else bif decide ((k:Int)<((b.length:Nat):Int))then some (Sum.inr (out,(a,(b,(c,(k:Int))))))else bif decide (c>0)then some (Sum.inr (out,(a,(b,(c,(k:Int))))))else some (Sum.inl (Sum.inr out)))=some (Sum.inr (out,(a,(b,(c,(k:Int)))))):=by
     by_cases c1:(k:Int)<(a.length:Int)
     ·rw[zp c1];rfl
     ·by_cases c2:(k:Int)<(b.length:Int)
      ·rw[zq c1,zp c2];rfl
      ·have:c>0:=by rcases hgo with h|h<;>omega
       rw[zq c1,zq c2,zp this];rfl
    rw[hcond];simp only[za0,zd9,JL];rw[Ab (n:=dg a k+dg b k) (by omega) (by omega),Ab (n:=dg a k+dg b k+c) (by omega) (by omega),zc5 (by omega),zc3 (by omega),Ab (by omega) (by omega),Tt (by omega),BM (by omega)];rfl
   by_cases hgo:k<max a.length b.length\/c=1
   ·obtain⟨c',e1,e2⟩:=go hgo
    clear go
    have hkk:k<=max a.length b.length:=by
     rcases hgo with h|h
     ·omega
     ·rcases zd3 (max a.length b.length) k with h6|h6
      ·have:=h4' (by omega);omega
      ·exact h6
    refine .inl ⟨_,e1,⟨k+1,_,c',rfl,by simp[h1],by omega,h3.append (LB.cons (by omega) LB.nil),by omega,?_,?_⟩,by simp;omega⟩
    ·intro hk;have:k=max a.length b.length:=by omega
     rw[G9 (by omega),G9 (by omega)]at e2;refine⟨by omega,?_⟩
     have hc1:c=1:=by omega
     rw[hc1,zc0 (by omega),zc0 (by omega),this]at h5;have:=AR h3;omega
    ·rw[JO,h1,AT,AT];have:B (k+1)*c'=B k*(65536*c'):=by simp only[B];rw[zf3 65536 (B k),zf4]
     rw[this];have hq:(dg a k+dg b k+c)%65536+65536*c'=dg a k+dg b k+c:=by omega
     have:B k*((dg a k+dg b k+c)%65536)+B k*(65536*c')=B k*dg a k+B k*dg b k+B k*c:=by rw[<-zd7,hq,zd7,zd7]
     omega
   ·clear go
    have hc:c=0:=by omega
    have hk:max a.length b.length<=k:=by omega
    subst hc;refine .inr ⟨out,?_,h3,?_,by omega,?_⟩
    ·unfold CT;rw[zq (by omega),zq (by omega)];rfl
    ·rw[zc0 (by omega),zc0 (by omega)]at h5;omega
    ·rcases zd3 (max a.length b.length) k with h6|h6
     ·exact .inr (h4' (by omega)).2
     ·left;omega) ([],(a,(b,(0,0)))) ⟨0,[],0,rfl,rfl,by omega,LB.nil,.inl rfl,by omega,by simp[val,B]⟩
 exact⟨r,by rw[h1];rfl,h2⟩
theorem YJ{a b:List Int}(ha:LB a)(hb:LB b)(na:a.length<=10000000)(nb:b.length<=10000000):
  ∃r,Hl a b=some r/\LB r/\val r=val a+val b/\r.length<=max a.length b.length+1:=by
 unfold Hl;have hM:VQ [((a.length:Nat):Int),((b.length:Nat):Int)]=((max a.length b.length:Nat):Int):=by simp only[VQ,List.foldl];split<;>omega
 obtain⟨r,h1,h2⟩:=GW (f:=fun(s:((List Int)×((List Int)×((List Int)×(Int×Int)))))=>DM s.1 s.2.1 s.2.2.1 s.2.2.2.1 s.2.2.2.2)
  (I:=fun s=>∃(k:Nat)(out:List Int)(c:Int),s=(out,(a,(b,(c,(k:Int)))))/\out.length=k/\k<=max a.length b.length+1/\LB out/\(c=0\/c=1)/\(k=max a.length b.length+1->c=0)/\val out+B k*c=val (a.take k)+val (b.take k))
  (R:=fun r=>LB r/\val r=val a+val b/\r.length<=max a.length b.length+1) (fun s=>max a.length b.length+2-s.1.length) (by
   rintro s ⟨k,out,c,rfl,h1,h2,h3,h4,h4',h5⟩;simp only;have da:=A3 ha k;have db:=A3 hb k;have go:k<max a.length b.length\/c=1->∃c',DM out a b c (k:Int)=some (.inl (out++[(dg a k+dg b k+c)%65536],(a,(b,(c',((k+1:Nat):Int))))))/\c'=(dg a k+dg b k+c)/65536:=by
    intro hgo;refine⟨_,?_,rfl⟩
    have hkk:k<=max a.length b.length:=by rcases hgo with h|h<;>omega
    unfold DM;rw[hM];have hcond:(bif decide ((k:Int)<((max a.length b.length:Nat):Int))then some (Sum.inr (α:=(List Int×List Int×List Int×Int×Int)⊕List Int) (out,(a,(b,(c,(k:Int))))))else bif decide (c>0)then some (Sum.inr (out,(a,(b,(c,(k:Int))))))else some (Sum.inl (Sum.inr out)))=some (Sum.inr (out,(a,(b,(c,(k:Int)))))):=by
     by_cases c1:(k:Int)<((max a.length b.length:Nat):Int)
     ·rw[zp c1];rfl
     ·have:c>0:=by rcases hgo with h|h<;>omega
      rw[zq c1,zp this];rfl
    rw[hcond];simp only[za0,zd9];have s1:(bif decide ((k:Int)<((a.length:Nat):Int))then(AI a (k:Int)).bind fun x3=>some (Sum.inr (α:=(List Int×List Int×List Int×Int×Int)⊕List Int) (out,(a,(b,(zj zk (c+x3),(k:Int))))))else some (Sum.inr (out,(a,(b,(c,(k:Int)))))))=some (Sum.inr (out,(a,(b,(c+dg a k,(k:Int)))))):=by
     rcases zd3 k a.length with hk|hk
     ·rw[zp (by omega),Av,za1 hk,<-E4 (za1 hk)];simp only[cond_true,za0];rw[Ab (by omega) (by omega)]
     ·rw[zq (by omega),G9 hk];simp
    rw[s1];simp only[za0,zd9];have s2:(bif decide ((k:Int)<((b.length:Nat):Int))then(AI b (k:Int)).bind fun x3=>some (Sum.inr (α:=(List Int×List Int×List Int×Int×Int)⊕List Int) (out,(a,(b,(zj zk (c+dg a k+x3),(k:Int))))))else some (Sum.inr (out,(a,(b,(c+dg a k,(k:Int)))))))=some (Sum.inr (out,(a,(b,(dg a k+dg b k+c,(k:Int)))))):=by
     rcases zd3 k b.length with hk|hk
     ·rw[zp (by omega),Av,za1 hk,<-E4 (za1 hk)];simp only[cond_true,za0];rw[Ab (by omega) (by omega),show c+dg a k+dg b k=dg a k+dg b k+c by omega]
     ·rw[zq (by omega),G9 hk,show dg a k+0+c=c+dg a k by omega];rfl
    rw[s2];simp only[za0,zd9];rw[zc5 (by omega),zc3 (by omega),Ab (by omega) (by omega),Tt (by omega),BM (by omega)];rfl
   by_cases hgo:k<max a.length b.length\/c=1
   ·obtain⟨c',e1,e2⟩:=go hgo
    clear go
    have hkk:k<=max a.length b.length:=by
     rcases hgo with h|h
     ·omega
     ·rcases zd3 (max a.length b.length) k with h6|h6
      ·have:=h4' (by omega);omega
      ·exact h6
    refine .inl ⟨_,e1,⟨k+1,_,c',rfl,by simp[h1],by omega,h3.append (LB.cons (by omega) LB.nil),by omega,?_,?_⟩,by simp;omega⟩
    ·intro hk;have:k=max a.length b.length:=by omega
     rw[G9 (by omega),G9 (by omega)]at e2;omega
    ·rw[JO,h1,AT,AT];have:B (k+1)*c'=B k*(65536*c'):=by simp only[B];rw[zf3 65536 (B k),zf4]
     rw[this];have hq:(dg a k+dg b k+c)%65536+65536*c'=dg a k+dg b k+c:=by omega
     have:B k*((dg a k+dg b k+c)%65536)+B k*(65536*c')=B k*dg a k+B k*dg b k+B k*c:=by rw[<-zd7,hq,zd7,zd7]
     omega
   ·clear go
    have hc:c=0:=by omega
    have hk:max a.length b.length<=k:=by omega
    subst hc;refine .inr ⟨out,?_,h3,?_,by omega⟩
    ·unfold DM;rw[hM,zq (by omega)];rfl
    ·rw[zc0 (by omega),zc0 (by omega)]at h5;omega) ([],(a,(b,(0,0)))) ⟨0,[],0,rfl,rfl,by omega,LB.nil,.inl rfl,by omega,by simp[val,B]⟩
 exact⟨r,by rw[h1];rfl,h2⟩
end
end Go.Proofs.YtnohbihcoikkbaaGreat.Ev
