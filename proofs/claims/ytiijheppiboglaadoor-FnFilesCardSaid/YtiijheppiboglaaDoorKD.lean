/- Whatever comes in, the law of this claim answers true, and nothing that was handed in changes. -/
import Derived.Test.YtiijheppiboglaaDoorKC
import Derived.WalkKit
import Derived.SizedLaws
import Derived.IntWalk
import Derived.Below
import Derived.Lib.LaidTab
import Derived.Lib.ItoaMem
import Derived.Lib.AppendIntMem
import Derived.Lib.Itoa
import Derived.Lib.Join
import Derived.Lib.Repeat
import Derived.Lib.Split
import Derived.Lib.SplitLaws
import Derived.Lib.IndexMore
import Derived.Lib.Strings
import Derived.Lib.AtoiAll
import Derived.Lib.AtoiErrMem
import Derived.Shelf.Strings.Builder1
import Derived.Shelf.Small.Wraps
import Derived.Shelf.Strconv.Atoi
import Derived.Shelf.Strconv.Itoa0
import Derived.Shelf.Strconv.Itoa1
import Derived.Shelf.LaysM
import Derived.Shelf.Strconv.Itoa2
import Derived.Shelf.Strconv.Itoa3
import Derived.Shelf.Strconv.AtoiErrFast
import Derived.Shelf.Strconv.ParseIntEmpty
import Derived.Shelf.Strconv.AtoiFail
import Derived.Shelf.Strconv.Clone
import Derived.Shelf.Strconv.SyntaxError
import Derived.Shelf.LaysC
import Derived.Shelf.Strconv.ToError
import Derived.Shelf.Strconv.Lower
import Derived.Shelf.Strconv.ParseUint10
import Derived.Shelf.Strconv.ParseUint10Empty
import Derived.Shelf.Strconv.ParseUint10Any
import Derived.Shelf.Strconv.ParseInt10
import Derived.Shelf.Strconv.AtoiLong
import Derived.Shelf.Strconv.AtoiInnerAll
import Derived.Shelf.Strconv.RangeError
import Derived.Shelf.Strconv.ToErrorRange
import Derived.Shelf.Strconv.AtoiAll
import Derived.Shelf.Strconv.ErrVarAll
import Derived.Shelf.Strings.Search1
import Derived.Shelf.Strings.Search2
import Derived.Shelf.Strings.Search3
import Derived.Shelf.Strings.Count
import Derived.Shelf.Strings.Shaped
import Derived.Shelf.Strings.Prefix
import Derived.Shelf.Strings.Split
import Derived.Test.YtiijheppiboglaaDoorProg
import Derived.BigCall
import Derived.Lib.OthersKept
import Derived.HandedShaped
import Derived.LaidMore
import Derived.Shelf.Vars
import Derived.Stop.LaidErr
import Derived.KernelRfl
import Derived.Lib.ItoaNum
import Derived.Lib.ItoaLen
import Derived.Test.YtiijheppiboglaaDoorRows
import Derived.Test.YtiijheppiboglaaDoorCards
import Derived.Test.YtiijheppiboglaaDoorTie
import Derived.ProofKit
import Derived.OpenShut
import Derived.ShutString
import Derived.ChangeOld
import Derived.SevenTiedAt
import Derived.Lay
import Derived.Stop.Joined
import Derived.Test.YtiijheppiboglaaDoorChecked
set_option maxHeartbeats 2000000
open List renaming getElem?_eq_some_iff → za0, getElem?_eq_getElem → za2, all_eq_true → za3, mem_of_getElem? → za5, mem_flatMap → za6, flatMap_cons → za7, map_cons → zb0, mem_append → zb1, getElem?_take → zb3, all_cons → zb5, eq_nil_of_length_eq_zero → zb7, getElem?_drop → zb8, mem_cons → zb9, mem_map → zc2, getElem?_append → zc4, getElem?_map → zc5, getElem?_append_left → zc6, length_cons → zc8, getElem?_of_mem → zd1, length_append → zd6, mem_range → zd7
open Bool renaming and_eq_true → za1, false_eq_true → zb4, not_eq_true' → zd5
open Nat renaming eq_of_beq_eq_true → za4, le_refl → zb6, lt_of_lt_of_le → zc0, mul_le_mul_right → zc3, zero_add → zd0, add_mul → zd3, le_of_ble_eq_true → zd4, lt_or_ge → zd8
open Option renaming map_eq_some_iff → za8, bind_some → za9, map_some → zc1, getD_some → zd2
open Array renaming getD_eq_getD_getElem? → zb2, getElem?_eq_some_iff → zc7, getElem?_eq_getElem → zc9
open Go.IntKind renaming wrap → zi, i64 → zj, u64 → zk
open Option.some renaming inj → zv, injEq → zx
noncomputable section
set_option linter.unusedVariables false
set_option linter.unusedSimpArgs false
set_option linter.unusedSectionVars false
namespace Go.Proofs.YtiijheppiboglaaDoor.Ev
section
open Go
section
variable {P:Program} {R:Rel} {cf:Cfg} {X:TX} {g:FuncId}
def Fv(R:Rel)(cf:Cfg)(X:TX):Prop:=∀g E,Lu X.ents g=some E->Cg R E/\E.a.g=g/\cf.byref g=(Ct E.a.params).map Jl
theorem RG{α:Type}{op:Op}{b:Nat}{tm:TTm}{m:Tm}{hp hpm:THp}{hvm:Hp}{K:SV->THp->Cls->Option α}{z:α}(hX:XOK P X)(hisr:isR op=true)(hr:RT hp tm m)(hh:RHm hpm hp hvm)(h:AV X op b tm hpm K=some z):Bj P R cf op b m hp hpm hvm K z:=by
 cases op with
 |load t a=>exact R8 hX hr hh h
 |indexAddr t x i=>exact TT hX hr hh h
 |convert s d x=>exact Rz hX hr hh h
 |slice t x lo hi mx=>
  cases mx with
  |none=>exact PP hX hr hh h
  |some m'=>
   cases hi with
   |none=>simp[AV]at h
   |some h'=>exact NU hX hr h
 |_=>simp[isR]at hisr
theorem Td{α:Type}{op:Op}{b:Nat}{tm:TTm}{m:Tm}{hp:THp}{hv:Hp}{K:SV->THp->Cls->Option α}{z:α}(hX:XOK P X)(hE:Fv R cf X)(hh:RH hp hv)(hr:RT hp tm m)(h:AV X op b tm hp K=some z):KE P R cf op b tm m hv K z:=by
 cases op with
 |move x=>exact(Ub hr h).done hh hr
 |assign x=>exact(R2 hr h).done hh hr
 |pick c x y=>exact(Uy hr h).done hh hr
 |alloc t=>exact Tz hX hh hr h
 |box t x=>exact U5 hX hh hr h
 |build t parts=>exact(S1 hX hr h).done hh hr
 |buildSlice t len parts=>exact TD hX hh hr h
 |load t a=>exact(R8 hX hr hh.toM h).done hh hr
 |store t a x=>exact S7 hX hh hr h
 |nilCheck x=>exact(UT hr h).done hh hr
 |binOp op t x y yt=>exact(Vm hX hr h).done hh hr
 |unOp u t x=>exact(VF hr h).done hh hr
 |convert s d x=>exact(Rz hX hr hh.toM h).done hh hr
 |makeSlice t l c=>exact Uo hX hh hr h
 |slice t x lo hi mx=>
  cases mx with
  |none=>exact(PP hX hr hh.toM h).done hh hr
  |some m'=>
   cases hi with
   |none=>simp[AV]at h
   |some h'=>exact(NU hX hr h).done hh hr
 |fieldAddr t x k=>exact(MV hX hr h).done hh hr
 |field t x k=>exact(Tb hX hr h).done hh hr
 |indexAddr t x i=>exact(TT hX hr hh.toM h).done hh hr
 |index t x i=>exact(Tw hX hr h).done hh hr
 |extract x k=>exact(Qk hr h).done hh hr
 |makeFunc fn first caps=>
  cases fn with
  |func f=>exact(Us hr h).done hh hr
  |_=>simp[AV]at h
 |call c=>
  obtain⟨callee,args,ts⟩:=c;cases callee with
  |builtin bi=>
   cases bi with
   |append=>exact Su hX hh hr h
   |len=>exact(Vj hX hr hh.toM h).done hh hr
   |min=>exact(US hr h).done hh hr
   |max=>exact(Vg hr h).done hh hr
   |_=>simp[AV]at h
  |value f=>
   simp only[AV]at h
   split at h
   ·rename_i g caps hf;have hc:=Aw hr f;rw[hf]at hc;obtain⟨us,hfv,hcs⟩:=Pq hc;obtain⟨x,hp',cls,y,hv',h1,h2,h3,h4,h5⟩:=Qg hE hh hr (RC.append (Ec hr args.toList) (hcs.mono fun _ _ _ h=>h.to1.to2)) h;refine⟨x,hp',cls,y,hv',h1,h2,h3,h4,fun KV hk=> ?_⟩
    show(match Ao m f with|.cl g caps=>BX R cf g (args.toList.map (Ao m)++caps) hv b KV|_=>False);rw[hfv];exact h5 KV hk
   ·cases h
  |_=>simp[AV]at h
 |_=>simp[AV]at h
theorem Rb{b:Nat}:∀(hp:THp)(id:Nat),An (NL b hp) id=if id<b then An hp id else none
 |[],id=>by simp[NL,An]
 |(k,x)::l,id=>by
  have ih:=Rb (b:=b) l id;unfold NL at ih⊢
  rw[List.filter_cons];by_cases hk:k<b
  ·have:Nat.blt k b=true:=Nat.ble_eq_true_of_le hk;simp only[this,if_true];rw[Al,Al];by_cases hi:id=k
   ·subst hi;rw[zr rfl,zr rfl,zr hk]
   ·rw[zw hi,zw hi];exact ih
  ·have:Nat.blt k b=false:=by
    cases hb:Nat.blt k b with
    |false=>rfl
    |true=>exact absurd (Nat.lt_of_succ_le (zd4 hb)) hk
   simp only[this,zb4,if_false];rw[Al];by_cases hi:id=k
   ·subst hi;rw[zw hk]at ih⊢;exact ih
   ·rw[zw hi];exact ih
theorem SX{α:Type}{draw:Bool}{op:Op}{b:Nat}{tm:TTm}{m:Tm}{hp:THp}{hv:Hp}{K:SV->THp->Cls->Option α}{z:α}(hX:XOK P X)(hE:Fv R cf X)(hh:RH hp hv)(hr:RT hp tm m)(h:Sw X draw op b tm hp K=some z):
  ∃x hp' cls y hv',K x hp' cls=some z/\RV2 hp' x y/\RH hp' hv'/\RT hp' tm m/\∀KV:A2,KV y hv' cls->Dq P R cf draw op b (Ao m) hv KV:=by
 unfold Sw at h;cases hd:draw&&isR op with
 |true=>
  rw[hd]at h;have hi:isR op=true:=by simp only[za1]at hd;exact hd.2
  obtain⟨x,y,cls,h1,h2,h3⟩:=RG (R:=R) (cf:=cf) (hp:=hp) (hpm:=NL b hp) (hvm:=SZ b hv) hX hi hr (fun id bb hb=>by
   rw[Rb]at hb
   split at hb
   ·rename_i hlt;obtain⟨k,hk,hrb⟩:=hh id bb hb;exact⟨hb,k,by simp only[SZ,zr hlt,hk],hrb⟩
   ·cases hb) h
  refine⟨x,hp,cls,y,hv,h1,h2,hh,hr,fun KV hk=> ?_⟩
  unfold Dq;rw[hd];exact h3 (fun x _ cls=>KV x hv cls) hk
 |false=>
  rw[hd]at h;obtain⟨x,hp',cls,y,hv',h1,h2,h3,h4,h5⟩:=Td hX hE hh hr h;refine⟨x,hp',cls,y,hv',h1,h2,h3,h4,fun KV hk=> ?_⟩
  unfold Dq;rw[hd];exact h5 KV hk
theorem PS{hp:THp}{tm:TTm}{m:Tm}{x:SV}{y:V}(h:RT hp tm m)(hx:RV2 hp x y)(dst:Option Tmp):RT hp (GI tm dst x) (put m dst y):=by
 cases dst with
 |none=>exact h
 |some d=>
  intro t;simp only[GI,put];rw[Cq];unfold upd
  split
  ·exact hx
  ·exact h t
theorem So{hp:THp}{tm:TTm}{m:Tm}{op:Op}(hr:RT hp tm m)(h:OU tm op=true):Pz m op=RK tm op:=by
 unfold Pz RK;unfold OU at h;generalize op.operands.toList=l at h⊢
 induction l with
 |nil=>rfl
 |cons y l ih=>
  simp only[zb0,zb5,za1]at h;simp only[za7,zb0];rw[ih h.2,(Dl h.1 (Aw hr y)).2.2.1]
theorem Ha{α β:Type}{f g:α->List β}:∀{l:List α},(∀x∈l,f x=g x)->l.flatMap f=l.flatMap g
 |[],_=>rfl
 |x::l,h=>by
  rw[za7,za7,h x (List.mem_cons_self ..),Ha fun y hy=>h y (List.mem_cons_of_mem _ hy)]
theorem NQ{hp:THp}{hv:Hp}{tm:TTm}{m:Tm}{op:Op}{ids:List Nat}(hE:Fv R cf X)(hh:RH hp hv)(hr:RT hp tm m)(h:Hx X op tm hp=some ids):DS cf op (Ao m) hv=some ids:=by
 unfold Hx at h
 split at h
 ·rename_i t a x
  split at h
  ·rename_i hc;cases h
   simp only[za1]at hc;simp only[DS];rw[(Dl hc.1 (Aw hr a)).2.2.1,(Dl hc.2 (Aw hr x)).2.2.1]
  ·cases h
 ·rename_i f args tys
  split at h
  case h_2=>cases h
  rename_i g caps hf
  split at h
  case h_2=>cases h
  rename_i E hfe;obtain⟨_,_,hbr⟩:=hE g E hfe
  split at h
  case h_2=>cases h
  rename_i args' hargs'
  split at h
  case isFalse=>cases h
  rename_i s1
  split at h
  case h_2=>cases h
  rename_i o ho;cases h
  have hc:=Aw hr f;rw[hf]at hc;obtain⟨us,hfv,hcs⟩:=Pq hc;obtain⟨ys',hV,hargs2,hlent⟩:=GS hh hargs' (RC.append (Ec hr args.toList) (hcs.mono fun _ _ _ h=>h.to1.to2));obtain⟨a1,a2,a3,a4⟩:=RC.all1 s1 hargs2;rw[<-hbr]at hV hlent;have hclose:CE hv 64 (ys'.flatMap Ab) []=some o:=by rw[a2];exact Di hh _ _ _ ho
  have hcloseC:B4 hv (ys'.flatMap Ab)=some o:=by
   unfold B4;rw[hclose];simp only;rw[zr (by rw[a2];exact Hk hh ho)]
  simp only[DS,hfv,hV,hcloseC,hlent]
 ·rename_i t n parts
  split at h
  ·rename_i hc;cases h
   simp only[DS]
   congr 1
   refine Ha fun p hp=> ?_
   exact(Dl (za3.1 hc p hp) (Aw hr p.2)).2.2.1
  ·cases h
 ·cases h
theorem Tx{hp:THp}{hv:Hp}{tm:TTm}{m:Tm}{all:List Oper}{i:Nat}(hE:Fv R cf X)(hh:RH hp hv)(hr:RT hp tm m)(h:Qz X all tm hp i=true):DL cf all m hv i=true:=by
 unfold Qz at h;unfold DL;cases ha:all[i]? with
 |none=>rw[ha]at h;cases h
 |some a=>
  rw[ha]at h;simp only[za1]at h⊢
  refine⟨h.1,?_⟩
  replace h:=h.2
  cases ht:Hx X a.op tm hp with
  |none=>rw[ht]at h;cases h
  |some ids=>
   rw[ht]at h;rw[NQ hE hh hr ht];simp only at h⊢
   refine za3.2 fun j hj=> ?_
   have h4:=za3.1 h j hj;cases ho:all[j]? with
   |none=>simp
   |some o=>
    rw[ho]at h4;simp only[Bool.or_eq_true,za1]at h4⊢
    rcases h4 with h4|h4|⟨h4,h5,h6⟩
    ·exact .inl h4
    ·exact .inr (.inl h4)
    ·exact .inr (.inr ⟨h4,by rw[So hr h5];exact h6⟩)
theorem UO{hp:THp}{hv:Hp}{tm:TTm}{m:Tm}{all:List Oper}{i:Nat}(hE:Fv R cf X)(hh:RH hp hv)(hr:RT hp tm m)(h:(eOK all i||Qz X all tm hp i)=true):(eOK all i||DL cf all m hv i)=true:=by
 simp only[Bool.or_eq_true]at h⊢
 exact h.imp (fun h=>h) (Tx hE hh hr)
theorem RQ{α:Type}{draw ok ok':Bool}{cls:Cls}{A:Option α}{z:α}(hok:ok=true->ok'=true)(h:LR draw ok cls A=some z):A=some z/\∀B:Prop,B->drawn draw ok' cls B:=by
 cases draw<;>cases cls<;>first|exact⟨h,fun B hb=>hb⟩|(obtain⟨h1,h2⟩:=Bp h;exact⟨h2,fun B hb=>⟨hok h1,hb⟩⟩)
theorem J1{α:Type}{all:List Oper}{draw:Bool}(hX:XOK P X)(hE:Fv R cf X):∀(l:List Oper)(i:Nat){st:TSt}{s:St}{K:TSt->Option α}{z:α},RS st s->HD X all draw l i st K=some z->
  ∃st' s',K st'=some z/\RS st' s'/\st'.c=st.c/\∀KV:St->Prop,KV s'->Bc P R cf all draw l i s KV
 |[],i,st,s,K,z,hs,h=>⟨st,s,h,hs,rfl,fun KV hk=>hk⟩
 |o::l,i,st,s,K,z,hs,h=>by
  have go:∀(tm:TTm),RT st.hp tm s.tm->(Sw X draw o.op (16*(st.c+i)) tm st.hp fun x hp cls=>LR draw (eOK all i||Qz X all tm st.hp i) cls (HD X all draw l (i+1) {tm:=GI tm o.dst x,hp:=hp,c:=st.c} K))=some z->
    ∃st' s',K st'=some z/\RS st' s'/\st'.c=st.c/\∀KV:St->Prop,KV s'->Dq P R cf draw o.op (16*(s.c+i)) (Ao s.tm) s.hp fun x hp cls=>drawn draw (eOK all i||DL cf all s.tm s.hp i) cls (Bc P R cf all draw l (i+1) {tm:=put s.tm o.dst x,hp:=hp,c:=s.c} KV):=by
   intro tm hr h;obtain⟨x,hp',cls,y,hv',h1,h2,h3,h4,h5⟩:=SX (R:=R) (cf:=cf) hX hE hs.hp hr h;obtain⟨h6,h7⟩:=RQ (UO hE hs.hp hr) h1;obtain⟨st',s',q1,q2,q3,q4⟩:=J1 hX hE l (i+1) (st:={tm:=GI tm o.dst x,hp:=hp',c:=st.c}) (s:={tm:=put s.tm o.dst y,hp:=hv',c:=s.c}) ⟨PS h4 h2 o.dst,h3,hs.c⟩ h6;exact⟨st',s',q1,q2,q3,fun KV hk=>by rw[hs.c];exact h5 _ (by have:=h7 _ (q4 KV hk);rw[hs.c]at this;exact this)⟩
  have no:∀(tm:TTm),RT st.hp tm s.tm->HD X all draw l (i+1) {tm:=GI tm o.dst (.tup []),hp:=st.hp,c:=st.c} K=some z->
    ∃st' s',K st'=some z/\RS st' s'/\st'.c=st.c/\∀KV:St->Prop,KV s'->Bc P R cf all draw l (i+1) {tm:=put s.tm o.dst (.tup []),hp:=s.hp,c:=s.c} KV:=by
   intro tm hr h;exact J1 hX hE l (i+1) (st:={tm:=GI tm o.dst (.tup []),hp:=st.hp,c:=st.c}) (s:={tm:=put s.tm o.dst (.tup []),hp:=s.hp,c:=s.c}) ⟨PS (x:=.tup []) (y:=.tup []) hr ⟨[],rfl,trivial⟩ o.dst,hs.hp,hs.c⟩ h
  simp only[HD]at h;cases hg:o.guard with
  |none=>
   rw[hg]at h;obtain⟨st',s',q1,q2,q3,q4⟩:=go st.tm hs.tm h;exact⟨st',s',q1,q2,q3,fun KV hk=>by unfold Bc;rw[hg];exact q4 KV hk⟩
  |some jw=>
   obtain⟨j,want⟩:=jw;rw[hg]at h;simp only at h;cases hd:(all[j]?).bind (·.dst)with
   |none=>rw[hd]at h;cases h
   |some d=>
    rw[hd]at h;simp only at h;have htd:=hs.tm d;have fin:∀w:Bool,Ib (s.tm d) want=some w->(∃st' s',K st'=some z/\RS st' s'/\st'.c=st.c/\∀KV:St->Prop,KV s'->(if w=true then Dq P R cf draw o.op (16*(s.c+i)) (Ao s.tm) s.hp fun x hp cls=>drawn draw (eOK all i||DL cf all s.tm s.hp i) cls (Bc P R cf all draw l (i+1) {tm:=put s.tm o.dst x,hp:=hp,c:=s.c} KV)else Bc P R cf all draw l (i+1) {tm:=put s.tm o.dst (.tup []),hp:=s.hp,c:=s.c} KV))->
      ∃st' s',K st'=some z/\RS st' s'/\st'.c=st.c/\∀KV:St->Prop,KV s'->Bc P R cf all draw (o::l) i s KV:=by
     intro w hw ⟨st',s',q1,q2,q3,q4⟩;refine⟨st',s',q1,q2,q3,fun KV hk=> ?_⟩
     unfold Bc;rw[hg];simp only[hd,zc1,Ag,hw];exact q4 KV hk
    have same:∀t:Bool,s.tm d=.v (.bool t)->RT st.hp ((d,.bool t)::st.tm) s.tm:=by
     intro t ht t';rw[Cq]
     split
     ·rename_i he;rw[he,ht];rfl
     ·exact hs.tm t'
    split at h
    ·rename_i t hv;rw[hv]at htd;have htd:=Gv htd;cases want with
     |true=>
      simp only at h;cases t with
      |true=>
       obtain⟨st',s',q1,q2,q3,q4⟩:=go _ (same true htd) h;exact fin true (by rw[htd];rfl) ⟨st',s',q1,q2,q3,fun KV hk=>by rw[zr rfl];exact q4 KV hk⟩
      |false=>
       obtain⟨st',s',q1,q2,q3,q4⟩:=no _ (same false htd) h;exact fin false (by rw[htd];rfl) ⟨st',s',q1,q2,q3,fun KV hk=>by rw[zw (by simp)];exact q4 KV hk⟩
     |false=>
      simp only at h;cases t with
      |true=>
       obtain⟨st',s',q1,q2,q3,q4⟩:=no _ (same true htd) h;exact fin false (by rw[htd];rfl) ⟨st',s',q1,q2,q3,fun KV hk=>by rw[zw (by simp)];exact q4 KV hk⟩
      |false=>
       obtain⟨st',s',q1,q2,q3,q4⟩:=go _ (same false htd) h;exact fin true (by rw[htd];rfl) ⟨st',s',q1,q2,q3,fun KV hk=>by rw[zr rfl];exact q4 KV hk⟩
    ·rename_i hv;rw[hv]at htd;obtain⟨us,hus,hc⟩:=(show ∃us,s.tm d=.tup us/\RC (RV1 st.hp) [] us from htd);cases us with
     |cons a l=>exact hc.elim
     |nil=>
      obtain⟨st',s',q1,q2,q3,q4⟩:=no _ hs.tm h;exact fin false (by rw[hus];rfl) ⟨st',s',q1,q2,q3,fun KV hk=>by rw[zw (by simp)];exact q4 KV hk⟩
    ·cases h
structure CfOK (cf:Cfg) (g:FuncId) (X:TX):Prop where
 live:∀r an,E5 X.ann.heads r=some an->cf.live g r=DE an
 out:∀r outs ex an,E5 X.ann.outs r=some outs->Mw outs ex=some an->cf.out g r ex=DE an
 join:∀r an,E5 X.ann.joins r=some an->cf.join g r=some (DE an)
 nojoin:∀r,E5 X.ann.joins r=none->cf.join g r=none
 res:cf.res g=(DE X.ann.res).map (·.2)
 par:cf.par g=DE X.ann.params
 rts:cf.rts g=CG (KP (BH X.ann.res) X.ann.e 0 (BH X.ann.res))
theorem K7{a b:Ex}(h:L2 a b=true):a=b:=by
 cases a<;>cases b<;>simp[L2]at h
 ·rfl
 ·rw[h]
 ·rfl
theorem PR{α:Type}{e:Nat}{Q:RZ α}{ex:Ex}{st:TSt}{z:α}:∀{l:List (Ex×List Item)}{d:ST l},Pd e l ex st=some d->Rq Q l d=some z->∃an dd,Mw l ex=some an/\CP e an st=some dd/\Q ex (Dw an dd)=some z
 |[],d,h,_=>by cases h
 |[a],d,h,hz=>by
  simp only[Pd]at h;obtain⟨h1,h2⟩:=Bp h;have:=K7 h1;subst this;refine⟨a.2,d,?_,h2,hz⟩
  show cond (L2 a.1 a.1) (some a.2) _=_;rw[h1];rfl
 |a::b::l,d,h,hz=>by
  simp only[Pd]at h;cases hc:L2 a.1 ex with
  |true=>
   rw[hc]at h;simp only[cond_true,za8]at h;obtain⟨dd,h1,rfl⟩:=h;have:=K7 hc;subst this;refine⟨a.2,dd,?_,h1,hz⟩
   show cond (L2 a.1 a.1) (some a.2) _=_;rw[hc];rfl
  |false=>
   rw[hc]at h;simp only[cond_false,za8]at h;obtain⟨dd,h1,rfl⟩:=h;obtain⟨an,d2,q1,q2,q3⟩:=PR (l:=b::l) h1 hz;refine⟨an,d2,?_,q2,q3⟩
   show cond (L2 a.1 ex) (some a.2) (Mw (b::l) ex)=_;rw[hc];exact q1
theorem Cl(hX:XOK P X)(hE:Fv R cf X)(hcf:CfOK cf g X):∀(c:Code){α:Type}{st:TSt}{s:St}{Q:RZ α}{z:α},RS st s->wtC X c st Q=some z->
  ∃ex st' s',Q ex st'=some z/\RS st' s'/\∀QV:Dj,QV ex s'->we P R cf g X.e c s QV
 |.skip,α,st,s,Q,z,hs,h=>⟨.normal,st,s,h,hs,fun QV hq=>hq⟩
 |.exit id,α,st,s,Q,z,hs,h=>⟨.exit id,st,s,h,hs,fun QV hq=>hq⟩
 |.ret,α,st,s,Q,z,hs,h=>⟨.ret,st,s,h,hs,fun QV hq=>hq⟩
 |.region id ops draw,α,st,s,Q,z,hs,h=>by
  obtain⟨st',s',h1,h2,h3,h4⟩:=J1 (R:=R) (cf:=cf) hX hE _ 0 hs h;refine⟨.normal,_,{s' with c:=s'.c+ops.size},h1,⟨h2.tm,h2.hp,by show s'.c+_=st'.c+_;rw[h2.c]⟩,fun QV hq=> ?_⟩
  unfold we;exact h4 _ hq
 |.seq a b,α,st,s,Q,z,hs,h=>by
  unfold wtC at h;cases hj:E5 X.ann.joins (rid b)with
  |none=>
   rw[hj]at h;simp only at h;obtain⟨ex,st1,s1,h1,h2,h3⟩:=Cl hX hE hcf a hs h;cases ex with
   |normal=>
    obtain⟨ex,st2,s2,q1,q2,q3⟩:=Cl hX hE hcf b h2 h1;exact⟨ex,st2,s2,q1,q2,fun QV hq=>by unfold we;exact h3 _ (by show On _ _ _ _;rw[hcf.nojoin _ hj];exact q3 QV hq)⟩
   |exit id=>exact⟨.exit id,st1,s1,h1,h2,fun QV hq=>by unfold we;exact h3 _ hq⟩
   |ret=>exact⟨.ret,st1,s1,h1,h2,fun QV hq=>by unfold we;exact h3 _ hq⟩
  |some an=>
   rw[hj]at h;simp only at h;obtain⟨w,hw,hz⟩:=AF h;obtain⟨ex,st1,s1,h1,h2,h3⟩:=Cl hX hE hcf a hs hw;have other:∀ex',ex'≠ .normal->ex=ex'->(Q ex' st1).map Sum.inl=some w->∃ex st' s',Q ex st'=some z/\RS st' s'/\∀QV:Dj,QV ex s'->we P R cf g X.e (a.seq b) s QV:=by
    intro ex' hne he h1;subst he;simp only[za8]at h1;obtain⟨r,hr,rfl⟩:=h1;simp only[Sum.elim_inl,zx]at hz;subst hz;refine⟨ex,st1,s1,hr,h2,fun QV hq=> ?_⟩
    unfold we;refine h3 _ ?_
    cases ex with
    |normal=>exact absurd rfl hne
    |exit id=>exact hq
    |ret=>exact hq
   cases ex with
   |normal=>
    simp only[za8]at h1;obtain⟨d,hd,rfl⟩:=h1;simp only[Sum.elim_inr]at hz;obtain⟨s2,c1,c2⟩:=ES h2 hd;obtain⟨ex,st3,s3,q1,q2,q3⟩:=Cl hX hE hcf b c2 hz;exact⟨ex,st3,s3,q1,q2,fun QV hq=>by unfold we;exact h3 _ (by show On _ _ _ _;rw[hcf.join _ _ hj];exact c1 _ (q3 QV hq))⟩
   |exit id=>exact other (.exit id) (by simp) rfl h1
   |ret=>exact other .ret (by simp) rfl h1
 |.cond c x y,α,st,s,Q,z,hs,h=>by
  unfold wtC at h;have hc:=Aw hs.tm c
  split at h
  ·rename_i t ht;rw[ht]at hc;have hc:=Gv hc;cases t with
   |true=>
    obtain⟨ex,st1,s1,h1,h2,h3⟩:=Cl hX hE hcf x hs h;exact⟨ex,st1,s1,h1,h2,fun QV hq=>by unfold we;rw[hc];exact h3 QV hq⟩
   |false=>
    obtain⟨ex,st1,s1,h1,h2,h3⟩:=Cl hX hE hcf y hs h;exact⟨ex,st1,s1,h1,h2,fun QV hq=>by unfold we;rw[hc];exact h3 QV hq⟩
  ·cases h
 |.block id c,α,st,s,Q,z,hs,h=>by
  unfold wtC at h;obtain⟨ex,st1,s1,h1,h2,h3⟩:=Cl hX hE hcf c hs h;cases ex with
  |normal=>exact⟨.normal,st1,s1,h1,h2,fun QV hq=>by unfold we;exact h3 _ hq⟩
  |ret=>exact⟨.ret,st1,s1,h1,h2,fun QV hq=>by unfold we;exact h3 _ hq⟩
  |exit j=>
   simp only at h1;cases hj:Nat.beq j id with
   |true=>
    rw[hj]at h1;have hji:=za4 hj;exact⟨.normal,st1,s1,h1,h2,fun QV hq=>by unfold we;exact h3 _ (by show(if j=id then _ else _);rw[zr hji];exact hq)⟩
   |false=>
    rw[hj]at h1;have hji:j≠id:=fun he=>by subst he;rw[Nat.beq_refl]at hj;cases hj
    exact⟨.exit j,st1,s1,h1,h2,fun QV hq=>by unfold we;exact h3 _ (by show(if j=id then _ else _);rw[zw hji];exact hq)⟩
 |.loop c,α,st,s,Q,z,hs,h=>by
  unfold wtC at h
  split at h
  ·rename_i an outs ha ho;obtain⟨d0,hd0,h⟩:=AF h;obtain⟨w,hw,hz⟩:=AF h;obtain⟨n,hn⟩:=Fm hw;obtain⟨s0,c1,c2⟩:=ES hs hd0;have key:∀(n:Nat)(d:Bb an)(s0:St),C8 (fun d=>wtC X c (Dw an d) fun ex s=>match ex with|.normal=>(CP X.e an s).map .inl|ex=>(Pd X.e outs ex s).map .inr) n d=some w->RS (Dw an d) s0->
     ∃ex st' s',Q ex st'=some z/\RS st' s'/\∀QV:Dj,QV ex s'->Ko P R cf g X.e c s0 QV:=by
    intro n
    induction n with
    |zero=>intro d s0 h _;cases h
    |succ n ih=>
     intro d s0 h hs0;simp only[C8]at h;obtain⟨o,hb,h⟩:=AF h;obtain⟨ex,st1,s1,h1,h2,h3⟩:=Cl hX hE hcf c hs0 hb;have other:∀ex',ex'≠ .normal->ex=ex'->(Pd X.e outs ex' st1).map Sum.inr=some o->∃ex st' s',Q ex st'=some z/\RS st' s'/\∀QV:Dj,QV ex s'->Ko P R cf g X.e c s0 QV:=by
      intro ex' hne he h1;subst he;simp only[za8]at h1;obtain⟨w',hw',rfl⟩:=h1;simp only[Sum.elim_inr,zx]at h;subst h;obtain⟨an2,dd,q1,q2,q3⟩:=PR hw' hz;obtain⟨s2,e1,e2⟩:=ES h2 q2;refine⟨ex,_,s2,q3,e2,fun QV hq=> ?_⟩
      rw[J2];refine h3 _ ?_
      cases ex with
      |normal=>exact absurd rfl hne
      |exit id=>show CD _ _ _ _;rw[hcf.out _ _ _ _ ho q1];exact e1 _ hq
      |ret=>show CD _ _ _ _;rw[hcf.out _ _ _ _ ho q1];exact e1 _ hq
     cases ex with
     |normal=>
      simp only[za8]at h1;obtain⟨d',hd',rfl⟩:=h1;simp only[Sum.elim_inl]at h;obtain⟨s2,e1,e2⟩:=ES h2 hd';obtain⟨ex,st3,s3,q1,q2,q3⟩:=ih d' s2 h e2;refine⟨ex,st3,s3,q1,q2,fun QV hq=> ?_⟩
      rw[J2];refine h3 _ ?_
      show CD _ _ _ _;rw[hcf.live _ _ ha];exact e1 _ (q3 QV hq)
     |exit id=>exact other (.exit id) (by simp) rfl h1
     |ret=>exact other .ret (by simp) rfl h1
   obtain⟨ex,st',s',q1,q2,q3⟩:=key n d0 s0 hn c2;exact⟨ex,st',s',q1,q2,fun QV hq=>by rw[TA,hcf.live _ _ ha];exact c1 _ (q3 QV hq)⟩
  ·cases h
 |.scope c,α,st,s,Q,z,hs,h=>by simp[wtC]at h
 |.label l,α,st,s,Q,z,hs,h=>by simp[wtC]at h
 |.goto l,α,st,s,Q,z,hs,h=>by simp[wtC]at h
 |.rangeFunc ..,α,st,s,Q,z,hs,h=>by simp[wtC]at h
 |.refuse _,α,st,s,Q,z,hs,h=>by simp[wtC]at h
end
end
section
open Go
section
variable {P:Program} {X:TX} {g:FuncId}
structure FnOK (P:Program) (cf:Cfg) (X:TX) (fn:Func) (c:Code):Prop where
 get:P.funcs[X.ann.g]? =some fn
 body:fn.body=some c
 ok:Io fn c (Cu X.ann.params).length=true
 ext:cf.isExt X.ann.g=false
theorem Mf{cf:Cfg}{ext:Rel}{fn:Func}{c:Code}{F:Bb X.ann.params->Option (Bb X.ann.res)}(hX:XOK P X)(hE:Fv (DC P cf ext) cf X)(hcf:CfOK cf X.ann.g X)(hf:FnOK P cf X fn c)
  (hF:∀x,wtF X fn x=F x):Cg (DC P cf ext) ⟨X.ann,F⟩:=by
 intro x y args blks st0 hy hs0 hd hid hl he _;have hy:wtF X fn x=some y:=by rw[hF];exact hy
 unfold wtF at hy;rw[hf.body]at hy;simp only at hy;have he:(args.flatMap Ab).eraseDups.length=X.e:=he;obtain⟨s0,k1,hs⟩:=ES hs0 hd;obtain⟨ex,st',s',h1,h2,h3⟩:=Cl hX hE hcf c hs hy;have main:∀ex',ex=ex'->(∀i,ex'≠ .exit i)->(OW X st'.tm st'.hp fn.results.toList fun xs=>SP X.ann.res X.e st' xs)=some y->
   ∃r blks',DC P cf ext X.ann.g args blks r blks'/\ResRel X.ann.res y r blks':=by
  intro ex' hex hno h1;obtain⟨r,blks',q1,q2⟩:=Rg (e:=X.e) (res:=X.ann.res) (rs:=fn.results.toList) (y:=y) hX h2 h1;refine⟨r,blks',DC.intro hf.ext hf.get hf.body (by rw[hl];exact hf.ok) hid ?_,q2⟩
  rw[he,hcf.par];refine k1 _ (h3 _ ?_)
  rw[hcf.res,hcf.rts];subst hex;cases ex with
  |exit i=>exact absurd rfl (hno i)
  |normal=>exact q1
  |ret=>exact q1
 cases ex with
 |exit i=>cases h1
 |normal=>exact main .normal rfl (by simp) h1
 |ret=>exact main .ret rfl (by simp) h1
def Oi(R:Rel)(cf:Cfg):List Ent->Prop
 |[]=>True
 |E::l=>(Cg R E/\cf.byref E.a.g=(Ct E.a.params).map Jl)/\Oi R cf l
theorem LV{R:Rel}{cf:Cfg}{X:TX}(h:Oi R cf X.ents):Fv R cf X:=by
 intro g E hE;generalize X.ents=l at h hE
 induction l with
 |nil=>cases hE
 |cons a l ih=>
  simp only[Lu]at hE;cases hg:Nat.beq a.a.g g with
  |true=>
   rw[hg]at hE;simp only[cond_true,zx]at hE;subst hE;have:=za4 hg;subst this;exact⟨h.1.1,rfl,h.1.2⟩
  |false=>
   rw[hg]at hE;exact ih h.2 hE
theorem R1{tab:List FAnn}{ext:FuncId->Bool}{X:TX}(h:GJ tab X.ann.g=some X.ann):CfOK (Mg tab ext) X.ann.g X where
 live r an hr:=by simp only[Mg,h,za9,hr]
 out r outs ex an hr he:=by simp only[Mg,h,za9,hr,he]
 join r an hr:=by simp only[Mg,h,za9,hr]
 nojoin r hr:=by simp only[Mg,h,za9,hr]
 res:=by simp only[Mg,h]
 par:=by simp only[Mg,h]
 rts:=by simp only[Mg,h]
end
end
section
open Go Go.RowKit
def shT:Sh->Ty
 |.int k=>.int k
 |.str=>.str
 |.bool=>.bool
 |.sl _ e=>.sl (shT e)
 |.pair a b=>.pair (shT a) (shT b)
def WFS:(s:Sh)->(shT s).den->Prop
 |.int k,n=>(Lit.int k n).wf=true
 |.str,s=>s.length<=Af
 |.bool,_=>True
 |.sl bytes e,l=>(∀a∈(show List (shT e).den from l),WFS e a)/\(show List (shT e).den from l).length*bytes<=Af
 |.pair a b,x=>WFS a (show(shT a).den×(shT b).den from x).1/\WFS b (show(shT a).den×(shT b).den from x).2
theorem Pr:∀{s:Sh}{xs:List V},DV s xs->∃x,RE (shT s) x xs/\WFS s x
 |.int k,xs,h=>by obtain⟨n,rfl,hn⟩:=h;exact⟨n,rfl,hn⟩
 |.str,xs,h=>by obtain⟨s,rfl,hs⟩:=h;exact⟨s.data.toList,by simp[RE,shT],by show s.data.toList.length<=Af;rw[Array.length_toList];exact hs⟩
 |.bool,xs,h=>by obtain⟨b,rfl⟩:=h;exact⟨b,rfl,trivial⟩
 |.sl bytes e,xs,h=>by
  obtain⟨rows,rfl,hr,hb⟩:=h;have key:∀rows:List (List V),(∀r∈rows,DV e r)->∃l:List (shT e).den,RLx (RE (shT e)) l rows/\∀a∈l,WFS e a:=by
   intro rows
   induction rows with
   |nil=>intro _;exact⟨[],RLx.nil,by simp⟩
   |cons r rows ih=>
    intro h;obtain⟨a,h1,h2⟩:=Pr (h r (by simp));obtain⟨l,h3,h4⟩:=ih fun r' hr'=>h r' (by simp[hr'])
    refine⟨a::l,RLx.cons h1 h3,fun b hb=> ?_⟩
    rcases zb9.1 hb with rfl|hb
    ·exact h2
    ·exact h4 b hb
  obtain⟨l,h1,h2⟩:=key rows hr;exact⟨l,.inr ⟨rows,rfl,h1⟩,h2,by rw[<-h1.1];exact hb⟩
 |.pair a b,xs,h=>by
  obtain⟨l,r,rfl,h1,h2⟩:=h;obtain⟨x,q1,q2⟩:=Pr h1;obtain⟨y,q3,q4⟩:=Pr h2;exact⟨(x,y),⟨l,r,rfl,q1,q3⟩,q2,q4⟩
def Ik:Sh->AC
 |.int k=>.int k
 |.str=>.str
 |.bool=>.bool
 |.sl _ e=>.im (shT e)
 |.pair _ _=>.bool
def Sx:Sh->Bool
 |.pair _ _=>false
 |_=>true
def WFC:(s:Sh)->(Ik s).den->Prop
 |.int k,n=>WFS (.int k) n
 |.str,s=>WFS .str s
 |.bool,b=>True
 |.sl n e,l=>WFS (.sl n e) l
 |.pair _ _,_=>True
theorem S6{s:Sh}{x:V}(ho:Sx s=true)(h:DV s [x]):∃d:(Ik s).den,WFC s d/\∀hp,RV2 hp (QB (Ik s) d) x:=by
 obtain⟨d,h1,h2⟩:=Pr h;cases s with
 |int k=>
  have h1:[x]=[V.v (.int k d)]:=h1;cases h1
  exact⟨d,h2,fun hp=>rfl⟩
 |str=>
  have h1:[x]=[V.v (.string ⟨Array.mk d⟩)]:=h1;cases h1
  exact⟨d,h2,fun hp=>rfl⟩
 |bool=>
  have h1:[x]=[V.v (.bool d)]:=h1;cases h1
  exact⟨d,trivial,fun hp=>rfl⟩
 |sl n e=>
  refine⟨d,h2,fun hp=> ?_⟩
  rcases h1 with⟨e1,e2⟩|⟨rows,e2,e3⟩
  ·cases e2;exact .inl ⟨e1,rfl⟩
  ·cases e2;exact .inr ⟨rows,rfl,e3⟩
 |pair a b=>cases ho
def Ei:Nat->List Sh->List Item
 |_,[]=>[]
 |i,s::l=>.slot i (.cell (Ik s))::Ei (i+1) l
def WFP:(i:Nat)->(l:List Sh)->Bb (Ei i l)->Prop
 |_,[],_=>True
 |i,s::l,d=>WFC s (hdI (.slot i (.cell (Ik s))) (Ei (i+1) l) d)/\WFP (i+1) l (tlI (.slot i (.cell (Ik s))) (Ei (i+1) l) d)
def DVs:List Sh->List V->Prop
 |[],[]=>True
 |s::l,x::xs=>DV s [x]/\DVs l xs
 |_,_=>False
theorem DVs.length:∀{l:List Sh}{xs:List V},DVs l xs->xs.length=l.length
 |[],[],_=>rfl
 |_::l,_::xs,h=>by simp[DVs.length h.2]
 |[],_::_,h=>h.elim
 |_::_,[],h=>h.elim
theorem Pl:∀(l:List Sh)(i:Nat){xs:List V},l.all Sx=true->DVs l xs->∃d:Bb (Ei i l),WFP i l d/\(∀k,(AG k (Ei i l) d).2=[])/\∀k hp,RT hp (AG k (Ei i l) d).1 (lk .any (I2 i xs))
 |[],i,[],_,_=>⟨(),trivial,fun _=>rfl,fun k hp t=>trivial⟩
 |s::l,i,x::xs,ho,h=>by
  simp only[zb5,za1]at ho;obtain⟨a,h1,h2⟩:=S6 ho.1 h.1;obtain⟨d,h3,h4,h5⟩:=Pl l (i+1) ho.2 h.2;refine⟨Dv (.slot i (.cell (Ik s))) (Ei (i+1) l) a d,⟨?_,?_⟩,fun k=> ?_,fun k hp=> ?_⟩
  ·rw[I9 (.slot i (.cell (Ik s)))];exact h1
  ·rw[HG (.slot i (.cell (Ik s)))];exact h3
  ·simp only[Ei,AG];rw[HG (.slot i (.cell (Ik s)))];exact h4 k
  ·simp only[Ei,AG];rw[HG (.slot i (.cell (Ik s))),I9 (.slot i (.cell (Ik s)))];intro t;show RV2 hp (AW ((i,Ng (.cell (Ik s)) a)::_) t) (if t=i then x else lk .any (I2 (i+1) xs) t);rw[Cq]
   split
   ·exact h2 hp
   ·exact h5 k hp t
 |[],_,_::_,_,h=>h.elim
 |_::_,_,[],_,h=>h.elim
section
variable {P:Program}
def PL(P:Program):List TypeId->List Sh->Prop
 |[],[]=>True
 |t::ts,s::l=>Fits P t s/\PL P ts l
 |_,_=>False
theorem Lg{H:Type}{enc:TypeId×Value->H}{W:World}:∀{ts:List TypeId}{l:List Sh}{vs:List Value}{ds:List (DataW H)}{p:List MemPlace},PL P ts l->l.all Sx=true->DataW.TrodAll enc P W 0 (fun _=>true) true ts vs ds p->
  (∀(j:Nat) t v,ts[j]? =some t->vs[j]? =some v->∃base,Value.okWide P W .any base t v)->(∀n∈DataW.weightsEach P ts ds,n<=reachBytes)->∃xs,DVs l xs/\M5 W xs vs
 |[],[],vs,ds,p,_,_,h,_,_=>by
  obtain⟨rfl,rfl,rfl⟩:=ChangeShapes.trodAll_nil h;exact⟨[],trivial,trivial⟩
 |t::ts,s::l,vs,ds,p,hf,ho,h,hv,hw=>by
  obtain⟨v,vs',d,ds',p1,q,rfl,rfl,rfl,⟨fuel,h1⟩,h2⟩:=ChangeShapes.trodAll_cons h;simp only[zb5,za1]at ho;obtain⟨xs,q1,q2,q3⟩:=GA fuel t s _ _ hf.1 h1 fun n hn=>hw n (by simp[DataW.weightsEach,hn])
  obtain⟨ys,q4,q5⟩:=Lg hf.2 ho.2 h2 (fun j t v h1 h2=>hv (j+1) t v (by simpa using h1) (by simpa using h2)) fun n hn=>hw n (by simp[DataW.weightsEach,hn])
  have hs1:s.size=1:=by cases s<;>first|rfl|(cases ho.1)
  obtain⟨x,rfl⟩:=List.length_eq_one_iff.1 (by rw[q2,hs1]);refine⟨x::ys,⟨q1,q4⟩,?_,q5⟩
  obtain⟨base,hok⟩:=hv 0 t v rfl rfl;have hc:v.cells.toList=[v]:=by
   cases hf.1 with
   |int ht=>simp only[Value.okWide,ht,Cell.okWide]at hok;cases v<;>simp_all [Cell.ok,Value.cells]
   |str ht=>simp only[Value.okWide,ht,Cell.okWide]at hok;cases v<;>simp_all [Cell.ok,Value.cells]
   |bool ht=>simp only[Value.okWide,ht,Cell.okWide]at hok;cases v<;>simp_all [Cell.ok,Value.cells]
   |sl ht=>obtain⟨a,n,c,rfl⟩:=WideShapes.okWide_slice ht hok;rfl
   |st=>cases ho.1
  rw[hc]at q3;exact q3.1
 |[],_::_,_,_,_,h,_,_,_,_=>h.elim
 |_::_,[],_,_,_,h,_,_,_,_=>h.elim
theorem Jh{H:Type}{enc:TypeId×Value->H}{W W':World}(hl:laidOutB P=true)(hb:Below W.heap.size W W'):∀{ts:List TypeId}{vs:List Value}{ds:List (DataW H)}{p:List MemPlace},(∀t∈ts,P.readableRec t=true/\t<P.types.size)->DataW.TrodAll enc P W 0 (fun _=>true) true ts vs ds p->
  ∃q,DataW.TrodAll enc P W' 0 (fun b=>decide (b<W.heap.size)) true ts vs ds q
 |[],vs,ds,p,_,h=>by
  obtain⟨rfl,rfl,rfl⟩:=ChangeShapes.trodAll_nil h;exact⟨[],ChangeShapes.trodAll_mk0⟩
 |t::ts,vs,ds,p,hr,h=>by
  obtain⟨v,vs',d,ds',p1,q,rfl,rfl,rfl,h1,h2⟩:=ChangeShapes.trodAll_cons h;obtain⟨q',h3⟩:=Jh hl hb (fun t ht=>hr t (by simp[ht])) h2;have hlt:∀x∈p1,x.block<W.heap.size:=by obtain⟨m,hm⟩:=h1;exact DataW.trod_lt m _ _ _ hm
  obtain⟨r1,r2⟩:=hr t (by simp);exact⟨_,trodAll_cons_mk (Below.trod hl r1 r2 h1 hb hlt) h3⟩
end
end
section
open Go Go.RowKit
theorem K3:∀(l:List Sh)(i:Nat),(Cu (Ei i l)).length=l.length
 |[],_=>rfl
 |s::l,i=>by simp[Ei,Cu,K3 l (i+1)]
section
variable {P:Program} {J:Da}
def TU(P:Program):List (Nat×TyD)->Prop
 |[]=>True
 |x::l=>Az P x.1=some x.2/\TU P l
theorem Ui{l:List (Nat×TyD)}(h:TU P l):∀t d,getD l t=some d->Az P t=some d:=by
 intro t d hd
 induction l with
 |nil=>cases hd
 |cons x l ih=>
  obtain⟨k,y⟩:=x;simp only[getD]at hd;cases hk:Nat.beq t k with
  |true=>
   rw[hk]at hd;simp only[cond_true,zx]at hd;have:=za4 hk;subst this;subst hd;exact h.1
  |false=>
   rw[hk]at hd;exact ih h.2 hd
theorem Rn{cf:Cfg}{ext:Rel}{g:FuncId}{shs:List Sh}{heads joins:List (Nat×List Item)}{outs:List (Nat×List (Ex×List Item))}{F:Bb (Ei 0 shs)->Option Bool}
  (hm:P.follows .mixedOrders=true) (hext:∀g args blks r blks',ext g args blks r blks'->CSpec P J g args blks r blks')
  (hE:Cg (DC P cf ext) ⟨⟨g,0,Ei 0 shs,[.slot 0 (.cell .bool)],heads,outs,joins⟩,F⟩) (hD:∀d,CP 0 (Ei 0 shs) (Dw (Ei 0 shs) d)=some d) (hF:∀d,WFP 0 shs d->F d=some true) (ho:shs.all Sx=true)
  {w:World} (hJ:∀x∈J,w.heap[x.1]? =some x.2) {xs:List V} {vals:Array Value} (hx:DVs shs xs) (hv:M5 w xs vals.toList):Calls P g vals w fun e w'=>e=.returned (.bool true)/\Below w.heap.size w w':=by
 obtain⟨d,h1,h2,h3⟩:=Pl shs 0 ho hx;have hrefs:=K0 hv;obtain⟨r,blks',q1,q2⟩:=hE d true xs [] (Dw (Ei 0 shs) d) (hF d h1) ⟨h3 0 _,(fun id b hb=>by
  rw[show(Dw (Ei 0 shs) d).hp=(AG 0 (Ei 0 shs) d).2 from rfl,h2]at hb;exact absurd hb (by simp[An])),rfl⟩ (hD d) (Nb hv) (by rw[hx.length];exact(K3 shs 0).symm) (by rw[hrefs];rfl) (fun _=>rfl)
 have hr:r=.v (.bool true):=q2.val;have hb:blks'=[]:=zb7 q2.len;subst hr;subst hb;exact QD hm hext hJ hv q1
theorem Mb{H:Type}{enc:TypeId×Value->H}{cf:Cfg}{ext:Rel}{g:FuncId}{shs:List Sh}{heads joins:List (Nat×List Item)}{outs:List (Nat×List (Ex×List Item))}{F:Bb (Ei 0 shs)->Option Bool}{fn:Func}{s:ChangeSpec}{ts:List TypeId}{rt:TypeId}
  (hm:P.follows .mixedOrders=true) (hext:∀g args blks r blks',ext g args blks r blks'->CSpec P J g args blks r blks')
  (hE:Cg (DC P cf ext) ⟨⟨g,0,Ei 0 shs,[.slot 0 (.cell .bool)],heads,outs,joins⟩,F⟩) (hD:∀d,CP 0 (Ei 0 shs) (Dw (Ei 0 shs) d)=some d) (hF:∀d,WFP 0 shs d->F d=some true) (ho:shs.all Sx=true)
  (hp:fn.params.toList=ts) (hr:fn.resultTypes.toList=[rt]) (hrt:P.underlying rt=some .bool) (hf:PL P ts shs) (hl:laidOutB P=true) (hread:∀t∈ts,P.readableRec t=true/\t<P.types.size) (hvars:s.vars=[])
  (hs:∀ds:List (DataW H),ds.length=ts.length->s.fn H (ds++[])={results:=[.lit (.bool true)],args:=ds,vars:=[]})
  {W:World} (hJ:∀x∈J,W.heap[x.1]? =some x.2) {base:Nat} {args:Array Value} {ds gs:List (DataW H)} {before:List MemPlace}
  (hval:∀(j:Nat) t v,fn.params[j]? =some t->args[j]? =some v->Value.okWide P W .any base t v) (hW:DataW.Whole enc P fn.params.toList s.vars false W args.toList ds gs before)
  (hsz:(DataW.weightsEach P (fn.params.toList++s.plain.varTypes P) (ds++gs)).all (· <=reachBytes)=true):
  Calls P g args W fun e W'=>∃v,e=.returned v/\s.post enc P fn false true false false W args v W':=by
 have hW':=hW;obtain⟨p,q,hA,hV,rfl,hfz,hnd⟩:=hW;rw[hvars]at hV;obtain⟨rfl,rfl⟩:=ChangeShapes.trodVars_none hV;rw[hp]at hA;have hlen:∀{ts:List TypeId}{vs:List Value}{ds:List (DataW H)}{p:List MemPlace},DataW.TrodAll enc P W 0 (fun _=>true) true ts vs ds p->ds.length=ts.length:=by
  intro ts
  induction ts with
  |nil=>intro vs ds p h;obtain⟨_,rfl,_⟩:=ChangeShapes.trodAll_nil h;rfl
  |cons t ts ih=>intro vs ds p h;obtain⟨v,vs',d,ds',p1,q,rfl,rfl,rfl,h1,h2⟩:=ChangeShapes.trodAll_cons h;simp[ih h2]
 have hdl:=hlen hA;have hwt:∀n∈DataW.weightsEach P ts ds,n<=reachBytes:=by
  intro n hn;have hmem:∀(a b:List TypeId)(c d:List (DataW H)),∀n∈DataW.weightsEach P a c,c.length=a.length->n∈DataW.weightsEach P (a++b) (c++d):=by
   intro a
   induction a with
   |nil=>intro b c d n hn hl;cases c<;>simp[DataW.weightsEach]at hn hl
   |cons t a ih=>
    intro b c d n hn hl;cases c with
    |nil=>simp[DataW.weightsEach]at hn
    |cons x c=>
     simp only[DataW.weightsEach,zb1,List.cons_append]at hn⊢
     rcases hn with hn|hn
     ·exact .inl hn
     ·exact .inr (ih b c d n hn (by simpa using hl))
  rw[hp]at hsz;have:=za3.1 hsz n (hmem ts _ ds _ n hn hdl);simpa using this
 obtain⟨xs,h1,h2⟩:=Lg hf ho hA (fun j t v h1 h2=>⟨base,hval j t v (by rw[<-hp]at h1;simpa using h1) (by simpa using h2)⟩) hwt;refine(Rn hm hext hE hD hF ho hJ h1 h2).mono fun e W' ⟨he,bel⟩=> ?_
 subst he;obtain⟨q',hq⟩:=Jh hl bel hread hA;refine⟨_,rfl,ds,[],_,[],q',[],hW',?_,?_,?_,bel.frame _,fun h=>by cases h⟩
 ·rw[hs ds hdl,hr];have:((Value.bool true).resultList fn.resultTypes.size)=[.bool true]:=by
   have:fn.resultTypes.size=1:=by rw[<-Array.length_toList,hr];rfl
   rw[this];rfl
  rw[this];exact ChangeShapes.trodAll_mk1 (shut_bool hrt true)
 ·rw[hs ds hdl,hp];exact hq
 ·rw[hs ds hdl,hvars];rfl
end
end
section
open Go
theorem AU{n:Int}(h1: -9223372036854775808<=n)(h2:n<=9223372036854775807):zi zj n=n:=by rw[IntKind.wrap_i64];omega
section
variable {σ τ ρ ρ':Type} {f:σ->Option (σ⊕ρ)} {g:τ->Option (τ⊕ρ')}
theorem DT{s s':σ}(h:f s=some (.inl s')):Ax f s=Ax f s':=by rw[M1,h];rfl
theorem BV{s:σ}{r:ρ}(h:f s=some (.inr r)):Ax f s=some r:=by rw[M1,h];rfl
theorem SD{I:σ->Prop}{R:ρ->Prop}(m:σ->Nat)(h:∀s,I s->(∃s',f s=some (.inl s')/\I s'/\m s'<m s)\/∃r,f s=some (.inr r)/\R r):∀s,I s->∃r,Ax f s=some r/\R r:=by
 have:∀n s,m s<n->I s->∃r,Ax f s=some r/\R r:=by
  intro n
  induction n with
  |zero=>intro s h;omega
  |succ n ih=>
   intro s hn hs;rcases h s hs with⟨s',h1,h2,h3⟩|⟨r,h1,h2⟩
   ·obtain⟨r,h4,h5⟩:=ih s' (by omega) h2;exact⟨r,by rw[DT h1,h4],h5⟩
   ·exact⟨r,BV h1,h2⟩
 exact fun s hs=>this (m s+1) s (by omega) hs
end
section
variable {α β γ:Type}
theorem BS(l:List α)(i:Nat):Ej l (i:Int)=l[i]? :=by
 unfold Ej;rw[zr (by omega)];simp
theorem Ml{l:List α}{i:Int}(h0:0<=i)(h1:i<l.length):∃a,Ej l i=some a/\l[i.toNat]? =some a:=by
 unfold Ej;rw[zr h0];have:i.toNat<l.length:=by omega
 exact⟨l[i.toNat],za2 this,za2 this⟩
theorem Ry{i n:Nat}(h:i<n):LM (i:Int) n=some i:=by
 unfold LM;rw[zr (by omega)];simp
end
section
variable {α σ ρ:Type} {body:σ->Option (σ⊕ρ)}
theorem Nw{l:List α}{st:Nat->σ}{p:α->Bool}{fin:ρ}{bad:Nat->ρ}(hgo:∀k a,l[k]? =some a->p a=true->body (st k)=some (.inl (st (k+1))))(hbad:∀k a,l[k]? =some a->p a=false->body (st k)=some (.inr (bad k)))(hend:body (st l.length)=some (.inr fin)):
  (l.all p=true->Ax body (st 0)=some fin)/\(l.all p=false->∃k,k<l.length/\Ax body (st 0)=some (bad k)):=by
 have key:∀(n k:Nat),k+n=l.length->((l.drop k).all p=true->Ax body (st k)=some fin)/\((l.drop k).all p=false->∃j,j<l.length/\Ax body (st k)=some (bad j)):=by
  intro n
  induction n with
  |zero=>
   intro k hk;have:k=l.length:=by omega
   subst this;rw[List.drop_length];exact⟨fun _=>BV hend,(fun h=>by cases h)⟩
  |succ n ih=>
   intro k hk;have hlt:k<l.length:=by omega
   have hd:l.drop k=l[k]::l.drop (k+1):=List.drop_eq_getElem_cons hlt;have he:l[k]? =some l[k]:=za2 hlt;rw[hd,zb5];cases hp:p l[k]with
   |true=>
    have h1:=hgo k _ he hp;obtain⟨q1,q2⟩:=ih (k+1) (by omega);rw[Bool.true_and,DT h1];exact⟨q1,q2⟩
   |false=>
    rw[Bool.false_and];exact⟨(fun h=>by cases h),fun _=>⟨k,hlt,BV (hbad k _ he hp)⟩⟩
 have:=key l.length 0 (by omega)
 rwa[List.drop_zero]at this
end
section
theorem JI{k:Nat}(h:k<4611686018427387904):zi zj ((k:Int)+1)=((k+1:Nat):Int):=by rw[AU (by omega) (by omega)];omega
end
theorem Mp{β:Type}{b s:Nat}{l m:List β}(h1:(l.length+m.length)*b<=Af)(h2:(l.length+m.length)*s<=Af):Jz b s l m=some (l++m):=by
 unfold Jz;rw[zr ⟨h1,h2⟩]
end
section
open Go
variable {P:Program} {J:Da}
def UN:Value:=.slice none 0 0
def LF(t tb:TypeId):Code:=
 .seq (.region 0 #[⟨some 2,.assign (.const UN),t, "slices.go:355", #[],none⟩] false)
  (.seq (.seq (.region 1 #[⟨some 3,.move (.tmp 0),t, "slices.go:357", #[],none⟩,⟨some 4,.binOp .eql t (.tmp 3) (.const UN) t,tb, "slices.go:357", #[⟨0,.data⟩],none⟩] false)
    (.cond (.tmp 4) (.seq (.region 2 #[⟨some 2,.assign (.const UN),t, "slices.go:358", #[],none⟩] false) .ret) .skip))
   (.seq (.region 3 #[⟨some 5,.buildSlice t 0 #[],t, "slices.go:362", #[],none⟩,⟨some 6,.move (.tmp 0),t, "slices.go:362", #[],none⟩,
     ⟨some 7,.call ⟨.builtin .append, #[.tmp 5,.tmp 6], #[t,t]⟩,t, "slices.go:362", #[⟨0,.data⟩,⟨1,.data⟩],none⟩,
     ⟨some 2,.assign (.tmp 7),t, "slices.go:362", #[⟨2,.data⟩,⟨2,.chain⟩,⟨0,.phase⟩,⟨1,.phase⟩,⟨2,.phase⟩],none⟩] false) .ret))
structure CloneOK (P:Program) (x:FuncId×TypeId×Nat×Bool):Prop where
 ok:∃(fn:Func)(t tb:TypeId)(d de:TyD),P.funcs[x.1]? =some fn/\fn.body=some (LF t tb)/\Io fn (LF t tb) 1=true/\fn.results.toList=[.tmp 2]/\
  Az P t=some d/\d.elem=some x.2.1/\Az P x.2.1=some de/\Ck P t=false/\de.size=x.2.2.1/\de.zero.all KI=x.2.2.2
end
section
open Go Go.RowKit
def E8:(c:AC)->c.den->V->Prop
 |.int k,n,v=>v=.v (.int k n)
 |.bool,b,v=>v=.v (.bool b)
 |.str,s,v=>v=.v (.string ⟨s.toArray⟩)
 |.err,b,v=>v=.er b
 |.im t,l,v=>(l=[]/\v=.em)\/∃rows,v=.im rows/\RLx (RE t) l rows
 |.at _,_,_=>False
section
variable {hp hp':THp} {u v:SV} {a:V} {b n:Nat} {c:AC}
theorem Ig(hc:c.isU=false)(h:tnC (tmC [] c) u hp b=some (v,hp',n))(hr:RV2 hp u a)(ha:Ab a=[]):hp'=hp/\∀f d,rdC c (AP f v)=some d->E8 c d a:=by
 cases c with
 | «at» j=>cases hc
 |im t=>
  simp only[tmC,tnC]at h;cases hl:DF hp t u with
  |none=>rw[hl]at h;cases h
  |some l=>
   rw[hl]at h;simp only[zx,Prod.mk.injEq]at h;obtain⟨rfl,rfl,_⟩:=h;have key:frV u=[]/\E8 (.im t) l a:=by
    cases u with
    |em=>
     simp only[DF,asL,zx]at hl;subst hl;exact⟨rfl,.inl ⟨rfl,hr⟩⟩
    |im t' l'=>
     simp only[DF,asL]at hl
     split at hl
     ·rename_i ht;subst ht;have hl:l'=l:=zv hl;subst hl;exact⟨rfl,hr⟩
     ·cases hl
    |ow id=>
     obtain⟨m,rfl,_⟩:=hr;simp[Ab,Ad]at ha
    |ar id lo m=>
     have hr:a=.ar id lo m:=hr;subst hr;simp[Ab,Ad]at ha
    |_=>simp[DF,asL]at hl
   refine⟨by rw[key.1];rfl,fun f d hd=> ?_⟩
   simp only[AP,B9,rdC,dite_true]at hd;have hd:l=d:=zv hd;subst hd;exact key.2
 |int k=>
  simp only[tmC,tnC,zx,Prod.mk.injEq]at h;obtain⟨rfl,rfl,_⟩:=h;refine⟨rfl,fun f d hd=> ?_⟩
  cases u with
  |int k' m=>
   simp only[AP,B9,rdC]at hd
   split at hd
   ·rename_i hk;subst hk;cases hd;exact hr
   ·cases hd
  |ow id=>simp only[AP,B9]at hd;split at hd<;>cases hd
  |ar id lo m=>simp only[AP,B9]at hd;split at hd<;>cases hd
  |rf id r c=>simp only[AP,B9]at hd;split at hd<;>cases hd
  |cl g caps=>cases hd
  |_=>cases hd
 |bool=>
  simp only[tmC,tnC,zx,Prod.mk.injEq]at h;obtain⟨rfl,rfl,_⟩:=h;refine⟨rfl,fun f d hd=> ?_⟩
  cases u with
  |bool m=>cases hd;exact hr
  |ow id=>simp only[AP,B9]at hd;split at hd<;>cases hd
  |ar id lo m=>simp only[AP,B9]at hd;split at hd<;>cases hd
  |rf id r c=>simp only[AP,B9]at hd;split at hd<;>cases hd
  |cl g caps=>cases hd
  |_=>cases hd
 |str=>
  simp only[tmC,tnC,zx,Prod.mk.injEq]at h;obtain⟨rfl,rfl,_⟩:=h;refine⟨rfl,fun f d hd=> ?_⟩
  cases u with
  |str m=>cases hd;exact hr
  |ow id=>simp only[AP,B9]at hd;split at hd<;>cases hd
  |ar id lo m=>simp only[AP,B9]at hd;split at hd<;>cases hd
  |rf id r c=>simp only[AP,B9]at hd;split at hd<;>cases hd
  |cl g caps=>cases hd
  |_=>cases hd
 |err=>
  simp only[tmC,tnC,zx,Prod.mk.injEq]at h;obtain⟨rfl,rfl,_⟩:=h;refine⟨rfl,fun f d hd=> ?_⟩
  cases u with
  |er m=>cases hd;exact hr
  |ow id=>simp only[AP,B9]at hd;split at hd<;>cases hd
  |ar id lo m=>simp only[AP,B9]at hd;split at hd<;>cases hd
  |rf id r c=>simp only[AP,B9]at hd;split at hd<;>cases hd
  |cl g caps=>cases hd
  |_=>cases hd
end
theorem Vu{c:AC}{st:TSt}{x:Bb [.slot 0 (.cell c)]}{a:V}(hc:c.isU=false)(h:CP 0 [.slot 0 (.cell c)] st=some x)(hr:RV2 st.hp (AW st.tm 0) a)(ha:Ab a=[]):
  ∃d,x=Dv (.slot 0 (.cell c)) [] d ()/\E8 c d a:=by
 unfold CP at h
 split at h
 case isFalse=>cases h
 simp only[EE,BH,tmS,tnS,tnV]at h;cases h1:tnC (tmC [] c) (AW st.tm 0) st.hp (16*st.c)with
 |none=>rw[h1]at h;cases h
 |some z=>
  obtain⟨v,hp1,n⟩:=z;rw[h1]at h;simp only at h
  split at h
  case h_2=>cases h
  rename_i st1 hle
  split at hle
  case isFalse=>cases hle
  cases hle
  obtain⟨rfl,h2⟩:=Ig hc h1 hr ha
  split at h
  case h_2=>cases h
  rename_i st2 hst2;unfold GR at hst2
  split at hst2
  case isFalse=>cases hst2
  split at hst2
  case h_2=>cases hst2
  rename_i o ho
  split at hst2
  case isFalse=>cases hst2
  have hst2:=zv hst2;subst hst2;simp only[Cu,zb0,List.map_nil,AW,Nat.beq_refl,cond_true]at h;cases hhp:Ca st.hp (Bs o) 0 o with
  |cons y l=>rw[hhp]at h;simp only[rdI,Nat.beq_refl,if_true]at h;split at h<;>cases h
  |nil=>
   rw[hhp]at h;simp only[rdI,Nat.beq_refl,if_true,rdS]at h
   split at h
   ·rename_i d hd;exact⟨d,(zv h).symm,h2 _ _ hd⟩
   ·cases h
theorem Vs{c c':AC}{st:TSt}{x:Bb [.slot 0 (.cell c),.slot 1 (.cell c')]}{a a':V}(hc:c.isU=false)(hc':c'.isU=false)(h:CP 0 [.slot 0 (.cell c),.slot 1 (.cell c')] st=some x)
  (hr:RV2 st.hp (AW st.tm 0) a) (hr':RV2 st.hp (AW st.tm 1) a') (ha:Ab a=[]) (ha':Ab a'=[]):
  ∃d d',x=Dv (.slot 0 (.cell c)) [.slot 1 (.cell c')] d (Dv (.slot 1 (.cell c')) [] d' ())/\E8 c d a/\E8 c' d' a':=by
 unfold CP at h
 split at h
 case isFalse=>cases h
 simp only[EE,BH,tmS,tnS,tnV]at h;cases h1:tnC (tmC [] c) (AW st.tm 0) st.hp (16*st.c)with
 |none=>rw[h1]at h;cases h
 |some z=>
  obtain⟨v,hp1,n⟩:=z;rw[h1]at h;simp only at h;obtain⟨rfl,h2⟩:=Ig hc h1 hr ha
  split at h
  case h_2=>cases h
  rename_i st1 hle
  split at hle
  case isFalse=>cases hle
  have hg:AW ((0,v)::st.tm) 1=AW st.tm 1:=rfl;rw[hg]at hle;cases h3:tnC (tmC [] c') (AW st.tm 1) st.hp (16*(st.c+1))with
  |none=>rw[h3]at hle;cases hle
  |some z=>
   obtain⟨v',hp2,n'⟩:=z;rw[h3]at hle;simp only at hle;obtain⟨rfl,h4⟩:=Ig hc' h3 hr' ha'
   split at hle
   case isFalse=>cases hle
   cases hle
   split at h
   case h_2=>cases h
   rename_i st2 hst2;unfold GR at hst2
   split at hst2
   case isFalse=>cases hst2
   split at hst2
   case h_2=>cases hst2
   rename_i o ho
   split at hst2
   case isFalse=>cases hst2
   have hst2:=zv hst2;subst hst2;have g0:AW ((1,v')::(0,v)::st.tm) 0=v:=rfl;have g1:AW ((1,v')::(0,v)::st.tm) 1=v':=rfl;simp only[Cu,zb0,List.map_nil,g0,g1]at h;cases hhp:Ca st.hp (Bs o) 0 o with
   |cons y l=>
    rw[hhp]at h;cases e1:rdS (.cell c) (AP (Bs o) v)with
    |none=>simp[rdI,e1]at h
    |some d=>cases e2:rdS (.cell c') (AP (Bs o) v')with
     |none=>simp[rdI,e1,e2]at h
     |some d'=>simp[rdI,e1,e2]at h
   |nil=>
    rw[hhp]at h;cases e1:rdS (.cell c) (AP (Bs o) v)with
    |none=>simp[rdI,e1]at h
    |some d=>cases e2:rdS (.cell c') (AP (Bs o) v')with
     |none=>simp[rdI,e1,e2]at h
     |some d'=>
      simp only[rdI,e1,e2,Nat.beq_refl,if_true,zx]at h;exact⟨d,d',h.symm,h2 _ _ e1,h4 _ _ e2⟩
section
variable {P:Program} {J:Da} {cf:Cfg} {ext:Rel}
theorem H2{args:List V}(h:(args.flatMap Ab).eraseDups.length=0):∀v∈args,Ab v=[]:=by
 have h0:args.flatMap Ab=[]:=by
  cases hr:args.flatMap Ab with
  |nil=>rfl
  |cons i l=>rw[hr]at h;simp[List.eraseDups_cons]at h
 intro v hv;rw[List.flatMap_eq_nil_iff]at h0;exact h0 v hv
theorem Q0{g:FuncId}{c:AC}{res:List Item}{F:Bb [.slot 0 (.cell c)]->Option (Bb res)}(hc:c.isU=false)
  (h:∀d y a,E8 c d a->F (Dv (.slot 0 (.cell c)) [] d ())=some y->∃r blks',ext g [a] [] r blks'/\ResRel res y r blks'):
  Cg (DC P cf ext) ⟨⟨g,0,[.slot 0 (.cell c)],res,[],[],[]⟩,F⟩:=by
 intro x y args blks st hF hs hd hid hlen href hb0
 match args,hlen with
 |[a],_=>
  have hb:blks=[]:=hb0 rfl;subst hb;have hn:=H2 href;have h0:RV2 st.hp (AW st.tm 0) a:=hs.tm 0;obtain⟨d,rfl,hA⟩:=Vu hc hd h0 (hn a (by simp));obtain⟨r,blks',h1,h2⟩:=h d y a hA hF;exact⟨r,blks',DC.ext h1,h2⟩
theorem SE{g:FuncId}{c c':AC}{res:List Item}{F:Bb [.slot 0 (.cell c),.slot 1 (.cell c')]->Option (Bb res)}(hc:c.isU=false)(hc':c'.isU=false)
  (h:∀d d' y a a',E8 c d a->E8 c' d' a'->F (Dv (.slot 0 (.cell c)) [.slot 1 (.cell c')] d (Dv (.slot 1 (.cell c')) [] d' ()))=some y->∃r blks',ext g [a,a'] [] r blks'/\ResRel res y r blks'):
  Cg (DC P cf ext) ⟨⟨g,0,[.slot 0 (.cell c),.slot 1 (.cell c')],res,[],[],[]⟩,F⟩:=by
 intro x y args blks st hF hs hd hid hlen href hb0
 match args,hlen with
 |[a,a'],_=>
  have hb:blks=[]:=hb0 rfl;subst hb;have hn:=H2 href;have h0:RV2 st.hp (AW st.tm 0) a:=hs.tm 0;have h1:RV2 st.hp (AW st.tm 1) a':=hs.tm 1;obtain⟨d,d',rfl,hA,hA'⟩:=Vs hc hc' hd h0 h1 (hn a (by simp)) (hn a' (by simp));obtain⟨r,blks',h1,h2⟩:=h d d' y a a' hA hA' hF;exact⟨r,blks',DC.ext h1,h2⟩
def OV(P:Program)(g:FuncId):Prop:=∃fn,P.funcs[g]? =some fn/\G7 fn=true/\fn.body.isSome=true
theorem NY{E:Env}{b:Nat}:¬Own E (lkB []) b:=fun⟨id,k,hk,_⟩=>by simp[lkB]at hk
theorem P2{w w':World}{A:Nat->Prop}{E:Env}(hI:HpInv w (Own E (lkB [])) A E A (lkB []) w)(h:Below w.heap.size w w'):HpInv w (Own E (lkB [])) A E A (lkB []) w':=by
 refine⟨⟨h.os,h.tape,h.output,h.size,fun b hb _=>h.block b hb,fun b cur ty fz hb=>⟨cur,fz,?_,rfl⟩⟩,fun b hb=> ?_,fun b _=>NY,fun b hb=>absurd hb NY,fun id k id' k' hk=>by simp[lkB]at hk,fun id k b hk=>by simp[lkB]at hk,fun id k hk=>by simp[lkB]at hk⟩
 ·rw[h.block b (zc7.1 hb).1];exact hb
 ·have h1:=hI.g1 b hb;have:=h.size;exact⟨by omega,h1.2⟩
theorem FW{g:FuncId}{args:List V}{r:V}(hent:OV P g)
  (h:∀(w:World)(A:Nat->Prop)(E:Env)(vals:List Value),(∀x∈J,w.heap[x.1]? =some x.2)->(∀b,A b->b<w.heap.size)->VL (VR1 w E (lkB []) A) args vals->
   Calls P g vals.toArray w fun e w'=>∃y,e=.returned y/\Below w.heap.size w w'/\VR2 w' E (lkB []) A r y):CSpec P J g args [] r []:=by
 refine⟨hent,fun _ w A E vals hT hI hvl=> ?_⟩
 refine(show Calls P g vals w _ from(h w A E vals.toList (fun x hx=>(hT x hx).1) (fun b hb=>(hI.g1 b hb).1) hvl)).mono ?_
 rintro e w' ⟨y,rfl,hb,hv⟩;exact⟨y,E,A,rfl,P2 hI hb,hv,fun j _ k' hk=>by simp at hk⟩
end
end
section
open Go Go.RowKit
section
variable {P:Program} {J:Da} {cf:Cfg} {ext:Rel} {g:FuncId}
def Uu(P:Program)(J:Da)(name:String)(k:IntKind)(zs:List Int):Prop:=∀w:World,(∀x∈J,w.heap[x.1]? =some x.2)->Lib.TabIs P w name k zs
theorem Ve{w:World}{E:Env}{A:Nat->Prop}{x:Value}{ys:List Value}(h:VL (VR1 w E (lkB []) A) [.v x] ys):ys=[x]:=by
 match ys,h with
 |[y],h=>
  have h1:Rep w A (.v x) y:=h.1;cases h1
  rfl
 |[],h=>exact h.elim
 |_::_::_,h=>exact h.2.elim
theorem UW{w:World}{E:Env}{A:Nat->Prop}{x x':Value}{ys:List Value}(h:VL (VR1 w E (lkB []) A) [.v x,.v x'] ys):ys=[x,x']:=by
 match ys,h with
 |[y,z],h=>
  have h1:Rep w A (.v x) y:=h.1;have h2:Rep w A (.v x') z:=h.2.1;cases h1
  cases h2
  rfl
 |[],h=>exact h.elim
 |[_],h=>exact h.2.elim
 |_::_::_::_,h=>exact h.2.2.elim
def KA(n:Int):Option Str:=if-9223372036854775808<=n/\n<=9223372036854775807 then some (Lib.itoa n)else none
def Mk(g:FuncId):Rel:=fun g' args blks r blks'=>g'=g/\∃n:Int,-9223372036854775808<=n/\n<=9223372036854775807/\args=[.v (.int .i64 n)]/\blks=[]/\r=.v (.string ⟨(Lib.itoa n).toArray⟩)/\blks'=[]
def UX(g:FuncId):FAnn:=⟨g,0,[.slot 0 (.cell (.int .i64))],[.slot 0 (.cell .str)],[],[],[]⟩
theorem P4(hent:OV P g)(hc:∀(n:Int) (h0: -9223372036854775808<=n) (h1:n<=9223372036854775807) (w:World) (htab:Lib.TabIs P w "internal/strconv.uint64pow10" .u64 Lib.pow10Tab),
  Calls P g #[.int .i64 n] w fun e w'=>e=.returned (.string ⟨(Lib.itoa n).toArray⟩)/\∃k os,w'=Sort.grow (w.drewN k) os)(hJ:Uu P J "internal/strconv.uint64pow10" .u64 Lib.pow10Tab):
  ∀g' args blks r blks',Mk g g' args blks r blks'->CSpec P J g' args blks r blks':=by
 rintro g' args blks r blks' ⟨rfl,n,h0,h1,rfl,rfl,rfl,rfl⟩;refine FW hent fun w A E vals hT hA hvl=> ?_
 rw[Ve hvl];refine(hc n h0 h1 w (hJ w hT)).mono ?_
 rintro e w' ⟨rfl,k,os,rfl⟩;exact⟨_,rfl,Lib.below_grow _ w (zb6 _) k os,.v _ rfl⟩
theorem Sz(hx:∀g' args blks r blks',Mk g g' args blks r blks'->ext g' args blks r blks'):Cg (DC P cf ext) ⟨UX g,KA⟩:=by
 refine Q0 rfl fun d y a ha hF=> ?_
 have hF:KA d=some y:=hF;unfold KA at hF
 split at hF
 ·rename_i h;cases hF
  have ha:a=.v (.int .i64 d):=ha;exact⟨_,[],hx _ _ _ _ _ ⟨rfl,d,h.1,h.2,by rw[ha],rfl,rfl,rfl⟩,rfl,fun id b hb=>by simp[AG,An]at hb,rfl⟩
 ·cases hF
def Jt(s p:Str):Option (Str×Bool):=some (Lib.trimPrefix s p,Lib.hasPrefix s p)
def LW(g:FuncId):Rel:=fun g' args blks r blks'=>g'=g/\∃s p:Str,args=[.v (.string ⟨s.toArray⟩),.v (.string ⟨p.toArray⟩)]/\blks=[]/\r=.tup [.v (.string ⟨(Lib.trimPrefix s p).toArray⟩),.v (.bool (Lib.hasPrefix s p))]/\blks'=[]
def UZ(g:FuncId):FAnn:=⟨g,0,[.slot 0 (.cell .str),.slot 1 (.cell .str)],[.slot 0 (.cell .str),.slot 1 (.cell .bool)],[],[],[]⟩
theorem P5(hent:OV P g)(hc:∀(s p:ByteArray) (w:World),Calls P g #[.string s,.string p] w fun e w'=>e=.returned (.tuple #[.string ⟨(Lib.trimPrefix s.data.toList p.data.toList).toArray⟩,.bool (Lib.hasPrefix s.data.toList p.data.toList)])/\w'=w):
  ∀g' args blks r blks',LW g g' args blks r blks'->CSpec P J g' args blks r blks':=by
 rintro g' args blks r blks' ⟨rfl,s,p,rfl,rfl,rfl,rfl⟩;refine FW hent fun w A E vals hT hA hvl=> ?_
 rw[UW hvl];refine(hc ⟨s.toArray⟩ ⟨p.toArray⟩ w).mono ?_
 rintro e w' ⟨rfl,rfl⟩;exact⟨_,rfl,Below.refl _ _,_,rfl,.v _ rfl,.v _ rfl,trivial⟩
theorem Rw(hx:∀g' args blks r blks',LW g g' args blks r blks'->ext g' args blks r blks'):Cg (DC P cf ext) ⟨UZ g,fun x=>Jt x.1 x.2⟩:=by
 refine SE rfl rfl fun d d' y a a' ha ha' hF=> ?_
 have hF:Jt d d'=some y:=hF;cases hF
 have ha:a=.v (.string ⟨(show Str from d).toArray⟩):=ha;have ha':a'=.v (.string ⟨(show Str from d').toArray⟩):=ha';exact⟨_,[],hx _ _ _ _ _ ⟨rfl,d,d',by rw[ha,ha'],rfl,rfl,rfl⟩,⟨_,rfl,rfl,rfl,trivial⟩,fun id b hb=>by simp[AG,An]at hb,rfl⟩
end
end
end Go.Proofs.YtiijheppiboglaaDoor.Ev
namespace Go.Proofs
section
open Go.Shelf
def Tryd.lays169_ren:Go.Shelf.Ren:=⟨fun|169=>35|n=>n,fun|70=>58|9=>9|0=>0|72=>60|37=>34|127=>96|3=>3|5=>5|n=>n,fun|n=>n⟩
theorem Tryd.lays169:Go.Proofs.Lays.n169 Tryd.prog Tryd.lays169_ren:={
 mixed:=by kernel_rfl
 f169:=Tryd.func35.trans (congrArg some (by kernel_rfl))
 t0:=Tryd.underlying0
 a0:=Tryd.isAgg0
 z0:=Tryd.sizeOf0
 v0:=Tryd.zeroValue0
 t3:=Tryd.underlying3
 a3:=Tryd.isAgg3
 z3:=Tryd.sizeOf3
 v3:=Tryd.zeroValue3
 t9:=Tryd.underlying9
 a9:=Tryd.isAgg9
 z9:=Tryd.sizeOf9
 v9:=Tryd.zeroValue9
 t37:=Tryd.underlying34
 a37:=Tryd.isAgg34
 z37:=Tryd.sizeOf34
 v37:=Tryd.zeroValue34
 t70:=Tryd.underlying58
 a70:=Tryd.isAgg58
 z70:=Tryd.sizeOf58
 v70:=Tryd.zeroValue58
 t72:=Tryd.underlying60
 a72:=Tryd.isAgg60
 z72:=Tryd.sizeOf60
 v72:=Tryd.zeroValue60
 t127:=Tryd.underlying96
 a127:=Tryd.isAgg96
 z127:=Tryd.sizeOf96
 v127:=Tryd.zeroValue96}
theorem Tryd.Builder_Extra_169:Builder.Extra Tryd.prog Tryd.lays169_ren:={
 sizeBuilder:=by kernel_rfl
 liesBuilder:=by kernel_rfl
 t5:=Tryd.underlying5
 a5:=Tryd.isAgg5
 z5:=Tryd.sizeOf5
 v5:=Tryd.zeroValue5
 infoByte:=by kernel_rfl
 cellsByte:=by kernel_rfl
 sizeByte:=by kernel_rfl
 neB5:=by decide}
open Go.RowKit in
theorem Tryd.Builder_String_any (B b : Nat) (l : List UInt8) (w : World) (h : Lib.IsBuilder 60 5 B b (Lib.byteCells l) w) (hBw : B <= w.heap.size) :
  Calls Tryd.prog 35 #[.pointer (some ⟨b, 0, none⟩)] w fun e w' => e = .returned (.string ⟨l.toArray⟩) /\ Below B w w' := Any.Builder_String_any Tryd.lays169 Tryd.Builder_Extra_169 B b l w h hBw
def Tryd.lays103_ren:Go.Shelf.Ren:=⟨fun|103=>40|210=>58|206=>70|n=>n,fun|9=>9|4=>4|24=>29|3=>3|n=>n,fun|n=>n⟩
theorem Tryd.lays103:Go.Proofs.Lays.n103 Tryd.prog Tryd.lays103_ren:={
 mixed:=by kernel_rfl
 f103:=Tryd.func40.trans (congrArg some (by kernel_rfl))
 f206:=Tryd.func70.trans (congrArg some (by kernel_rfl))
 f210:=Tryd.func58.trans (congrArg some (by kernel_rfl))
 t3:=Tryd.underlying3
 a3:=Tryd.isAgg3
 z3:=Tryd.sizeOf3
 v3:=Tryd.zeroValue3
 t4:=Tryd.underlying4
 a4:=Tryd.isAgg4
 z4:=Tryd.sizeOf4
 v4:=Tryd.zeroValue4
 t9:=Tryd.underlying9
 a9:=Tryd.isAgg9
 z9:=Tryd.sizeOf9
 v9:=Tryd.zeroValue9
 t24:=Tryd.underlying29
 a24:=Tryd.isAgg29
 z24:=Tryd.sizeOf29
 v24:=Tryd.zeroValue29}
open Go.RowKit in
theorem Tryd.strings_CutPrefix (s p : ByteArray) (w : World) :
  Calls Tryd.prog 40 #[.string s, .string p] w fun e w' => e = .returned (.tuple #[.string ⟨(Lib.trimPrefix s.data.toList p.data.toList).toArray⟩, .bool (Lib.hasPrefix s.data.toList p.data.toList)]) /\ w' = w := Any.strings_CutPrefix Tryd.lays103 s p w
def Tryd.laysM171_ren:Go.Shelf.Ren:=⟨fun|171=>56|243=>69|246=>78|283=>86|284=>87|285=>88|286=>89|129=>98|317=>97|318=>99|319=>100|320=>101|337=>105|338=>106|n=>n,fun|3=>3|9=>9|2=>2|4=>4|171=>112|0=>0|53=>69|37=>34|5=>5|173=>115|212=>131|51=>121|20=>20|213=>132|46=>105|232=>145|233=>146|n=>n,fun|17=>3|18=>6|19=>7|n=>n⟩
theorem Tryd.laysM171:Go.Proofs.LaysM.n171 Tryd.prog Tryd.laysM171_ren:={
 mixed:=by kernel_rfl
 f129:=Tryd.func98.trans (congrArg some (by kernel_rfl))
 f171:=Tryd.func56.trans (congrArg some (by kernel_rfl))
 f243:=Tryd.func69.trans (congrArg some (by kernel_rfl))
 f246:=Tryd.func78.trans (congrArg some (by kernel_rfl))
 f283:=Tryd.func86.trans (congrArg some (by kernel_rfl))
 f284:=Tryd.func87.trans (congrArg some (by kernel_rfl))
 f285:=Tryd.func88.trans (congrArg some (by kernel_rfl))
 f286:=Tryd.func89.trans (congrArg some (by kernel_rfl))
 f317:=Tryd.func97.trans (congrArg some (by kernel_rfl))
 f318:=Tryd.func99.trans (congrArg some (by kernel_rfl))
 f319:=Tryd.func100.trans (congrArg some (by kernel_rfl))
 f320:=Tryd.func101.trans (congrArg some (by kernel_rfl))
 f337:=Tryd.func105.trans (congrArg some (by kernel_rfl))
 f338:=Tryd.func106.trans (congrArg some (by kernel_rfl))
 t0:=Tryd.underlying0
 a0:=Tryd.isAgg0
 z0:=Tryd.sizeOf0
 v0:=Tryd.zeroValue0
 t2:=Tryd.underlying2
 a2:=Tryd.isAgg2
 z2:=Tryd.sizeOf2
 v2:=Tryd.zeroValue2
 t3:=Tryd.underlying3
 a3:=Tryd.isAgg3
 z3:=Tryd.sizeOf3
 v3:=Tryd.zeroValue3
 t4:=Tryd.underlying4
 a4:=Tryd.isAgg4
 z4:=Tryd.sizeOf4
 v4:=Tryd.zeroValue4
 t5:=Tryd.underlying5
 a5:=Tryd.isAgg5
 z5:=Tryd.sizeOf5
 v5:=Tryd.zeroValue5
 t9:=Tryd.underlying9
 a9:=Tryd.isAgg9
 z9:=Tryd.sizeOf9
 v9:=Tryd.zeroValue9
 t20:=Tryd.underlying20
 a20:=Tryd.isAgg20
 z20:=Tryd.sizeOf20
 v20:=Tryd.zeroValue20
 t37:=Tryd.underlying34
 a37:=Tryd.isAgg34
 z37:=Tryd.sizeOf34
 v37:=Tryd.zeroValue34
 t46:=Tryd.underlying105
 a46:=Tryd.isAgg105
 z46:=Tryd.sizeOf105
 v46:=Tryd.zeroValue105
 t51:=Tryd.underlying121
 a51:=Tryd.isAgg121
 z51:=Tryd.sizeOf121
 v51:=Tryd.zeroValue121
 t53:=Tryd.underlying69
 a53:=Tryd.isAgg69
 z53:=Tryd.sizeOf69
 v53:=Tryd.zeroValue69
 t171:=Tryd.underlying112
 a171:=Tryd.isAgg112
 z171:=Tryd.sizeOf112
 v171:=Tryd.zeroValue112
 t173:=Tryd.underlying115
 a173:=Tryd.isAgg115
 z173:=Tryd.sizeOf115
 v173:=Tryd.zeroValue115
 t212:=Tryd.underlying131
 a212:=Tryd.isAgg131
 z212:=Tryd.sizeOf131
 v212:=Tryd.zeroValue131
 t213:=Tryd.underlying132
 a213:=Tryd.isAgg132
 z213:=Tryd.sizeOf132
 t232:=Tryd.underlying145
 a232:=Tryd.isAgg145
 z232:=Tryd.sizeOf145
 v232:=Tryd.zeroValue145
 t233:=Tryd.underlying146
 a233:=Tryd.isAgg146
 z233:=Tryd.sizeOf146
 v233:=Tryd.zeroValue146
 g17:=by kernel_rfl
 g18:=by kernel_rfl
 g19:=by kernel_rfl
 i0:=by kernel_rfl
 i2:=by kernel_rfl
 i3:=by kernel_rfl
 i4:=by kernel_rfl
 i5:=by kernel_rfl
 i9:=by kernel_rfl
 i20:=by kernel_rfl
 i37:=by kernel_rfl
 i46:=by kernel_rfl
 i51:=by kernel_rfl
 i53:=by kernel_rfl
 i171:=by kernel_rfl
 i173:=by kernel_rfl
 i212:=by kernel_rfl
 i232:=by kernel_rfl
 i233:=by kernel_rfl
 m17:=by kernel_rfl
 m18:=by kernel_rfl
 m19:=by kernel_rfl}
open Go.RowKit Go.Sort Go.Lib in
theorem Tryd.strconv_Itoa (n : Int) (h0 : -9223372036854775808 <= n) (h1 : n <= 9223372036854775807) (w : World) (htab : Lib.TabIs Tryd.prog w "internal/strconv.uint64pow10" .u64 Lib.pow10Tab) :
  Calls Tryd.prog 56 #[.int .i64 n] w fun e w' => e = .returned (.string ⟨(Lib.itoa n).toArray⟩) /\ ∃ k os, w' = grow (w.drewN k) os := Any.strconv_Itoa Tryd.laysM171 n h0 h1 w htab
end
end Go.Proofs
namespace Go.Proofs.YtiijheppiboglaaDoor.Ev
section
open Go Go.RowKit
def Bu:Nat->List AC->List Item
 |_,[]=>[]
 |i,c::l=>.slot i (.cell c)::Bu (i+1) l
def Q2:(l:List AC)->(i:Nat)->Bb (Bu i l)->List V->Prop
 |[],_,_,[]=>True
 |c::l,i,d,x::xs=>E8 c (hdI (.slot i (.cell c)) (Bu (i+1) l) d) x/\Q2 l (i+1) (tlI (.slot i (.cell c)) (Bu (i+1) l) d) xs
 |_,_,_,_=>False
theorem Up{c:AC}{d:c.den}{a:V}(hp:THp)(h:E8 c d a):RV2 hp (QB c d) a:=by
 cases c with
 |int k=>exact h
 |bool=>exact h
 |str=>exact h
 |err=>exact h
 |im t=>exact h
 | «at» j=>exact h.elim
theorem NH{c:AC}{d:c.den}{a:V}(h:E8 c d a):Ab a=[]:=by
 cases c with
 |int k=>have h:a=_:=h;rw[h];rfl
 |bool=>have h:a=_:=h;rw[h];rfl
 |str=>have h:a=_:=h;rw[h];rfl
 |err=>have h:a=_:=h;rw[h];rfl
 |im t=>
  rcases h with⟨_,rfl⟩|⟨rows,rfl,_⟩
  ·rfl
  ·rfl
 | «at» j=>exact h.elim
theorem MB:∀(l:List AC)(i:Nat)(d:Bb (Bu i l)){xs:List V},Q2 l i d xs->(∀k,(AG k (Bu i l) d).2=[])/\(∀k hp,RT hp (AG k (Bu i l) d).1 (lk .any (I2 i xs)))/\xs.flatMap Ab=[]/\xs.length=(Cu (Bu i l)).length
 |[],i,d,[],_=>⟨fun _=>rfl,fun k hp t=>trivial,rfl,rfl⟩
 |c::l,i,d,x::xs,h=>by
  obtain⟨h1,h2⟩:=h;obtain⟨k1,k2,k3,k4⟩:=MB l (i+1) _ h2;refine⟨fun k=> ?_,fun k hp=> ?_,?_,?_⟩
  ·simp only[Bu,AG];exact k1 k
  ·simp only[Bu,AG];intro t;show RV2 hp (AW ((i,Ng (.cell c) _)::_) t) (if t=i then x else lk .any (I2 (i+1) xs) t);rw[Cq]
   split
   ·exact Up hp h1
   ·exact k2 k hp t
  ·rw[za7,NH h1,k3];rfl
  ·simp only[Bu,Cu,zc8,k4]
 |[],_,_,_::_,h=>h.elim
 |_::_,_,_,[],h=>h.elim
theorem Js{R:Rel}{g:FuncId}{cs:List AC}{res:List Item}{heads joins:List (Nat×List Item)}{outs:List (Nat×List (Ex×List Item))}{F:Bb (Bu 0 cs)->Option (Bb res)}
  (hE:Cg R ⟨⟨g,0,Bu 0 cs,res,heads,outs,joins⟩,F⟩) {d:Bb (Bu 0 cs)} {y:Bb res} {xs:List V} (hD:CP 0 (Bu 0 cs) (Dw (Bu 0 cs) d)=some d) (hA:Q2 cs 0 d xs) (hF:F d=some y):
  ∃r blks',R g xs [] r blks'/\ResRel res y r blks'/\xs.flatMap Ab=[]:=by
 obtain⟨k1,k2,k3,k4⟩:=MB cs 0 d hA;obtain⟨r,blks',q1,q2⟩:=hE d y xs [] (Dw (Bu 0 cs) d) hF ⟨k2 0 _,(fun id b hb=>by
  rw[show(Dw (Bu 0 cs) d).hp=(AG 0 (Bu 0 cs) d).2 from rfl,k1]at hb;exact absurd hb (by simp[An])),rfl⟩ hD (by unfold DQ;rw[k3];rfl) k4 (by rw[k3];rfl) (fun _=>rfl)
 exact⟨r,blks',q1,q2,k3⟩
section
variable {P:Program} {J:Da}
theorem Fc{g:FuncId}{xs:List V}{x:Value}(hs:CSpec P J g xs [] (.v x) [])(hx:xs.flatMap Ab=[]){w W:World}(hJ:∀x∈J,w.heap[x.1]? =some x.2)(hb:Below w.heap.size w W){A:Nat->Prop}(hA:∀b,A b->b<w.heap.size){vals:List Value}
  (hv:VL (Rep w A) xs vals):Calls P g vals.toArray W fun e w'=>e=.returned x/\Below W.heap.size W w':=by
 have hno:∀E b,¬Own E (lkB []) b:=fun E b ⟨id,k,hk,_⟩=>by simp[lkB]at hk
 have hsz:=hb.size;have hI:HpInv W (Own ⟨fun _=>none,fun _ _=>False⟩ (lkB [])) A ⟨fun _=>none,fun _ _=>False⟩ A (lkB []) W:=
  ⟨Fr.refl _ W,fun b hb=>⟨by have:=hA b hb;omega,.inl hb⟩,fun b _=>hno _ b,fun b h=>absurd h (hno _ b),fun id k id' k' hk=>by simp[lkB]at hk,fun id k b hk=>by simp[lkB]at hk,fun id k hk=>by simp[lkB]at hk⟩
 refine(hs.calls (by unfold DQ;rw[hx];rfl) W A ⟨fun _=>none,fun _ _=>False⟩ vals.toArray (fun x hx=>⟨by
  have h1:=hJ x hx;rw[hb.block _ (zc7.1 h1).1];exact h1,hno _ _⟩) hI (hv.mono fun x _ y hx=>by
  have hx:=hx.same (w':=W) (G':=A) (fun b hb'=>hb.block b (hA b hb')) (fun _ h=>h);cases hx with
  |v _ hs=>exact .v _ hs
  |em a=>exact .em a
  |er0=>exact .er0
  |er1 t x=>exact .er1 t x
  |im0 a cap=>exact .im0 a cap
  |im b off cap size rows f h1 h2 h3 h4 h5 h6 h7=>exact .im b off cap size rows f h1 h2 h3 h4 h5 h6 h7)).mono ?_
 rintro e w' ⟨y,E',G',rfl,hI',hy,_⟩;have hyt:y=x:=(CI hy).1;subst hyt;exact⟨rfl,hI'.fr.os,hI'.fr.tape,hI'.fr.output,hI'.fr.size,fun b hb=>hI'.fr.block b hb (hno _ b)⟩
end
theorem VD{c c' c'':AC}{st:TSt}{x:Bb [.slot 0 (.cell c),.slot 1 (.cell c'),.slot 2 (.cell c'')]}{a a' a'':V}(hc:c.isU=false)(hc':c'.isU=false)(hc'':c''.isU=false)(h:CP 0 [.slot 0 (.cell c),.slot 1 (.cell c'),.slot 2 (.cell c'')] st=some x)
  (hr:RV2 st.hp (AW st.tm 0) a) (hr':RV2 st.hp (AW st.tm 1) a') (hr'':RV2 st.hp (AW st.tm 2) a'') (ha:Ab a=[]) (ha':Ab a'=[]) (ha'':Ab a''=[]):
  ∃d d' d'',x=Dv (.slot 0 (.cell c)) [.slot 1 (.cell c'),.slot 2 (.cell c'')] d (Dv (.slot 1 (.cell c')) [.slot 2 (.cell c'')] d' (Dv (.slot 2 (.cell c'')) [] d'' ()))/\E8 c d a/\E8 c' d' a'/\E8 c'' d'' a'':=by
 unfold CP at h
 split at h
 case isFalse=>cases h
 simp only[EE,BH,tmS,tnS,tnV]at h;cases h1:tnC (tmC [] c) (AW st.tm 0) st.hp (16*st.c)with
 |none=>rw[h1]at h;cases h
 |some z=>
  obtain⟨v,hp1,n⟩:=z;rw[h1]at h;simp only at h;obtain⟨rfl,h2⟩:=Ig hc h1 hr ha
  split at h
  case h_2=>cases h
  rename_i st1 hle
  split at hle
  case isFalse=>cases hle
  have hg:AW ((0,v)::st.tm) 1=AW st.tm 1:=rfl;rw[hg]at hle;cases h3:tnC (tmC [] c') (AW st.tm 1) st.hp (16*(st.c+1))with
  |none=>rw[h3]at hle;cases hle
  |some z=>
   obtain⟨v',hp2,n'⟩:=z;rw[h3]at hle;simp only at hle;obtain⟨rfl,h4⟩:=Ig hc' h3 hr' ha'
   split at hle
   case isFalse=>cases hle
   have hg2:AW ((1,v')::(0,v)::st.tm) 2=AW st.tm 2:=rfl;rw[hg2]at hle;cases h5:tnC (tmC [] c'') (AW st.tm 2) st.hp (16*(st.c+1+1))with
   |none=>rw[h5]at hle;cases hle
   |some z=>
    obtain⟨v'',hp3,n''⟩:=z;rw[h5]at hle;simp only at hle;obtain⟨rfl,h6⟩:=Ig hc'' h5 hr'' ha''
    split at hle
    case isFalse=>cases hle
    cases hle
    split at h
    case h_2=>cases h
    rename_i st2 hst2;unfold GR at hst2
    split at hst2
    case isFalse=>cases hst2
    split at hst2
    case h_2=>cases hst2
    rename_i o ho
    split at hst2
    case isFalse=>cases hst2
    have hst2:=zv hst2;subst hst2;have g0:AW ((2,v'')::(1,v')::(0,v)::st.tm) 0=v:=rfl;have g1:AW ((2,v'')::(1,v')::(0,v)::st.tm) 1=v':=rfl;have g2:AW ((2,v'')::(1,v')::(0,v)::st.tm) 2=v'':=rfl;simp only[Cu,zb0,List.map_nil,g0,g1,g2]at h;cases e1:rdS (.cell c) (AP (Bs o) v)with
    |none=>cases hhp:Ca st.hp (Bs o) 0 o<;>(rw[hhp]at h;simp[rdI,e1]at h)
    |some d=>cases e2:rdS (.cell c') (AP (Bs o) v')with
     |none=>cases hhp:Ca st.hp (Bs o) 0 o<;>(rw[hhp]at h;simp[rdI,e1,e2]at h)
     |some d'=>cases e3:rdS (.cell c'') (AP (Bs o) v'')with
      |none=>cases hhp:Ca st.hp (Bs o) 0 o<;>(rw[hhp]at h;simp[rdI,e1,e2,e3]at h)
      |some d''=>
       cases hhp:Ca st.hp (Bs o) 0 o with
       |cons y l=>rw[hhp]at h;simp[rdI,e1,e2,e3]at h
       |nil=>
        rw[hhp]at h;simp only[rdI,e1,e2,e3,Nat.beq_refl,if_true,zx]at h;exact⟨d,d',d'',h.symm,h2 _ _ e1,h4 _ _ e2,h6 _ _ e3⟩
theorem Ss{P:Program}{cf:Cfg}{ext:Rel}{g:FuncId}{c c' c'':AC}{res:List Item}{F:Bb [.slot 0 (.cell c),.slot 1 (.cell c'),.slot 2 (.cell c'')]->Option (Bb res)}(hc:c.isU=false)(hc':c'.isU=false)(hc'':c''.isU=false)
  (h:∀d d' d'' y a a' a'',E8 c d a->E8 c' d' a'->E8 c'' d'' a''->F (Dv (.slot 0 (.cell c)) [.slot 1 (.cell c'),.slot 2 (.cell c'')] d (Dv (.slot 1 (.cell c')) [.slot 2 (.cell c'')] d' (Dv (.slot 2 (.cell c'')) [] d'' ())))=some y->
   ∃r blks',ext g [a,a',a''] [] r blks'/\ResRel res y r blks'):
  Cg (DC P cf ext) ⟨⟨g,0,[.slot 0 (.cell c),.slot 1 (.cell c'),.slot 2 (.cell c'')],res,[],[],[]⟩,F⟩:=by
 intro x y args blks st hF hs hd hid hlen href hb0
 match args,hlen with
 |[a,a',a''],_=>
  have hb:blks=[]:=hb0 rfl;subst hb;have hn:=H2 href;have h0:RV2 st.hp (AW st.tm 0) a:=hs.tm 0;have h1:RV2 st.hp (AW st.tm 1) a':=hs.tm 1;have h2:RV2 st.hp (AW st.tm 2) a'':=hs.tm 2;obtain⟨d,d',d'',rfl,hA,hA',hA''⟩:=VD hc hc' hc'' hd h0 h1 h2 (hn a (by simp)) (hn a' (by simp)) (hn a'' (by simp));obtain⟨r,blks',h1,h2⟩:=h d d' d'' y a a' a'' hA hA' hA'' hF;exact⟨r,blks',DC.ext h1,h2⟩
def iv(n:Int):V:=.v (.int .i64 n)
def EM:V:=.tup [.v (.string ⟨#[]⟩),.v (.bool false)]
abbrev CS(P:Program)(K:Da->Prop)(g:FuncId)(xs:List V)(x:Value):Prop:=∀J,K J->CSpec P J g xs [] (.v x) []
def OJ(P:Program)(K:Da->Prop)(g gw ga gh:FuncId):Rel:=fun g' args blks r blks'=>g'=g/\blks=[]/\blks'=[]/\∃(a b:Int)(l:List Int)(x:V),E8 (.im (.int .i64)) l x/\args=[iv a,iv b,x]/\
 ∃c1,CS P K gw [iv a,iv 1,iv 10] (.bool c1)/\(c1=false/\r=EM\/c1=true/\∃c2,CS P K gw [iv b,iv 1,iv 10] (.bool c2)/\(c2=false/\r=EM\/c2=true/\
  (¬(l.length:Int)=zi zj (a*b)/\r=EM\/(l.length:Int)=zi zj (a*b)/\∃c3,CS P K ga [x] (.bool c3)/\(c3=false/\r=EM\/c3=true/\
   ∃s:Str,CS P K gh [iv a,iv b] (.string ⟨s.toArray⟩)/\s.length<=1000000/\l.length<=1000000/\r=.tup [.v (.string ⟨(s++AK (l.map (zi .u8))).toArray⟩),.v (.bool true)]))))
def Qu (fw:Int->Int->Int->Option Bool) (fa:List Int->Option Bool) (fh:Int->Int->Option (List UInt8)) (a b:Int) (l:List Int):Option (List UInt8×Bool):=
 (fw a 1 10).bind fun c1=>bif !c1 then some ([],false)else(fw b 1 10).bind fun c2=>bif !c2 then some ([],false)else if ¬(l.length:Int)=zi zj (a*b)then some ([],false)else
 (fa l).bind fun c3=>bif !c3 then some ([],false)else(fh a b).bind fun s=>if s.length<=1000000/\l.length<=1000000 then some (s++AK (l.map (zi .u8)),true)else none
theorem OS{fw:Int->Int->Int->Option Bool}{fa:List Int->Option Bool}{fh:Int->Int->Option (List UInt8)}{a b:Int}{l:List Int}{y:List UInt8×Bool}(hF:Qu fw fa fh a b l=some y):
  fw a 1 10=some false/\y=([],false)\/fw a 1 10=some true/\(fw b 1 10=some false/\y=([],false)\/fw b 1 10=some true/\(¬(l.length:Int)=zi zj (a*b)/\y=([],false)\/(l.length:Int)=zi zj (a*b)/\
   (fa l=some false/\y=([],false)\/fa l=some true/\∃s,fh a b=some s/\s.length<=1000000/\l.length<=1000000/\y=(s++AK (l.map (zi .u8)),true)))):=by
 unfold Qu at hF;cases e1:fw a 1 10 with
 |none=>rw[e1]at hF;cases hF
 |some c1=>
  rw[e1]at hF;cases c1 with
  |false=>exact .inl ⟨rfl,(zv hF).symm⟩
  |true=>
   refine .inr ⟨rfl,?_⟩
   simp only[za9,Bool.not_true,cond_false]at hF;cases e2:fw b 1 10 with
   |none=>rw[e2]at hF;cases hF
   |some c2=>
    rw[e2]at hF;cases c2 with
    |false=>exact .inl ⟨rfl,(zv hF).symm⟩
    |true=>
     refine .inr ⟨rfl,?_⟩
     simp only[za9,Bool.not_true,cond_false]at hF;by_cases hl:(l.length:Int)=zi zj (a*b)
     ·rw[zw (fun h=>h hl)]at hF;refine .inr ⟨hl,?_⟩
      cases e3:fa l with
      |none=>rw[e3]at hF;cases hF
      |some c3=>
       rw[e3]at hF;cases c3 with
       |false=>exact .inl ⟨rfl,(zv hF).symm⟩
       |true=>
        simp only[za9,Bool.not_true,cond_false]at hF;cases e4:fh a b with
        |none=>rw[e4]at hF;cases hF
        |some s=>
         rw[e4]at hF;simp only[za9]at hF;by_cases hs:s.length<=1000000/\l.length<=1000000
         ·rw[zr hs]at hF;exact .inr ⟨rfl,s,rfl,hs.1,hs.2,(zv hF).symm⟩
         ·rw[zw hs]at hF;cases hF
     ·rw[zr hl]at hF;exact .inl ⟨hl,(zv hF).symm⟩
abbrev rB:List Item:=[.slot 0 (.cell .bool)]
abbrev rS:List Item:=[.slot 0 (.cell .str)]
section
variable {P:Program} {K:Da->Prop} {cf:Cfg} {ext:Rel} {g gw ga gh:FuncId} {hw ha hh jw ja jh:List (Nat×List Item)} {ow oa oh:List (Nat×List (Ex×List Item))}
theorem R0(hm:P.follows .mixedOrders=true)(hext:∀J,K J->∀g args blks r blks',ext g args blks r blks'->CSpec P J g args blks r blks'){g:FuncId}{xs:List V}{x:Value}(h:DC P cf ext g xs [] (.v x) []):CS P K g xs x:=fun J hJ=>by
 obtain⟨k,h⟩:=h;exact H9 hm (hext J hJ) k _ _ _ _ _ h
theorem S8(fw:Int->Int->Int->Option Bool)(fa:List Int->Option Bool)(fh:Int->Int->Option (List UInt8))(hm:P.follows .mixedOrders=true)(hext:∀J,K J->∀g args blks r blks',ext g args blks r blks'->CSpec P J g args blks r blks')
  (Ew:Cg (DC P cf ext) ⟨⟨gw,0,Bu 0 [.int .i64,.int .i64,.int .i64],rB,hw,ow,jw⟩,fun(x:Int×Int×Int)=>fw x.1 x.2.1 x.2.2⟩)
  (Ea:Cg (DC P cf ext) ⟨⟨ga,0,Bu 0 [.im (.int .i64)],rB,ha,oa,ja⟩,fun(x:List Int)=>fa x⟩)
  (Eh:Cg (DC P cf ext) ⟨⟨gh,0,Bu 0 [.int .i64,.int .i64],rS,hh,oh,jh⟩,fun(x:Int×Int)=>fh x.1 x.2⟩)
  (hx:∀g' args blks r blks',OJ P K g gw ga gh g' args blks r blks'->ext g' args blks r blks'):
  Cg (DC P cf ext) ⟨⟨g,0,[.slot 0 (.cell (.int .i64)),.slot 1 (.cell (.int .i64)),.slot 2 (.cell (.im (.int .i64)))],[.slot 0 (.cell .str),.slot 1 (.cell .bool)],[],[],[]⟩,fun(x:Int×Int×List Int)=>Qu fw fa fh x.1 x.2.1 x.2.2⟩:=by
 have cw:∀(a:Int){c:Bool},fw a 1 10=some c->CS P K gw [iv a,iv 1,iv 10] (.bool c):=fun a c h=>by
  obtain⟨r,blks',q1,q2,_⟩:=Js (cs:=[.int .i64,.int .i64,.int .i64]) Ew (d:=((a,1,10):Int×Int×Int)) (y:=c) (xs:=[iv a,iv 1,iv 10]) (by rfl) ⟨rfl,rfl,rfl,trivial⟩ h;have hr:r=.v (.bool c):=q2.val;have hb:blks'=[]:=zb7 q2.len;subst hr;subst hb;exact R0 hm hext q1
 have ca:∀{l:List Int}{x:V}{c:Bool},E8 (.im (.int .i64)) l x->fa l=some c->CS P K ga [x] (.bool c):=fun {l x c} hA h=>by
  obtain⟨r,blks',q1,q2,_⟩:=Js (cs:=[.im (.int .i64)]) Ea (d:=l) (y:=c) (xs:=[x]) (by rfl) ⟨hA,trivial⟩ h;have hr:r=.v (.bool c):=q2.val;have hb:blks'=[]:=zb7 q2.len;subst hr;subst hb;exact R0 hm hext q1
 have ch:∀(a b:Int){s:Str},fh a b=some s->CS P K gh [iv a,iv b] (.string ⟨s.toArray⟩):=fun a b s h=>by
  obtain⟨r,blks',q1,q2,_⟩:=Js (cs:=[.int .i64,.int .i64]) Eh (d:=((a,b):Int×Int)) (y:=s) (xs:=[iv a,iv b]) (by rfl) ⟨rfl,rfl,trivial⟩ h;have hr:r=.v (.string ⟨s.toArray⟩):=q2.val;have hb:blks'=[]:=zb7 q2.len;subst hr;subst hb;exact R0 hm hext q1
 refine Ss rfl rfl rfl fun a b l y x x' x'' h h' h'' hF=> ?_
 have e:x=iv a:=h;have e':x'=iv b:=h';subst e;subst e';have hF:Qu fw fa fh a b l=some y:=hF;have bad:∀{y:List UInt8×Bool},([],false)=y->ResRel [.slot 0 (.cell .str),.slot 1 (.cell .bool)] y EM []:=by
  rintro _ rfl;exact⟨⟨_,rfl,rfl,rfl,trivial⟩,fun id b hb=>by simp[AG,An]at hb,rfl⟩
 rcases OS hF with⟨e1,hy⟩|⟨e1,⟨e2,hy⟩|⟨e2,⟨hl,hy⟩|⟨hl,⟨e3,hy⟩|⟨e3,s,e4,hs,hn,hy⟩⟩⟩⟩
 ·exact⟨EM,[],hx _ _ _ _ _ ⟨rfl,rfl,rfl,a,b,l,x'',h'',rfl,false,cw a e1,.inl ⟨rfl,rfl⟩⟩,bad hy.symm⟩
 ·exact⟨EM,[],hx _ _ _ _ _ ⟨rfl,rfl,rfl,a,b,l,x'',h'',rfl,true,cw a e1,.inr ⟨rfl,false,cw b e2,.inl ⟨rfl,rfl⟩⟩⟩,bad hy.symm⟩
 ·exact⟨EM,[],hx _ _ _ _ _ ⟨rfl,rfl,rfl,a,b,l,x'',h'',rfl,true,cw a e1,.inr ⟨rfl,true,cw b e2,.inr ⟨rfl,.inl ⟨hl,rfl⟩⟩⟩⟩,bad hy.symm⟩
 ·exact⟨EM,[],hx _ _ _ _ _ ⟨rfl,rfl,rfl,a,b,l,x'',h'',rfl,true,cw a e1,.inr ⟨rfl,true,cw b e2,.inr ⟨rfl,.inr ⟨hl,false,ca h'' e3,.inl ⟨rfl,rfl⟩⟩⟩⟩⟩,bad hy.symm⟩
 ·have hy:y=(s++AK (List.map (zi .u8) l),true):=hy;subst hy;exact⟨_,[],hx _ _ _ _ _ ⟨rfl,rfl,rfl,a,b,l,x'',h'',rfl,true,cw a e1,.inr ⟨rfl,true,cw b e2,.inr ⟨rfl,.inr ⟨hl,true,ca h'' e3,.inr ⟨rfl,s,ch a b e4,hs,hn,rfl⟩⟩⟩⟩⟩,⟨_,rfl,rfl,rfl,trivial⟩,fun id b hb=>by simp[AG,An]at hb,rfl⟩
end
end
section
open Go Go.RowKit
theorem PA:(Tryd.prog.info? 60).map (·.size)=some 2:=by kernel_rfl
theorem PF:(Tryd.prog.info? 5).map (fun i=>(i.zero,i.size,i.bytes))=some (some (.int .u8 0),1,1):=by kernel_rfl
set_option maxHeartbeats 1000000 in
set_option maxRecDepth 100000 in
theorem S2 (b : Nat) (w : World) (h0 : w.cell? ⟨b, 0, none⟩ = some (.pointer (some ⟨b, 0, none⟩))) : Calls Tryd.prog 55 #[.pointer (some ⟨b, 0, none⟩)] w fun e w' => e = .returned (.tuple #[]) /\ w' = w := by
 obtain ⟨j, hj, _⟩ := za8.1 PA
 go_enter Tryd.func55, Tryd.ntmps55
 go_wp2
 rw [Lib.run_neq_ptr_same w _ Tryd.underlying58 hj]
 go_wp2
 go_end0
 exact ⟨rfl, rfl⟩
set_option maxHeartbeats 1000000 in
set_option maxRecDepth 100000 in
theorem RD (b : Nat) (w : World) (h0 : w.cell? ⟨b, 0, none⟩ = some (.pointer none)) (hsh : w.shape? b = some (60, 2)) (hfz : w.frozen? ⟨b, 0, none⟩ = false) :
  Calls Tryd.prog 55 #[.pointer (some ⟨b, 0, none⟩)] w fun e w' => e = .returned (.tuple #[]) /\ w' = w.setCell ⟨b, 0, none⟩ (.pointer (some ⟨b, 0, none⟩)) := by
 obtain ⟨j, hj, hjs⟩ := za8.1 PA
 go_enter Tryd.func55, Tryd.ntmps55
 go_wp2
 rw [Lib.run_to_unsafe w ⟨b, 0, none⟩ Tryd.underlying58 Tryd.underlying103 hj (by rw [hjs]; decide) hsh (Nat.zero_lt_succ 1)];simp only [Result.andThen];rw [Oper.upon_value]
 go_wp2
 rw [run_callFunc_extern Tryd.func68 (by kernel_rfl) (by kernel_rfl) (by kernel_rfl) (e := Extern.AbiNoEscape.same) (by kernel_rfl)];rw [Lib.run_noEscape];simp only [Result.andThen];rw [Oper.upon_value]
 go_wp2
 rw [Lib.run_from_unsafe w ⟨b, 0, none⟩ Tryd.underlying103 Tryd.underlying58 hj hsh (by kernel_rfl)];simp only [Result.andThen];rw [Oper.upon_value]
 go_wp2
 go_end0
 exact ⟨rfl, rfl⟩
theorem Rf(B b:Nat)(bs:List Value)(w:World)(h:Lib.IsBuilder 60 5 B b bs w):
  Calls Tryd.prog 55 #[.pointer (some ⟨b,0,none⟩)] w fun e w'=>e=.returned (.tuple #[])/\(Lib.BuilderAt 60 5 B b (.pointer (some ⟨b,0,none⟩)) bs w'/\Below B w w'):=by
 rcases h with h|h
 ·refine(RD b w h.cell0 h.shape h.frozen0).mono ?_
  rintro e w' ⟨rfl,rfl⟩;exact⟨rfl,h.used _,(Below.refl B w).setCell (p:=⟨b,0,none⟩) h.1 _⟩
 ·refine(S2 b w h.cell0).mono ?_
  rintro e w' ⟨rfl,rfl⟩;exact⟨rfl,h,Below.refl B _⟩
set_option maxRecDepth 100000 in
theorem S5 (B b : Nat) (bs : List Value) (c : Int) (w : World) (h : Lib.IsBuilder 60 5 B b bs w) (hlen : bs.length + 1 <= 140737488355328) (hBw : B <= w.heap.size) :
  Calls Tryd.prog 34 #[.pointer (some ⟨b, 0, none⟩), .int .u8 c] w fun e w' => e = .returned .nilIface /\ (Lib.BuilderAt 60 5 B b (.pointer (some ⟨b, 0, none⟩)) (bs ++ [.int .u8 c]) w' /\ Below B w w') := by
 obtain ⟨i0, hi, hz0, hz1, hz2⟩ := info_parts PF
 go_enter Tryd.func34, Tryd.ntmps34
 go_wp2_with (go_at_call 55; refine (Rf B b bs _ h).mono ?_)
 rintro e w1 ⟨rfl, h1, hb1⟩;obtain ⟨hB, v, hbk, hown, hne⟩ := h1;have c0 : w1.cell? ⟨b, 0, none⟩ = some (.pointer (some ⟨b, 0, none⟩)) := by rw [Lib.cell_of_heap hbk]; rfl
 have c1 : w1.cell? ⟨b, 1, none⟩ = some v := by rw [Lib.cell_of_heap hbk]; rfl
 go_wp2_with (at_builtin; refine wpList_append_own _ rfl _ _ 34 rfl B 5 i0 (.int .u8 0) 1 1 Tryd.underlying34 hi hz0 hz1 hz2 rfl (by decide) _ _ _ rfl (hown.alloc _) ⟨w1.heap.size, 0, none⟩ 1 1 [.int .u8 c] rfl rfl ?c1 ?c2 ?c3 ?c4 ?c5 ?_)
 case c1 =>
  intro j u hj
  match j, hj with
  | 0, hj => simp at hj; subst hj; simp [Addr.add]
 case c2 => intro u hu; simp at hu; subst hu; rfl
 case c3 => unfold maxLen; omega
 case c4 => omega
 case c5 => have := hb1.size; simp; omega
 intro v' w2 hown' hgrow _;have hlt : b < w1.heap.size := by
  rcases zd8 b w1.heap.size with h' | h'
  ·exact h'
  ·simp [Array.getElem?_eq_none h'] at hbk
 have hb2 : w2.heap[b]? = some (.cells #[.pointer (some ⟨b, 0, none⟩), v] 60 (0, 0)) := by
  rw [hgrow.block b (by simp; omega) (fun e => hne e.symm), Lib.alloc_old w1 _ b hlt];exact hbk
 have d0 : w2.cell? ⟨b, 0, none⟩ = some (.pointer (some ⟨b, 0, none⟩)) := by rw [Lib.cell_of_heap hb2]; rfl
 have d1 : w2.cell? ⟨b, 1, none⟩ = some v := by rw [Lib.cell_of_heap hb2]; rfl
 have f1 : w2.frozen? ⟨b, 1, none⟩ = false := Lib.frozen_of_heap hb2 1;obtain ⟨g, cap, rfl⟩ : ∃ g cap, v' = .slice (some ⟨g, 0, none⟩) (bs.length + 1) cap := by
  rcases hown'.2 with ⟨_, h0⟩ | ⟨g, cap, cur, hv, _⟩
  ·omega
  ·exact ⟨g, cap, hv⟩
 go_wp2
 go_ret
 refine ⟨rfl, ?_, ?_⟩
 ·exact Lib.BuilderAt.put (T := 60) (e := 5) hB hb2 (bs' := bs ++ [.int .u8 c]) (by simpa using hown') (by decide)
 ·exact ((hb1.alloc (by have := hb1.size; omega) _).grown hgrow (by have := hb1.size; simp; omega) (fun k hk => (hown.lt k hk).1)).setCell (p := ⟨b, 1, none⟩) hB _
set_option maxRecDepth 100000 in
theorem Uq (B b : Nat) (bs : List Value) (s : ByteArray) (w : World) (h : Lib.IsBuilder 60 5 B b bs w) (hlen : bs.length + s.size <= 140737488355328) (hBw : B <= w.heap.size) :
  Calls Tryd.prog 32 #[.pointer (some ⟨b, 0, none⟩), .string s] w fun e w' => e = .returned (.tuple #[.int .i64 s.size, .nilIface]) /\ (Lib.BuilderAt 60 5 B b (.pointer (some ⟨b, 0, none⟩)) (bs ++ Lib.strCells s) w' /\ Below B w w') := by
 obtain ⟨i0, hi, hz0, hz1, hz2⟩ := info_parts PF
 go_enter Tryd.func32, Tryd.ntmps32
 go_wp2_with (go_at_call 55; refine (Rf B b bs _ h).mono ?_)
 rintro e w1 ⟨rfl, h1, hb1⟩;obtain ⟨hB, v, hbk, hown, hne⟩ := h1;have c0 : w1.cell? ⟨b, 0, none⟩ = some (.pointer (some ⟨b, 0, none⟩)) := by rw [Lib.cell_of_heap hbk]; rfl
 have c1 : w1.cell? ⟨b, 1, none⟩ = some v := by rw [Lib.cell_of_heap hbk]; rfl
 go_wp2_with (at_builtin; refine Lib.wpList_append_own_string _ rfl _ _ 34 9 rfl B 5 i0 Tryd.underlying34 Tryd.underlying9 hi hz0 hz1 hz2 _ _ _ rfl hown s rfl ?c3 ?c4 ?c5 ?_)
 case c3 => unfold maxLen; omega
 case c4 => omega
 case c5 => have := hb1.size; omega
 intro v' w2 hown' hgrow _;have hlt : b < w1.heap.size := by
  rcases zd8 b w1.heap.size with h' | h'
  ·exact h'
  ·simp [Array.getElem?_eq_none h'] at hbk
 have hb2 : w2.heap[b]? = some (.cells #[.pointer (some ⟨b, 0, none⟩), v] 60 (0, 0)) := by
  rw [hgrow.block b hlt (fun e => hne e.symm)];exact hbk
 have d0 : w2.cell? ⟨b, 0, none⟩ = some (.pointer (some ⟨b, 0, none⟩)) := by rw [Lib.cell_of_heap hb2]; rfl
 have d1 : w2.cell? ⟨b, 1, none⟩ = some v := by rw [Lib.cell_of_heap hb2]; rfl
 have f1 : w2.frozen? ⟨b, 1, none⟩ = false := Lib.frozen_of_heap hb2 1;obtain ⟨ao, n', cap, rfl⟩ : ∃ ao n' cap, v' = .slice ao n' cap := by
  rcases hown'.2 with ⟨hv, _⟩ | ⟨g, cap, cur, hv, _⟩
  ·exact ⟨_, _, _, hv⟩
  ·exact ⟨_, _, _, hv⟩
 go_wp2
 go_ret2
 refine ⟨rfl, ?_, ?_⟩
 ·exact Lib.BuilderAt.put (T := 60) (e := 5) hB hb2 (bs' := bs ++ Lib.strCells s) (by simpa [Lib.strCells_length] using hown') (by decide)
 ·exact (hb1.grown hgrow (by have := hb1.size; omega) (fun k hk => (hown.lt k hk).1)).setCell (p := ⟨b, 1, none⟩) hB _
theorem Qx(z:List Int):Lib.byteCells (AK (z.map (zi .u8)))=z.map fun n=>Value.int .u8 (zi .u8 n):=by
 simp only[Lib.byteCells,AK,List.map_map]
 apply List.map_congr_left
 intro n _;have h0:0<=zi .u8 n/\zi .u8 n<256:=by
  rw[show zi .u8 n=n%256 by simp[zi,IntKind.signed,IntKind.bits]];omega
 obtain⟨k,hk⟩:∃k:Nat,zi .u8 n=k:=⟨(zi .u8 n).toNat,by omega⟩;simp only[Function.comp_apply,hk,Int.toNat_natCast];have:k<256:=by omega
 simp[Nat.mod_eq_of_lt this]
theorem Ls(n:Int):zi zj n=wrap64 n:=by rw[IntKind.wrap_i64,wrap64]
theorem P0{l:List Int}{k:Nat}{z:Int}(h:l[k]? =some z):l.take (k+1)=l.take k++[z]:=by
 rw[List.take_add_one,h];rfl
set_option maxHeartbeats 4000000 in
set_option maxRecDepth 1000000 in
theorem Q8 {w : World} {a b : Int} {ad : Option Addr} {cap : Nat} {l : List Int} {s : Str} (hl : (l.length : Int) = zi zj (a * b)) (hs : s.length <= 1000000) (hn : l.length <= 1000000)
  (hc : ∀ (i : Nat) z, l[i]? = some z -> ∃ bk off, ad = some ⟨bk, off, none⟩ /\ bk < w.heap.size /\ l.length <= cap /\ w.cell? ⟨bk, off + i, none⟩ = some (.int .i64 z))
  (q1 : ∀ W, Below w.heap.size w W -> Calls Tryd.prog 22 #[.int .i64 a, .int .i64 1, .int .i64 10] W fun e w' => e = .returned (.bool true) /\ Below W.heap.size W w')
  (q2 : ∀ W, Below w.heap.size w W -> Calls Tryd.prog 22 #[.int .i64 b, .int .i64 1, .int .i64 10] W fun e w' => e = .returned (.bool true) /\ Below W.heap.size W w')
  (q3 : ∀ W, Below w.heap.size w W -> Calls Tryd.prog 31 #[.slice ad l.length cap] W fun e w' => e = .returned (.bool true) /\ Below W.heap.size W w')
  (q4 : ∀ W, Below w.heap.size w W -> Calls Tryd.prog 33 #[.int .i64 a, .int .i64 b] W fun e w' => e = .returned (.string ⟨s.toArray⟩) /\ Below W.heap.size W w') :
  Calls Tryd.prog 13 #[.int .i64 a, .int .i64 b, .slice ad l.length cap] w fun e w' => e = .returned (.tuple #[.string ⟨(s ++ AK (l.map (zi .u8))).toArray⟩, .bool true]) /\ Below w.heap.size w w' := by
 have hl2 : wrap64 (a * b) = (l.length : Int) := by rw [hl, Ls]
 clear hl
 go_enter Tryd.func13, Tryd.ntmps13
 go_wp2_with (go_at_call 22; refine (q1 w (Below.refl _ _)).mono ?_)
 rintro e w1 ⟨rfl, b1⟩
 go_wp2_with (go_at_call 22; refine (q2 w1 b1).mono ?_)
 rintro e w2 ⟨rfl, b2⟩
 replace b2 := b1.trans (b2.mono b1.size)
 go_wp2_with (go_at_call 31; refine (q3 w2 b2).mono ?_)
 rintro e w3 ⟨rfl, b3⟩
 replace b3 := b2.trans (b3.mono b2.size)
 go_wp2_with (go_at_call 33; refine (q4 _ ?hb3).mono ?_)
 case hb3 => exact b3.alloc b3.size _
 rintro e w4 ⟨rfl, b4⟩;have hsz3 := b3.size;have hsz4 := b4.size;have hal : (w3.alloc (.cells #[.pointer none, .slice none 0 0] 60)).heap.size = w3.heap.size + 1 := by simp
 have hI4 : Lib.IsBuilder 60 5 w.heap.size w3.heap.size [] w4 := Or.inl ⟨hsz3, .slice none 0 0, by
  rw [b4.block _ (by rw [hal]; omega)];exact heap_alloc_new w3 _, World.ownsRow_nil _ _ _ _, by simp [Value.ownBlock]⟩
 have b4' : Below w.heap.size w w4 := (b3.alloc b3.size _).trans (b4.mono (by rw [hal]; omega))
 go_wp2_with (go_at_call 32; refine (Uq w.heap.size w3.heap.size [] ⟨s.toArray⟩ _ hI4 ?hlen (by omega)).mono ?_)
 case hlen => simp [ByteArray.size]; omega
 rintro e w5 ⟨rfl, h5, b5⟩
 replace b5 := b4'.trans b5
 clear q1 q2 q3 q4
 go_wp2
 go_loopw [38] (fun i wr => ∃ k : Nat, k <= l.length /\ i = .int .i64 k /\ Lib.IsBuilder 60 5 w.heap.size w3.heap.size (Lib.byteCells (s ++ AK ((l.take k).map (zi .u8)))) wr /\ Below w.heap.size w wr) (fun i wr => l.length - (intOf i).toNat)
 case atStart =>
  refine ⟨0, by omega, rfl, ?_, b5⟩
  have : Lib.byteCells (s ++ AK ((l.take 0).map (zi .u8))) = [] ++ Lib.strCells ⟨s.toArray⟩ := by simp [AK, Lib.strCells_eq]
  rw [this];exact Or.inr h5
 case round =>
  obtain ⟨k, hk, rfl, hI, hb⟩ := hrel;have hbs := hb.size;have hln : (Lib.byteCells (s ++ AK ((l.take k).map (zi .u8)))).length = s.length + k := by rw [Lib.byteCells_length]; simp [AK]; omega
  by_cases hlt : k < l.length
  ·obtain ⟨z, hz⟩ : ∃ z, l[k]? = some z := ⟨l[k], za2 hlt⟩;obtain ⟨bk, off, rfl, hbk, hcap, hcell⟩ := hc k z hz;have hcell : wr.cell? ⟨bk, off + k, none⟩ = some (.int .i64 z) := by rw [hb.cell (p := ⟨bk, off + k, none⟩) hbk]; exact hcell
   clear hc
   go_wp2_with (go_at_call 34; refine (S5 w.heap.size w3.heap.size _ (zi .u8 z) _ hI (by rw [hln]; omega) hbs).mono ?_)
   rintro e w6 ⟨rfl, h6, b6⟩
   go_wp2
   go_roundw
   case rel =>
    refine ⟨k + 1, by omega, by go_num, ?_, hb.trans b6⟩
    rw [P0 hz, List.map_append, AK, List.map_append, <- List.append_assoc, Lib.byteCells_append];have h1 := Qx [z];simp only [zb0, List.map_nil, AK] at h1;simp only [zb0, List.map_nil];rw [h1];exact Or.inr h6
   case measure => simp [intOf]; omega
  ·have hkl : k = l.length := by omega
   subst hkl;rw [List.take_length] at hI
   clear hc
   go_wp2_with (go_at_call 35; refine (Tryd.Builder_String_any w.heap.size w3.heap.size _ _ hI hbs).mono ?_)
   rintro e w6 ⟨rfl, b6⟩
   go_wp2
   go_ret2
   exact ⟨rfl, hb.trans b6⟩
set_option maxHeartbeats 4000000 in
set_option maxRecDepth 1000000 in
theorem Tv {w : World} {a b : Int} {ad : Option Addr} {cap : Nat} {n : Nat} {c1 c2 c3 : Bool} (hc : c1 = false \/ c2 = false \/ ¬ (n : Int) = zi zj (a * b) \/ c3 = false)
  (q1 : ∀ W, Below w.heap.size w W -> Calls Tryd.prog 22 #[.int .i64 a, .int .i64 1, .int .i64 10] W fun e w' => e = .returned (.bool c1) /\ Below W.heap.size W w')
  (q2 : c1 = true -> ∀ W, Below w.heap.size w W -> Calls Tryd.prog 22 #[.int .i64 b, .int .i64 1, .int .i64 10] W fun e w' => e = .returned (.bool c2) /\ Below W.heap.size W w')
  (q3 : c1 = true -> c2 = true -> (n : Int) = zi zj (a * b) -> ∀ W, Below w.heap.size w W -> Calls Tryd.prog 31 #[.slice ad n cap] W fun e w' => e = .returned (.bool c3) /\ Below W.heap.size W w') :
  Calls Tryd.prog 13 #[.int .i64 a, .int .i64 b, .slice ad n cap] w fun e w' => e = .returned (.tuple #[.string ⟨#[]⟩, .bool false]) /\ Below w.heap.size w w' := by
 have hw : zi zj (a * b) = wrap64 (a * b) := Ls _;rw [hw] at hc q3
 clear hw
 go_enter Tryd.func13, Tryd.ntmps13
 go_wp2_with (go_at_call 22; refine (q1 w (Below.refl _ _)).mono ?_)
 rintro e w1 ⟨rfl, b1⟩;cases c1 with
 | false =>
  clear hc q1 q2 q3
  go_wp2
  go_ret2
  exact ⟨rfl, b1⟩
 | true =>
  replace q2 := q2 rfl
  replace q3 := q3 rfl
  go_wp2_with (go_at_call 22; refine (q2 w1 b1).mono ?_)
  rintro e w2 ⟨rfl, b2⟩
  replace b2 := b1.trans (b2.mono b1.size)
  cases c2 with
  | false =>
   clear hc q1 q2 q3
   go_wp2
   go_ret2
   exact ⟨rfl, b2⟩
  | true =>
   replace q3 := q3 rfl
   by_cases hl : (n : Int) = wrap64 (a * b)
   ·have h3 : c3 = false := by simpa [hl] using hc
    subst h3
    replace q3 := q3 hl
    have hl2 : wrap64 (a * b) = (n : Int) := hl.symm
    clear hl hc
    go_wp2_with (go_at_call 31; refine (q3 w2 b2).mono ?_)
    rintro e w3 ⟨rfl, b3⟩
    replace b3 := b2.trans (b3.mono b2.size)
    clear q1 q2 q3
    go_wp2
    go_ret2
    exact ⟨rfl, b3⟩
   ·clear hc q1 q2 q3
    go_wp2
    go_ret2
    exact ⟨rfl, b2⟩
theorem S3{w:World}{A:Nat->Prop}{l:List Int}{x:V}{y:Value}(hx:E8 (.im (.int .i64)) l x)(hy:Rep w A x y)(hA:∀b,A b->b<w.heap.size):
  ∃ad cap,y=.slice ad l.length cap/\∀(i:Nat) z,l[i]? =some z->∃bk off,ad=some ⟨bk,off,none⟩/\bk<w.heap.size/\l.length<=cap/\w.cell? ⟨bk,off+i,none⟩=some (.int .i64 z):=by
 rcases hx with⟨rfl,rfl⟩|⟨rows,rfl,hrows⟩
 ·cases hy with
  |em a=>exact⟨a,0,rfl,fun i z h=>by simp at h⟩
 ·cases hy with
  |im0 a cap=>
   have h0:l=[]:=zb7 (by have:=hrows.1;simpa using this.symm);subst h0;exact⟨a,cap,rfl,fun i z h=>by simp at h⟩
  |im b off cap size rows f hb hs hcap hcm hrl hcell hrep=>
   have hll:l.length=rows.length:=by have:=hrows.1;first|exact this|exact this.symm
   refine⟨some ⟨b,off,none⟩,cap,by rw[hll],fun i z hi=> ?_⟩
   obtain⟨row,h1,h2⟩:=hrows.get hi;have h2:row=[V.v (.int .i64 z)]:=h2;subst h2;have hs1:size=1:=by have:=hrl i _ h1;simpa using this.symm
   subst hs1;have h3:=hcell i 0 _ _ h1 rfl;have h4:=hrep i 0 _ _ h1 rfl;rw[Nat.mul_one,Nat.add_zero]at h3;refine⟨b,off,rfl,hA b hb,by omega,?_⟩
   rw[h3];generalize f i 0=u at h4;cases h4
   rfl
theorem Ru{K:Da->Prop}{J:Da}(hent:OV Tryd.prog 13)(hJ:K J):∀g' args blks r blks',OJ Tryd.prog K 13 22 31 33 g' args blks r blks'->CSpec Tryd.prog J g' args blks r blks':=by
 rintro g' args blks r blks' ⟨rfl,rfl,rfl,a,b,l,x,hx,rfl,c1,h1,hr⟩;refine FW hent fun w A E vals hT hA hvl=> ?_
 obtain⟨y,rfl,hy⟩:∃y,vals=[.int .i64 a,.int .i64 b,y]/\Rep w A x y:=by
  match vals,hvl with
  |[y1,y2,y3],h=>
   have k1:Rep w A (.v (.int .i64 a)) y1:=h.1;have k2:Rep w A (.v (.int .i64 b)) y2:=h.2.1;have k3:Rep w A x y3:=by
    have k:=h.2.2.1;rcases hx with⟨_,rfl⟩|⟨rows,rfl,_⟩
    ·exact k
    ·exact k
   cases k1
   cases k2
   exact⟨y3,rfl,k3⟩
  |[],h=>exact h.elim
  |[_],h=>exact h.2.elim
  |[_,_],h=>exact h.2.2.elim
  |_::_::_::_::_,h=>exact h.2.2.2.elim
 obtain⟨ad,cap,rfl,hcell⟩:=S3 hx hy hA;have hxr:([x]:List V).flatMap Ab=[]:=by rw[za7,NH hx];rfl
 have q1:∀W,Below w.heap.size w W->Calls Tryd.prog 22 #[.int .i64 a,.int .i64 1,.int .i64 10] W fun e w'=>e=.returned (.bool c1)/\Below W.heap.size W w':=fun W hW=>
  Fc (h1 J hJ) rfl hT hW hA (vals:=[.int .i64 a,.int .i64 1,.int .i64 10]) ⟨.v _ rfl,.v _ rfl,.v _ rfl,trivial⟩
 have fin:∀(c2 c3:Bool),r=EM->(c1=false\/c2=false\/¬(l.length:Int)=zi zj (a*b)\/c3=false)->
   (c1=true->CS Tryd.prog K 22 [iv b,iv 1,iv 10] (.bool c2))->(c1=true->c2=true->(l.length:Int)=zi zj (a*b)->CS Tryd.prog K 31 [x] (.bool c3))->
   Calls Tryd.prog 13 [Value.int .i64 a,.int .i64 b,.slice ad l.length cap].toArray w fun e w'=>∃y,e=.returned y/\Below w.heap.size w w'/\VR2 w' E (lkB []) A r y:=by
  rintro c2 c3 rfl hc h2 h3;refine(Tv hc q1 (fun e W hW=>Fc (h2 e J hJ) rfl hT hW hA (vals:=[.int .i64 b,.int .i64 1,.int .i64 10]) ⟨.v _ rfl,.v _ rfl,.v _ rfl,trivial⟩)
   (fun e e' e'' W hW=>Fc (h3 e e' e'' J hJ) hxr hT hW hA (vals:=[.slice ad l.length cap]) ⟨hy,trivial⟩)).mono ?_
  rintro e w' ⟨rfl,hb⟩;exact⟨_,rfl,hb,_,rfl,.v _ rfl,.v _ rfl,trivial⟩
 rcases hr with⟨e1,hr⟩|⟨e1,c2,h2,⟨e2,hr⟩|⟨e2,⟨hl,hr⟩|⟨hl,c3,h3,⟨e3,hr⟩|⟨e3,s,h4,hs,hn,hr⟩⟩⟩⟩
 ·exact fin false false hr (.inl e1) (fun e=>by rw[e1]at e;cases e) (fun e=>by rw[e1]at e;cases e)
 ·exact fin c2 false hr (.inr (.inl e2)) (fun _=>h2) (fun _ e=>by rw[e2]at e;cases e)
 ·exact fin c2 false hr (.inr (.inr (.inl hl))) (fun _=>h2) (fun _ _ e=>absurd e hl)
 ·exact fin c2 c3 hr (.inr (.inr (.inr e3))) (fun _=>h2) (fun _ _ _=>h3)
 ·subst e1;subst e2;subst e3;subst hr;refine(Q8 hl hs hn hcell q1 (fun W hW=>Fc (h2 J hJ) rfl hT hW hA (vals:=[.int .i64 b,.int .i64 1,.int .i64 10]) ⟨.v _ rfl,.v _ rfl,.v _ rfl,trivial⟩)
   (fun W hW=>Fc (h3 J hJ) hxr hT hW hA (vals:=[.slice ad l.length cap]) ⟨hy,trivial⟩)
   (fun W hW=>Fc (h4 J hJ) rfl hT hW hA (vals:=[.int .i64 a,.int .i64 b]) ⟨.v _ rfl,.v _ rfl,trivial⟩)).mono ?_
  rintro e w' ⟨rfl,hb⟩;exact⟨_,rfl,hb,_,rfl,.v _ rfl,.v _ rfl,trivial⟩
end
section
open Go Go.RowKit
variable {H:Type} {enc:TypeId×Value->H}
theorem F2{a:Assume}{C:Checked}{os:Os}{f:FuncId}{fn:Func}{s:ChangeSpec}{conds:List PathCond}{apart fresh handsOn again:Bool}{X:World->Array Value->Prop}
  (hX:∀(w w':World)(args:Array Value),w.heap=w'.heap->X w args->X w' args)
  (own:ownKnob C.prog.godebug=none) (started:os.Started) (noInit:C.prog.inits.idxOf? f=none) (hfn:C.prog.funcs[f]? =some fn)
  (witness:∃(w:World)(tape:Tape)(i:Input),w.os=os/\(w.forCall tape i).Shaped C.prog/\i.vars=[]/\Input.okWide C.prog (w.forCall tape i) .any w.heap.size f i/\
   ((s.pre enc C.prog fn conds apart (w.forCall tape i).memory i.args/\X (w.forCall tape i).memory i.args)/\sizedMet enc C.prog fn (OpenSpec.ofChange s) apart (w.forCall tape i).memory i.args)/\a.holds C.prog (lone (Frame.enter C.prog f i.args .normal) [] (w.forCall tape i)))
  (contract:∀(W:World)(base:Nat)(args:Array Value)(ds gs:List (DataW H))(before:List MemPlace),
   (∀(j:Nat) t v,fn.params[j]? =some t->args[j]? =some v->Value.okWide C.prog W .any base t v)->
   DataW.Whole enc C.prog fn.params.toList s.vars apart W args.toList ds gs before->
   (DataW.weightsEach C.prog (fn.params.toList++s.plain.varTypes C.prog) (ds++gs)).all (· <=reachBytes)=true->
   W.ShapedOpen C.prog->X W args->
   Calls C.prog f args W fun e W'=>∃v,e=.returned v/\s.post enc C.prog fn apart fresh handsOn again W args v W'):
  ReturnsInHanded a C os f .any (fun w args=>(s.pre enc C.prog fn conds apart w args/\X w args)/\sizedMet enc C.prog fn (OpenSpec.ofChange s) apart w args) (s.post enc C.prog fn apart fresh handsOn again):=by
 refine returnsInHanded_of_calls own started noInit witness ?_
 intro w tape i _ hsh _ hok hpre hholds;obtain⟨_,_,_,fn',hfn',_,_,_,_,hval⟩:=hok;have e:fn'=fn:=zv (hfn'.symm.trans hfn);subst e;obtain⟨⟨⟨ds,gs,before,hw,hc⟩,hx⟩,hz⟩:=hpre;have hw':=DataW.Whole.of_heap (w':=w.forCall tape i) (by rfl) hw;refine(contract (w.forCall tape i) w.heap.size i.args ds gs before hval hw' (hz.weights hw) hsh (hX _ _ _ (by rfl) hx)).mono fun e W' ⟨v,he,hp⟩=> ?_
 subst he;exact ChangeSpec.post_blind hp
def Jof(w:World)(ids:List Nat):Da:=ids.filterMap fun g=>(w.heap[g]?).map fun o=>(g,o)
theorem Rp{w:World}{ids:List Nat}:∀x∈Jof w ids,w.heap[x.1]? =some x.2:=by
 intro x hx;simp only[Jof,List.mem_filterMap,za8]at hx;obtain⟨g,_,o,ho,rfl⟩:=hx;exact ho
theorem SF{w w':World}{ids:List Nat}(h:∀x∈Jof w ids,w'.heap[x.1]? =some x.2){g:Nat}(hg:g∈ids){o:Obj}(ho:w.heap[g]? =some o):w'.heap[g]? =some o:=
 h (g,o) (by simp only[Jof,List.mem_filterMap,za8];exact⟨g,hg,o,ho,rfl⟩)
theorem TG{P:Program}{w w':World}{ids:List Nat}(h:∀x∈Jof w ids,w'.heap[x.1]? =some x.2){name:String}{g:Nat}(hn:P.globalNamed name=some g)(hg:g∈ids){cs:Array Value}
  (hv:w.var? P name=some cs):w'.var? P name=some cs:=by
 cases ho:w.heap[g]? with
 |none=>simp[World.var?,hn,ho]at hv
 |some o=>
  have:=SF h hg ho;simp only[World.var?,hn,za9,ho]at hv;simp only[World.var?,hn,za9,this];exact hv
theorem Vq{P:Program}{w:World}{ids:List Nat}{name:String}{g:Nat}{k:IntKind}{zs:List Int}(hn:P.globalNamed name=some g)(hg:g∈ids)(h:Lib.TabIs P w name k zs):Uu P (Jof w ids) name k zs:=
 fun _ hw=>TG hw hn hg h
theorem Hs{P:Program}{w:World}:∀(n:Nat){l:List (String×DataW Unit)},laidMet P l w->laidMet P (l.drop n) w
 |0,_,h=>h
 |n+1,[],h=>h
 |n+1,_::_,h=>Hs n h.tail
end
section
open Go
set_option maxRecDepth 100000
abbrev Tq0:Type:=((List Int)×Int×Int)
abbrev Tq1:Type:=(List (Int)×Int×Int)
def UQ:TyD:=⟨1,8,false,[(.v (.int .i64 0))],none,false,(some .i64),[],false⟩
def UR:TyD:=⟨1,1,false,[(.v (.bool false))],none,false,none,[],false⟩
def Vi:TyD:=⟨1,1,false,[(.v (.int .u8 0))],none,false,(some .u8),[],false⟩
def UU:TyD:=⟨1,16,false,[(.v (.string ⟨#[]⟩))],none,true,none,[],false⟩
def TW:TyD:=⟨1,24,false,[.em],(some 3),false,none,[],false⟩
def TP:TyD:=⟨1,24,false,[.em],(some 5),false,none,[],false⟩
def T3:TyD:=⟨1,8,false,[(.v (.int .u64 0))],none,false,(some .u64),[],false⟩
def TV:TyD:=⟨3,40,true,[.em,(.v (.int .i64 0)),(.v (.int .u64 0))],none,false,none,[⟨0,34,1,false⟩,⟨1,3,1,false⟩,⟨2,69,1,false⟩],false⟩
def TQ:TyD:=⟨4,32,true,[(.v (.int .i64 0)),(.v (.int .i64 0)),(.v (.int .i64 0)),(.v (.int .i64 0))],none,false,none,[⟨0,3,1,false⟩,⟨1,3,1,false⟩,⟨2,3,1,false⟩,⟨3,3,1,false⟩],false⟩
theorem ty3:Az Tryd.prog 3=some UQ:=by kernel_rfl
theorem ty4:Az Tryd.prog 4=some UR:=by kernel_rfl
theorem ty5:Az Tryd.prog 5=some Vi:=by kernel_rfl
theorem ty9:Az Tryd.prog 9=some UU:=by kernel_rfl
theorem Vy:Az Tryd.prog 28=some TW:=by kernel_rfl
theorem Vr:Az Tryd.prog 34=some TP:=by kernel_rfl
theorem VE:Az Tryd.prog 69=some T3:=by kernel_rfl
theorem Vz:Az Tryd.prog 71=some TV:=by kernel_rfl
theorem Vx:Az Tryd.prog 77=some TQ:=by kernel_rfl
def LA:List (Nat×TyD):=[(3,UQ),(4,UR),(5,Vi),(9,UU),(28,TW),(34,TP),(69,T3),(71,TV),(77,TQ)]
def L0:List (Nat×Ty):=[(3,.int .i64),(5,.int .u8)]
theorem T4:∀t d,getD LA t=some d->Az Tryd.prog t=some d:=Ui (by unfold LA;exact⟨ty3,⟨ty4,⟨ty5,⟨ty9,⟨Vy,⟨Vr,⟨VE,⟨Vz,⟨Vx,trivial⟩⟩⟩⟩⟩⟩⟩⟩⟩)
theorem Vf:Tryd.prog.underlying 4=some .bool:=by kernel_rfl
theorem O1:∀t,([4]:List Nat).contains t=true->Tryd.prog.underlying t=some .bool:=by
 intro t h;simp at h;rcases h with rfl
 all_goals first|exact Vf
theorem UJ:∀t,([]:List Nat).contains t=true->U0 Tryd.prog t:=by
 intro t h;simp at h
 try exact h.elim
abbrev qC(i:Nat)(c:AC):Item:=.slot i (.cell c)
abbrev qI(i:Nat):Item:=.slot i (.cell (.int .i64))
abbrev qB(i:Nat):Item:=.slot i (.cell .bool)
abbrev qS(i:Nat):Item:=.slot i (.cell .str)
abbrev qA(i:Nat)(l:List AC):Item:=.slot i (.agg l)
abbrev qT(i j:Nat):Item:=.slot i (.ref j true)
abbrev qF(i j:Nat):Item:=.slot i (.ref j false)
abbrev qp:List AC:=[.int .i64,.int .i64,.int .i64,.int .i64]
abbrev qa:Item:=.blk (.box 71 [.im (.int .u8),.int .i64,.int .u64])
abbrev qb:Item:=.blk (.arr 3 true (.int .i64))
abbrev qe:Item:=qC 0 (.im (.int .i64))
abbrev qf:Item:=qC 1 (.im (.int .i64))
abbrev qg:Item:=qC 0 (.im (.int .u8))
abbrev qc:Item:=qT 0 0
abbrev qh:List Item:=[qa,qI 0]
abbrev ql:List Item:=[qa,qc,qI 1]
abbrev qi:List Item:=[qI 0,qI 1,qI 2]
abbrev qd:List Item:=[qB 0]
abbrev qm:List Item:=[qe,.slot 1 (.clo 54)]
abbrev qj:List Item:=[qe]
abbrev qk:List Item:=[qI 0,qI 1,qC 2 (.im (.int .i64))]
abbrev qn:List Item:=[qb,qI 0,qI 1,qF 2 0,qB 3]
abbrev qo:List Item:=[qb,qI 2,qI 3,qF 4 0,qB 5]
def FX:FAnn:=⟨57,1,[qa,qc],qh,[],[],[(4,[qa,qc,qI 3])]⟩
def Gh:FAnn:=⟨36,1,ql,qh,[],[],[]⟩
def GE:FAnn:=⟨37,1,ql,[qa,qB 0],[],[],[]⟩
def FE:FAnn:=⟨38,1,[qa,qc,qf],qh,[],[],[]⟩
def Ek:FAnn:=⟨39,1,[qa,qc,qA 1 qp],[qa,qb,qF 0 1],[(3,[qa,.blk (.box 77 qp),qb,qc,qT 3 1,qF 5 2,qI 6])],[(3,[(.exit 0,[qa,qb,qc,qF 5 1])])],[]⟩
def DA:FAnn:=⟨15,0,[qg],[qb,qI 0,qI 1,qF 2 0],[],[],[(6,[qa,qT 5 0,qI 6,qI 7])]⟩
def JB:FAnn:=⟨22,0,qi,qd,[],[],[]⟩
def FZ:FAnn:=⟨54,0,[qI 0],qd,[],[],[]⟩
def Cb:FAnn:=⟨67,0,qm,[qI 0],[(2,[qe,.slot 1 (.clo 54),qI 7,qI 8])],[(2,[(.exit 0,[]),(.ret,[qI 4])])],[]⟩
def BK:FAnn:=⟨53,0,qm,qd,[],[],[]⟩
def Hw:FAnn:=⟨31,0,qj,qd,[],[],[]⟩
def FT:FAnn:=⟨56,0,[qI 0],[qS 0],[],[],[]⟩
def MD:FAnn:=⟨33,0,[qI 0,qI 1],[qS 0],[],[],[]⟩
def Fg:FAnn:=⟨13,0,qk,[qS 0,qB 1],[],[],[]⟩
def M2:FAnn:=⟨28,0,qi,qd,[],[],[]⟩
def J6:FAnn:=⟨29,0,qj,qd,[(2,[qe,qC 5 (.im (.int .i64)),qI 6,qI 7])],[(2,[(.exit 0,qj),(.ret,[qB 2])])],[]⟩
def Gx:FAnn:=⟨52,0,[qI 0],[qS 0],[],[],[]⟩
def Gf:FAnn:=⟨30,0,qk,[qS 0],[(3,[qS 7,qC 18 (.im (.int .i64)),qI 19,qI 20])],[(3,[(.exit 0,[qS 7])])],[]⟩
def EU:FAnn:=⟨11,0,qk,[qS 0,qB 1],[],[],[]⟩
def DO:FAnn:=⟨40,0,[qS 0,qS 1],[qS 0,qB 1],[],[],[]⟩
def FJ:FAnn:=⟨16,0,[qS 0],qn,[(2,[qS 0,qI 6]),(5,[qS 0,qI 6,qI 7]),(11,[qb,qI 6,qI 7,qF 10 0,qC 41 (.im (.int .u8)),qI 42,qI 43])],[(2,[(.exit 0,[]),(.ret,qo)]),(5,[(.exit 2,[qS 0,qI 6]),(.ret,qo)]),(11,[(.exit 4,[qb,qI 6,qI 7,qF 10 0])])],[]⟩
def Hq:FAnn:=⟨17,0,[qe,qf],qd,[(4,[qe,qf,qI 12,qI 13])],[(4,[(.exit 0,[]),(.ret,[qB 4])])],[]⟩
def ET:FAnn:=⟨41,1,[qa,qc,qS 1,qS 2],[qa,qS 0],[(2,[qa,qc,qS 1,qS 2,qI 7])],[(2,[(.exit 0,[qa,qS 1])])],[]⟩
def DN:FAnn:=⟨18,0,[qg],[qS 0],[],[],[]⟩
def JJ:FAnn:=⟨59,0,[qS 0,qI 1],[qI 0,qI 1],[(3,[qS 0,qI 1,qI 6,qI 7])],[(3,[(.exit 0,[qS 0,qI 1,qI 6,qI 7])])],[]⟩
def IF:FAnn:=⟨42,0,[qS 0,qI 1,qC 2 (.int .u8)],qi,[],[],[]⟩
def FI:FAnn:=⟨19,0,[qS 0],qn,[(8,[qb,qS 0,qI 6,qI 7,qF 9 0,qI 10])],[(8,[(.exit 0,[qb,qI 6,qI 7,qF 9 0])])],[]⟩
def FY:FAnn:=⟨5,0,[qg,qC 1 (.im (.int .u8))],qd,[],[],[(12,[qC 1 (.im (.int .u8))])]⟩
def Rv:List FAnn:=[FX,Gh,GE,FE,Ek,DA,JB,FZ,Cb,BK,Hw,FT,MD,Fg,M2,J6,Gx,Gf,EU,DO,FJ,Hq,ET,DN,JJ,IF,FI,FY]
structure LibJ (J:Da):Prop where
 tab:Uu Tryd.prog J "internal/strconv.uint64pow10" .u64 Lib.pow10Tab
def Uk:Rel:=fun g args blks r blks'=>Mk 56 g args blks r blks'\/OJ Tryd.prog LibJ 13 22 31 33 g args blks r blks'\/LW 40 g args blks r blks'
theorem RP:OV Tryd.prog 56:=⟨Tryd.f56,Tryd.func56,by kernel_rfl,by kernel_rfl⟩
theorem TJ:OV Tryd.prog 13:=⟨Tryd.f13,Tryd.func13,by kernel_rfl,by kernel_rfl⟩
theorem Sb:OV Tryd.prog 40:=⟨Tryd.f40,Tryd.func40,by kernel_rfl,by kernel_rfl⟩
theorem NE{J:Da}(hJ:LibJ J):∀g args blks r blks',Uk g args blks r blks'->CSpec Tryd.prog J g args blks r blks':=by
 intro g args blks r blks' h;rcases h with h|h|h
 ·exact P4 RP Tryd.strconv_Itoa hJ.tab _ _ _ _ _ h
 ·exact Ru TJ hJ _ _ _ _ _ h
 ·exact P5 Sb Tryd.strings_CutPrefix _ _ _ _ _ h
def cf0:Cfg:=Mg Rv fun g=>([56,13,40]:List Nat).contains g
abbrev RR:Rel:=DC Tryd.prog cf0 Uk
structure OKE where
 E:Ent
 k:Cg RR E
 r:cf0.byref E.a.g=(Ct E.a.params).map Jl
theorem Vh:∀l:List OKE,Oi RR cf0 (l.map (·.E))
 |[]=>trivial
 |x::l=>⟨⟨x.k,x.r⟩,Vh l⟩
def fq(a:FAnn)(F:Bb a.params->Option (Bb a.res))(l:List OKE){fn:Func}(h0:Tryd.prog.funcs[a.g]? =some fn)(h1:fn.body.isSome=true:=by rfl)(h2:Io fn (fn.body.get h1) (Cu a.params).length=true:=by kernel_rfl)(h3:cf0.isExt a.g=false:=by rfl)(h:GJ Rv a.g=some a:=by kernel_rfl)(hF:∀x,wtF ⟨LA,L0,[],[4],l.map (·.E),a⟩ fn x=F x:=by intro _;kernel_rfl)(hr:cf0.byref a.g=(Ct a.params).map Jl:=by rfl):OKE:=
 ⟨⟨a,F⟩,Mf (X:=⟨LA,L0,[],[4],l.map (·.E),a⟩) ⟨T4,O1,UJ⟩ (LV (Vh l)) (R1 h) ⟨h0,(Option.some_get h1).symm,h2,h3⟩ hF,hr⟩
def Ce (a0:Tq0):Option (Tq1×Int):=(bif decide (a0.2.1<(a0.1.length:Int))then(Ej a0.1 a0.2.1).bind fun x0=>some (Sum.inr ((a0.1,a0.2.1,a0.2.2),(zi zj x0)))else some (Sum.inr ((a0.1,a0.2.1,a0.2.2),(0:Int)))).bind fun x1=>Sum.elim (fun x2=>some x2) (fun x3=>bif decide ((zi zj (x3.1.2.1+1))<=(x3.1.1.length:Int))then some ((x3.1.1,(zi zj (x3.1.2.1+1)),(zi zk ((zi zk ((zi zk (x3.1.2.2*6364136223846793005))+(zi zk x3.2)))+1442695040888963407))),x3.2)else some ((x3.1.1,(zi zj (x3.1.2.1+1)),(zi zk ((zi zk ((zi zk (x3.1.2.2*6364136223846793005))+(zi zk x3.2)))+1442695040888963407))),(zi zj (R6 Go.IntKind.u64 (UC Go.IntKind.u64 (zi zk ((zi zk ((zi zk (x3.1.2.2*6364136223846793005))+(zi zk x3.2)))+1442695040888963407)) (40:Int)) (255:Int))))) x1
def Kg:OKE:=fq FX (fun x=>Ce x) [] Tryd.func57
def AD (a0:Tq0) (a1:Int):Option (Tq1×Int):=bif decide (a1<=1)then some ((a0.1,a0.2.1,a0.2.2),(0:Int))else(Ce (a0.1,a0.2.1,a0.2.2)).bind fun x0=>bif decide (a1>200)then(Ce (x0.1.1,x0.1.2.1,x0.1.2.2)).bind fun x1=>bif(a1==0)then none else some ((x1.1.1,x1.1.2.1,x1.1.2.2),(Int.tmod (zi zj ((zi zj (x0.2*256))+x1.2)) a1))else bif(a1==0)then none else some ((x0.1.1,x0.1.2.1,x0.1.2.2),(Int.tmod x0.2 a1))
def Cf:OKE:=fq Gh (fun x=>AD x.1 x.2) [Kg] Tryd.func36
def B0 (a0:Tq0) (a1:Int):Option (Tq1×Bool):=(AD (a0.1,a0.2.1,a0.2.2) a1).bind fun x0=>some ((x0.1.1,x0.1.2.1,x0.1.2.2),(x0.2==0))
def EP:OKE:=fq GE (fun x=>B0 x.1 x.2) [Cf] Tryd.func37
def Bf (a0:Tq0) (a1:List Int):Option (Tq1×Int):=(AD (a0.1,a0.2.1,a0.2.2) (a1.length:Int)).bind fun x0=>(Ej a1 x0.2).bind fun x1=>some ((x0.1.1,x0.1.2.1,x0.1.2.2),x1)
def FF:OKE:=fq FE (fun x=>Bf x.1 x.2) [Cf] Tryd.func38
def AJ (s0:Tq0) (s1:Int×Int×Int×Int) (s2:List Int) (s3:Int):Option (Tq0×(Int×Int×Int×Int)×(List Int)×Int⊕Tq0×(List Int)):=bif decide (s3<(zi zj (s1.2.2.1*s1.2.2.2)))then(Bf (s0.1,s0.2.1,s0.2.2) ([0,0,0,255,255,128,7]:List Int)).bind fun x0=>(Jz 8 1 s2 ([x0.2]:List Int)).bind fun x1=>some (Sum.inl ((x0.1.1,x0.1.2.1,x0.1.2.2),(s1.1,s1.2.1,s1.2.2.1,s1.2.2.2),x1,(zi zj (s3+1))))else some (Sum.inr ((s0.1,s0.2.1,s0.2.2),s2))
def A6 (a0:Tq0) (a1:Int×Int×Int×Int):Option (Tq1×List Int):=(Ax (fun(s:(Tq0×(Int×Int×Int×Int)×(List Int)×Int))=>AJ s.1 s.2.1 s.2.2.1 s.2.2.2) ((a0.1,a0.2.1,a0.2.2),(a1.1,a1.2.1,a1.2.2.1,a1.2.2.2),([]:List Int),(0:Int))).bind fun x0=>bif decide ((x0.2.length:Int)>0)then(B0 (x0.1.1,x0.1.2.1,x0.1.2.2) 30).bind fun x1=>bif x1.2 then(Bf (x1.1.1,x1.1.2.1,x1.1.2.2) ([(-(1:Int)),256]:List Int)).bind fun x2=>(LM (0:Int) (List.length x0.2)).bind fun x3=>(R9 x0.2 x3).bind fun x4=>some ((x2.1.1,x2.1.2.1,x2.1.2.2),(List.set x0.2 x3 x2.2))else some ((x1.1.1,x1.1.2.1,x1.1.2.2),x0.2)else some ((x0.1.1,x0.1.2.1,x0.1.2.2),x0.2)
def Er:OKE:=fq Ek (fun x=>A6 x.1 x.2) [FF,EP] Tryd.func39
def Bv (a0:List Int):Option Tq1:=(AD (a0,(0:Int),(0:Int)) 5).bind fun x0=>(AD (x0.1.1,x0.1.2.1,x0.1.2.2) 3).bind fun x1=>((B0 (x1.1.1,x1.1.2.1,x1.1.2.2) 20).bind fun x2=>bif x2.2 then(Bf (x2.1.1,x2.1.2.1,x2.1.2.2) ([10,11]:List Int)).bind fun x3=>some (Sum.inr ((x3.1.1,x3.1.2.1,x3.1.2.2),x3.2,(zi zj ((1:Int)+x1.2))))else some (Sum.inr ((x2.1.1,x2.1.2.1,x2.1.2.2),x0.2,(zi zj ((1:Int)+x1.2))))).bind fun x4=>Sum.elim (fun x5=>some x5) (fun x6=>(A6 (x6.1.1,x6.1.2.1,x6.1.2.2) ((0:Int),(0:Int),x6.2.1,x6.2.2)).bind fun x7=>some (x7.2,x6.2.1,x6.2.2)) x4
def Dr:OKE:=fq DA (fun x=>Bv x) [Cf,EP,FF,Er] Tryd.func15
def De (a0 a1 a2:Int):Option Bool:=bif decide (a0>=a1)then some (decide (a0<=a2))else some false
def JF:OKE:=fq JB (fun x=>De x.1 x.2.1 x.2.2) [] Tryd.func22
def CV (a0:Int):Option Bool:=(De a0 0 255).bind fun x0=>some (!x0)
def JH:OKE:=fq FZ (fun x=>CV x) [JF] Tryd.func54
def Ai (s0:List Int) (s1 s2:Int):Option ((List Int)×Int×Int⊕(Unit⊕Int)):=bif decide (s2<s1)then(Ej s0 s2).bind fun x0=>(CV x0).bind fun x1=>bif x1 then some (Sum.inr (Sum.inr s2))else some (Sum.inl (s0,s1,(zi zj (s2+1))))else some (Sum.inr (Sum.inl ()))
def Bh (a0:List Int):Option Int:=(Ax (fun(s:Tq0)=>Ai s.1 s.2.1 s.2.2) (a0,(a0.length:Int),(0:Int))).bind fun x0=>Sum.elim (fun x1=>some (-(1:Int))) (fun x2=>some x2) x0
def DY:OKE:=fq Cb (fun x=>Bh x) [JH] Tryd.func67
def A4 (a0:List Int):Option Bool:=(Bh a0).bind fun x0=>some (decide (x0>=0))
def Dg:OKE:=fq BK (fun x=>A4 x) [DY] Tryd.func53
def CX (a0:List Int):Option Bool:=(A4 a0).bind fun x0=>some (!x0)
def Ma:OKE:=fq Hw (fun x=>CX x) [Dg] Tryd.func31
def Cj (a0:Int):Option (List UInt8):=KA a0
def FP:Ent:=⟨FT,fun x=>Cj x⟩
theorem I1:Cg RR FP:=Sz fun _ _ _ _ _ h=>Or.inl h
def JP:OKE:=⟨FP,I1,rfl⟩
def Fh (a0 a1:Int):Option (List UInt8):=(Cj a0).bind fun x0=>(Fy ([80,53,10]:List UInt8) x0).bind fun x1=>(Fy x1 ([32]:List UInt8)).bind fun x2=>(Cj a1).bind fun x3=>(Fy x2 x3).bind fun x4=>(Fy x4 ([10,50,53,53,10]:List UInt8)).bind fun x5=>some x5
def MM:OKE:=fq MD (fun x=>Fh x.1 x.2) [JP] Tryd.func33
def Bm (a0 a1:Int) (a2:List Int):Option (List UInt8×Bool):=Qu De CX Fh a0 a1 a2
def EV:Ent:=⟨Fg,fun x=>Bm x.1 x.2.1 x.2.2⟩
theorem Hu:Cg RR EV:=S8 De CX Fh (by kernel_rfl) (fun J hJ=>NE hJ) JF.k Ma.k MM.k fun _ _ _ _ _ h=>Or.inr (Or.inl h)
def CT (a0 a1 a2:Int):Option Bool:=bif decide (a0>=a1)then some (decide (a0<=a2))else some false
def JT:OKE:=fq M2 (fun x=>CT x.1 x.2.1 x.2.2) [] Tryd.func28
def A9 (s0 s1:List Int) (s2 s3:Int):Option ((List Int)×(List Int)×Int×Int⊕((List Int)⊕Bool)):=bif decide (s3<s2)then(Ej s1 s3).bind fun x0=>(CT x0 0 255).bind fun x1=>bif(!x1)then some (Sum.inr (Sum.inr false))else some (Sum.inl (s0,s1,s2,(zi zj (s3+1))))else some (Sum.inr (Sum.inl s0))
def Fp (a0:List Int):Option Bool:=(Ax (fun(s:((List Int)×(List Int)×Int×Int))=>A9 s.1 s.2.1 s.2.2.1 s.2.2.2) (a0,a0,(a0.length:Int),(0:Int))).bind fun x0=>Sum.elim (fun x1=>some (decide ((x1.length:Int)<=100))) (fun x2=>some x2) x0
def N9:OKE:=fq J6 (fun x=>Fp x) [JT] Tryd.func29
def Ic (self:Int->Option (List UInt8)) (a0:Int):Option (List UInt8):=bif decide (a0<10)then some (AK ([(zi .u8 (zi zj ((48:Int)+a0)))]:List Int))else(self (zi zj (Int.tdiv a0 10))).bind fun x0=>(Fy x0 (AK ([(zi .u8 (zi zj ((48:Int)+(Int.tmod a0 10))))]:List Int))).bind fun x1=>some x1
def Dh:Nat->Int->Option (List UInt8)
 |0=>fun _=>none
 |n+1=>Ic (Dh n)
def Ky (self:Int->Option (List UInt8)):Ent:=⟨Gx,fun x=>self x⟩
def KX (self:Int->Option (List UInt8)):TX:=⟨LA,L0,[],[4],[Ky self],Gx⟩
theorem Qy(self:(Int)->Option (List UInt8))(a0:Int):wtF (KX self) Tryd.f52 (a0)=Ic self a0:=by kernel_rfl
theorem Ir:∀n,Cg RR (Ky (Dh n))
 |0=>fun x y _ _ _ h=>by cases h
 |n+1=>Mf (X:=KX (Dh n)) ⟨T4,O1,UJ⟩ (LV (by exact⟨⟨Ir n,rfl⟩,trivial⟩)) (R1 (by kernel_rfl)) ⟨Tryd.func52,rfl,by kernel_rfl,rfl⟩ (fun x=>by exact Qy (Dh n) x)
def D0 (a0:Int):Option (List UInt8):=Dh (a0.toNat+1) a0
def Le:Ent:=⟨Gx,fun x=>D0 x⟩
theorem ON:Cg RR Le:=fun x=>Ir _ x
def Qe:OKE:=⟨Le,ON,rfl⟩
def Bl (s0:List UInt8) (s1:List Int) (s2 s3:Int):Option ((List UInt8)×(List Int)×Int×Int⊕(List UInt8)):=bif decide (s3<s2)then(Ej s1 s3).bind fun x0=>(Fy s0 (AK ([(zi .u8 x0)]:List Int))).bind fun x1=>some (Sum.inl (x1,s1,s2,(zi zj (s3+1))))else some (Sum.inr s0)
def CR (a0 a1:Int) (a2:List Int):Option (List UInt8):=(D0 a0).bind fun x0=>(Fy ([80,53,10]:List UInt8) x0).bind fun x1=>(Fy x1 ([32]:List UInt8)).bind fun x2=>(D0 a1).bind fun x3=>(Fy x2 x3).bind fun x4=>(Fy x4 ([10,50,53,53,10]:List UInt8)).bind fun x5=>(Ax (fun(s:((List UInt8)×(List Int)×Int×Int))=>Bl s.1 s.2.1 s.2.2.1 s.2.2.2) (x5,a2,(a2.length:Int),(0:Int))).bind fun x6=>some x6
def Km:OKE:=fq Gf (fun x=>CR x.1 x.2.1 x.2.2) [Qe] Tryd.func30
def BM (a0 a1:Int) (a2:List Int):Option (List UInt8×Bool):=(CT a0 1 10).bind fun x0=>bif(!x0)then some (([]:List UInt8),false)else(CT a1 1 10).bind fun x1=>bif(!x1)then some (([]:List UInt8),false)else bif((a2.length:Int) != (zi zj (a0*a1)))then some (([]:List UInt8),false)else(Fp a2).bind fun x2=>bif(!x2)then some (([]:List UInt8),false)else(CR a0 a1 a2).bind fun x3=>some (x3,true)
def Db:OKE:=fq EU (fun x=>BM x.1 x.2.1 x.2.2) [JT,N9,Km] Tryd.func11
def BJ (a0 a1:List UInt8):Option (List UInt8×Bool):=Jt a0 a1
def DK:Ent:=⟨DO,fun x=>BJ x.1 x.2⟩
theorem Gc:Cg RR DK:=Rw fun _ _ _ _ _ h=>Or.inr (Or.inr (h))
def GC:OKE:=⟨DK,Gc,rfl⟩
def BC (s0:List Int) (s1 s2:Int) (s3:List Int) (s4 s5:Int):Option ((List Int)×Int×Int×(List Int)×Int×Int⊕(List Int)×Int×Int):=bif decide (s5<s4)then(Ej s3 s5).bind fun x0=>(Jz 8 1 s0 ([(zi zj x0)]:List Int)).bind fun x1=>some (Sum.inl (x1,s1,s2,s3,s4,(zi zj (s5+1))))else some (Sum.inr (s0,s1,s2))
def A0 (s0:List UInt8) (s1 s2:Int):Option ((List UInt8)×Int×Int⊕((List UInt8)×Int⊕(List Int)×Int×Int×Bool)):=bif decide (s2<=10)then(Fh s1 s2).bind fun x0=>(BJ s0 x0).bind fun x1=>bif(!x1.2)then some (Sum.inl (s0,s1,(zi zj (s2+1))))else bif((x1.1.length:Int) != (zi zj (s1*s2)))then some (Sum.inl (s0,s1,(zi zj (s2+1))))else bif decide ((List.length x1.1)<=140737488351232)then(Ax (fun(s:((List Int)×Int×Int×(List Int)×Int×Int))=>BC s.1 s.2.1 s.2.2.1 s.2.2.2.1 s.2.2.2.2.1 s.2.2.2.2.2) (([]:List Int),s1,s2,(A3 x1.1),((A3 x1.1).length:Int),(0:Int))).bind fun x2=>some (Sum.inr (Sum.inr (x2.1,x2.2.1,x2.2.2,true)))else none else some (Sum.inr (Sum.inl (s0,s1)))
def AZ (s0:List UInt8) (s1:Int):Option ((List UInt8)×Int⊕(Unit⊕(List Int)×Int×Int×Bool)):=bif decide (s1<=10)then(Ax (fun(s:((List UInt8)×Int×Int))=>A0 s.1 s.2.1 s.2.2) (s0,s1,(1:Int))).bind fun x0=>Sum.elim (fun x1=>some (Sum.inl (x1.1,(zi zj (x1.2+1))))) (fun x2=>some (Sum.inr (Sum.inr (x2.1,x2.2.1,x2.2.2.1,x2.2.2.2)))) x0 else some (Sum.inr (Sum.inl ()))
def AR (a0:List UInt8):Option (List Int×Int×Int×Bool):=(Ax (fun(s:((List UInt8)×Int))=>AZ s.1 s.2) (a0,(1:Int))).bind fun x0=>Sum.elim (fun x1=>some (([]:List Int),(0:Int),(0:Int),false)) (fun x2=>some (x2.1,x2.2.1,x2.2.2.1,x2.2.2.2)) x0
def FD:OKE:=fq FJ (fun x=>AR x) [MM,GC] Tryd.func16
def Bo (s0 s1:List Int) (s2 s3:Int):Option ((List Int)×(List Int)×Int×Int⊕(Unit⊕Bool)):=bif decide (s3<s2)then(Ej s0 s3).bind fun x0=>(Ej s1 s3).bind fun x1=>bif(x0 != x1)then some (Sum.inr (Sum.inr false))else some (Sum.inl (s0,s1,s2,(zi zj (s3+1))))else some (Sum.inr (Sum.inl ()))
def Co (a0 a1:List Int):Option Bool:=bif((a0.length:Int) != (a1.length:Int))then some false else(Ax (fun(s:((List Int)×(List Int)×Int×Int))=>Bo s.1 s.2.1 s.2.2.1 s.2.2.2) (a0,a1,(a0.length:Int),(0:Int))).bind fun x0=>Sum.elim (fun x1=>some true) (fun x2=>some x2) x0
def HJ:OKE:=fq Hq (fun x=>Co x.1 x.2) [] Tryd.func17
def BO (s0:Tq0) (s1 s2:List UInt8) (s3:Int):Option (Tq0×(List UInt8)×(List UInt8)×Int⊕Tq0×(List UInt8)):=bif decide (s3>0)then bif decide ((s1.length:Int)>0)then(AD (s0.1,s0.2.1,s0.2.2) (s1.length:Int)).bind fun x0=>(AD (x0.1.1,x0.1.2.1,x0.1.2.2) (s2.length:Int)).bind fun x1=>(Ej s2 x1.2).bind fun x2=>(AD (x1.1.1,x1.1.2.1,x1.1.2.2) 3).bind fun x3=>bif(x3.2==0)then(DH (0:Int) x0.2 (List.length s1)).bind fun x4=>(Fy (List.drop x4.1 (List.take x4.2 s1)) (AK ([(((UInt8.toNat x2):Nat):Int)]:List Int))).bind fun x5=>(DH x0.2 (s1.length:Int) (List.length s1)).bind fun x6=>(Fy x5 (List.drop x6.1 (List.take x6.2 s1))).bind fun x7=>some (Sum.inl ((x3.1.1,x3.1.2.1,x3.1.2.2),x7,s2,(zi zj (s3-1))))else bif(x3.2==1)then(DH (0:Int) x0.2 (List.length s1)).bind fun x8=>(Fy (List.drop x8.1 (List.take x8.2 s1)) (AK ([(((UInt8.toNat x2):Nat):Int)]:List Int))).bind fun x9=>(DH (zi zj (x0.2+1)) (s1.length:Int) (List.length s1)).bind fun x10=>(Fy x9 (List.drop x10.1 (List.take x10.2 s1))).bind fun x11=>some (Sum.inl ((x3.1.1,x3.1.2.1,x3.1.2.2),x11,s2,(zi zj (s3-1))))else(DH (0:Int) x0.2 (List.length s1)).bind fun x12=>(DH (zi zj (x0.2+1)) (s1.length:Int) (List.length s1)).bind fun x13=>(Fy (List.drop x12.1 (List.take x12.2 s1)) (List.drop x13.1 (List.take x13.2 s1))).bind fun x14=>some (Sum.inl ((x3.1.1,x3.1.2.1,x3.1.2.2),x14,s2,(zi zj (s3-1))))else some (Sum.inr ((s0.1,s0.2.1,s0.2.2),s1))else some (Sum.inr ((s0.1,s0.2.1,s0.2.2),s1))
def Cr (a0:Tq0) (a1 a2:List UInt8):Option (Tq1×List UInt8):=(AD (a0.1,a0.2.1,a0.2.2) 3).bind fun x0=>(Ax (fun(s:(Tq0×(List UInt8)×(List UInt8)×Int))=>BO s.1 s.2.1 s.2.2.1 s.2.2.2) ((x0.1.1,x0.1.2.1,x0.1.2.2),a1,a2,x0.2)).bind fun x1=>some ((x1.1.1,x1.1.2.1,x1.1.2.2),x1.2)
def HR:OKE:=fq ET (fun x=>Cr x.1 x.2.1 x.2.2) [Cf] Tryd.func41
def BI (a0:List Int):Option (List UInt8):=(AD (a0,(0:Int),(0:Int)) 4).bind fun x0=>(A6 (x0.1.1,x0.1.2.1,x0.1.2.2) ((0:Int),(0:Int),(zi zj ((1:Int)+x0.2)),(2:Int))).bind fun x1=>(BM (zi zj ((1:Int)+x0.2)) 2 x1.2).bind fun x2=>(B0 (x1.1.1,x1.1.2.1,x1.1.2.2) 3).bind fun x3=>bif x3.2 then(Cr (x3.1.1,x3.1.2.1,x3.1.2.2) x2.1 ([80,53,10,32,48,49,50]:List UInt8)).bind fun x4=>some x4.2 else some x2.1
def DR:OKE:=fq DN (fun x=>BI x) [Cf,Er,Db,EP,HR] Tryd.func18
def Bz (s0:List UInt8) (s1 s2 s3:Int):Option ((List UInt8)×Int×Int×Int⊕(List UInt8)×Int×Int×Int):=bif decide (s3<(s0.length:Int))then bif decide (s3<(zi zj (s1+4)))then(Ej s0 s3).bind fun x0=>bif decide ((((UInt8.toNat x0):Nat):Int)>=48)then(Ej s0 s3).bind fun x1=>bif decide ((((UInt8.toNat x1):Nat):Int)<=57)then(Ej s0 s3).bind fun x2=>some (Sum.inl (s0,s1,(zi zj ((zi zj ((10:Int)*s2))+(zi zj (zi .u8 ((((UInt8.toNat x2):Nat):Int)-48))))),(zi zj (s3+1))))else some (Sum.inr (s0,s1,s2,s3))else some (Sum.inr (s0,s1,s2,s3))else some (Sum.inr (s0,s1,s2,s3))else some (Sum.inr (s0,s1,s2,s3))
def D6 (a0:List UInt8) (a1:Int):Option (Int×Int):=(Ax (fun(s:((List UInt8)×Int×Int×Int))=>Bz s.1 s.2.1 s.2.2.1 s.2.2.2) (a0,a1,(0:Int),a1)).bind fun x0=>bif(x0.2.2.2==x0.2.1)then some ((-(1:Int)),x0.2.1)else(Ej x0.1 x0.2.1).bind fun x1=>bif((((UInt8.toNat x1):Nat):Int)==48)then bif decide (x0.2.2.2>(zi zj (x0.2.1+1)))then some ((-(1:Int)),x0.2.1)else some (x0.2.2.1,x0.2.2.2)else some (x0.2.2.1,x0.2.2.2)
def OX:OKE:=fq JJ (fun x=>D6 x.1 x.2) [] Tryd.func59
def EF (a0:List UInt8) (a1 a2:Int):Option (Int×Int×Int):=(D6 a0 a1).bind fun x0=>bif decide (x0.1<0)then some ((-(1:Int)),(-(1:Int)),a1)else bif(x0.2==(a0.length:Int))then some ((-(1:Int)),(-(1:Int)),a1)else(Ej a0 x0.2).bind fun x1=>bif((((UInt8.toNat x1):Nat):Int) != a2)then some ((-(1:Int)),(-(1:Int)),a1)else(D6 a0 (zi zj (x0.2+1))).bind fun x2=>some (x0.1,x2.1,x2.2)
def ND:OKE:=fq IF (fun x=>EF x.1 x.2.1 x.2.2) [OX] Tryd.func42
def Bw (s0:List Int) (s1:List UInt8) (s2 s3 s4:Int):Option ((List Int)×(List UInt8)×Int×Int×Int⊕(List Int)×Int×Int):=bif decide (s4<(s1.length:Int))then(Ej s1 s4).bind fun x0=>(Jz 8 1 s0 ([(zi zj (((UInt8.toNat x0):Nat):Int))]:List Int)).bind fun x1=>some (Sum.inl (x1,s1,s2,s3,(zi zj (s4+1))))else some (Sum.inr (s0,s2,s3))
def Bg (a0:List UInt8):Option (List Int×Int×Int×Bool):=bif decide ((a0.length:Int)<3)then some (([]:List Int),(0:Int),(0:Int),false)else bif decide ((a0.length:Int)>200)then some (([]:List Int),(0:Int),(0:Int),false)else(DH (0:Int) (3:Int) (List.length a0)).bind fun x0=>bif(!((List.drop x0.1 (List.take x0.2 a0))==([80,53,10]:List UInt8)))then some (([]:List Int),(0:Int),(0:Int),false)else(EF a0 3 32).bind fun x1=>(CT x1.1 1 10).bind fun x2=>bif(!x2)then some (([]:List Int),(0:Int),(0:Int),false)else(CT x1.2.1 1 10).bind fun x3=>bif(!x3)then some (([]:List Int),(0:Int),(0:Int),false)else bif((zi zj ((a0.length:Int)-x1.2.2)) != (zi zj ((5:Int)+(zi zj (x1.1*x1.2.1)))))then some (([]:List Int),(0:Int),(0:Int),false)else(DH x1.2.2 (zi zj (x1.2.2+5)) (List.length a0)).bind fun x4=>bif(!((List.drop x4.1 (List.take x4.2 a0))==([10,50,53,53,10]:List UInt8)))then some (([]:List Int),(0:Int),(0:Int),false)else(Ax (fun(s:((List Int)×(List UInt8)×Int×Int×Int))=>Bw s.1 s.2.1 s.2.2.1 s.2.2.2.1 s.2.2.2.2) (([]:List Int),a0,x1.1,x1.2.1,(zi zj (x1.2.2+5)))).bind fun x5=>some (x5.1,x5.2.1,x5.2.2,true)
def FC:OKE:=fq FI (fun x=>Bg x) [ND,JT] Tryd.func19
def Dx (a0 a1:List Int):Option Bool:=bif decide ((zi zj ((a0.length:Int)+(a1.length:Int)))>1048576)then some true else(Bv a0).bind fun x0=>(Bm x0.2.1 x0.2.2 x0.1).bind fun x1=>(BM x0.2.1 x0.2.2 x0.1).bind fun x2=>bif(!(x1.2==x2.2))then some false else bif(!(x1.1==x2.1))then some false else(bif x1.2 then(AR x1.1).bind fun x3=>bif(!x3.2.2.2)then some (Sum.inl false)else bif(x3.2.1 != x0.2.1)then some (Sum.inl false)else bif(x3.2.2.1 != x0.2.2)then some (Sum.inl false)else(Co x3.1 x0.1).bind fun x4=>bif(!x4)then some (Sum.inl false)else some (Sum.inr a1)else some (Sum.inr a1)).bind fun x5=>Sum.elim (fun x6=>some x6) (fun x7=>(BI x7).bind fun x8=>(AR x8).bind fun x9=>(Bg x8).bind fun x10=>bif(!(x9.2.2.2==x10.2.2.2))then some false else bif(x9.2.1 != x10.2.1)then some false else bif(x9.2.2.1 != x10.2.2.1)then some false else(Co x9.1 x10.1).bind fun x11=>bif(!x11)then some false else bif x9.2.2.2 then(Bm x9.2.1 x9.2.2.1 x9.1).bind fun x12=>bif x12.2 then some (x12.1==x8)else some false else some true) x5
def Nu:Ent:=⟨FY,fun x=>Dx x.1 x.2⟩
def Ix:TX:=⟨LA,L0,[],[4],[Dr.E,EV,Db.E,FD.E,HJ.E,DR.E,FC.E],FY⟩
theorem Na(a0:List (Int))(a1:List (Int)):wtF Ix Tryd.f5 (a0,a1)=Dx a0 a1:=by kernel_rfl
theorem LP:Cg RR Nu:=Mf (X:=Ix) ⟨T4,O1,UJ⟩ (LV (by exact⟨⟨Dr.k,rfl⟩,⟨⟨Hu,rfl⟩,⟨⟨Db.k,rfl⟩,⟨⟨FD.k,rfl⟩,⟨⟨HJ.k,rfl⟩,⟨⟨DR.k,rfl⟩,⟨⟨FC.k,rfl⟩,trivial⟩⟩⟩⟩⟩⟩⟩)) (R1 (by kernel_rfl)) ⟨Tryd.func5,rfl,by kernel_rfl,rfl⟩ (fun x=>by exact Na x.1 x.2)
end
section
open Go
section
variable {α β σ ρ:Type} {body:σ->Option (σ⊕ρ)}
theorem QK{l:List α}(st:Nat->β->σ)(step:β->α->β)(fin:β->ρ)(I:Nat->β->Prop)
  (hgo:∀k b a,l[k]? =some a->I k b->body (st k b)=some (.inl (st (k+1) (step b a)))/\I (k+1) (step b a))
  (hend:∀b,I l.length b->body (st l.length b)=some (.inr (fin b))) (b:β) (h0:I 0 b):
  Ax body (st 0 b)=some (fin (l.foldl step b))/\I l.length (l.foldl step b):=by
 have key:∀(n k:Nat)(b:β),k+n=l.length->I k b->Ax body (st k b)=some (fin ((l.drop k).foldl step b))/\I l.length ((l.drop k).foldl step b):=by
  intro n
  induction n with
  |zero=>
   intro k b hk hI;have:k=l.length:=by omega
   subst this;rw[List.drop_length];exact⟨BV (hend b hI),hI⟩
  |succ n ih=>
   intro k b hk hI;have hlt:k<l.length:=by omega
   have hd:l.drop k=l[k]::l.drop (k+1):=List.drop_eq_getElem_cons hlt;have he:l[k]? =some l[k]:=za2 hlt;obtain⟨h1,h2⟩:=hgo k b _ he hI;rw[hd,List.foldl_cons,DT h1];exact ih (k+1) _ (by omega) h2
 have:=key l.length 0 b (by omega) h0
 rwa[List.drop_zero]at this
end
theorem Te{β σ ρ:Type}{body:σ->Option (σ⊕ρ)}(st:Nat->β->σ)(fin:β->ρ)(I:Nat->β->Prop)(e:Nat)
  (hgo:∀k b,k<e->I k b->∃b',body (st k b)=some (.inl (st (k+1) b'))/\I (k+1) b')
  (hend:∀b,I e b->body (st e b)=some (.inr (fin b))):∀k b,k<=e->I k b->∃b',Ax body (st k b)=some (fin b')/\I e b':=by
 have key:∀(n k:Nat)(b:β),k+n=e->I k b->∃b',Ax body (st k b)=some (fin b')/\I e b':=by
  intro n
  induction n with
  |zero=>
   intro k b hk hI;have:k=e:=by omega
   subst this;exact⟨b,BV (hend b hI),hI⟩
  |succ n ih=>
   intro k b hk hI;obtain⟨b1,h1,h2⟩:=hgo k b (by omega) hI;obtain⟨b2,h3,h4⟩:=ih (k+1) b1 (by omega) h2;exact⟨b2,by rw[DT h1,h3],h4⟩
 intro k b hk hI;exact key (e-k) k b (by omega) hI
theorem U4{n:Int}(h1:0<=n)(h2:n<18446744073709551616):zi zk n=n:=by rw[IntKind.wrap_u64];omega
theorem Sc(n:Int):0<=zi zk n/\zi zk n<18446744073709551616:=by rw[IntKind.wrap_u64];omega
theorem KD{α:Type}{l:List α}{k:Nat}{a:α}(h:l[k]? =some a):k<l.length:=(za0.1 h).1
structure Cur (B:Nat) (c:List Int×Int×Int):Prop where
 bytes:∀b∈c.1,0<=b/\b<=255
 short:c.1.length<=1048576
 lo:0<=c.2.1
 hi:c.2.1<=(B:Int)
 seed0:0<=c.2.2
 seed1:c.2.2<18446744073709551616
theorem Cur.start{l:List Int}(h:∀b∈l,0<=b/\b<=255)(hl:l.length<=1048576):Cur 0 (l,0,0):=⟨h,hl,by simp,by simp,by simp,by simp⟩
theorem Cur.mono{B B':Nat}{c:List Int×Int×Int}(h:Cur B c)(hb:B<=B'):Cur B' c:=⟨h.bytes,h.short,h.lo,by have:=h.hi;omega,h.seed0,h.seed1⟩
theorem obs{α β:Type}(a:α)(f:α->Option β):(some a).bind f=f a:=(rfl)
theorem cT{α:Type}(a b:α):(bif true then a else b)=a:=(rfl)
theorem cF{α:Type}(a b:α):(bif false then a else b)=b:=(rfl)
theorem nT:(!true)=false:=(rfl)
theorem nF:(!false)=true:=(rfl)
theorem Ni{α β:Type}(p:α×β):(p.1,p.2)=p:=by cases p;rfl
end
section
open Go
theorem Ul(a:Int):0<=R6 .u64 a 255/\R6 .u64 a 255<=255:=by
 unfold R6;have h:((BitVec.ofInt (IntKind.bits .u64) a&&& BitVec.ofInt (IntKind.bits .u64) 255).toNat)<=255:=by
  rw[BitVec.toNat_and];exact Nat.le_trans Nat.and_le_right (by decide)
 rw[U4 (by omega) (by omega)];omega
theorem Pe{B:Nat}{c:List Int×Int×Int}(h:Cur B c)(hB:B<=1125899906842624):∃c' v,Ce c=some (c',v)/\Cur (B+1) c'/\0<=v/\v<=255:=by
 obtain⟨l,i,s⟩:=c;obtain⟨h1,h2,h3,h4,h5,h6⟩:=h;simp only at h1 h2 h3 h4 h5 h6;have w1:zi zj (i+1)=i+1:=AU (by omega) (by omega);have hcur:∀x:Int,Cur (B+1) (l,i+1,zi zk x):=fun x=>⟨h1,h2,by simp only;omega,by simp only;omega,(Sc x).1,(Sc x).2⟩
 unfold Ce;by_cases hi:i<(l.length:Int)
 ·obtain⟨a,ha,hm⟩:=Ml h3 hi;have hb:=h1 a (za5 hm);have hd:decide (i<(l.length:Int))=true:=by simpa using hi
  have hd2:decide (i+1<=(l.length:Int))=true:=by simp;omega
  simp only[hd,cond_true,ha,za9,Sum.elim_inr,w1,hd2,AU (show-9223372036854775808<=a by omega) (show a<=9223372036854775807 by omega)];exact⟨_,_,rfl,hcur _,hb.1,hb.2⟩
 ·have hd:decide (i<(l.length:Int))=false:=by simpa using hi
  have hd2:decide (i+1<=(l.length:Int))=false:=by simp;omega
  simp only[hd,cond_false,za9,Sum.elim_inr,w1,hd2];refine⟨_,_,rfl,hcur _,?_⟩
  have:=Ul (UC .u64 (zi zk (zi zk (zi zk (s*6364136223846793005)+zi zk 0)+1442695040888963407)) 40);rw[AU (by omega) (by omega)];exact this
theorem PC{a n:Int}(h0:0<=a)(hn:1<n):0<=a.tmod n/\a.tmod n<n:=by
 rw[Int.tmod_eq_emod_of_nonneg h0];exact⟨Int.emod_nonneg _ (by omega),Int.emod_lt_of_pos _ (by omega)⟩
theorem DU{B:Nat}{c:List Int×Int×Int}(h:Cur B c)(hB:B<=1000000000000000)(n:Int):∃c' v,AD c n=some (c',v)/\Cur (B+2) c'/\0<=v/\(1<=n->v<n):=by
 unfold AD;by_cases h1:n<=1
 ·have hd:decide (n<=1)=true:=by simpa using h1
  simp only[hd,cond_true];exact⟨_,_,rfl,h.mono (by omega),by omega,by omega⟩
 ·have hd:decide (n<=1)=false:=by simpa using h1
  have hz:(n==0)=false:=by simp;omega
  obtain⟨c1,v1,e1,q1,b1,b2⟩:=Pe h (by omega);simp only[hd,cond_false,e1,za9,hz];by_cases h2:n>200
  ·obtain⟨c2,v2,e2,q2,b3,b4⟩:=Pe q1 (by omega);have hd2:decide (n>200)=true:=by simpa using h2
   simp only[hd2,cond_true,e2,za9];refine⟨_,_,rfl,q2.mono (by omega),?_⟩
   rw[AU (by rw[AU (by omega) (by omega)];omega) (by rw[AU (by omega) (by omega)];omega),AU (by omega) (by omega)];have:=PC (a:=v1*256+v2) (n:=n) (by omega) (by omega);exact⟨this.1,fun _=>this.2⟩
  ·have hd2:decide (n>200)=false:=by simpa using h2
   simp only[hd2,cond_false];have:=PC (a:=v1) (n:=n) (by omega) (by omega);exact⟨_,_,rfl,q1.mono (by omega),this.1,fun _=>this.2⟩
theorem OF{B:Nat}{c:List Int×Int×Int}(h:Cur B c)(hB:B<=1000000000000000)(n:Int):∃c' v,B0 c n=some (c',v)/\Cur (B+2) c':=by
 unfold B0;obtain⟨c1,v1,e1,q1,_⟩:=DU h hB n;simp only[e1,za9];exact⟨_,_,rfl,q1⟩
theorem Kx{B:Nat}{c:List Int×Int×Int}(h:Cur B c)(hB:B<=1000000000000000)(l:List Int)(h1:1<=l.length)(h2:l.length<1000000):∃c' v,Bf c l=some (c',v)/\Cur (B+2) c'/\v∈l:=by
 unfold Bf;obtain⟨c1,v1,e1,q1,b1,b2⟩:=DU h hB (l.length:Int);have:=b2 (by omega);obtain⟨a,ha,hm⟩:=Ml b1 this;simp only[e1,za9,ha];exact⟨_,_,rfl,q1,za5 hm⟩
end
section
open Go
variable {α β γ:Type}
theorem BP{s t:Str}(h:s.length+t.length<=9223372036854775807):Fy s t=some (s++t):=by unfold Fy;rw[zr h]
end
section
open Go
def C7(b:UInt8):Bool:=decide (48<=b.toNat)&&decide (b.toNat<=57)
theorem EQ{b:UInt8}:C7 b=true↔48<=b.toNat/\b.toNat<=57:=by simp[C7]
def GZ(n:Nat)(l:Str):Nat:=l.foldl (fun a b=>a*10+(b.toNat-48)) n
theorem Lk(n:Nat)(l:Str)(b:UInt8):GZ n (l++[b])=GZ n l*10+(b.toNat-48):=by unfold GZ;simp
def Lj(l:Str):Prop:=(∀b∈l,C7 b=true)/\l≠[]/\¬(l.head?=some 48/\1<l.length)
theorem TL{b:UInt8}(h:48<=b.toNat):UInt8.ofNat (48+(b.toNat-48))=b:=by
 rw[show 48+(b.toNat-48)=b.toNat by omega];exact UInt8.ofNat_toNat
theorem N3{n:Nat}(h:n<10):C7 (UInt8.ofNat (48+n))=true/\(UInt8.ofNat (48+n)).toNat=48+n:=by
 have:(UInt8.ofNat (48+n)).toNat=48+n:=by rw[UInt8.toNat_ofNat'];omega
 exact⟨EQ.2 (by omega),this⟩
theorem LQ{b:UInt8}:b=48↔b.toNat=48:=by
 constructor
 ·rintro rfl;rfl
 ·intro h;have:b.toNat=(48:UInt8).toNat:=h;exact UInt8.toNat_inj.1 this
theorem MT:∀(l:Str)(n:Nat),1<=n->1<=GZ n l
 |[],n,h=>h
 |b::l,n,h=>by
  unfold GZ;rw[List.foldl_cons];exact MT l _ (by omega)
theorem QN{b:UInt8}{l:Str}(hb:C7 b=true)(h:b≠48):1<=GZ 0 (b::l):=by
 unfold GZ;rw[List.foldl_cons];refine MT l _ ?_
 have:=EQ.1 hb;have h2:b.toNat≠48:=fun h2=>h (LQ.2 h2)
 omega
theorem HZ:∀(n:Nat)(l:Str),l.length=n->Lj l->Lib.decDigits (GZ 0 l)=l
 |0,l,hn,h=>absurd (zb7 hn) h.2.1
 |n+1,l,hn,h=>by
  obtain⟨e,b,rfl⟩:∃e b,l=e++[b]:=⟨l.dropLast,l.getLast h.2.1,(List.dropLast_concat_getLast h.2.1).symm⟩;have hb:=EQ.1 (h.1 b (by simp));rw[Lk];cases e with
  |nil=>
   show Lib.decDigits (0*10+(b.toNat-48))=[b];rw[Lib.decDigits_one (by omega),Nat.zero_mul,zd0,TL hb.1]
  |cons c e=>
   have hc0:c≠48:=by
    rintro rfl;exact h.2.2 ⟨rfl,by simp⟩
   have hcd:C7 c=true:=h.1 c (by simp);have h1:=QN (l:=e) hcd hc0;rw[Lib.decDigits,dif_neg (by omega),show(GZ 0 (c::e)*10+(b.toNat-48))/10=GZ 0 (c::e) by omega,show(GZ 0 (c::e)*10+(b.toNat-48))%10=b.toNat-48 by omega,TL hb.1,
    HZ n (c::e) (by simpa using hn) ⟨fun x hx=>h.1 x (by simp at hx⊢;rcases hx with rfl|hx<;>simp_all),by simp,fun hh=>hc0 (zv hh.1)⟩]
theorem KT(u:Nat):Lj (Lib.decDigits u)/\GZ 0 (Lib.decDigits u)=u/\(1<=u->(Lib.decDigits u).head?≠some 48):=by
 induction u using Nat.strongRecOn with
 |ind u ih=>
  by_cases h:u<10
  ·rw[Lib.decDigits_one h];obtain⟨h1,h2⟩:=N3 h;refine⟨⟨fun b hb=>by cases List.mem_singleton.1 hb;exact h1,by simp,fun hh=>by simp at hh⟩,?_,fun hu=> ?_⟩
   ·show 0*10+((UInt8.ofNat (48+u)).toNat-48)=u;rw[h2];omega
   ·intro hh;have:=LQ.1 (zv hh);omega
  ·obtain⟨⟨c1,c2,c3⟩,h2,h3⟩:=ih (u/10) (by omega);obtain⟨g1,g2⟩:=N3 (n:=u%10) (by omega);have hh:(Lib.decDigits (u/10)++[UInt8.ofNat (48+u%10)]).head?≠some 48:=by
    rw[List.head?_append];cases hz:Lib.decDigits (u/10)with
    |nil=>exact absurd hz c2
    |cons a t=>rw[hz]at h3;exact h3 (by omega)
   rw[Lib.decDigits,dif_neg h];refine⟨⟨fun b hb=> ?_,by simp,fun h=>hh h.1⟩,?_,fun _=>hh⟩
   ·rcases zb1.1 hb with hb|hb
    ·exact c1 b hb
    ·cases List.mem_singleton.1 hb;exact g1
   ·rw[Lk,h2,g2];omega
theorem HI{u:Nat}:(Lib.decDigits u).length<=4↔u<=9999:=by
 rw[Lib.decDigits_length];have h1:=Lib.lt_pow_nDigits u;constructor
 ·intro h;have:10^Lib.nDigits u<=10^4:=Nat.pow_le_pow_right (by omega) h;omega
 ·intro h;by_cases h0:u<10
  ·rw[Lib.nDigits_small h0];omega
  by_cases h0:u<100
  ·rw[Lib.nDigits_unique 1 u (by omega) (by omega)];omega
  by_cases h0:u<1000
  ·rw[Lib.nDigits_unique 2 u (by omega) (by omega)];omega
  ·rw[Lib.nDigits_unique 3 u (by omega) (by omega)];omega
end
section
open Go
theorem FQ{p:UInt8->Bool}:∀{l:Str},∀b∈l.takeWhile p,p b=true
 |[],b,h=>by simp at h
 |a::l,b,h=>by
  rw[List.takeWhile_cons]at h;by_cases ha:p a=true
  ·rw[zr ha]at h;rcases zb9.1 h with rfl|h
   ·exact ha
   ·exact FQ b h
  ·rw[zw ha]at h;exact absurd h List.not_mem_nil
def Br(s:Str)(n k:Nat):Str:=((s.drop k).take n).takeWhile C7
theorem K5(s:Str)(k:Nat):Br s 0 k=[]:=by simp[Br]
theorem MP{s:Str}{k:Nat}(n:Nat)(h:s.length<=k):Br s n k=[]:=by simp[Br,List.drop_eq_nil_of_le h]
theorem Lr{s:Str}{k n:Nat}{b:UInt8}(h:s[k]? =some b):Br s (n+1) k=if C7 b then b::Br s n (k+1)else []:=by
 have hlt:=KD h;unfold Br;rw[List.drop_eq_getElem_cons hlt,List.take_succ_cons,List.takeWhile_cons];have:s[k]=b:=by rw[za2 hlt]at h;exact zv h
 rw[this]
theorem NP(s:Str)(n k:Nat):(Br s n k).length<=n:=by
 have h1:=(List.takeWhile_sublist C7 (l:=(s.drop k).take n)).length_le;have h2:=List.length_take_le n (s.drop k);unfold Br;omega
theorem Np(s:Str)(n k:Nat):∀b∈Br s n k,C7 b=true:=FQ
theorem Jc(s:Str):∀(n k i:Nat),i<(Br s n k).length->s[k+i]? =(Br s n k)[i]?
 |0,k,i,h=>by rw[K5]at h;simp at h
 |n+1,k,i,h=>by
  by_cases hk:k<s.length
  ·have e:=Lr (n:=n) (za2 hk);rw[e]at h⊢
   by_cases hd:C7 s[k]=true
   ·rw[zr hd]at h⊢
    cases i with
    |zero=>simp[hk]
    |succ i=>
     rw[show k+(i+1)=(k+1)+i by omega,Jc s n (k+1) i (by simpa using h)];simp
   ·rw[zw hd]at h;simp at h
  ·rw[MP _ (by omega)]at h;simp at h
theorem Sf{s:Str}(hs:s.length<4611686018427387904){a:Nat}(ha:a<4611686018427387904):∀(m:Nat)(n k:Nat),k+m=a+4->a<=k->n<10^(k-a)->
  Ax (fun(t:(Str×(Int×(Int×Int))))=>Bz t.1 t.2.1 t.2.2.1 t.2.2.2) (s,(a:Int),(n:Int),(k:Int))=some (s,(a:Int),((GZ n (Br s m k):Nat):Int),((k+(Br s m k).length:Nat):Int)):=by
 intro m
 induction m with
 |zero=>
  intro n k hk hak hn;rw[K5];refine BV ?_
  unfold Bz;simp only;by_cases h1:(k:Int)<(s.length:Int)
  ·rw[zp h1,cT,AU (by omega) (by omega),zq (by omega),cF];rfl
  ·rw[zq h1,cF];rfl
 |succ m ih=>
  intro n k hk hak hn;by_cases h1:k<s.length
  ·have e:s[k]? =some s[k]:=za2 h1;generalize s[k]=b at e;rw[Lr e];have hb:=b.toNat_lt;by_cases hd:C7 b=true
   ·have hd':=EQ.1 hd;have hp:10^(k-a)<=10^3:=Nat.pow_le_pow_right (by omega) (by omega);rw[zr hd];have hgo:(fun(t:(Str×(Int×(Int×Int))))=>Bz t.1 t.2.1 t.2.2.1 t.2.2.2) (s,(a:Int),(n:Int),(k:Int))=some (.inl (s,(a:Int),((n*10+(b.toNat-48):Nat):Int),((k+1:Nat):Int))):=by
     unfold Bz;simp only;rw[zp (by omega),cT,AU (n:=(a:Int)+4) (by omega) (by omega),zp (by omega),cT,BS,e,obs,zp (by omega),cT,obs,zp (by omega),cT,obs,JI (by omega)];have w1:zi .u8 (((b.toNat:Nat):Int)-48)=((b.toNat-48:Nat):Int):=by rw[IntKind.wrap_u8];omega
     rw[w1,AU (n:=((b.toNat-48:Nat):Int)) (by omega) (by omega),AU (n:=10*(n:Int)) (by omega) (by omega),AU (by omega) (by omega)]
     congr 4
     have:(10:Int)*(n:Int)+((b.toNat-48:Nat):Int)=((n*10+(b.toNat-48):Nat):Int):=by push_cast;omega
     rw[this]
    rw[DT hgo,ih (n*10+(b.toNat-48)) (k+1) (by omega) (by omega) (by
     rw[show k+1-a=(k-a)+1 by omega,Nat.pow_succ];omega)]
    congr 4
    simp only[zc8]
    congr 1
    omega
   ·have hd':¬(48<=b.toNat/\b.toNat<=57):=fun h=>hd (EQ.2 h)
    rw[zw hd];refine BV ?_
    unfold Bz;simp only;rw[zp (by omega),cT,AU (n:=(a:Int)+4) (by omega) (by omega),zp (by omega),cT,BS,e,obs];by_cases c:48<=b.toNat
    ·rw[zp (by omega),cT,obs,zq (by omega),cF];rfl
    ·rw[zq (by omega),cF];rfl
  ·rw[MP _ (by omega)];refine BV ?_
   unfold Bz;simp only;rw[zq (by omega),cF];rfl
def JE(d:Str):Prop:=d=[]\/(d.head?=some 48/\1<d.length)
instance (d:Str):Decidable (JE d):=by unfold JE;infer_instance
def Lt(s:Str)(a:Nat):Int×Int:=let d:=Br s 4 a;if JE d then(-1,(a:Int))else((GZ 0 d:Nat),((a+d.length:Nat):Int))
theorem N4{s:Str}(hs:s.length<4611686018427387904){a:Nat}(ha:a<4611686018427387904):D6 s (a:Int)=some (Lt s a):=by
 unfold D6 Lt;have h:=Sf hs ha 4 0 a rfl (zb6 _) (by simp);have h':Ax (fun(t:(Str×(Int×(Int×Int))))=>Bz t.1 t.2.1 t.2.2.1 t.2.2.2) (s,(a:Int),(0:Int),(a:Int))=_:=h;rw[h',obs];have hl:=NP s 4 a;have h0:=Jc s 4 a 0;cases hd:Br s 4 a with
 |nil=>
  have hb0:JE ([]:Str):=Or.inl rfl;simp only[hb0,if_true,List.length_nil,Nat.add_zero,beq_self_eq_true,cond_true]
 |cons b t=>
  rw[hd]at hl h0;have hb:s[a]? =some b:=by
   have:=h0 (by simp);rw[Nat.add_zero]at this;rw[this];rfl
  have hlb:=KD hb;simp only[zc8]at hl⊢
  rw[show(((a+(t.length+1):Nat):Int)==(a:Int))=false by simp;omega,cF,BS,hb,obs];by_cases c:b=48
  ·subst c;rw[show((((48:UInt8).toNat:Nat):Int)==48)=true from rfl,cT,AU (by omega) (by omega)];by_cases c2:t.length=0
   ·have hn:¬JE (48::t):=by
     rintro(h|⟨_,h⟩)
     ·cases h
     ·simp at h;omega
    rw[zq (by omega),cF,zw hn]
   ·rw[zp (by omega),cT,zr (show JE (48::t)from Or.inr ⟨rfl,by simp;omega⟩)]
  ·have c':¬b.toNat=48:=fun h=>c (LQ.2 h)
   have hn:¬JE (b::t):=by
    rintro(h|⟨h,_⟩)
    ·cases h
    ·exact c (zv h)
   rw[show((((b.toNat:Nat):Int))==48)=false by simp;omega,cF,zw hn]
end
section
open Go
theorem EJ{n:Nat}(h:n<18446744073709551616):(Lib.decDigits n).length<=20:=by rw[Lib.decDigits_length];exact Lib.nDigits_le20 n h
theorem Rr{n:Int}(h0: -9223372036854775808<=n)(h1:n<=9223372036854775807):Cj n=some (Lib.itoa n):=by
 unfold Cj KA;rw[zr ⟨h0,h1⟩]
theorem C1{n:Int}(h:0<=n):Lib.itoa n=Lib.decDigits n.toNat:=by unfold Lib.itoa;rw[zw (by omega)]
theorem Dy{n:Int}(h0: -9223372036854775808<=n)(h1:n<9223372036854775808):(Lib.itoa n).length<=21:=by
 unfold Lib.itoa
 split
 ·have:=EJ (n:=n.natAbs) (by omega);simp;omega
 ·have:=EJ (n:=n.toNat) (by omega);omega
end
section
open Go
theorem RF{n:Int}(h1:0<=n)(h2:n<256):zi .u8 n=n:=by rw[IntKind.wrap_u8];omega
theorem Ku{n:Nat}(h:n<10):AK [zi .u8 (zi zj ((48:Int)+(n:Int)))]=[UInt8.ofNat (48+n)]:=by
 rw[AU (by omega) (by omega),RF (by omega) (by omega)];unfold AK;simp only[zb0,List.map_nil]
 congr 2
theorem Pp:∀(f n:Nat),n<f->n<9223372036854775808->Dh f (n:Int)=some (Lib.decDigits n)
 |0,n,h,_=>by omega
 |f+1,n,h,h1=>by
  unfold Dh Ic;by_cases hn:n<10
  ·rw[zp (by omega),cT,Ku hn,Lib.decDigits,dif_pos hn]
  ·have e1:Int.tdiv (n:Int) 10=((n/10:Nat):Int):=by rw[Int.tdiv_eq_ediv_of_nonneg (by omega)];omega
   have e2:Int.tmod (n:Int) 10=((n%10:Nat):Int):=by rw[Int.tmod_eq_emod_of_nonneg (by omega)];omega
   rw[zq (by omega),cF,e1,AU (by omega) (by omega),Pp f (n/10) (by omega) (by omega),obs,e2,Ku (by omega),BP (by
    have:=EJ (n:=n/10) (by omega);simp;omega),obs]
   conv=>rhs;rw[Lib.decDigits,dif_neg hn]
theorem TK{n:Nat}(h:n<9223372036854775808):D0 (n:Int)=some (Lib.decDigits n):=by
 unfold D0;exact Pp _ n (by omega) h
theorem N6{n:Int}(h0:0<=n)(h1:n<9223372036854775808):D0 n=some (Lib.itoa n):=by
 obtain⟨m,rfl⟩:∃m:Nat,n=(m:Int):=⟨n.toNat,by omega⟩;rw[TK (by omega),C1 h0,Int.toNat_natCast]
end
section
open Go
def CH(s:Str)(a:Nat)(b:Nat):Int×Int×Int:=
 let d:=Br s 4 a
 if JE d\/(s[a+d.length]?).map (·.toNat)≠some b then(-1,-1,(a:Int))else(((GZ 0 d:Nat):Int),Lt s (a+d.length+1))
theorem Ln{s:Str}(hs:s.length<4611686018427387904){a:Nat}(ha:a<4611686018427387000)(b:Nat):EF s (a:Int) (b:Int)=some (CH s a b):=by
 unfold EF CH;rw[N4 hs (by omega),obs];have hl:=NP s 4 a;have hat:=Jc s 4 a;unfold Lt;simp only;by_cases hb:JE (Br s 4 a)
 ·rw[zr hb,zr (.inl hb)];rfl
 ·rw[zw hb];simp only;generalize hd:Br s 4 a=d at*
  have hne:d≠[]:=fun h=>hb (.inl h)
  have hpos:0<d.length:=List.length_pos_iff.2 hne;have hle:a+d.length<=s.length:=by
   have h1:=hat (d.length-1) (by omega);rw[za2 (l:=d) (by omega)]at h1;have:=KD h1;omega
  rw[zq (by omega),cF];by_cases he:a+d.length=s.length
  ·rw[show(((a+d.length:Nat):Int)==(s.length:Int))=true by simp;omega,cT,zr]
   right
   rw[List.getElem?_eq_none (by omega)];simp
  ·rw[show(((a+d.length:Nat):Int)==(s.length:Int))=false by simp;omega,cF,BS];obtain⟨c,hc⟩:∃c,s[a+d.length]? =some c:=⟨_,za2 (by omega)⟩;rw[hc,obs];by_cases hcb:c.toNat=b
   ·rw[show(((c.toNat:Nat):Int) != (b:Int))=false by simp[bne,hcb],cF,AU (by omega) (by omega),zw]
    ·have:=N4 hs (a:=a+d.length+1) (by omega);rw[show(((a+d.length:Nat):Int)+1)=((a+d.length+1:Nat):Int) by omega,this,obs];rfl
    ·rintro(h|h)
     ·exact hb h
     ·exact h (by simp[hcb])
   ·rw[show(((c.toNat:Nat):Int) != (b:Int))=true by simp[bne];omega,cT,zr]
    right
    simp[hcb]
theorem QW{s:Str}{a:Nat}{X Y:Str}(h:s.drop a=X++Y)(i:Nat):s[a+X.length+i]? =Y[i]? :=by
 have:(s.drop a)[X.length+i]? =Y[i]? :=by rw[h,List.getElem?_append_right (by omega)];congr 1;omega
 rw[zb8]at this;rw[<-this];congr 1;omega
theorem Ov{s:Str}{a:Nat}{X Y:Str}(h:s.drop a=X++Y):s.drop (a+X.length)=Y:=by
 rw[<-List.drop_drop,h];simp
theorem Ly(s:Str)(n a:Nat):Br s n a=Br (s.drop a) n 0:=by unfold Br;rw[List.drop_zero]
theorem IB{d t:Str}{n:Nat}(h:Lj d)(hn:d.length<=n)(hb:∀b,t.head?=some b->C7 b=false):Br (d++t) n 0=d:=by
 unfold Br;rw[List.drop_zero];have key:∀(d:Str)(n:Nat),(∀b∈d,C7 b=true)->d.length<=n->((d++t).take n).takeWhile C7=d:=by
  intro d
  induction d with
  |nil=>
   intro n _ _;cases n with
   |zero=>simp
   |succ n=>
    cases t with
    |nil=>simp
    |cons b t=>simp[hb b rfl]
  |cons b d ih=>
   intro n hd hn;cases n with
   |zero=>simp at hn
   |succ n=>
    rw[List.cons_append,List.take_succ_cons,List.takeWhile_cons,zr (hd b (by simp)),ih n (fun x hx=>hd x (List.mem_cons_of_mem _ hx)) (by simpa using hn)]
 exact key d n h.1 hn
theorem GH{d:Str}(h:Lj d):¬JE d:=by
 rintro(h1|h1)
 ·exact h.2.1 h1
 ·exact h.2.2 h1
theorem OB{s:Str}{a:Nat}{m v:Nat}{c:UInt8}{t:Str}(h:s.drop a=Lib.decDigits m++(c::(Lib.decDigits v++t)))(hm:m<=9999)(hv:v<=9999)(hc:C7 c=false)
  (ht:∀b,t.head?=some b->C7 b=false):CH s a c.toNat=((m:Int),(v:Int),((a+(Lib.decDigits m).length+1+(Lib.decDigits v).length:Nat):Int)):=by
 obtain⟨m1,m2,_⟩:=KT m;obtain⟨v1,v2,_⟩:=KT v;have e1:Br s 4 a=Lib.decDigits m:=by
  rw[Ly,h];exact IB m1 (HI.2 hm) (fun b hb=>by cases hb;exact hc)
 have h2:s.drop (a+(Lib.decDigits m).length+1)=Lib.decDigits v++t:=by
  rw[<-List.drop_drop,Ov h];rfl
 have e2:Br s 4 (a+(Lib.decDigits m).length+1)=Lib.decDigits v:=by
  rw[Ly,h2];exact IB v1 (HI.2 hv) ht
 have e3:=QW h 0;rw[Nat.add_zero]at e3;unfold CH Lt;simp only[e1,e2];rw[zw,zw (GH v1),m2,v2];rintro(hb|hb)
 ·exact GH m1 hb
 ·exact hb (by rw[e3];rfl)
end
section
open Go
theorem I5{σ ρ:Type}{body:σ->Option (σ⊕ρ)}(st:Int->σ)(c:Int){z:ρ}(hgo:∀k,k<c->1<=k->body (st k)=some (.inl (st (k+1))))(hz:body (st c)=some (.inr z))(hc:1<=c):Ax body (st 1)=some z:=by
 have key:∀(n:Nat)(a:Int),a+n=c->1<=a->Ax body (st a)=some z:=by
  intro n
  induction n with
  |zero=>
   intro a ha _;have:a=c:=by omega
   subst this;exact BV hz
  |succ n ih=>
   intro a ha h1;rw[DT (hgo a (by omega) h1)];exact ih (a+1) (by omega) (by omega)
 exact key (c-1).toNat 1 (by omega) (by omega)
theorem EW{p:UInt8->Bool}:∀(l:Str),l=l.takeWhile p++l.drop (l.takeWhile p).length
 |[]=>rfl
 |a::l=>by
  rw[List.takeWhile_cons];by_cases h:p a=true
  ·rw[zr h,zc8,List.drop_succ_cons,List.cons_append,<-EW l]
  ·rw[zw h];rfl
theorem J0(s:Str)(n a:Nat):s.drop a=Br s n a++s.drop (a+(Br s n a).length):=by
 have h1:s.drop a=(s.drop a).take n++(s.drop a).drop n:=(List.take_append_drop n (s.drop a)).symm;have h2:=EW (p:=C7) ((s.drop a).take n);have hl:(Br s n a).length<=((s.drop a).take n).length:=(List.takeWhile_sublist C7).length_le;have h3:(s.drop a).drop (Br s n a).length=((s.drop a).take n).drop (Br s n a).length++(s.drop a).drop n:=by
  conv=>lhs;rw[h1]
  rw[List.drop_append_of_le_length hl]
 rw[<-List.drop_drop,h3,<-List.append_assoc];unfold Br at h2⊢
 rw[<-h2];exact h1
theorem O0{s:Str}{a:Nat}{c:UInt8}(h:0<=(CH s a c.toNat).2.1):∃m v e:Nat,CH s a c.toNat=((m:Int),(v:Int),(e:Int))/\s.drop a=Lib.decDigits m++(c::(Lib.decDigits v++s.drop e))/\e<=s.length/\
  e=a+(Lib.decDigits m).length+1+(Lib.decDigits v).length:=by
 unfold CH at h⊢
 simp only at h⊢
 split at h
 ·simp at h
 rename_i hc;rw[zw hc];simp only at h⊢
 unfold Lt at h⊢
 simp only at h⊢
 split at h
 ·simp at h
 rename_i hc2;rw[zw hc2];have hb:¬JE (Br s 4 a):=fun h=>hc (.inl h)
 have hcan1:Lj (Br s 4 a):=⟨Np s 4 a,fun h=>hb (.inl h),fun h=>hb (.inr h)⟩;have hcan2:Lj (Br s 4 (a+(Br s 4 a).length+1)):=⟨Np s 4 _,fun h=>hc2 (.inl h),fun h=>hc2 (.inr h)⟩;have d1:=HZ _ _ rfl hcan1;have d2:=HZ _ _ rfl hcan2;have s1:=J0 s 4 a;have s2:=J0 s 4 (a+(Br s 4 a).length+1);have hget:s[a+(Br s 4 a).length]? =some c:=by
  cases hz:s[a+(Br s 4 a).length]? with
  |none=>exact absurd (.inr (by rw[hz];simp)) hc
  |some x=>
   by_cases hx:x.toNat=c.toNat
   ·rw[UInt8.toNat_inj.1 hx]
   ·exact absurd (.inr (by rw[hz];simpa using hx)) hc
 have hlt:=KD hget;have hdc:s.drop (a+(Br s 4 a).length)=c::s.drop (a+(Br s 4 a).length+1):=by
  rw[List.drop_eq_getElem_cons hlt];rw[za2 hlt]at hget;rw[zv hget]
 refine⟨_,_,_,rfl,?_,?_,?_⟩
 ·rw[d1,d2,s1,hdc,s2]
 ·have hne:=List.length_pos_iff.2 hcan2.2.1;have h3:=Jc s 4 (a+(Br s 4 a).length+1) ((Br s 4 (a+(Br s 4 a).length+1)).length-1) (by omega);rw[za2 (l:=Br s 4 (a+(Br s 4 a).length+1)) (by omega)]at h3;have:=KD h3;omega
 ·rw[d1,d2]
def CC(w h:Int):Str:=[80,53,10]++(Lib.itoa w++(32::(Lib.itoa h++[10,50,53,53,10])))
def DP(s:Str)(w h:Int)(b:Str):Prop:=1<=w/\w<=10/\1<=h/\h<=10/\s=CC w h++b/\(b.length:Int)=w*h
theorem OP{w h:Int}(hw:1<=w/\w<=10)(hh:1<=h/\h<=10):Fh w h=some (CC w h):=by
 unfold Fh CC;have n1:=Dy (n:=w) (by omega) (by omega);have n2:=Dy (n:=h) (by omega) (by omega);rw[Rr (by omega) (by omega),obs,BP (by simp;omega),obs,BP (by simp;omega),obs,Rr (by omega) (by omega),obs,BP (by simp;omega),obs,BP (by simp;omega),obs]
 try simp
theorem Jk{s:Str}{w h:Int}{b:Str}(p:DP s w h b):CH s 3 32=(w,h,((3+(Lib.itoa w).length+1+(Lib.itoa h).length:Nat):Int)):=by
 obtain⟨w0,w1,h0,h1,hs,hb⟩:=p;have hd:s.drop 3=Lib.decDigits w.toNat++(32::(Lib.decDigits h.toNat++([10,50,53,53,10]++b))):=by
  rw[hs];unfold CC;rw[C1 (by omega),C1 (by omega)];simp
 have:=OB (c:=32) hd (by omega) (by omega) (by decide) (fun b hb=>by cases hb;decide);rw[C1 (by omega),C1 (by omega)];have e1:((w.toNat:Nat):Int)=w:=by omega
 have e2:((h.toNat:Nat):Int)=h:=by omega
 rw[e1,e2]at this;exact this
theorem Ks{s:Str}{w h w' h':Int}{b b':Str}(p:DP s w h b)(p':DP s w' h' b'):w=w'/\h=h'/\b=b':=by
 have e:=(Jk p).symm.trans (Jk p');have e1:w=w':=(Prod.mk.inj e).1;have e2:h=h':=(Prod.mk.inj (Prod.mk.inj e).2).1;subst e1;subst e2;exact⟨rfl,rfl,List.append_cancel_left (p.2.2.2.2.1.symm.trans p'.2.2.2.2.1)⟩
theorem GN{s p:Str}:Lib.hasPrefix s p=true↔∃b,s=p++b:=by
 unfold Lib.hasPrefix;rw[List.isPrefixOf_iff_prefix];constructor
 ·rintro⟨b,rfl⟩;exact⟨b,rfl⟩
 ·rintro⟨b,rfl⟩;exact⟨b,rfl⟩
theorem PH(p b:Str):Lib.trimPrefix (p++b) p=b:=by
 unfold Lib.trimPrefix;rw[zr (GN.2 ⟨b,rfl⟩),List.drop_left]
abbrev PV:=List Int×Int×Int×Bool
theorem G4{w h:Int}(hw:1<=w/\w<=10)(hh:1<=h/\h<=10):1<=w*h/\w*h<=100:=by
 have h1:w*h<=10*10:=Int.mul_le_mul hw.2 hh.2 (by omega) (by omega);have h2:1*1<=w*h:=Int.mul_le_mul hw.1 hh.1 (by omega) (by omega);omega
theorem UI{l:List Int}(w h:Int)(hl:l.length<=1000)(hb:∀x∈l,0<=x/\x<=255):Ax (fun(s:((List Int)×(Int×(Int×((List Int)×(Int×Int))))))=>BC s.1 s.2.1 s.2.2.1 s.2.2.2.1 s.2.2.2.2.1 s.2.2.2.2.2) (([]:List Int),(w,(h,(l,((l.length:Int),(0:Int))))))=some (l,w,h):=by
 obtain⟨_,h1,_⟩:=Te (body:=fun(s:((List Int)×(Int×(Int×((List Int)×(Int×Int))))))=>BC s.1 s.2.1 s.2.2.1 s.2.2.2.1 s.2.2.2.2.1 s.2.2.2.2.2)
  (fun k (_:Unit)=>(l.take k,w,h,l,(l.length:Int),(k:Int))) (fun _=>(l,w,h)) (fun _ _=>True) l.length (by
   intro k _ hk _;have he:l[k]? =some l[k]:=za2 hk;generalize l[k]=x at he;have hx:=hb x (za5 he);refine⟨(),?_,trivial⟩
   unfold BC;simp only;rw[zp (by omega),cT,BS,he,obs,AU (n:=x) (by omega) (by omega),Mp (by simp[Af];omega) (by simp[Af];omega),obs,JI (by omega),List.take_add_one,he];rfl) (by
   intro _ _;unfold BC;simp) 0 () (by omega) trivial
 exact h1
theorem Lo(b:Str):∀x∈A3 b,0<=x/\x<=255:=by
 intro x hx;unfold A3 at hx;obtain⟨c,_,rfl⟩:=zc2.1 hx;have:=c.toNat_lt;omega
def NZ:Str×(Int×Int)->Option ((Str×(Int×Int))⊕((Str×Int)⊕PV)):=fun s=>A0 s.1 s.2.1 s.2.2
def MU:Str×Int->Option ((Str×Int)⊕(Unit⊕PV)):=fun s=>AZ s.1 s.2
theorem Tf{s:Str}{w h:Int}{b:Str}(p:DP s w h b):NZ (s,w,h)=some (.inr (.inr (A3 b,w,h,true))):=by
 obtain⟨w0,w1,h0,h1,hs,hb⟩:=p;have hm:=G4 ⟨w0,w1⟩ ⟨h0,h1⟩;unfold NZ A0;simp only;unfold BJ Jt;have hp:Lib.hasPrefix s (CC w h)=true:=GN.2 ⟨b,hs⟩;have ht:Lib.trimPrefix s (CC w h)=b:=by rw[hs,PH]
 rw[zp h1,cT,OP ⟨w0,w1⟩ ⟨h0,h1⟩,obs,obs,hp,ht];simp only;rw[nT,cF,AU (n:=w*h) (by omega) (by omega),show(((b.length:Nat):Int) != w*h)=false by simp[bne,hb],cF,zp (by omega),cT,UI w h (by simp[A3];omega) (Lo b),obs]
theorem M3{s:Str}{w h:Int}(hw:1<=w/\w<=10)(hh:1<=h/\h<=10)(hs:s.length<=1048576)(p:∀b,¬DP s w h b):NZ (s,w,h)=some (.inl (s,w,h+1)):=by
 unfold NZ A0;simp only;unfold BJ Jt;have hm:=G4 hw hh;rw[zp hh.2,cT,OP hw hh,obs,obs,AU (n:=h+1) (by omega) (by omega)];cases hp:Lib.hasPrefix s (CC w h)with
 |false=>rfl
 |true=>
  obtain⟨b,hb⟩:=GN.1 hp;have ht:Lib.trimPrefix s (CC w h)=b:=by rw[hb,PH]
  simp only[ht];have hne:¬(b.length:Int)=w*h:=fun he=>p b ⟨hw.1,hw.2,hh.1,hh.2,hb,he⟩
  rw[nT,cF,AU (n:=w*h) (by omega) (by omega),show(((b.length:Nat):Int) != w*h)=true by simpa[bne]using hne,cT]
theorem SU{s:Str}{w h:Int}(h1:h=11):NZ (s,w,h)=some (.inr (.inl (s,w))):=by
 unfold NZ A0;simp only;rw[zq (by omega),cF]
theorem Nc{s:Str}{w:Int}(hw:1<=w/\w<=10)(hs:s.length<=1048576)(p:∀h b,¬DP s w h b):MU (s,w)=some (.inl (s,w+1)):=by
 unfold MU AZ;simp only;have:=I5 (body:=NZ) (fun h=>(s,w,h)) 11 (z:=.inl (s,w)) (fun k hk hk1=>M3 hw ⟨hk1,by omega⟩ hs (p k)) (SU rfl) (by omega);have h':Ax (fun(s:(Str×(Int×Int)))=>A0 s.1 s.2.1 s.2.2) (s,w,(1:Int))=_:=this;rw[zp hw.2,cT,h',obs];simp only[Sum.elim_inl];rw[AU (by omega) (by omega)]
theorem Tq{s:Str}{w h:Int}{b:Str}(hs:s.length<=1048576)(p:DP s w h b):MU (s,w)=some (.inr (.inr (A3 b,w,h,true))):=by
 unfold MU AZ;simp only;have hw:1<=w/\w<=10:=⟨p.1,p.2.1⟩;have:=I5 (body:=NZ) (fun h=>(s,w,h)) h (z:=.inr (A3 b,w,h,true)) (fun k hk hk1=>M3 hw ⟨hk1,by have:=p.2.2.2.1;omega⟩ hs (fun b' p'=>by have:=(Ks p p').2.1;omega)) (Tf p) p.2.2.1;have h':Ax (fun(s:(Str×(Int×Int)))=>A0 s.1 s.2.1 s.2.2) (s,w,(1:Int))=_:=this;rw[zp hw.2,cT,h',obs];rfl
theorem S9{s:Str}{w:Int}(h1:w=11):MU (s,w)=some (.inr (.inl ())):=by
 unfold MU AZ;simp only;rw[zq (by omega),cF]
theorem Lx{s:Str}{w h:Int}{b:Str}(hs:s.length<=1048576)(p:DP s w h b):AR s=some (A3 b,w,h,true):=by
 unfold AR;have:=I5 (body:=MU) (fun w=>(s,w)) w (z:=.inr (A3 b,w,h,true)) (fun k hk hk1=>Nc ⟨hk1,by have:=p.2.1;omega⟩ hs (fun h' b' p'=>by have:=(Ks p p').1;omega)) (Tq hs p) p.1;have h':Ax (fun(s:(Str×Int))=>AZ s.1 s.2) (s,(1:Int))=_:=this;rw[h',obs];rfl
theorem OG{s:Str}(hs:s.length<=1048576)(p:∀w h b,¬DP s w h b):AR s=some ([],0,0,false):=by
 unfold AR;have:=I5 (body:=MU) (fun w=>(s,w)) 11 (z:=.inl ()) (fun k hk hk1=>Nc ⟨hk1,by omega⟩ hs (p k)) (S9 rfl) (by omega);have h':Ax (fun(s:(Str×Int))=>AZ s.1 s.2) (s,(1:Int))=_:=this;rw[h',obs];rfl
theorem Kr{a b c:Int}:CT a b c=some (decide (b<=a/\a<=c)):=by
 unfold CT;by_cases h:a>=b
 ·rw[zp h,cT];congr 1;simp;omega
 ·rw[zq h,cF];congr 1;simp;omega
theorem Uz{s:Str}(w h:Int)(hs:s.length<=1000):∀(n a:Nat)(acc:List Int),a+n=s.length->acc.length<=a->Ax (fun(t:((List Int)×(Str×(Int×(Int×Int)))))=>Bw t.1 t.2.1 t.2.2.1 t.2.2.2.1 t.2.2.2.2) (acc,(s,(w,(h,(a:Int)))))=some (acc++A3 (s.drop a),w,h):=by
 intro n
 induction n with
 |zero=>
  intro a acc ha hacc;rw[List.drop_eq_nil_of_le (by omega)];refine BV ?_
  unfold Bw;simp only;rw[zq (by omega),cF];simp[A3]
 |succ n ih=>
  intro a acc ha hacc;have hlt:a<s.length:=by omega
  have he:s[a]? =some s[a]:=za2 hlt;have hd:s.drop a=s[a]::s.drop (a+1):=List.drop_eq_getElem_cons hlt;generalize s[a]=x at he hd;have hx:=x.toNat_lt;have hgo:(fun(t:((List Int)×(Str×(Int×(Int×Int)))))=>Bw t.1 t.2.1 t.2.2.1 t.2.2.2.1 t.2.2.2.2) (acc,(s,(w,(h,(a:Int)))))=some (.inl (acc++[((x.toNat:Nat):Int)],s,w,h,((a+1:Nat):Int))):=by
   unfold Bw;simp only;rw[zp (by omega),cT,BS,he,obs,AU (n:=((x.toNat:Nat):Int)) (by omega) (by omega),Mp (by simp[Af];omega) (by simp[Af];omega),obs,JI (by omega)]
  rw[DT hgo,ih (a+1) _ (by omega) (by simp;omega),hd];simp[A3]
theorem QE{s:Str}{w h:Int}{b:Str}(p:DP s w h b):Bg s=some (A3 b,w,h,true):=by
 have hp:=Jk p;obtain⟨w0,w1,h0,h1,hs,hb⟩:=p;have hm:=G4 ⟨w0,w1⟩ ⟨h0,h1⟩;have n1:(Lib.itoa w).length<=4:=by rw[C1 (by omega)];exact HI.2 (by omega)
 have n2:(Lib.itoa h).length<=4:=by rw[C1 (by omega)];exact HI.2 (by omega)
 have hlen:s.length=3+(Lib.itoa w).length+1+(Lib.itoa h).length+5+b.length:=by rw[hs];unfold CC;simp;omega
 unfold Bg;have hsub:DH (0:Int) 3 s.length=some (0,3):=by unfold DH;rw[zr (by omega)];rfl
 have htk:List.drop 0 (List.take 3 s)=[80,53,10]:=by rw[hs];unfold CC;simp
 have h15:=Ln (s:=s) (by omega) (a:=3) (by omega) 32;rw[zq (by omega),cF,zq (by omega),cF,hsub,obs,htk,beq_self_eq_true,nT,cF,show((3:Int))=((3:Nat):Int)from rfl,show((32:Int))=((32:Nat):Int)from rfl,h15,obs,hp];generalize hE:3+(Lib.itoa w).length+1+(Lib.itoa h).length=E at*
 have hdrop:s.drop E=[10,50,53,53,10]++b:=by
  have e0:s=([80,53,10]++(Lib.itoa w++(32::Lib.itoa h)))++([10,50,53,53,10]++b):=by rw[hs];unfold CC;simp
  have e1:([80,53,10]++(Lib.itoa w++(32::Lib.itoa h))).length=E:=by rw[<-hE];simp;omega
  rw[e0,<-e1,List.drop_left]
 have hsub2:DH ((E:Nat):Int) ((E+5:Nat):Int) s.length=some (E,E+5):=by
  unfold DH;rw[zr (by omega)];simp;omega
 have htk2:List.drop E (List.take (E+5) s)=[10,50,53,53,10]:=by
  rw[List.drop_take,hdrop,show E+5-E=5 by omega];rfl
 have hd5:s.drop (E+5)=b:=by rw[<-List.drop_drop,hdrop];rfl
 simp only;rw[Kr,obs,zp ⟨w0,w1⟩,nT,cF,Kr,obs,zp ⟨h0,h1⟩,nT,cF,AU (n:=(s.length:Int)-(E:Int)) (by omega) (by omega),AU (n:=w*h) (by omega) (by omega),AU (n:=5+w*h) (by omega) (by omega),
  show(((s.length:Int)-(E:Int)) != 5+w*h)=false by simp[bne];omega,cF,AU (n:=(E:Int)+5) (by omega) (by omega),show(E:Int)+5=((E+5:Nat):Int) by omega,hsub2,obs,htk2,beq_self_eq_true,nT,cF,
  Uz w h (by omega) (s.length-(E+5)) (E+5) [] (by omega) (by simp),obs,hd5]
 rfl
theorem OH{s:Str}(hs:s.length<=1048576)(p:∀w h b,¬DP s w h b):Bg s=some ([],0,0,false):=by
 unfold Bg;by_cases c1:s.length<3
 ·rw[zp (by omega),cT]
 rw[zq (by omega),cF];by_cases c2:200<s.length
 ·rw[zp (by omega),cT]
 have hsub:DH (0:Int) 3 s.length=some (0,3):=by unfold DH;rw[zr (by omega)];rfl
 rw[zq (by omega),cF,hsub,obs];by_cases c3:List.drop 0 (List.take 3 s)=[80,53,10]
 ·have h15:=Ln (s:=s) (by omega) (a:=3) (by omega) 32;rw[beq_iff_eq.2 c3,nT,cF,show((3:Int))=((3:Nat):Int)from rfl,show((32:Int))=((32:Nat):Int)from rfl,h15,obs,Kr,obs];by_cases c4:1<=(CH s 3 32).1/\(CH s 3 32).1<=10
  ·rw[zp c4,nT,cF,Kr,obs];by_cases c5:1<=(CH s 3 32).2.1/\(CH s 3 32).2.1<=10
   ·rw[zp c5,nT,cF];obtain⟨m,v,e,hq,hd,hes,hee⟩:=O0 (s:=s) (a:=3) (c:=32) (by
     have:CH s 3 (32:UInt8).toNat=CH s 3 32:=rfl;rw[this];omega)
    have hq:CH s 3 32=((m:Int),(v:Int),(e:Int)):=hq;rw[hq]at c4 c5⊢
    simp only at c4 c5⊢
    have hm:=G4 c4 c5;rw[AU (n:=(s.length:Int)-(e:Int)) (by omega) (by omega),AU (n:=(m:Int)*(v:Int)) (by omega) (by omega),AU (n:=5+(m:Int)*(v:Int)) (by omega) (by omega)];by_cases c6:(s.length:Int)-(e:Int)=5+(m:Int)*(v:Int)
    ·rw[show(((s.length:Int)-(e:Int)) != 5+(m:Int)*(v:Int))=false by simpa[bne]using c6,cF,AU (n:=(e:Int)+5) (by omega) (by omega)];have hsub2:DH ((e:Nat):Int) ((e+5:Nat):Int) s.length=some (e,e+5):=by
      unfold DH;rw[zr (by omega)];simp;omega
     rw[show(e:Int)+5=((e+5:Nat):Int) by omega,hsub2,obs];by_cases c7:List.drop e (List.take (e+5) s)=[10,50,53,53,10]
     ·exfalso
      have h5:s.drop e=[10,50,53,53,10]++s.drop (e+5):=by
       rw[List.drop_take,show e+5-e=5 by omega]at c7;rw[<-c7,<-List.drop_drop,List.take_append_drop]
      refine p (m:Int) (v:Int) (s.drop (e+5)) ⟨c4.1,c4.2,c5.1,c5.2,?_,by rw[List.length_drop];omega⟩
      unfold CC;rw[C1 (by omega),C1 (by omega),Int.toNat_natCast,Int.toNat_natCast];have h3:s=[80,53,10]++s.drop 3:=by
       rw[List.drop_zero]at c3;rw[<-c3,List.take_append_drop]
      conv=>lhs;rw[h3,hd,h5]
      simp
     ·rw[beq_eq_false_iff_ne.2 c7,nF,cT]
    ·rw[show(((s.length:Int)-(e:Int)) != 5+(m:Int)*(v:Int))=true by simpa[bne]using c6,cT]
   ·rw[zq c5,nF,cT]
  ·rw[zq c4,nF,cT]
 ·rw[beq_eq_false_iff_ne.2 c3,nF,cT]
end
section
open Go
def Ip(x:Int):Bool:=decide (0<=x/\x<=255)
theorem U9(x:Int):CT x 0 255=some (Ip x):=Kr
theorem PM{a b c:Int}:De a b c=some (decide (b<=a/\a<=c)):=by
 unfold De;by_cases h:b<=a
 ·first|(rw[zp h,cT];congr 1;simp;omega)|(simp[h])
 ·first|(rw[zq h,cF];congr 1;simp;omega)|(simp[h])
theorem Tg{l:List Int}(hl:l.length<4611686018427387904):CX l=some (l.all Ip):=by
 obtain⟨h1,h2⟩:=Nw (l:=l) (st:=fun k=>(l,((l.length:Int),(k:Int)))) (p:=Ip) (body:=fun(s:((List Int)×(Int×Int)))=>Ai s.1 s.2.1 s.2.2) (fin:=.inl ()) (bad:=fun k=>.inr (k:Int))
  (by
   intro k a hk ha;have:=KD hk;show Ai l (l.length:Int) (k:Int)=_;unfold Ai CV;rw[zp (by omega),cT,BS,hk,obs,PM,obs,show decide ((0:Int)<=a/\a<=255)=true from ha,nT,obs,cF,JI (by omega)])
  (by
   intro k a hk ha;have:=KD hk;show Ai l (l.length:Int) (k:Int)=_;unfold Ai CV;rw[zp (by omega),cT,BS,hk,obs,PM,obs,show decide ((0:Int)<=a/\a<=255)=false from ha,nF,obs,cT])
  (by
   show Ai l (l.length:Int) (l.length:Int)=_;unfold Ai;rw[zq (by omega)];rfl)
 unfold CX A4 Bh;cases ha:l.all Ip with
 |true=>
  have h1':Ax (fun(s:((List Int)×(Int×Int)))=>Ai s.1 s.2.1 s.2.2) (l,((l.length:Int),(0:Int)))=_:=h1 ha;rw[h1'];rfl
 |false=>
  obtain⟨k,hk,h3⟩:=h2 ha;have h3':Ax (fun(s:((List Int)×(Int×Int)))=>Ai s.1 s.2.1 s.2.2) (l,((l.length:Int),(0:Int)))=_:=h3;rw[h3',obs];simp only[Sum.elim_inr,obs];rw[zp (by omega)];rfl
theorem Tk{l:List Int}(hl:l.length<=100):Fp l=some (l.all Ip):=by
 obtain⟨h1,h2⟩:=Nw (l:=l) (st:=fun k=>(l,(l,((l.length:Int),(k:Int))))) (p:=Ip) (body:=fun(s:((List Int)×((List Int)×(Int×Int))))=>A9 s.1 s.2.1 s.2.2.1 s.2.2.2) (fin:=.inl l) (bad:=fun k=>.inr false)
  (by
   intro k a hk ha;have:=KD hk;show A9 l l (l.length:Int) (k:Int)=_;unfold A9;rw[zp (by omega),cT,BS,hk,obs,U9,obs,ha,nT,cF,JI (by omega)])
  (by
   intro k a hk ha;have:=KD hk;show A9 l l (l.length:Int) (k:Int)=_;unfold A9;rw[zp (by omega),cT,BS,hk,obs,U9,obs,ha,nF,cT])
  (by
   show A9 l l (l.length:Int) (l.length:Int)=_;unfold A9;rw[zq (by omega)];rfl)
 unfold Fp;cases ha:l.all Ip with
 |true=>
  have h1':Ax (fun(s:((List Int)×((List Int)×(Int×Int))))=>A9 s.1 s.2.1 s.2.2.1 s.2.2.2) (l,(l,((l.length:Int),(0:Int))))=_:=h1 ha;rw[h1',obs];simp only[Sum.elim_inl];rw[zp (by omega)]
 |false=>
  obtain⟨k,hk,h3⟩:=h2 ha;have h3':Ax (fun(s:((List Int)×((List Int)×(Int×Int))))=>A9 s.1 s.2.1 s.2.2.1 s.2.2.2) (l,(l,((l.length:Int),(0:Int))))=_:=h3;rw[h3'];rfl
theorem Ud{l:List Int}(hl:l.length<=100):∀(n a:Nat)(s:Str),a+n=l.length->s.length<=1000+a->
  Ax (fun(s:((List UInt8)×((List Int)×(Int×Int))))=>Bl s.1 s.2.1 s.2.2.1 s.2.2.2) (s,(l,((l.length:Int),(a:Int))))=some (s++AK ((l.drop a).map (zi .u8))):=by
 intro n
 induction n with
 |zero=>
  intro a s ha hs;rw[List.drop_eq_nil_of_le (by omega)];refine BV ?_
  unfold Bl;simp only;rw[zq (by omega),cF];simp[AK]
 |succ n ih=>
  intro a s ha hs;have hlt:a<l.length:=by omega
  have he:l[a]? =some l[a]:=za2 hlt;have hd:l.drop a=l[a]::l.drop (a+1):=List.drop_eq_getElem_cons hlt;generalize l[a]=x at he hd;have hgo:(fun(s:((List UInt8)×((List Int)×(Int×Int))))=>Bl s.1 s.2.1 s.2.2.1 s.2.2.2) (s,(l,((l.length:Int),(a:Int))))=some (.inl (s++AK [zi .u8 x],(l,((l.length:Int),((a+1:Nat):Int))))):=by
   unfold Bl;simp only;rw[zp (by omega),cT,BS,he,obs,BP (by simp[AK];omega),obs,JI (by omega)]
  rw[DT hgo,ih (a+1) _ (by omega) (by simp[AK];omega),hd];simp[AK]
theorem PX{w h:Int}{l:List Int}(hw:1<=w/\w<=10)(hh:1<=h/\h<=10)(hl:l.length<=100):CR w h l=some (CC w h++AK (l.map (zi .u8))):=by
 unfold CR;have n1:=Dy (n:=w) (by omega) (by omega);have n2:=Dy (n:=h) (by omega) (by omega);have e:([80,53,10]++Lib.itoa w++[32]++Lib.itoa h++[10,50,53,53,10]:Str)=CC w h:=by unfold CC;simp
 have hb:=Ud hl l.length 0 (CC w h) (by omega) (by rw[<-e];simp;omega);rw[N6 (by omega) (by omega),obs,BP (by simp;omega),obs,BP (by simp;omega),obs,N6 (by omega) (by omega),obs,BP (by simp;omega),obs,BP (by simp;omega),obs];rw[e];have hb':Ax (fun(s:((List UInt8)×((List Int)×(Int×Int))))=>Bl s.1 s.2.1 s.2.2.1 s.2.2.2) (CC w h,(l,((l.length:Int),(0:Int))))=_:=hb;rw[hb',obs,List.drop_zero]
def Hc(w h:Int)(l:List Int):Prop:=1<=w/\w<=10/\1<=h/\h<=10/\(l.length:Int)=w*h/\l.all Ip=true
instance (w h:Int) (l:List Int):Decidable (Hc w h l):=by unfold Hc;exact inferInstance
def HW(w h:Int)(l:List Int):Str×Bool:=if Hc w h l then(CC w h++AK (l.map (zi .u8)),true)else([],false)
theorem CZ{w h:Int}{l:List Int}(p:¬Hc w h l):HW w h l=([],false):=zw p
theorem F7{w h:Int}{l:List Int}:BM w h l=some (HW w h l):=by
 unfold BM;rw[Kr,obs];by_cases c1:1<=w/\w<=10
 ·rw[zp c1,nT,cF,Kr,obs];by_cases c2:1<=h/\h<=10
  ·have hm:=G4 c1 c2;rw[zp c2,nT,cF,AU (n:=w*h) (by omega) (by omega)];by_cases c3:(l.length:Int)=w*h
   ·rw[show((l.length:Int) != w*h)=false by simpa[bne]using c3,cF,Tk (by omega),obs];cases c4:l.all Ip with
    |true=>
     rw[nT,cF,PX c1 c2 (by omega),obs];unfold HW;rw[zr ⟨c1.1,c1.2,c2.1,c2.2,c3,c4⟩]
    |false=>
     rw[nF,cT,CZ (fun p=>by rw[p.2.2.2.2.2]at c4;cases c4)]
   ·rw[show((l.length:Int) != w*h)=true by simpa[bne]using c3,cT,CZ (fun p=>c3 p.2.2.2.2.1)]
  ·rw[zq c2,nF,cT,CZ (fun p=>c2 ⟨p.2.2.1,p.2.2.2.1⟩)]
 ·rw[zq c1,nF,cT,CZ (fun p=>c1 ⟨p.1,p.2.1⟩)]
theorem Gj{w h:Int}{l:List Int}:Bm w h l=some (HW w h l):=by
 unfold Bm Qu;rw[PM,obs];by_cases c1:1<=w/\w<=10
 ·rw[zp c1,nT,cF,PM,obs];by_cases c2:1<=h/\h<=10
  ·have hm:=G4 c1 c2;rw[zp c2,nT,cF,AU (n:=w*h) (by omega) (by omega)];by_cases c3:(l.length:Int)=w*h
   ·rw[zw (fun h=>h c3),Tg (by omega),obs];cases c4:l.all Ip with
    |true=>
     have n1:=Dy (n:=w) (by omega) (by omega);have n2:=Dy (n:=h) (by omega) (by omega);rw[nT,cF,OP c1 c2,obs,zr ⟨by unfold CC;simp;omega,by omega⟩];unfold HW;rw[zr ⟨c1.1,c1.2,c2.1,c2.2,c3,c4⟩]
    |false=>
     rw[nF,cT,CZ (fun p=>by rw[p.2.2.2.2.2]at c4;cases c4)]
   ·rw[zr c3,CZ (fun p=>c3 p.2.2.2.2.1)]
  ·rw[zq c2,nF,cT,CZ (fun p=>c2 ⟨p.2.2.1,p.2.2.2.1⟩)]
 ·rw[zq c1,nF,cT,CZ (fun p=>c1 ⟨p.1,p.2.1⟩)]
theorem Nf{w h:Int}{l:List Int}:(HW w h l).1.length<=1000:=by
 unfold HW
 split
 ·rename_i p;have hm:=G4 ⟨p.1,p.2.1⟩ ⟨p.2.2.1,p.2.2.2.1⟩;have n1:=Dy (n:=w) (by have:=p.1;omega) (by have:=p.2.1;omega);have n2:=Dy (n:=h) (by have:=p.2.2.1;omega) (by have:=p.2.2.2.1;omega);have:=p.2.2.2.2.1;simp[CC,AK];omega
 ·simp
end
section
open Go
theorem Nk{x:Int}:Ip x=true↔0<=x/\x<=255:=by unfold Ip;simp
theorem Q7{l:List Int}(h:∀x∈l,0<=x/\x<=255):A3 (AK (l.map (zi .u8)))=l:=by
 unfold A3 AK;rw[List.map_map,List.map_map]
 conv=>rhs;rw[<-List.map_id l]
 apply List.map_congr_left
 intro x hx;have:=h x hx;simp only[Function.comp_apply,id];rw[RF (by omega) (by omega)];obtain⟨k,rfl⟩:∃k:Nat,x=k:=⟨x.toNat,by omega⟩;rw[Int.toNat_natCast,UInt8.toNat_ofNat'];omega
theorem Sk(b:Str):AK ((A3 b).map (zi .u8))=b:=by
 unfold A3 AK;rw[List.map_map,List.map_map]
 conv=>rhs;rw[<-List.map_id b]
 apply List.map_congr_left
 intro x hx;have:=x.toNat_lt;simp only[Function.comp_apply,id];rw[RF (by omega) (by omega),Int.toNat_natCast];simp
theorem Q1(b:Str):(A3 b).all Ip=true:=za3.2 fun x hx=>Nk.2 (Lo b x hx)
theorem NK(b:Str):(A3 b).length=b.length:=by unfold A3;simp
theorem RM(l:List Int):(AK (l.map (zi .u8))).length=l.length:=by unfold AK;simp
theorem Mn{w h:Int}{l:List Int}(p:Hc w h l):HW w h l=(CC w h++AK (l.map (zi .u8)),true):=zr p
theorem Uj{w h:Int}{l:List Int}(p:Hc w h l):DP (HW w h l).1 w h (AK (l.map (zi .u8))):=by
 rw[Mn p];exact⟨p.1,p.2.1,p.2.2.1,p.2.2.2.1,rfl,by rw[RM];exact p.2.2.2.2.1⟩
theorem Rx{s:Str}{w h:Int}{b:Str}(p:DP s w h b):Hc w h (A3 b):=⟨p.1,p.2.1,p.2.2.1,p.2.2.2.1,by rw[NK];exact p.2.2.2.2.2,Q1 b⟩
theorem SA{s:Str}{w h:Int}{b:Str}(p:DP s w h b):HW w h (A3 b)=(s,true):=by
 rw[Mn (Rx p),Sk,<-p.2.2.2.2.1]
theorem Sl{w h:Int}{l:List Int}(p:Hc w h l):AR (HW w h l).1=some (l,w,h,true):=by
 have:=Lx (by have:=Nf (w:=w) (h:=h) (l:=l);omega) (Uj p);rw[this,Q7];intro x hx;exact Nk.1 (za3.1 p.2.2.2.2.2 x hx)
end
section
open Go
theorem Qd(l:List Int):(AK l).length=l.length:=by unfold AK;simp
theorem P3{B':Nat}{c:List Int×Int×Int}(h:Cur B' c)(hB:B'<=90000000)(t w:Str)(ht:t.length<=100000)(hw:1<=w.length)(hw2:w.length<=1000):∃c' r,Cr c t w=some (c',r)/\Cur (B'+100) c'/\r.length<=t.length+3:=by
 unfold Cr;obtain⟨c0,v0,e0,q0,a0,b0⟩:=DU h (by omega) 3;have b0:=b0 (by omega);obtain⟨r,e1,q1,n1⟩:=SD (f:=fun(s:((List Int×Int×Int)×((List UInt8)×((List UInt8)×Int))))=>BO s.1 s.2.1 s.2.2.1 s.2.2.2) (I:=fun s=>s.2.2.1=w/\0<=s.2.2.2/\s.2.2.2<=3/\Cur (B'+50-6*s.2.2.2.toNat) s.1/\s.2.1.length+s.2.2.2.toNat<=t.length+3)
  (R:=fun s=>Cur (B'+100) s.1/\s.2.length<=t.length+3) (fun s=>s.2.2.2.toNat)
  (by
   rintro⟨c,s,w',n⟩ ⟨i1,i2,i3,i4,i5⟩;simp only at i1 i2 i3 i4 i5;subst i1;simp only;unfold BO;by_cases hn:0<n
   ·rw[zp (show n>0 from hn),cT];by_cases hs:0<s.length
    ·rw[zp (show((s.length:Nat):Int)>0 by omega),cT];obtain⟨c1,v1,e1,q1,a1,b1⟩:=DU i4 (by omega) (s.length:Int);obtain⟨c2,v2,e2,q2,a2,b2⟩:=DU q1 (by omega) (w'.length:Int);obtain⟨c3,v3,e3,q3,a3,b3⟩:=DU q2 (by omega) 3;have b1:=b1 (by omega);have b2:=b2 (by omega);have b3:=b3 (by omega);obtain⟨x,hx,_⟩:=Ml a2 b2;have s1:DH (0:Int) v1 s.length=some (0,v1.toNat):=by unfold DH;rw[zr (by omega)];rfl
     have s2:DH v1 (s.length:Int) s.length=some (v1.toNat,s.length):=by unfold DH;rw[zr (by omega)];rfl
     have s3:DH (v1+1) (s.length:Int) s.length=some ((v1+1).toNat,s.length):=by unfold DH;rw[zr (by omega)];rfl
     simp only[Ni,e1,e2,e3,hx,obs,s1,s2,AU (n:=v1+1) (by omega) (by omega),s3,AU (n:=n-1) (by omega) (by omega)];have len1:(AK [((UInt8.toNat x:Nat):Int)]).length=1:=by rw[Qd];rfl
     have fin:∀(y:Str),y.length<=s.length+1->(∃s',(some (Sum.inl (c3,(y,(w',n-1)))):Option (((List Int×Int×Int)×(Str×(Str×Int)))⊕((List Int×Int×Int)×Str)))=some (Sum.inl s')/\(s'.2.2.1=w'/\0<=s'.2.2.2/\s'.2.2.2<=3/\Cur (B'+50-6*s'.2.2.2.toNat) s'.1/\s'.2.1.length+s'.2.2.2.toNat<=t.length+3)/\s'.2.2.2.toNat<n.toNat):=by
      intro y hy;exact⟨_,rfl,⟨rfl,by simp only;omega,by simp only;omega,q3.mono (by simp only;omega),by simp only;omega⟩,by simp only;omega⟩
     by_cases h0:v3=0
     ·rw[show(v3==0)=true by simp[h0],cT,BP (by simp[len1];omega),obs,BP (by simp[len1];omega),obs];exact .inl (fin _ (by simp[len1];omega))
     ·rw[show(v3==0)=false from beq_eq_false_iff_ne.2 h0,cF];by_cases h1:v3=1
      ·rw[show(v3==1)=true by simp[h1],cT,BP (by simp[len1];omega),obs,BP (by simp[len1];omega),obs];exact .inl (fin _ (by simp[len1];omega))
      ·rw[show(v3==1)=false from beq_eq_false_iff_ne.2 h1,cF,BP (by simp;omega),obs];exact .inl (fin _ (by simp;omega))
    ·rw[zq (show ¬((s.length:Nat):Int)>0 by omega),cF];exact .inr ⟨_,rfl,i4.mono (by omega),by simp only;omega⟩
   ·rw[zq (show ¬n>0 by omega),cF];exact .inr ⟨_,rfl,i4.mono (by omega),by simp only;omega⟩) (c0,t,w,v0) ⟨rfl,by simp only;omega,by simp only;omega,q0.mono (by simp only;omega),by simp only;omega⟩
 simp only[e0,obs,Ni];have e1':Ax (fun(s:((List Int×Int×Int)×((List UInt8)×((List UInt8)×Int))))=>BO s.1 s.2.1 s.2.2.1 s.2.2.2) (c0,(t,(w,v0)))=some r:=e1;rw[e1',obs];exact⟨r.1,r.2,by rw[Ni],q1,n1⟩
end
section
open Go Go.RowKit Go.ChangeShapes Go.WideShapes Go.ChangeAt
theorem Hi{l:List Int}(h:WFC (.sl 1 (.int .u8)) l):(∀x∈l,0<=x/\x<=255)/\l.length<=1000000000000000:=by
 have h1:∀x∈l,(Lit.int .u8 x).wf=true:=h.1;have h2:l.length*1<=Af:=h.2;refine⟨fun x hx=> ?_,by unfold Af at h2;omega⟩
 have:=h1 x hx;simp[Lit.wf,IntKind.min,IntKind.max,IntKind.bits,IntKind.signed]at this;omega
end
section
open Go
abbrev CuF:=List Int×Int×Int
theorem Vl{l:List Int}{x:Int}(h:l.length<=100000):Jz 8 1 l [x]=some (l++[x]):=Mp (by simp[Af];omega) (by simp[Af];omega)
theorem Kc{w:Int×(Int×(Int×Int))}(hw:w.2.2.1*w.2.2.2<=100):∀(n:Nat)(B':Nat)(c:CuF)(l:List Int)(k:Int),Cur B' c->B'+2*n<=100000000->0<=k->(k+(n:Int)=w.2.2.1*w.2.2.2\/n=0/\¬k<w.2.2.1*w.2.2.2)->l.length<=k->(-1000000:Int)<=w.2.2.1*w.2.2.2->
  ∃c' l',Ax (fun(s:(CuF×((Int×(Int×(Int×Int)))×((List Int)×Int))))=>AJ s.1 s.2.1 s.2.2.1 s.2.2.2) (c,(w,(l,k)))=some (c',l')/\Cur (B'+2*n) c'/\l'.length<=l.length+n
 |0,B',c,l,k,hc,_,hk,hn,hl,hlo=>by
  refine⟨c,l,BV ?_,hc.mono (by omega),by omega⟩
  show AJ c w l k=_;unfold AJ;rw[AU (n:=w.2.2.1*w.2.2.2) (by omega) (by omega),zq (by omega),cF]
 |n+1,B',c,l,k,hc,hB,hk,hn,hl,hlo=>by
  have hlt:k<w.2.2.1*w.2.2.2:=by omega
  obtain⟨c1,v,e1,q1,hv⟩:=Kx hc (by omega) [0,0,0,255,255,128,7] (by simp) (by simp);obtain⟨c',l',h1,h2,h3⟩:=Kc hw n (B'+2) c1 (l++[v]) (k+1) q1 (by omega) (by omega) (by omega) (by rw[zd6];simp;omega) hlo;refine⟨c',l',?_,h2.mono (by omega),by rw[zd6]at h3;simp at h3;omega⟩
  have hgo:AJ c w l k=some (.inl (c1,(w,(l++[v],k+1)))):=by
   unfold AJ;rw[AU (n:=w.2.2.1*w.2.2.2) (by omega) (by omega),zp hlt];simp only[cT,Ni];rw[e1,obs];simp only;rw[Vl (by omega),obs,AU (by omega) (by omega)]
  exact(DT (f:=fun(s:(CuF×((Int×(Int×(Int×Int)))×((List Int)×Int))))=>AJ s.1 s.2.1 s.2.2.1 s.2.2.2) (s:=(c,(w,(l,k)))) hgo).trans h1
theorem IQ{B':Nat}{c:CuF}(h:Cur B' c)(hB:B'<=10000000){w:Int×(Int×(Int×Int))}(hw0:0<=w.2.2.1*w.2.2.2)(hw:w.2.2.1*w.2.2.2<=100):∃c' l,A6 c w=some (c',l)/\Cur (B'+1000) c'/\l.length<=100:=by
 unfold A6;obtain⟨c0,l,e0,q0,n0⟩:=Kc hw (w.2.2.1*w.2.2.2).toNat B' c [] 0 h (by omega) (by omega) (by omega) (by simp) (by omega);have hl:l.length<=100:=by simp at n0;omega
 simp only[Ni];rw[e0,obs];simp only;by_cases hk:0<l.length
 ·rw[zp (show((l.length:Nat):Int)>0 by omega),cT];obtain⟨c1,v1,e1,q1⟩:=OF q0 (by omega) 30;rw[e1,obs];cases v1 with
  |false=>exact⟨c1,l,rfl,q1.mono (by omega),hl⟩
  |true=>
   obtain⟨c2,v2,e2,q2,m2⟩:=Kx q1 (by omega) [-1,256] (by simp) (by simp);have e2':Bf c1 (List.cons (-(1:Int)) (List.cons (256:Int) (List.nil:List Int)))=some (c2,v2):=e2;simp only[cT,Ni];rw[e2',obs,show(0:Int)=((0:Nat):Int)from rfl,Ry hk,obs,show R9 l 0=some l[0]from za2 hk,obs];exact⟨_,_,rfl,q2.mono (by omega),by simp;omega⟩
 ·rw[zq (show ¬((l.length:Nat):Int)>0 by omega),cF];exact⟨_,_,rfl,q0.mono (by omega),hl⟩
theorem Fq{l:List Int}(h:l.length<=1000000):Co l l=some true:=by
 unfold Co;rw[bne_self_eq_false,cF];obtain⟨h1,h2⟩:=QK (l:=l) (body:=fun(s:((List Int)×((List Int)×(Int×Int))))=>Bo s.1 s.2.1 s.2.2.1 s.2.2.2)
  (st:=fun k (b:Unit)=>(l,(l,((l.length:Int),(k:Int))))) (step:=fun b p=>()) (fin:=fun b=>.inl ()) (I:=fun k b=>True)
  (by
   rintro k b p hk _;have hkl:=KD hk;refine⟨?_,trivial⟩
   show Bo l l (l.length:Int) (k:Int)=_;unfold Bo;rw[zp (by omega),cT,BS,hk,obs,obs,bne_self_eq_false,cF,JI (by omega)])
  (by
   rintro b _;show Bo l l (l.length:Int) (l.length:Int)=_;unfold Bo;rw[zq (by omega)];rfl) () trivial
 have h1':Ax (fun(s:((List Int)×((List Int)×(Int×Int))))=>Bo s.1 s.2.1 s.2.2.1 s.2.2.2) (l,(l,((l.length:Int),(0:Int))))=_:=h1;rw[h1'];rfl
theorem UM{a:List Int}(ca:Cur 0 (a,0,0)):∃l w h,Bv a=some (l,w,h)/\l.length<=100:=by
 unfold Bv;obtain⟨c0,v0,e0,q0,a0,b0⟩:=DU ca (by omega) 5;obtain⟨c1,v1,e1,q1,a1,b1⟩:=DU q0 (by omega) 3;obtain⟨c2,v2,e2,q2⟩:=OF q1 (by omega) 20;have b0:=b0 (by omega);have b1:=b1 (by omega);have big:∀{B':Nat}{c:CuF}(w:Int),Cur B' c->B'<=1000->0<=w->w<=11->∃c' l,A6 c (0,0,w,1+v1)=some (c',l)/\Cur (B'+1000) c'/\l.length<=100:=by
  intro B' c w hc hB h0 h1;have k1:w*(1+v1)<=11*3:=Int.mul_le_mul h1 (by omega) (by omega) (by omega);have k2:0<=w*(1+v1):=Int.mul_nonneg h0 (by omega);exact IQ hc (by omega) (w:=(0,0,w,1+v1)) k2 (by simp only;omega)
 simp only[e0,e1,e2,obs,Ni,AU (n:=1+v1) (by omega) (by omega)];cases v2 with
 |false=>
  obtain⟨c3,l,e3,q3,n3⟩:=big v0 q2 (by omega) a0 (by omega);simp only[cF,obs,Sum.elim_inr,e3];exact⟨_,_,_,rfl,n3⟩
 |true=>
  obtain⟨c4,v4,e4,q4,m4⟩:=Kx q2 (by omega) [10,11] (by simp) (by simp);have hv4:v4=10\/v4=11:=by simpa using m4
  obtain⟨c3,l,e3,q3,n3⟩:=big v4 q4 (by omega) (by omega) (by omega);simp only[cT,obs,e4,Sum.elim_inr,e3];exact⟨_,_,_,rfl,n3⟩
theorem UH{a:List Int}(ca:Cur 0 (a,0,0)):∃s,BI a=some s/\s.length<=2000:=by
 unfold BI;obtain⟨c0,v0,e0,q0,a0,b0⟩:=DU ca (by omega) 4;have b0:=b0 (by omega);obtain⟨c1,l,e1,q1,n1⟩:=IQ q0 (by omega) (w:=(0,0,1+v0,2)) (by simp only;omega) (by simp only;omega);obtain⟨c2,v2,e2,q2⟩:=OF q1 (by omega) 3;have hl:=Nf (w:=1+v0) (h:=2) (l:=l);simp only[e0,obs,Ni,AU (n:=1+v0) (by omega) (by omega),e1,F7,e2];cases v2 with
 |false=>exact⟨_,rfl,by omega⟩
 |true=>
  obtain⟨c3,r,e3,q3,n3⟩:=P3 q2 (by omega) (HW (1+v0) 2 l).1 [80,53,10,32,48,49,50] (by omega) (by simp) (by simp);simp only[cT,e3,obs];exact⟨_,rfl,by omega⟩
theorem O3{s:Str}(hs:s.length<=2000):
  (((AR s)).bind fun x9=>
  ((Bg s)).bind fun x10=>
  bif(!(x9.2.2.2==x10.2.2.2))then
   some false
  else
  bif(x9.2.1 != x10.2.1)then
   some false
  else
  bif(x9.2.2.1 != x10.2.2.1)then
   some false
  else
  ((Co x9.1 x10.1)).bind fun x11=>
  bif(!x11)then
   some false
  else
  bif x9.2.2.2 then
   ((Bm x9.2.1 x9.2.2.1 x9.1)).bind fun x12=>
   bif x12.2 then
    some (x12.1==s)
   else
   some false
  else
  some true)=some true:=by
 by_cases h:∃w h b,DP s w h b
 ·obtain⟨w,h,b,p⟩:=h;have hb:b.length<=2000:=by have:=p.2.2.2.2.1;rw[this]at hs;rw[zd6]at hs;omega
  rw[Lx (by omega) p,obs,QE p,obs];simp only[beq_self_eq_true,bne_self_eq_false,nT,cF];rw[Fq (by rw[NK];omega),obs,nT,cF,cT,Gj,obs,SA p];simp only[beq_self_eq_true,cT]
 ·have p:∀w h b,¬DP s w h b:=fun w h' b p=>h ⟨w,h',b,p⟩
  rw[OG (by omega) p,obs,OH (by omega) p,obs];simp only[beq_self_eq_true,bne_self_eq_false,nT,cF];rw[Fq (by simp),obs,nT,cF]
theorem Nl{a b:List Int}(ha:∀x∈a,0<=x/\x<=255)(hb:∀x∈b,0<=x/\x<=255)(la:a.length<=1000000000000000)(lb:b.length<=1000000000000000):Dx a b=some true:=by
 unfold Dx;rw[AU (by omega) (by omega)];by_cases hl:(a.length:Int)+(b.length:Int)>1048576
 ·rw[zp hl];rfl
 rw[zq hl,cF];have ca:Cur 0 (a,0,0):=.start ha (by omega);have cb:Cur 0 (b,0,0):=.start hb (by omega);obtain⟨l,w,h,e1,hl1⟩:=UM ca;obtain⟨s,e2,hs⟩:=UH cb;have last:=O3 hs;rw[e1,obs];simp only;rw[Gj,obs,F7,obs,beq_self_eq_true,nT,cF,beq_self_eq_true,nT,cF];by_cases p:Hc w h l
 ·have hv:(HW w h l).2=true:=by rw[Mn p]
  rw[hv,cT,Sl p,obs];simp only[bne_self_eq_false,nT,cF];rw[Fq (by omega),obs,nT,cF,obs,Sum.elim_inr,e2,obs];exact last
 ·rw[CZ p];simp only[cF,obs,Sum.elim_inr];rw[e2,obs];exact last
end
end Go.Proofs.YtiijheppiboglaaDoor.Ev
section
namespace Go.Proofs.YtiijheppiboglaaDoor.Ev
open Go Go.RowKit Go.ChangeShapes Go.WideShapes Go.ChangeAt
set_option maxRecDepth 100000
def shs:List Sh:=[.sl 1 (.int .u8),.sl 1 (.int .u8)]
theorem fits:PL Tryd.prog [34,34] shs:=by
 exact⟨.sl (e:=5) (by kernel_rfl) (by kernel_rfl) (by kernel_rfl) (.int (by kernel_rfl)),.sl (e:=5) (by kernel_rfl) (by kernel_rfl) (by kernel_rfl) (.int (by kernel_rfl)),trivial⟩
theorem own:ownKnob Tryd.prog.godebug=none:=by kernel_rfl
theorem laid:laidOutB Tryd.prog=true:=by kernel_rfl
theorem door_met(os:Os)(args:Array Value):laidMetH Tryd.prog Rows.fnFilesRow.laid ((World.laidAll Tryd.prog os Rows.fnFilesRow.laid).forCall (fun _ _=>0) ⟨#[],args,[]⟩).memory:=by
 rw[MakeChecks.laidMetH_plain _ _ _ (by kernel_rfl)];exact laidMet_laidAll _ (by kernel_rfl) (by kernel_rfl)
theorem starE: "*" ++ "errors.errorString" = "*errors.errorString" :=by decide
def ids:List Nat:=[3]
theorem libJ{W:World}(hsh:W.ShapedOpen Tryd.prog)(hL:laidMetH Tryd.prog Rows.fnFilesRow.laid W):LibJ (Jof W ids):=by
 rw[MakeChecks.laidMetH_plain _ _ _ (by kernel_rfl)]at hL;have hP:laidMet Tryd.prog Rows.fnFilesRow.laid W:=hL;have htab:Lib.TabIs Tryd.prog W "internal/strconv.uint64pow10" .u64 Lib.pow10Tab:=Lib.tabIs_of_head (g:=3) (t:=131) (e:=69) (n:=20) (by kernel_rfl) (by kernel_rfl) (by kernel_rfl) (by kernel_rfl) (by kernel_rfl) (by kernel_rfl) (show laidMet Tryd.prog ((_,Lib.tabData .u64 Lib.pow10Tab)::_) W from Hs 2 hP);unfold ids;exact {tab:=Vq (g:=3) (by kernel_rfl) (by simp) htab}
theorem lifted(os:Os)(started:os.Started)(H:Type)(enc:TypeId×Value->H):
  ReturnsInHanded {} Tryd.checked os 5 .any (fun w args=>(Rows.fnFilesSpec.pre enc Tryd.prog Tryd.f5 [] false w args/\laidMetH Tryd.prog Rows.fnFilesRow.laid w)/\sizedMet enc Tryd.prog Tryd.f5 (OpenSpec.ofChange Rows.fnFilesSpec) false w args)
   (Rows.fnFilesSpec.post enc Tryd.prog Tryd.f5 false true false false):=by
 refine F2 (C:=Tryd.checked) (X:=fun w _=>laidMetH Tryd.prog Rows.fnFilesRow.laid w) (fun _ _ _ hh h=>h.of_heap hh) own started (by kernel_rfl) Tryd.func5
  (ChangeSpec.witness_shaped (enc:=enc) (C:=Tryd.checked) (os:=os) (X:=fun w _=>laidMetH Tryd.prog Rows.fnFilesRow.laid w) false (World.laidAll Tryd.prog os Rows.fnFilesRow.laid) #[.slice none 0 0,.slice none 0 0] 8 (World.laidAll_os _ _ _) (World.shaped_of_ZipB (by kernel_rfl) (by kernel_rfl)) (by kernel_rfl) (by kernel_rfl) (by kernel_rfl) (door_met os _)) ?_
 intro W base args ds gs before hval hW hsz hsh hL;exact Mb (P:=Tryd.prog) (J:=Jof W ids) (cf:=cf0) (ext:=Uk) (F:=fun x=>Dx x.1 x.2) (shs:=shs) (by kernel_rfl) (NE (libJ hsh hL)) LP (fun d=>by kernel_rfl)
  (fun d hd=>Nl (Hi hd.1).1 (Hi hd.2.1).1 (Hi hd.1).2 (Hi hd.2.1).2) rfl rfl rfl (by kernel_rfl) fits laid
  (fun t ht=>by
   have:t=34:=by simpa using ht
   rcases this with rfl<;>exact⟨by kernel_rfl,of_decide_eq_true (by kernel_rfl)⟩) rfl
  (fun ds hl=>by
   match ds,hl with
   |[_,_],_=>rfl) Rp hval hW hsz
theorem hfn:Tryd.prog.funcNamed "loop.example/g00409/laws.FnFiles" =some 5:=by kernel_rfl
theorem closed:joinedFacts Tryd.prog 5 Tryd.f5 Rows.fnFilesSpec Rows.fnFilesRow=true:=by
 unfold joinedFacts;simp only[za1]
 repeat' apply And.intro
 all_goals (as_aux_lemma=>kernel_rfl)
theorem over:Rows.fnFilesRow.holds Tryd.pinned (OpenSpec.ofChange Rows.fnFilesSpec):=
 OpenClaim.holds_of_wide 5 Tryd.f5 rfl rfl rfl rfl rfl rfl rfl ⟨rfl,rfl,rfl,rfl,rfl⟩ rfl rfl rfl rfl rfl hfn Tryd.func5 closed
  (of_decide_eq_true (by as_aux_lemma=>kernel_rfl)) (by unfold Func.isWrapper;first|(rw[zr (by decide+kernel)];kernel_rfl)|(rw[zw (by decide+kernel)];exact⟨rfl,rfl⟩))
  (fun os started H enc _=>lifted os started H enc)
theorem carded:Rows.FnFilesCardSaid:=
 Claim7.holds_tied_plain_at .later [] [.data,.data,.data] true (true, "5146221965812b8254fdf35d5e48dd46173306175d4fd86c6c3bcecd8f185ff8") true
  over (fun _ h=>by cases h) (by as_aux_lemma=>kernel_rfl) (fun _ h=>by cases h) fnFiles_row_tie rfl ⟨rfl,rfl⟩ (by as_aux_lemma=>kernel_rfl) rfl
  (fun f fn hf hf2=>by
   obtain rfl:f=5:=zv (hfn.symm.trans hf) |>.symm
   obtain rfl:fn=Tryd.f5:=(zv (Tryd.func5.symm.trans hf2)).symm;exact⟨by as_aux_lemma=>kernel_rfl,fun j t ht=>by
    rw[show Tryd.f5.params= #[34,34]from rfl]at ht;have hm:t∈[34,34]:=by simpa using Array.mem_of_getElem? ht
    have hall:([34,34].all fun u=> !Tryd.prog.wantsStandIn u)=true:=by kernel_rfl
    exact(show Tryd.prog.wantsStandIn t=false by simpa using za3.1 hall t hm)⟩)
  (by as_aux_lemma=>kernel_rfl)
end Go.Proofs.YtiijheppiboglaaDoor.Ev
namespace Go.Proofs.YtiijheppiboglaaDoor
theorem fnFiles_holds:Rows.FnFilesSaid:=Ev.over
theorem fnFiles_card_holds:Rows.FnFilesCardSaid:=Ev.carded
#print axioms fnFiles_card_holds
end Go.Proofs.YtiijheppiboglaaDoor

end
