/- What the theorem of this claim leans on, part 4. -/
import Derived.Test.YtiijheppiboglaaGreatDoorKC
import Derived.WalkKit
import Derived.SizedLaws
import Derived.IntWalk
import Derived.Below
import Derived.Lib.LaidTab
import Derived.Lib.ItoaMem
import Derived.Lib.AppendIntMem
import Derived.Lib.Itoa
import Derived.Lib.Join
import Derived.Lib.Repeat
import Derived.Lib.Split
import Derived.Lib.SplitLaws
import Derived.Lib.IndexMore
import Derived.Lib.Strings
import Derived.Lib.AtoiAll
import Derived.Lib.AtoiErrMem
import Derived.Shelf.Strings.Builder1
import Derived.Shelf.Strings.Builder2
import Derived.Shelf.Strings.OnBuilder
import Derived.Shelf.Small.Wraps
import Derived.Shelf.Strconv.Atoi
import Derived.Shelf.Strconv.Itoa0
import Derived.Shelf.Strconv.Itoa1
import Derived.Shelf.LaysM
import Derived.Shelf.Strconv.Itoa2
import Derived.Shelf.Strconv.Itoa3
import Derived.Shelf.Strconv.AtoiErrFast
import Derived.Shelf.Strconv.ParseIntEmpty
import Derived.Shelf.Strconv.AtoiFail
import Derived.Shelf.Strconv.Clone
import Derived.Shelf.Strconv.SyntaxError
import Derived.Shelf.LaysC
import Derived.Shelf.Strconv.ToError
import Derived.Shelf.Strconv.Lower
import Derived.Shelf.Strconv.ParseUint10
import Derived.Shelf.Strconv.ParseUint10Empty
import Derived.Shelf.Strconv.ParseUint10Any
import Derived.Shelf.Strconv.ParseInt10
import Derived.Shelf.Strconv.AtoiLong
import Derived.Shelf.Strconv.AtoiInnerAll
import Derived.Shelf.Strconv.RangeError
import Derived.Shelf.Strconv.ToErrorRange
import Derived.Shelf.Strconv.AtoiAll
import Derived.Shelf.Strconv.ErrVarAll
import Derived.Shelf.Strings.Search1
import Derived.Shelf.Strings.Search2
import Derived.Shelf.Strings.Search3
import Derived.Shelf.Strings.Cut
import Derived.Shelf.Strings.Count
import Derived.Shelf.Strings.Shaped
import Derived.Shelf.Strings.Prefix
import Derived.Shelf.Strings.Split
import Derived.Test.YtiijheppiboglaaGreatDoorProg
import Derived.BigCall
import Derived.Lib.OthersKept
import Derived.HandedShaped
import Derived.LaidMore
import Derived.Shelf.Vars
import Derived.Stop.LaidErr
import Derived.KernelRfl
set_option maxHeartbeats 2000000
open Option renaming bind_some → za0,map_eq_some_iff → zb6,map_some → zd7
open List renaming getElem?_eq_getElem → za1,all_eq_true → za5,drop_eq_getElem_cons → za9,mem_append → zb0,eq_nil_of_length_eq_zero → zb2,length_cons → zb7,flatMap_cons → zb8,map_cons → zb9,mem_cons → zc1,all_cons → zd1,getElem?_map → zd4,mem_cons_of_mem → ze4,drop_zero → ze5,append_assoc → ze6,take_add_one → ze7,cons_append → ze8
open Bool renaming and_eq_true → za2,false_eq_true → zc9,true_and → ze2,not_true → zf5,false_and → zf8
open Sum renaming elim_inr → za6,elim_inl → zg0
open Nat renaming le_refl → za7,eq_of_beq_eq_true → za8,lt_or_ge → zd8
open Int renaming toNat_natCast → zc2
open Go.IntKind renaming wrap → zi, i64 → zj, u64 → zk
open Option.some renaming inj → zv, injEq → zx
open Sum renaming inl → zy, inr → zb
noncomputable section
set_option linter.unusedVariables false
set_option linter.unusedSimpArgs false
set_option linter.unusedSectionVars false
namespace Go.Proofs.YtiijheppiboglaaGreatDoor.Ev
open Go
section
variable {P:Program} {R:Rel} {cf:Cfg} {X:TX} {g:FuncId}
def MF(R:Rel)(cf:Cfg)(X:TX):Prop:=∀g E,ep X.ents g=some E->Ch R E/\E.a.g=g/\cf.byref g=(GI E.a.params).map aW
theorem wD{α:Type}{op:Op}{b:Nat}{tm:TTm}{m:Tm}{hp hpm:THp}{hvm:Hp}{K:SV->THp->Cls->Option α}{z:α}(hX:XOK P X)(hisr:isR op=true)(hr:RT hp tm m)(hh:RHm hpm hp hvm)(h:B4 X op b tm hpm K=some z):Dl P R cf op b m hp hpm hvm K z:=by
 cases op with
 |load t a=>exact wg hX hr hh h
 |indexAddr t x i=>exact Ab1 hX hr hh h
 |convert s d x=>exact wd hX hr hh h
 |slice t x lo hi mx=>
  cases mx with
  |none=>exact pO hX hr hh h
  |some m'=>
   cases hi with
   |none=>simp[B4]at h
   |some h'=>exact kK hX hr h
 |_=>simp[isR]at hisr
theorem za{α:Type}{op:Op}{b:Nat}{tm:TTm}{m:Tm}{hp:THp}{hv:Hp}{K:SV->THp->Cls->Option α}{z:α}(hX:XOK P X)(hE:MF R cf X)(hh:RH hp hv)(hr:RT hp tm m)(h:B4 X op b tm hp K=some z):bV P R cf op b tm m hv K z:=by
 cases op with
 |move x=>exact(Ah5 hr h).done hh hr
 |assign x=>exact(wc hr h).done hh hr
 |pick c x y=>exact(Ah6 hr h).done hh hr
 |alloc t=>exact yA hX hh hr h
 |box t x=>exact Am4 hX hh hr h
 |build t Aj=>exact(yW hX hr h).done hh hr
 |buildSlice t len Aj=>exact yB hX hh hr h
 |load t a=>exact(wg hX hr hh.toM h).done hh hr
 |store t a x=>exact yC hX hh hr h
 |nilCheck x=>exact(An9 hr h).done hh hr
 |binOp op t x y yt=>exact(An5 hX hr h).done hh hr
 |unOp u t x=>exact(As1 hr h).done hh hr
 |convert s d x=>exact(wd hX hr hh.toM h).done hh hr
 |makeSlice t l c=>exact Af9 hX hh hr h
 |slice t x lo hi mx=>
  cases mx with
  |none=>exact(pO hX hr hh.toM h).done hh hr
  |some m'=>
   cases hi with
   |none=>simp[B4]at h
   |some h'=>exact(kK hX hr h).done hh hr
 |fieldAddr t x k=>exact(kJ hX hr h).done hh hr
 |field t x k=>exact(yX hX hr h).done hh hr
 |indexAddr t x i=>exact(Ab1 hX hr hh.toM h).done hh hr
 |index t x i=>exact(yY hX hr h).done hh hr
 |extract x k=>exact(sN hr h).done hh hr
 |makeFunc fn first caps=>
  cases fn with
  |func f=>exact(Ah4 hr h).done hh hr
  |_=>simp[B4]at h
 |call c=>
  obtain⟨callee,args,ts⟩:=c;cases callee with
  |builtin bi=>
   cases bi with
   |append=>exact u7 hX hh hr h
   |len=>exact(An6 hX hr hh.toM h).done hh hr
   |min=>exact(An8 hr h).done hh hr
   |max=>exact(An7 hr h).done hh hr
   |_=>simp[B4]at h
  |value f=>
   simp only[B4]at h;split at h
   ·rename_i g caps hf;have hc:=Ba hr f;rw[hf]at hc;obtain⟨us,hfv,hcs⟩:=qM hc;obtain⟨x,hp',cls,y,hv',h1,h2,h3,h4,h5⟩:=rJ hE hh hr (RC.append (LH hr args.toList) (hcs.mono fun _ _ _ h=>h.to1.to2)) h;refine⟨x,hp',cls,y,hv',h1,h2,h3,h4,fun KV hk=> ?_⟩;show(match AL m f with|.cl g caps=>Fi R cf g (args.toList.map (AL m)++caps) hv b KV|_=>False);rw[hfv];exact h5 KV hk
   ·cases h
  |_=>simp[B4]at h
 |_=>simp[B4]at h
theorem wo{b:Nat}:∀(hp:THp)(id:Nat),AG (kS b hp) id=if id<b then AG hp id else none
 |[],id=>by simp[kS,AG]
 |(k,x)::l,id=>by
  have ih:=wo (b:=b) l id;unfold kS at ih⊢
  rw[List.filter_cons];by_cases hk:k<b
  ·have:Nat.blt k b=true:=Nat.ble_eq_true_of_le hk;simp only[this,if_true];rw[AH,AH];by_cases hi:id=k
   ·subst hi;rw[zr rfl,zr rfl,zr hk]
   ·rw[zw hi,zw hi];exact ih
  ·have:Nat.blt k b=false:=by
    cases hb:Nat.blt k b with
    |false=>rfl
    |true=>exact absurd (Nat.lt_of_succ_le (Nat.le_of_ble_eq_true hb)) hk
   simp only[this,zc9,if_false];rw[AH];by_cases hi:id=k
   ·subst hi;rw[zw hk]at ih⊢;exact ih
   ·rw[zw hi];exact ih
theorem yr{α:Type}{draw:Bool}{op:Op}{b:Nat}{tm:TTm}{m:Tm}{hp:THp}{hv:Hp}{K:SV->THp->Cls->Option α}{z:α}(hX:XOK P X)(hE:MF R cf X)(hh:RH hp hv)(hr:RT hp tm m)(h:yk X draw op b tm hp K=some z):
  ∃x hp' cls y hv',K x hp' cls=some z/\RV2 hp' x y/\RH hp' hv'/\RT hp' tm m/\∀KV:CD,KV y hv' cls->IJ P R cf draw op b (AL m) hv KV:=by
 unfold yk at h;cases hd:draw&&isR op with
 |true=>
  rw[hd]at h;have hi:isR op=true:=by simp only[za2]at hd;exact hd.2
  obtain⟨x,y,cls,h1,h2,h3⟩:=wD (R:=R) (cf:=cf) (hp:=hp) (hpm:=kS b hp) (hvm:=y4 b hv) hX hi hr (fun id bb hb=>by
   rw[wo]at hb;split at hb
   ·rename_i hlt;obtain⟨k,hk,hrb⟩:=hh id bb hb;exact⟨hb,k,by simp only[y4,zr hlt,hk],hrb⟩
   ·cases hb) h
  refine⟨x,hp,cls,y,hv,h1,h2,hh,hr,fun KV hk=> ?_⟩;unfold IJ;rw[hd];exact h3 (fun x _ cls=>KV x hv cls) hk
 |false=>
  rw[hd]at h;obtain⟨x,hp',cls,y,hv',h1,h2,h3,h4,h5⟩:=za hX hE hh hr h;refine⟨x,hp',cls,y,hv',h1,h2,h3,h4,fun KV hk=> ?_⟩;unfold IJ;rw[hd];exact h5 KV hk
theorem qE{hp:THp}{tm:TTm}{m:Tm}{x:SV}{y:V}(h:RT hp tm m)(hx:RV2 hp x y)(dst:Option Tmp):RT hp (RY tm dst x) (put m dst y):=by
 cases dst with
 |none=>exact h
 |some d=>
  intro t;simp only[RY,put];rw[Gw];unfold upd;split
  ·exact hx
  ·exact h t
theorem xF{hp:THp}{tm:TTm}{m:Tm}{op:Op}(hr:RT hp tm m)(h:oP tm op=true):pX m op=vR tm op:=by
 unfold pX vR;unfold oP at h;generalize op.operands.toList=l at h⊢
 induction l with
 |nil=>rfl
 |cons y l ih=>
  simp only[zb9,zd1,za2]at h;simp only[zb8,zb9];rw[ih h.2,(Jt h.1 (Ba hr y)).2.2.1]
theorem Uf{α β:Type}{f g:α->List β}:∀{l:List α},(∀x∈l,f x=g x)->l.flatMap f=l.flatMap g
 |[],_=>rfl
 |x::l,h=>by
  rw[zb8,zb8,h x (List.mem_cons_self ..),Uf fun y hy=>h y (ze4 _ hy)]
theorem ma{hp:THp}{hv:Hp}{tm:TTm}{m:Tm}{op:Op}{ids:List Nat}(hE:MF R cf X)(hh:RH hp hv)(hr:RT hp tm m)(h:UV X op tm hp=some ids):KI cf op (AL m) hv=some ids:=by
 unfold UV at h;split at h
 ·rename_i t a x;split at h
  ·rename_i hc;cases h;simp only[za2]at hc;simp only[KI];rw[(Jt hc.1 (Ba hr a)).2.2.1,(Jt hc.2 (Ba hr x)).2.2.1]
  ·cases h
 ·rename_i f args tys;split at h
  case h_2=>cases h
  rename_i g caps hf;split at h
  case h_2=>cases h
  rename_i E hfe;obtain⟨_,_,hbr⟩:=hE g E hfe;split at h
  case h_2=>cases h
  rename_i args' hargs';split at h
  case isFalse=>cases h
  rename_i s1;split at h
  case h_2=>cases h
  rename_i o ho;cases h;have hc:=Ba hr f;rw[hf]at hc;obtain⟨us,hfv,hcs⟩:=qM hc;obtain⟨ys',hV,hargs2,hlent⟩:=SM hh hargs' (RC.append (LH hr args.toList) (hcs.mono fun _ _ _ h=>h.to1.to2));obtain⟨a1,a2,a3,a4⟩:=RC.all1 s1 hargs2;rw[<-hbr]at hV hlent;have hclose:F8 hv 64 (ys'.flatMap Ag) []=some o:=by rw[a2];exact I6 hh _ _ _ ho
  have hcloseC:Fu hv (ys'.flatMap Ag)=some o:=by
   unfold Fu;rw[hclose];simp only;rw[zr (by rw[a2];exact T8 hh ho)]
  simp only[KI,hfv,hV,hcloseC,hlent]
 ·rename_i t n Aj;split at h
  ·rename_i hc;cases h;simp only[KI]
   congr 1
   refine Uf fun p hp=> ?_
   exact(Jt (za5.1 hc p hp) (Ba hr p.2)).2.2.1
  ·cases h
 ·cases h
theorem yJ{hp:THp}{hv:Hp}{tm:TTm}{m:Tm}{all:List Oper}{i:Nat}(hE:MF R cf X)(hh:RH hp hv)(hr:RT hp tm m)(h:sb X all tm hp i=true):Kb cf all m hv i=true:=by
 unfold sb at h;unfold Kb;cases ha:all[i]? with
 |none=>rw[ha]at h;cases h
 |some a=>
  rw[ha]at h;simp only[za2]at h⊢
  refine⟨h.1,?_⟩;replace h:=h.2;cases ht:UV X a.op tm hp with
  |none=>rw[ht]at h;cases h
  |some ids=>
   rw[ht]at h;rw[ma hE hh hr ht];simp only at h⊢
   refine za5.2 fun j hj=> ?_
   have h4:=za5.1 h j hj;cases ho:all[j]? with
   |none=>simp
   |some o=>
    rw[ho]at h4;simp only[Bool.or_eq_true,za2]at h4⊢
    rcases h4 with h4|h4|⟨h4,h5,h6⟩
    ·exact .inl h4
    ·exact .inr (.inl h4)
    ·exact .inr (.inr ⟨h4,by rw[xF hr h5];exact h6⟩)
theorem Ai2{hp:THp}{hv:Hp}{tm:TTm}{m:Tm}{all:List Oper}{i:Nat}(hE:MF R cf X)(hh:RH hp hv)(hr:RT hp tm m)(h:(eOK all i||sb X all tm hp i)=true):(eOK all i||Kb cf all m hv i)=true:=by
 simp only[Bool.or_eq_true]at h⊢
 exact h.imp (fun h=>h) (yJ hE hh hr)
theorem vb{α:Type}{draw ok ok':Bool}{cls:Cls}{A:Option α}{z:α}(hok:ok=true->ok'=true)(h:gD draw ok cls A=some z):A=some z/\∀B:Prop,B->drawn draw ok' cls B:=by
 cases draw<;>cases cls<;>first|exact⟨h,fun B hb=>hb⟩|(obtain⟨h1,h2⟩:=DD h;exact⟨h2,fun B hb=>⟨hok h1,hb⟩⟩)
theorem aL{α:Type}{all:List Oper}{draw:Bool}(hX:XOK P X)(hE:MF R cf X):∀(l:List Oper)(i:Nat){st:TSt}{s:St}{K:TSt->Option α}{z:α},RS st s->U2 X all draw l i st K=some z->
  ∃st' s',K st'=some z/\RS st' s'/\st'.c=st.c/\∀KV:St->Prop,KV s'->CP P R cf all draw l i s KV
 |[],i,st,s,K,z,hs,h=>⟨st,s,h,hs,rfl,fun KV hk=>hk⟩
 |o::l,i,st,s,K,z,hs,h=>by
  have go:∀(tm:TTm),RT st.hp tm s.tm->(yk X draw o.op (16*(st.c+i)) tm st.hp fun x hp cls=>gD draw (eOK all i||sb X all tm st.hp i) cls (U2 X all draw l (i+1) {tm:=RY tm o.dst x,hp:=hp,c:=st.c} K))=some z->
    ∃st' s',K st'=some z/\RS st' s'/\st'.c=st.c/\∀KV:St->Prop,KV s'->IJ P R cf draw o.op (16*(s.c+i)) (AL s.tm) s.hp fun x hp cls=>drawn draw (eOK all i||Kb cf all s.tm s.hp i) cls (CP P R cf all draw l (i+1) {tm:=put s.tm o.dst x,hp:=hp,c:=s.c} KV):=by
   intro tm hr h;obtain⟨x,hp',cls,y,hv',h1,h2,h3,h4,h5⟩:=yr (R:=R) (cf:=cf) hX hE hs.hp hr h;obtain⟨h6,h7⟩:=vb (Ai2 hE hs.hp hr) h1;obtain⟨st',s',q1,q2,q3,q4⟩:=aL hX hE l (i+1) (st:={tm:=RY tm o.dst x,hp:=hp',c:=st.c}) (s:={tm:=put s.tm o.dst y,hp:=hv',c:=s.c}) ⟨qE h4 h2 o.dst,h3,hs.c⟩ h6;exact⟨st',s',q1,q2,q3,fun KV hk=>by rw[hs.c];exact h5 _ (by have:=h7 _ (q4 KV hk);rw[hs.c]at this;exact this)⟩
  have no:∀(tm:TTm),RT st.hp tm s.tm->U2 X all draw l (i+1) {tm:=RY tm o.dst (.tup []),hp:=st.hp,c:=st.c} K=some z->
    ∃st' s',K st'=some z/\RS st' s'/\st'.c=st.c/\∀KV:St->Prop,KV s'->CP P R cf all draw l (i+1) {tm:=put s.tm o.dst (.tup []),hp:=s.hp,c:=s.c} KV:=by
   intro tm hr h;exact aL hX hE l (i+1) (st:={tm:=RY tm o.dst (.tup []),hp:=st.hp,c:=st.c}) (s:={tm:=put s.tm o.dst (.tup []),hp:=s.hp,c:=s.c}) ⟨qE (x:=.tup []) (y:=.tup []) hr ⟨[],rfl,trivial⟩ o.dst,hs.hp,hs.c⟩ h
  simp only[U2]at h;cases hg:o.guard with
  |none=>
   rw[hg]at h;obtain⟨st',s',q1,q2,q3,q4⟩:=go st.tm hs.tm h;exact⟨st',s',q1,q2,q3,fun KV hk=>by unfold CP;rw[hg];exact q4 KV hk⟩
  |some jw=>
   obtain⟨j,want⟩:=jw;rw[hg]at h;simp only at h;cases hd:(all[j]?).bind (·.dst)with
   |none=>rw[hd]at h;cases h
   |some d=>
    rw[hd]at h;simp only at h;have htd:=hs.tm d;have fin:∀w:Bool,VE (s.tm d) want=some w->(∃st' s',K st'=some z/\RS st' s'/\st'.c=st.c/\∀KV:St->Prop,KV s'->(if w=true then IJ P R cf draw o.op (16*(s.c+i)) (AL s.tm) s.hp fun x hp cls=>drawn draw (eOK all i||Kb cf all s.tm s.hp i) cls (CP P R cf all draw l (i+1) {tm:=put s.tm o.dst x,hp:=hp,c:=s.c} KV)else CP P R cf all draw l (i+1) {tm:=put s.tm o.dst (.tup []),hp:=s.hp,c:=s.c} KV))->
      ∃st' s',K st'=some z/\RS st' s'/\st'.c=st.c/\∀KV:St->Prop,KV s'->CP P R cf all draw (o::l) i s KV:=by
     intro w hw ⟨st',s',q1,q2,q3,q4⟩;refine⟨st',s',q1,q2,q3,fun KV hk=> ?_⟩;unfold CP;rw[hg];simp only[hd,zd7,An,hw];exact q4 KV hk
    have same:∀t:Bool,s.tm d=.v (.bool t)->RT st.hp ((d,.bool t)::st.tm) s.tm:=by
     intro t ht t';rw[Gw];split
     ·rename_i he;rw[he,ht];rfl
     ·exact hs.tm t'
    split at h
    ·rename_i t hv;rw[hv]at htd;have htd:=Rf htd;cases want with
     |true=>
      simp only at h;cases t with
      |true=>
       obtain⟨st',s',q1,q2,q3,q4⟩:=go _ (same true htd) h;exact fin true (by rw[htd];rfl) ⟨st',s',q1,q2,q3,fun KV hk=>by rw[zr rfl];exact q4 KV hk⟩
      |false=>
       obtain⟨st',s',q1,q2,q3,q4⟩:=no _ (same false htd) h;exact fin false (by rw[htd];rfl) ⟨st',s',q1,q2,q3,fun KV hk=>by rw[zw (by simp)];exact q4 KV hk⟩
     |false=>
      simp only at h;cases t with
      |true=>
       obtain⟨st',s',q1,q2,q3,q4⟩:=no _ (same true htd) h;exact fin false (by rw[htd];rfl) ⟨st',s',q1,q2,q3,fun KV hk=>by rw[zw (by simp)];exact q4 KV hk⟩
      |false=>
       obtain⟨st',s',q1,q2,q3,q4⟩:=go _ (same false htd) h;exact fin true (by rw[htd];rfl) ⟨st',s',q1,q2,q3,fun KV hk=>by rw[zr rfl];exact q4 KV hk⟩
    ·rename_i hv;rw[hv]at htd;obtain⟨us,hus,hc⟩:=(show ∃us,s.tm d=.tup us/\RC (RV1 st.hp) [] us from htd);cases us with
     |cons a l=>exact hc.elim
     |nil=>
      obtain⟨st',s',q1,q2,q3,q4⟩:=no _ hs.tm h;exact fin false (by rw[hus];rfl) ⟨st',s',q1,q2,q3,fun KV hk=>by rw[zw (by simp)];exact q4 KV hk⟩
    ·cases h
structure CfOK (cf:Cfg) (g:FuncId) (X:TX):Prop where
 live:∀r an,Fd X.ann.heads r=some an->cf.live g r=CG an
 out:∀r outs ex an,Fd X.ann.outs r=some outs->RP outs ex=some an->cf.out g r ex=CG an
 join:∀r an,Fd X.ann.joins r=some an->cf.join g r=some (CG an)
 nojoin:∀r,Fd X.ann.joins r=none->cf.join g r=none
 res:cf.res g=(CG X.ann.res).map (·.2)
 par:cf.par g=CG X.ann.params
 rts:cf.rts g=GF (Yk (C8 X.ann.res) X.ann.e 0 (C8 X.ann.res))
theorem ei{a b:Ex}(h:Vy a b=true):a=b:=by
 cases a<;>cases b<;>simp[Vy]at h
 ·rfl
 ·rw[h]
 ·rfl
theorem pK{α:Type}{e:Nat}{Q:uA α}{ex:Ex}{st:TSt}{z:α}:∀{l:List (Ex×List Item)}{d:yD l},nO e l ex st=some d->vd Q l d=some z->∃an dd,RP l ex=some an/\GB e an st=some dd/\Q ex (JS an dd)=some z
 |[],d,h,_=>by cases h
 |[a],d,h,hz=>by
  simp only[nO]at h;obtain⟨h1,h2⟩:=DD h;have:=ei h1;subst this;refine⟨a.2,d,?_,h2,hz⟩;show cond (Vy a.1 a.1) (some a.2) _=_;rw[h1];rfl
 |a::b::l,d,h,hz=>by
  simp only[nO]at h;cases hc:Vy a.1 ex with
  |true=>
   rw[hc]at h;simp only[cond_true,zb6]at h;obtain⟨dd,h1,rfl⟩:=h;have:=ei hc;subst this;refine⟨a.2,dd,?_,h1,hz⟩;show cond (Vy a.1 a.1) (some a.2) _=_;rw[hc];rfl
  |false=>
   rw[hc]at h;simp only[cond_false,zb6]at h;obtain⟨dd,h1,rfl⟩:=h;obtain⟨an,d2,q1,q2,q3⟩:=pK (l:=b::l) h1 hz;refine⟨an,d2,?_,q2,q3⟩;show cond (Vy a.1 ex) (some a.2) (RP (b::l) ex)=_;rw[hc];exact q1
theorem Gv(hX:XOK P X)(hE:MF R cf X)(hcf:CfOK cf g X):∀(c:Code){α:Type}{st:TSt}{s:St}{Q:uA α}{z:α},RS st s->wtC X c st Q=some z->
  ∃ex st' s',Q ex st'=some z/\RS st' s'/\∀QV:I3,QV ex s'->we P R cf g X.e c s QV
 |.skip,α,st,s,Q,z,hs,h=>⟨.normal,st,s,h,hs,fun QV hq=>hq⟩
 |.exit id,α,st,s,Q,z,hs,h=>⟨.exit id,st,s,h,hs,fun QV hq=>hq⟩
 |.ret,α,st,s,Q,z,hs,h=>⟨.ret,st,s,h,hs,fun QV hq=>hq⟩
 |.region id ops draw,α,st,s,Q,z,hs,h=>by
  obtain⟨st',s',h1,h2,h3,h4⟩:=aL (R:=R) (cf:=cf) hX hE _ 0 hs h;refine⟨.normal,_,{s' with c:=s'.c+ops.size},h1,⟨h2.tm,h2.hp,by show s'.c+_=st'.c+_;rw[h2.c]⟩,fun QV hq=> ?_⟩;unfold we;exact h4 _ hq
 |.seq a b,α,st,s,Q,z,hs,h=>by
  unfold wtC at h;cases hj:Fd X.ann.joins (rid b)with
  |none=>
   rw[hj]at h;simp only at h;obtain⟨ex,st1,s1,h1,h2,h3⟩:=Gv hX hE hcf a hs h;cases ex with
   |normal=>
    obtain⟨ex,st2,s2,q1,q2,q3⟩:=Gv hX hE hcf b h2 h1;exact⟨ex,st2,s2,q1,q2,fun QV hq=>by unfold we;exact h3 _ (by show gY _ _ _ _;rw[hcf.nojoin _ hj];exact q3 QV hq)⟩
   |exit id=>exact⟨.exit id,st1,s1,h1,h2,fun QV hq=>by unfold we;exact h3 _ hq⟩
   |ret=>exact⟨.ret,st1,s1,h1,h2,fun QV hq=>by unfold we;exact h3 _ hq⟩
  |some an=>
   rw[hj]at h;simp only at h;obtain⟨w,hw,hz⟩:=Br h;obtain⟨ex,st1,s1,h1,h2,h3⟩:=Gv hX hE hcf a hs hw;have other:∀ex',ex'≠ .normal->ex=ex'->(Q ex' st1).map zy=some w->∃ex st' s',Q ex st'=some z/\RS st' s'/\∀QV:I3,QV ex s'->we P R cf g X.e (a.seq b) s QV:=by
    intro ex' hne he h1;subst he;simp only[zb6]at h1;obtain⟨r,hr,rfl⟩:=h1;simp only[zg0,zx]at hz;subst hz;refine⟨ex,st1,s1,hr,h2,fun QV hq=> ?_⟩;unfold we;refine h3 _ ?_;cases ex with
    |normal=>exact absurd rfl hne
    |exit id=>exact hq
    |ret=>exact hq
   cases ex with
   |normal=>
    simp only[zb6]at h1;obtain⟨d,hd,rfl⟩:=h1;simp only[za6]at hz;obtain⟨s2,c1,c2⟩:=Nf h2 hd;obtain⟨ex,st3,s3,q1,q2,q3⟩:=Gv hX hE hcf b c2 hz;exact⟨ex,st3,s3,q1,q2,fun QV hq=>by unfold we;exact h3 _ (by show gY _ _ _ _;rw[hcf.join _ _ hj];exact c1 _ (q3 QV hq))⟩
   |exit id=>exact other (.exit id) (by simp) rfl h1
   |ret=>exact other .ret (by simp) rfl h1
 |.cond c x y,α,st,s,Q,z,hs,h=>by
  unfold wtC at h;have hc:=Ba hs.tm c;split at h
  ·rename_i t ht;rw[ht]at hc;have hc:=Rf hc;cases t with
   |true=>
    obtain⟨ex,st1,s1,h1,h2,h3⟩:=Gv hX hE hcf x hs h;exact⟨ex,st1,s1,h1,h2,fun QV hq=>by unfold we;rw[hc];exact h3 QV hq⟩
   |false=>
    obtain⟨ex,st1,s1,h1,h2,h3⟩:=Gv hX hE hcf y hs h;exact⟨ex,st1,s1,h1,h2,fun QV hq=>by unfold we;rw[hc];exact h3 QV hq⟩
  ·cases h
 |.block id c,α,st,s,Q,z,hs,h=>by
  unfold wtC at h;obtain⟨ex,st1,s1,h1,h2,h3⟩:=Gv hX hE hcf c hs h;cases ex with
  |normal=>exact⟨.normal,st1,s1,h1,h2,fun QV hq=>by unfold we;exact h3 _ hq⟩
  |ret=>exact⟨.ret,st1,s1,h1,h2,fun QV hq=>by unfold we;exact h3 _ hq⟩
  |exit j=>
   simp only at h1;cases hj:Nat.beq j id with
   |true=>
    rw[hj]at h1;have hji:=za8 hj;exact⟨.normal,st1,s1,h1,h2,fun QV hq=>by unfold we;exact h3 _ (by show(if j=id then _ else _);rw[zr hji];exact hq)⟩
   |false=>
    rw[hj]at h1;have hji:j≠id:=fun he=>by subst he;rw[Nat.beq_refl]at hj;cases hj
    exact⟨.exit j,st1,s1,h1,h2,fun QV hq=>by unfold we;exact h3 _ (by show(if j=id then _ else _);rw[zw hji];exact hq)⟩
 |.loop c,α,st,s,Q,z,hs,h=>by
  unfold wtC at h;split at h
  ·rename_i an outs ha ho;obtain⟨d0,hd0,h⟩:=Br h;obtain⟨w,hw,hz⟩:=Br h;obtain⟨n,hn⟩:=OI hw;obtain⟨s0,c1,c2⟩:=Nf hs hd0;have key:∀(n:Nat)(d:CC an)(s0:St),IQ (fun d=>wtC X c (JS an d) fun ex s=>match ex with|.normal=>(GB X.e an s).map .inl|ex=>(nO X.e outs ex s).map .inr) n d=some w->RS (JS an d) s0->
     ∃ex st' s',Q ex st'=some z/\RS st' s'/\∀QV:I3,QV ex s'->aD P R cf g X.e c s0 QV:=by
    intro n
    induction n with
    |zero=>intro d s0 h _;cases h
    |succ n ih=>
     intro d s0 h hs0;simp only[IQ]at h;obtain⟨o,hb,h⟩:=Br h;obtain⟨ex,st1,s1,h1,h2,h3⟩:=Gv hX hE hcf c hs0 hb;have other:∀ex',ex'≠ .normal->ex=ex'->(nO X.e outs ex' st1).map zb=some o->∃ex st' s',Q ex st'=some z/\RS st' s'/\∀QV:I3,QV ex s'->aD P R cf g X.e c s0 QV:=by
      intro ex' hne he h1;subst he;simp only[zb6]at h1;obtain⟨w',hw',rfl⟩:=h1;simp only[za6,zx]at h;subst h;obtain⟨an2,dd,q1,q2,q3⟩:=pK hw' hz;obtain⟨s2,e1,e2⟩:=Nf h2 q2;refine⟨ex,_,s2,q3,e2,fun QV hq=> ?_⟩;rw[aF];refine h3 _ ?_;cases ex with
      |normal=>exact absurd rfl hne
      |exit id=>show F7 _ _ _ _;rw[hcf.out _ _ _ _ ho q1];exact e1 _ hq
      |ret=>show F7 _ _ _ _;rw[hcf.out _ _ _ _ ho q1];exact e1 _ hq
     cases ex with
     |normal=>
      simp only[zb6]at h1;obtain⟨d',hd',rfl⟩:=h1;simp only[zg0]at h;obtain⟨s2,e1,e2⟩:=Nf h2 hd';obtain⟨ex,st3,s3,q1,q2,q3⟩:=ih d' s2 h e2;refine⟨ex,st3,s3,q1,q2,fun QV hq=> ?_⟩;rw[aF];refine h3 _ ?_;show F7 _ _ _ _;rw[hcf.live _ _ ha];exact e1 _ (q3 QV hq)
     |exit id=>exact other (.exit id) (by simp) rfl h1
     |ret=>exact other .ret (by simp) rfl h1
   obtain⟨ex,st',s',q1,q2,q3⟩:=key n d0 s0 hn c2;exact⟨ex,st',s',q1,q2,fun QV hq=>by rw[yZ,hcf.live _ _ ha];exact c1 _ (q3 QV hq)⟩
  ·cases h
 |.scope c,α,st,s,Q,z,hs,h=>by simp[wtC]at h
 |.label l,α,st,s,Q,z,hs,h=>by simp[wtC]at h
 |.goto l,α,st,s,Q,z,hs,h=>by simp[wtC]at h
 |.rangeFunc ..,α,st,s,Q,z,hs,h=>by simp[wtC]at h
 |.refuse _,α,st,s,Q,z,hs,h=>by simp[wtC]at h
end
section
variable {P:Program} {X:TX} {g:FuncId}
structure FnOK (P:Program) (cf:Cfg) (X:TX) (fn:Func) (c:Code):Prop where
 get:P.funcs[X.ann.g]? =some fn
 body:fn.body=some c
 ok:R3 fn c (Gg X.ann.params).length=true
 ext:cf.isExt X.ann.g=false
theorem Q3{cf:Cfg}{ext:Rel}{fn:Func}{c:Code}{F:CC X.ann.params->Option (CC X.ann.res)}(hX:XOK P X)(hE:MF (EX P cf ext) cf X)(hcf:CfOK cf X.ann.g X)(hf:FnOK P cf X fn c)
  (hF:∀x,wtF X fn x=F x):Ch (EX P cf ext) ⟨X.ann,F⟩:=by
 intro x y args blks st0 hy hs0 hd hid hl he _;have hy:wtF X fn x=some y:=by rw[hF];exact hy
 unfold wtF at hy;rw[hf.body]at hy;simp only at hy;have he:(args.flatMap Ag).eraseDups.length=X.e:=he;obtain⟨s0,k1,hs⟩:=Nf hs0 hd;obtain⟨ex,st',s',h1,h2,h3⟩:=Gv hX hE hcf c hs hy;have main:∀ex',ex=ex'->(∀i,ex'≠ .exit i)->(oR X st'.tm st'.hp fn.results.toList fun xs=>zc X.ann.res X.e st' xs)=some y->
   ∃r blks',EX P cf ext X.ann.g args blks r blks'/\ResRel X.ann.res y r blks':=by
  intro ex' hex hno h1;obtain⟨r,blks',q1,q2⟩:=xd (e:=X.e) (res:=X.ann.res) (rs:=fn.results.toList) (y:=y) hX h2 h1;refine⟨r,blks',EX.intro hf.ext hf.get hf.body (by rw[hl];exact hf.ok) hid ?_,q2⟩;rw[he,hcf.par];refine k1 _ (h3 _ ?_);rw[hcf.res,hcf.rts];subst hex;cases ex with
  |exit i=>exact absurd rfl (hno i)
  |normal=>exact q1
  |ret=>exact q1
 cases ex with
 |exit i=>cases h1
 |normal=>exact main .normal rfl (by simp) h1
 |ret=>exact main .ret rfl (by simp) h1
theorem vj{R:Rel}{cf:Cfg}{X:TX}(h:X.ents=[]):MF R cf X:=by
 intro g E hE;rw[h]at hE;cases hE
def mB(R:Rel)(cf:Cfg):List Ent->Prop
 |[]=>True
 |E::l=>(Ch R E/\cf.byref E.a.g=(GI E.a.params).map aW)/\mB R cf l
theorem Uc{R:Rel}{cf:Cfg}{X:TX}(h:mB R cf X.ents):MF R cf X:=by
 intro g E hE;generalize X.ents=l at h hE
 induction l with
 |nil=>cases hE
 |cons a l ih=>
  simp only[ep]at hE;cases hg:Nat.beq a.a.g g with
  |true=>
   rw[hg]at hE;simp only[cond_true,zx]at hE;subst hE;have:=za8 hg;subst this;exact⟨h.1.1,rfl,h.1.2⟩
  |false=>
   rw[hg]at hE;exact ih h.2 hE
theorem pq{tab:List FAnn}{ext:FuncId->Bool}{X:TX}(h:Qh tab X.ann.g=some X.ann):CfOK (Pf tab ext) X.ann.g X where
 live r an hr:=by simp only[Pf,h,za0,hr]
 out r outs ex an hr he:=by simp only[Pf,h,za0,hr,he]
 join r an hr:=by simp only[Pf,h,za0,hr]
 nojoin r hr:=by simp only[Pf,h,za0,hr]
 res:=by simp only[Pf,h]
 par:=by simp only[Pf,h]
 rts:=by simp only[Pf,h]
end
section
open Go Go.RowKit
def shT:Sh->Ty
 |.int k=>.int k
 |.str=>.str
 |.bool=>.bool
 |.sl _ e=>.sl (shT e)
 |.pair a b=>.pair (shT a) (shT b)
def WFS:(s:Sh)->(shT s).den->Prop
 |.int k,n=>(Lit.int k n).wf=true
 |.str,s=>s.length<=Aa
 |.bool,_=>True
 |.sl bytes e,l=>(∀a∈(show List (shT e).den from l),WFS e a)/\(show List (shT e).den from l).length*bytes<=Aa
 |.pair a b,x=>WFS a (show(shT a).den×(shT b).den from x).1/\WFS b (show(shT a).den×(shT b).den from x).2
theorem px:∀{s:Sh}{xs:List V},DV s xs->∃x,RE (shT s) x xs/\WFS s x
 |.int k,xs,h=>by obtain⟨n,rfl,hn⟩:=h;exact⟨n,rfl,hn⟩
 |.str,xs,h=>by obtain⟨s,rfl,hs⟩:=h;exact⟨s.data.toList,by simp[RE,shT],by show s.data.toList.length<=Aa;rw[Array.length_toList];exact hs⟩
 |.bool,xs,h=>by obtain⟨b,rfl⟩:=h;exact⟨b,rfl,trivial⟩
 |.sl bytes e,xs,h=>by
  obtain⟨rows,rfl,hr,hb⟩:=h;have key:∀rows:List (List V),(∀r∈rows,DV e r)->∃l:List (shT e).den,RLx (RE (shT e)) l rows/\∀a∈l,WFS e a:=by
   intro rows
   induction rows with
   |nil=>intro _;exact⟨[],RLx.nil,by simp⟩
   |cons r rows ih=>
    intro h;obtain⟨a,h1,h2⟩:=px (h r (by simp));obtain⟨l,h3,h4⟩:=ih fun r' hr'=>h r' (by simp[hr'])
    refine⟨a::l,RLx.cons h1 h3,fun b hb=> ?_⟩;rcases zc1.1 hb with rfl|hb
    ·exact h2
    ·exact h4 b hb
  obtain⟨l,h1,h2⟩:=key rows hr;exact⟨l,.inr ⟨rows,rfl,h1⟩,h2,by rw[<-h1.1];exact hb⟩
 |.pair a b,xs,h=>by
  obtain⟨l,r,rfl,h1,h2⟩:=h;obtain⟨x,q1,q2⟩:=px h1;obtain⟨y,q3,q4⟩:=px h2;exact⟨(x,y),⟨l,r,rfl,q1,q3⟩,q2,q4⟩
def Vk:Sh->AC
 |.int k=>.int k
 |.str=>.str
 |.bool=>.bool
 |.sl _ e=>.im (shT e)
 |.pair _ _=>.bool
def wC:Sh->Bool
 |.pair _ _=>false
 |_=>true
def WFC:(s:Sh)->(Vk s).den->Prop
 |.int k,n=>WFS (.int k) n
 |.str,s=>WFS .str s
 |.bool,b=>True
 |.sl n e,l=>WFS (.sl n e) l
 |.pair _ _,_=>True
theorem yF{s:Sh}{x:V}(ho:wC s=true)(h:DV s [x]):∃d:(Vk s).den,WFC s d/\∀hp,RV2 hp (rY (Vk s) d) x:=by
 obtain⟨d,h1,h2⟩:=px h;cases s with
 |int k=>
  have h1:[x]=[V.v (.int k d)]:=h1;cases h1;exact⟨d,h2,fun hp=>rfl⟩
 |str=>
  have h1:[x]=[V.v (.string ⟨Array.mk d⟩)]:=h1;cases h1;exact⟨d,h2,fun hp=>rfl⟩
 |bool=>
  have h1:[x]=[V.v (.bool d)]:=h1;cases h1;exact⟨d,trivial,fun hp=>rfl⟩
 |sl n e=>
  refine⟨d,h2,fun hp=> ?_⟩;rcases h1 with⟨e1,e2⟩|⟨rows,e2,e3⟩
  ·cases e2;exact .inl ⟨e1,rfl⟩
  ·cases e2;exact .inr ⟨rows,rfl,e3⟩
 |pair a b=>cases ho
def LL:Nat->List Sh->List Item
 |_,[]=>[]
 |i,s::l=>.slot i (.cell (Vk s))::LL (i+1) l
def WFP:(i:Nat)->(l:List Sh)->CC (LL i l)->Prop
 |_,[],_=>True
 |i,s::l,d=>WFC s (hdI (.slot i (.cell (Vk s))) (LL (i+1) l) d)/\WFP (i+1) l (tlI (.slot i (.cell (Vk s))) (LL (i+1) l) d)
def DVs:List Sh->List V->Prop
 |[],[]=>True
 |s::l,x::xs=>DV s [x]/\DVs l xs
 |_,_=>False
theorem DVs.length:∀{l:List Sh}{xs:List V},DVs l xs->xs.length=l.length
 |[],[],_=>rfl
 |_::l,_::xs,h=>by simp[DVs.length h.2]
 |[],_::_,h=>h.elim
 |_::_,[],h=>h.elim
theorem p7:∀(l:List Sh)(i:Nat){xs:List V},l.all wC=true->DVs l xs->∃d:CC (LL i l),WFP i l d/\(∀k,(Bq k (LL i l) d).2=[])/\∀k hp,RT hp (Bq k (LL i l) d).1 (lk .any (Ud i xs))
 |[],i,[],_,_=>⟨(),trivial,fun _=>rfl,fun k hp t=>trivial⟩
 |s::l,i,x::xs,ho,h=>by
  simp only[zd1,za2]at ho;obtain⟨a,h1,h2⟩:=yF ho.1 h.1;obtain⟨d,h3,h4,h5⟩:=p7 l (i+1) ho.2 h.2;refine⟨JR (.slot i (.cell (Vk s))) (LL (i+1) l) a d,⟨?_,?_⟩,fun k=> ?_,fun k hp=> ?_⟩
  ·rw[Yu (.slot i (.cell (Vk s)))];exact h1
  ·rw[UT (.slot i (.cell (Vk s)))];exact h3
  ·simp only[LL,Bq];rw[UT (.slot i (.cell (Vk s)))];exact h4 k
  ·simp only[LL,Bq];rw[UT (.slot i (.cell (Vk s))),Yu (.slot i (.cell (Vk s)))];intro t;show RV2 hp (BI ((i,j4 (.cell (Vk s)) a)::_) t) (if t=i then x else lk .any (Ud (i+1) xs) t);rw[Gw];split
   ·exact h2 hp
   ·exact h5 k hp t
 |[],_,_::_,_,h=>h.elim
 |_::_,_,[],_,h=>h.elim
section
variable {P:Program}
def pb(P:Program):List TypeId->List Sh->Prop
 |[],[]=>True
 |t::ts,s::l=>Fits P t s/\pb P ts l
 |_,_=>False
theorem fK{H:Type}{enc:TypeId×Value->H}{W:World}:∀{ts:List TypeId}{l:List Sh}{vs:List Value}{ds:List (DataW H)}{p:List MemPlace},pb P ts l->l.all wC=true->DataW.TrodAll enc P W 0 (fun _=>true) true ts vs ds p->
  (∀(j:Nat) t v,ts[j]? =some t->vs[j]? =some v->∃base,Value.okWide P W .any base t v)->(∀n∈DataW.weightsEach P ts ds,n<=reachBytes)->∃xs,DVs l xs/\jx W xs vs
 |[],[],vs,ds,p,_,_,h,_,_=>by
  obtain⟨rfl,rfl,rfl⟩:=ChangeShapes.trodAll_nil h;exact⟨[],trivial,trivial⟩
 |t::ts,s::l,vs,ds,p,hf,ho,h,hv,hw=>by
  obtain⟨v,vs',d,ds',p1,q,rfl,rfl,rfl,⟨fuel,h1⟩,h2⟩:=ChangeShapes.trodAll_cons h;simp only[zd1,za2]at ho;obtain⟨xs,q1,q2,q3⟩:=Rp fuel t s _ _ hf.1 h1 fun n hn=>hw n (by simp[DataW.weightsEach,hn])
  obtain⟨ys,q4,q5⟩:=fK hf.2 ho.2 h2 (fun j t v h1 h2=>hv (j+1) t v (by simpa using h1) (by simpa using h2)) fun n hn=>hw n (by simp[DataW.weightsEach,hn])
  have hs1:s.size=1:=by cases s<;>first|rfl|(cases ho.1)
  obtain⟨x,rfl⟩:=List.length_eq_one_iff.1 (by rw[q2,hs1]);refine⟨x::ys,⟨q1,q4⟩,?_,q5⟩;obtain⟨base,hok⟩:=hv 0 t v rfl rfl;have hc:v.cells.toList=[v]:=by
   cases hf.1 with
   |int ht=>simp only[Value.okWide,ht,Cell.okWide]at hok;cases v<;>simp_all [Cell.ok,Value.cells]
   |str ht=>simp only[Value.okWide,ht,Cell.okWide]at hok;cases v<;>simp_all [Cell.ok,Value.cells]
   |bool ht=>simp only[Value.okWide,ht,Cell.okWide]at hok;cases v<;>simp_all [Cell.ok,Value.cells]
   |sl ht=>obtain⟨a,n,c,rfl⟩:=WideShapes.okWide_slice ht hok;rfl
   |st=>cases ho.1
  rw[hc]at q3;exact q3.1
 |[],_::_,_,_,_,h,_,_,_,_=>h.elim
 |_::_,[],_,_,_,h,_,_,_,_=>h.elim
theorem bJ{H:Type}{enc:TypeId×Value->H}{W W':World}(hl:laidOutB P=true)(hb:Below W.heap.size W W'):∀{ts:List TypeId}{vs:List Value}{ds:List (DataW H)}{p:List MemPlace},(∀t∈ts,P.readableRec t=true/\t<P.types.size)->DataW.TrodAll enc P W 0 (fun _=>true) true ts vs ds p->
  ∃q,DataW.TrodAll enc P W' 0 (fun b=>decide (b<W.heap.size)) true ts vs ds q
 |[],vs,ds,p,_,h=>by
  obtain⟨rfl,rfl,rfl⟩:=ChangeShapes.trodAll_nil h;exact⟨[],ChangeShapes.trodAll_mk0⟩
 |t::ts,vs,ds,p,hr,h=>by
  obtain⟨v,vs',d,ds',p1,q,rfl,rfl,rfl,h1,h2⟩:=ChangeShapes.trodAll_cons h;obtain⟨q',h3⟩:=bJ hl hb (fun t ht=>hr t (by simp[ht])) h2;have hlt:∀x∈p1,x.block<W.heap.size:=by obtain⟨m,hm⟩:=h1;exact DataW.trod_lt m _ _ _ hm
  obtain⟨r1,r2⟩:=hr t (by simp);exact⟨_,trodAll_cons_mk (Below.trod hl r1 r2 h1 hb hlt) h3⟩
end
end
section
open Go Go.RowKit
theorem fc:∀(l:List Sh)(i:Nat),(Gg (LL i l)).length=l.length
 |[],_=>rfl
 |s::l,i=>by simp[LL,Gg,fc l (i+1)]
section
variable {P:Program} {J:Il}
def Aa8(P:Program):List (Nat×TyD)->Prop
 |[]=>True
 |x::l=>AX P x.1=some x.2/\Aa8 P l
theorem Ak4{l:List (Nat×TyD)}(h:Aa8 P l):∀t d,getD l t=some d->AX P t=some d:=by
 intro t d hd
 induction l with
 |nil=>cases hd
 |cons x l ih=>
  obtain⟨k,y⟩:=x;simp only[getD]at hd;cases hk:Nat.beq t k with
  |true=>
   rw[hk]at hd;simp only[cond_true,zx]at hd;have:=za8 hk;subst this;subst hd;exact h.1
  |false=>
   rw[hk]at hd;exact ih h.2 hd
theorem wh{cf:Cfg}{ext:Rel}{g:FuncId}{shs:List Sh}{heads joins:List (Nat×List Item)}{outs:List (Nat×List (Ex×List Item))}{F:CC (LL 0 shs)->Option Bool}
  (hm:P.follows .mixedOrders=true) (hext:∀g args blks r blks',ext g args blks r blks'->CSpec P J g args blks r blks')
  (hE:Ch (EX P cf ext) ⟨⟨g,0,LL 0 shs,[.slot 0 (.cell .bool)],heads,outs,joins⟩,F⟩) (hD:∀d,GB 0 (LL 0 shs) (JS (LL 0 shs) d)=some d) (hF:∀d,WFP 0 shs d->F d=some true) (ho:shs.all wC=true)
  {w:World} (hJ:∀x∈J,w.heap[x.1]? =some x.2) {xs:List V} {vals:Array Value} (hx:DVs shs xs) (hv:jx w xs vals.toList):Calls P g vals w fun e w'=>e=.returned (.bool true)/\Below w.heap.size w w':=by
 obtain⟨d,h1,h2,h3⟩:=p7 shs 0 ho hx;have hrefs:=fL hv;obtain⟨r,blks',q1,q2⟩:=hE d true xs [] (JS (LL 0 shs) d) (hF d h1) ⟨h3 0 _,(fun id b hb=>by
  rw[show(JS (LL 0 shs) d).hp=(Bq 0 (LL 0 shs) d).2 from rfl,h2]at hb;exact absurd hb (by simp[AG])),rfl⟩ (hD d) (l9 hv) (by rw[hx.length];exact(fc shs 0).symm) (by rw[hrefs];rfl) (fun _=>rfl)
 have hr:r=.v (.bool true):=q2.val;have hb:blks'=[]:=zb2 q2.len;subst hr;subst hb;exact sP hm hext hJ hv q1
theorem gU{H:Type}{enc:TypeId×Value->H}{cf:Cfg}{ext:Rel}{g:FuncId}{shs:List Sh}{heads joins:List (Nat×List Item)}{outs:List (Nat×List (Ex×List Item))}{F:CC (LL 0 shs)->Option Bool}{fn:Func}{s:ChangeSpec}{ts:List TypeId}{rt:TypeId}
  (hm:P.follows .mixedOrders=true) (hext:∀g args blks r blks',ext g args blks r blks'->CSpec P J g args blks r blks')
  (hE:Ch (EX P cf ext) ⟨⟨g,0,LL 0 shs,[.slot 0 (.cell .bool)],heads,outs,joins⟩,F⟩) (hD:∀d,GB 0 (LL 0 shs) (JS (LL 0 shs) d)=some d) (hF:∀d,WFP 0 shs d->F d=some true) (ho:shs.all wC=true)
  (hp:fn.params.toList=ts) (hr:fn.resultTypes.toList=[rt]) (hrt:P.underlying rt=some .bool) (hf:pb P ts shs) (hl:laidOutB P=true) (hread:∀t∈ts,P.readableRec t=true/\t<P.types.size) (hvars:s.vars=[])
  (hs:∀ds:List (DataW H),ds.length=ts.length->s.fn H (ds++[])={results:=[.lit (.bool true)],args:=ds,vars:=[]})
  {W:World} (hJ:∀x∈J,W.heap[x.1]? =some x.2) {base:Nat} {args:Array Value} {ds gs:List (DataW H)} {before:List MemPlace}
  (hval:∀(j:Nat) t v,fn.params[j]? =some t->args[j]? =some v->Value.okWide P W .any base t v) (hW:DataW.Whole enc P fn.params.toList s.vars false W args.toList ds gs before)
  (hsz:(DataW.weightsEach P (fn.params.toList++s.plain.varTypes P) (ds++gs)).all (· <=reachBytes)=true):
  Calls P g args W fun e W'=>∃v,e=.returned v/\s.post enc P fn false true false false W args v W':=by
 have hW':=hW;obtain⟨p,q,hA,hV,rfl,hfz,hnd⟩:=hW;rw[hvars]at hV;obtain⟨rfl,rfl⟩:=ChangeShapes.trodVars_none hV;rw[hp]at hA;have hlen:∀{ts:List TypeId}{vs:List Value}{ds:List (DataW H)}{p:List MemPlace},DataW.TrodAll enc P W 0 (fun _=>true) true ts vs ds p->ds.length=ts.length:=by
  intro ts
  induction ts with
  |nil=>intro vs ds p h;obtain⟨_,rfl,_⟩:=ChangeShapes.trodAll_nil h;rfl
  |cons t ts ih=>intro vs ds p h;obtain⟨v,vs',d,ds',p1,q,rfl,rfl,rfl,h1,h2⟩:=ChangeShapes.trodAll_cons h;simp[ih h2]
 have hdl:=hlen hA;have hwt:∀n∈DataW.weightsEach P ts ds,n<=reachBytes:=by
  intro n hn;have hmem:∀(a b:List TypeId)(c d:List (DataW H)),∀n∈DataW.weightsEach P a c,c.length=a.length->n∈DataW.weightsEach P (a++b) (c++d):=by
   intro a
   induction a with
   |nil=>intro b c d n hn hl;cases c<;>simp[DataW.weightsEach]at hn hl
   |cons t a ih=>
    intro b c d n hn hl;cases c with
    |nil=>simp[DataW.weightsEach]at hn
    |cons x c=>
     simp only[DataW.weightsEach,zb0,ze8]at hn⊢
     rcases hn with hn|hn
     ·exact .inl hn
     ·exact .inr (ih b c d n hn (by simpa using hl))
  rw[hp]at hsz;have:=za5.1 hsz n (hmem ts _ ds _ n hn hdl);simpa using this
 obtain⟨xs,h1,h2⟩:=fK hf ho hA (fun j t v h1 h2=>⟨base,hval j t v (by rw[<-hp]at h1;simpa using h1) (by simpa using h2)⟩) hwt;refine(wh hm hext hE hD hF ho hJ h1 h2).mono fun e W' ⟨he,bel⟩=> ?_
 subst he;obtain⟨q',hq⟩:=bJ hl bel hread hA;refine⟨_,rfl,ds,[],_,[],q',[],hW',?_,?_,?_,bel.frame _,fun h=>by cases h⟩
 ·rw[hs ds hdl,hr];have:((Value.bool true).resultList fn.resultTypes.size)=[.bool true]:=by
   have:fn.resultTypes.size=1:=by rw[<-Array.length_toList,hr];rfl
   rw[this];rfl
  rw[this];exact ChangeShapes.trodAll_mk1 (shut_bool hrt true)
 ·rw[hs ds hdl,hp];exact hq
 ·rw[hs ds hdl,hvars];rfl
end
end
theorem Ae{n:Int}(h1: -9223372036854775808<=n:=by omega)(h2:n<=9223372036854775807:=by omega):zi zj n=n:=by rw[IntKind.wrap_i64];omega
section
variable {σ τ ρ ρ':Type} {f:σ->Option (σ⊕ρ)} {g:τ->Option (τ⊕ρ')}
theorem AP{s s':σ}(h:f s=some (.inl s')):Ad f s=Ad f s':=by rw[kR,h];rfl
theorem Ak{s:σ}{r:ρ}(h:f s=some (.inr r)):Ad f s=some r:=by rw[kR,h];rfl
theorem GY{I:σ->Prop}{R:ρ->Prop}(m:σ->Nat)(h:∀s,I s->(∃s',f s=some (.inl s')/\I s'/\m s'<m s)\/∃r,f s=some (.inr r)/\R r):∀s,I s->∃r,Ad f s=some r/\R r:=by
 have:∀n s,m s<n->I s->∃r,Ad f s=some r/\R r:=by
  intro n
  induction n with
  |zero=>intro s h;omega
  |succ n ih=>
   intro s hn hs;rcases h s hs with⟨s',h1,h2,h3⟩|⟨r,h1,h2⟩
   ·obtain⟨r,h4,h5⟩:=ih s' (by omega) h2;exact⟨r,by rw[AP h1,h4],h5⟩
   ·exact⟨r,Ak h1,h2⟩
 exact fun s hs=>this (m s+1) s (by omega) hs
end
section
variable {α β γ:Type}
theorem Af(l:List α)(i:Nat):AA l (i:Int)=l[i]? :=by
 unfold AA;rw[zr (by omega)];simp
theorem Yt{l:List α}{i:Int}(h0:0<=i)(h1:i<l.length):∃a,AA l i=some a/\l[i.toNat]? =some a:=by
 unfold AA;rw[zr h0];have:i.toNat<l.length:=by omega
 exact⟨l[i.toNat],za1 this,za1 this⟩
theorem AT{i n:Nat}(h:i<n:=by omega):AW (i:Int) n=some i:=by
 unfold AW;rw[zr (by omega)];simp
theorem JW{n b s:Nat}(h1:n*b<=Aa)(h2:n*s<=Aa):Ru (n:Int) b s=some n:=by
 unfold Ru;rw[zr (by simp;omega)];simp
end
section
variable {α σ ρ:Type} {body:σ->Option (σ⊕ρ)}
theorem Fc{l:List α}{st:Nat->σ}{p:α->Bool}{fin:ρ}{bad:Nat->ρ}(hgo:∀k a,l[k]? =some a->p a=true->body (st k)=some (.inl (st (k+1))))(hbad:∀k a,l[k]? =some a->p a=false->body (st k)=some (.inr (bad k)))(hend:body (st l.length)=some (.inr fin)):
  (l.all p=true->Ad body (st 0)=some fin)/\(l.all p=false->∃k,k<l.length/\Ad body (st 0)=some (bad k)):=by
 have key:∀(n k:Nat),k+n=l.length->((l.drop k).all p=true->Ad body (st k)=some fin)/\((l.drop k).all p=false->∃j,j<l.length/\Ad body (st k)=some (bad j)):=by
  intro n
  induction n with
  |zero=>
   intro k hk;have:k=l.length:=by omega
   subst this;rw[List.drop_length];exact⟨fun _=>Ak hend,(fun h=>by cases h)⟩
  |succ n ih=>
   intro k hk;have hlt:k<l.length:=by omega
   have hd:l.drop k=l[k]::l.drop (k+1):=za9 hlt;have he:l[k]? =some l[k]:=za1 hlt;rw[hd,zd1];cases hp:p l[k]with
   |true=>
    have h1:=hgo k _ he hp;obtain⟨q1,q2⟩:=ih (k+1) (by omega);rw[ze2,AP h1];exact⟨q1,q2⟩
   |false=>
    rw[zf8];exact⟨(fun h=>by cases h),fun _=>⟨k,hlt,Ak (hbad k _ he hp)⟩⟩
 have:=key l.length 0 (by omega)
 rwa[ze5]at this
end
section
theorem Aw{k:Nat}(h:k<4611686018427387904:=by omega):zi zj ((k:Int)+1)=((k+1:Nat):Int):=by rw[Ae];omega
end
theorem Bu{β:Type}{b s:Nat}{l m:List β}(h1:(l.length+m.length)*b<=Aa)(h2:(l.length+m.length)*s<=Aa):BV b s l m=some (l++m):=by
 unfold BV;rw[zr ⟨h1,h2⟩]
section
open Go
variable {P:Program} {J:Il}
def wx:Value:=.slice none 0 0
def KO(t tb:TypeId):Code:=
 .seq (.region 0 #[⟨some 2,.assign (.const wx),t, "slices.go:355", #[],none⟩] false)
  (.seq (.seq (.region 1 #[⟨some 3,.move (.tmp 0),t, "slices.go:357", #[],none⟩,⟨some 4,.binOp .eql t (.tmp 3) (.const wx) t,tb, "slices.go:357", #[⟨0,.data⟩],none⟩] false)
    (.cond (.tmp 4) (.seq (.region 2 #[⟨some 2,.assign (.const wx),t, "slices.go:358", #[],none⟩] false) .ret) .skip))
   (.seq (.region 3 #[⟨some 5,.buildSlice t 0 #[],t, "slices.go:362", #[],none⟩,⟨some 6,.move (.tmp 0),t, "slices.go:362", #[],none⟩,
     ⟨some 7,.call ⟨.builtin .append, #[.tmp 5,.tmp 6], #[t,t]⟩,t, "slices.go:362", #[⟨0,.data⟩,⟨1,.data⟩],none⟩,
     ⟨some 2,.assign (.tmp 7),t, "slices.go:362", #[⟨2,.data⟩,⟨2,.chain⟩,⟨0,.phase⟩,⟨1,.phase⟩,⟨2,.phase⟩],none⟩] false) .ret))
def cfN(e size:Nat)(deep:Bool):Cfg:={live:=fun _ _=>[],out:=fun _ _ _=>[],join:=fun _ _=>none,res:=fun _=>[.one (.own e size deep)],par:=fun _=>[(0,.one .keep)],rts:=fun _=>[],byref:=fun _=>[],isExt:=fun _=>false}
theorem rM{g:FuncId}{fn:Func}{t tb e:TypeId}{d de:TyD}(hfn:P.funcs[g]? =some fn)(hb:fn.body=some (KO t tb))(hok:R3 fn (KO t tb) 1=true)(hr:fn.results.toList=[.tmp 2])
  (hd:AX P t=some d) (he:d.elem=some e) (hde:AX P e=some de) (hst:FA P t=false) (a:Option Addr) (c:Nat):
  EX P (cfN e de.size (de.zero.all Yh)) (fun _ _ _ _ _=>False) g [.v (.slice a 0 c)] [] (.ar 0 0 0) [AV e de.size (de.zero.all Yh) []]:=by
 refine EX.intro rfl hfn hb hok rfl ?_;rw[hr];have hsl:Sm P t=true:=by unfold Sm;rw[hd];simp[he]
 cases a with
 |none=>
  simp[F7,RX,XQ,O9,BH,Z4,Ud,lk,upd,Lh,F8,Al,Ag,Ah,G5,Du,CI,lkB,AQ,KO,we,reo,CP,IJ,isR,BF,AD,Ux,AL,Ev.put,drawn,KF,Ei,wx,hsl,gY,dT,JZ,cfN,outs,IB,Pb,xb,LI,DG,hH,aM,idx,Gf,AV,Dm]
 |some a=>
  simp[F7,RX,XQ,O9,BH,Z4,Ud,lk,upd,Lh,F8,Al,Ag,Ah,G5,Du,CI,lkB,AQ,KO,we,reo,CP,IJ,isR,BF,AD,Ux,AL,Ev.put,drawn,KF,Ei,wx,hsl,gY,dT,JZ,cfN,outs,IB,Pb,xb,LI,DG,hH,aM,idx,Gf,AV,Dm,Ax,hd,he,hde,Da,BO,EZ]
structure CloneOK (P:Program) (x:FuncId×TypeId×Nat×Bool):Prop where
 ok:∃(fn:Func)(t tb:TypeId)(d de:TyD),P.funcs[x.1]? =some fn/\fn.body=some (KO t tb)/\R3 fn (KO t tb) 1=true/\fn.results.toList=[.tmp 2]/\
  AX P t=some d/\d.elem=some x.2.1/\AX P x.2.1=some de/\FA P t=false/\de.size=x.2.2.1/\de.zero.all Yh=x.2.2.2
theorem Xr(hm:P.follows .mixedOrders=true){x:FuncId×TypeId×Nat×Bool}(h:CloneOK P x){v:V}(hv:v=.em\/v=.im []):CSpec P J x.1 [v] [] (.ar 0 0 0) [AV x.2.1 x.2.2.1 x.2.2.2 []]:=by
 obtain⟨fn,t,tb,d,de,h1,h2,h3,h4,h5,h6,h7,h8,h9,h10⟩:=h.ok;have key:∀(a:Option Addr)(c:Nat),CSpec P J x.1 [.v (.slice a 0 c)] [] (.ar 0 0 0) [AV x.2.1 x.2.2.1 x.2.2.2 []]:=by
  intro a c;obtain⟨k,hk⟩:=rM h1 h2 h3 h4 h5 h6 h7 h8 a c;rw[<-h9,<-h10];exact Nx hm (fun _ _ _ _ _ h=>h.elim) k _ _ _ _ _ hk
 refine⟨(key none 0).enter,fun _ w A E vals hT hI hvl=> ?_⟩;obtain⟨y,hy⟩:∃y,vals.toList=[y]:=by
  match hl:vals.toList with
  |[]=>rw[hl]at hvl;exact hvl.elim
  |[y]=>exact⟨y,rfl⟩
  |_::_::_=>rw[hl]at hvl;exact hvl.2.elim
 rw[hy]at hvl;have hv1:=hvl.1;obtain⟨a,c,hyc⟩:∃a c,y=.slice a 0 c:=by
  rcases hv with rfl|rfl
  ·have hv1:Rep w A .em y:=hv1;cases hv1 with
   |em a=>exact⟨a,0,rfl⟩
  ·have hv1:Rep w A (.im []) y:=hv1;cases hv1 with
   |im0 a c=>exact⟨a,c,rfl⟩
   |im b off cap=>exact⟨some ⟨b,off,none⟩,cap,rfl⟩
 subst hyc;have hk:=(key a c).calls rfl w A E vals hT hI (by rw[hy];exact⟨.v _ rfl,trivial⟩);refine hk.mono fun e w' he=> ?_
 obtain⟨y',E',G',q1,q2,q3,q4⟩:=he;refine⟨y',E',G',q1,q2,q3,fun j hj=> ?_⟩;rcases hv with rfl|rfl<;>simp[Ag,Ah]at hj
def ZO(Rc:Rel)(tab:List (FuncId×TypeId×Nat×Bool)):Rel:=fun g args blks r blks'=>
 Rc g args blks r blks'\/∃x∈tab,g=x.1/\(args=[.em]\/args=[.im []])/\blks=[]/\r=.ar 0 0 0/\blks'=[AV x.2.1 x.2.2.1 x.2.2.2 []]
theorem ck{cf:Cfg}{tab:List (FuncId×TypeId×Nat×Bool)}(hm:P.follows .mixedOrders=true)(ht:∀x∈tab,CloneOK P x):
  ∀g args blks r blks',ZO (EX P cf fun _ _ _ _ _=>False) tab g args blks r blks'->CSpec P J g args blks r blks':=by
 intro g args blks r blks' h;rcases h with⟨k,hk⟩|⟨x,hx,rfl,ha,rfl,rfl,rfl⟩
 ·exact Nx hm (fun _ _ _ _ _ h=>h.elim) k _ _ _ _ _ hk
 ·rcases ha with rfl|rfl
  ·exact Xr hm (ht x hx) (.inl rfl)
  ·exact Xr hm (ht x hx) (.inr rfl)
theorem Ag0{t:Ty}{st:TSt}{x:CC [.slot 0 (.cell (.im t))]}(h:GB 0 [.slot 0 (.cell (.im t))] st=some x):Io st.hp t (BI st.tm 0)=some (show List t.den from x):=by
 unfold GB at h;split at h
 case isFalse=>cases h
 simp only[LD,C8,tmS,tmC,tnS,tnV,tnC]at h;cases ha:Io st.hp t (BI st.tm 0)with
 |none=>rw[ha]at h;cases h
 |some l=>
  rw[ha]at h;simp only[Nat.zero_le,Nat.ble_eq,if_true]at h;have hc:∀c,P9 0 (Gg [.slot 0 (.cell (.im t))]) {tm:=(0,.im t l)::st.tm,hp:=Fz st.hp (frV (BI st.tm 0)),c:=c}=some {tm:=[(0,.im t l)],hp:=[],c:=1}:=fun c=>rfl
  rw[hc]at h;simp only[rdI,rdS,rdC,Nat.beq_refl,if_true,dite_true]at h;rw[<-zv h];rfl
def wE{α β:Type}(F:List α->Option (List β))(l:List α):Option (List β):=match l with|[]=>some []|a::l=>F (a::l)
theorem m9{ext:Rel}{cf:Cfg}{Rc:Rel}{tab:List (FuncId×TypeId×Nat×Bool)}{g:FuncId}{e:TypeId}{deep:Bool}{t:Ty}{heads joins:List (Nat×List Item)}{outs:List (Nat×List (Ex×List Item))}{F:List t.den->Option (List t.den)}
  (h:Ch Rc ⟨⟨g,0,[.slot 0 (.cell (.im t))],[.blk (.arr e deep t),.slot 0 (.ref 0 false)],heads,outs,joins⟩,F⟩) (hmem:(g,e,t.size,deep)∈tab) (hext:∀g args blks r blks',ZO Rc tab g args blks r blks'->ext g args blks r blks'):
  Ch (EX P cf ext) ⟨⟨g,0,[.slot 0 (.cell (.im t))],[.blk (.arr e deep t),.slot 0 (.ref 0 false)],heads,outs,joins⟩,fun l=>wE F l⟩:=by
 intro x y args blks st hF hs hd hid hlen href hb0;have ha:=Ag0 hd;cases hx:(show List t.den from x)with
 |cons a l=>
  have hx':x=(show CC [.slot 0 (.cell (.im t))]from(a::l:List t.den)):=hx;subst hx';obtain⟨r,blks',q1,q2⟩:=h _ y args blks st hF hs hd hid hlen href hb0;exact⟨r,blks',EX.ext (hext _ _ _ _ _ (.inl q1)),q2⟩
 |nil=>
  have hx':x=(show CC [.slot 0 (.cell (.im t))]from([]:List t.den)):=hx;subst hx';have hy:y=(show CC [.blk (.arr e deep t),.slot 0 (.ref 0 false)]from([]:List t.den)):=(zv hF).symm;subst hy;obtain⟨v,rfl⟩:∃v,args=[v]:=by
   match args,hlen with
   |[v],_=>exact⟨v,rfl⟩
  have hrefs:([v]:List V).flatMap Ag=[]:=by
   cases hr:([v]:List V).flatMap Ag with
   |nil=>rfl
   |cons i l=>rw[hr]at href;simp[List.eraseDups_cons]at href
  have hv:=hs.tm 0;have hv:RV2 st.hp (BI st.tm 0) v:=hv;have hcase:v=.em\/v=.im []:=by
   generalize BI st.tm 0=u at ha hv;cases u with
   |em=>exact .inl hv
   |im t' l=>
    simp only[Io,asL]at ha;rcases hv with⟨_,hv⟩|⟨rows,hv,hl⟩
    ·exact .inl hv
    ·split at ha
     ·rename_i ht;subst ht;have h0:l=[]:=by have:=zv ha;exact this
      subst h0;have:rows=[]:=zb2 (by have:=hl.1;simpa using this);subst this;exact .inr hv
     ·cases ha
   |ow id=>
    obtain⟨n,rfl,_⟩:=hv;simp[Ag,Ah]at hrefs
   |ar id lo n=>
    have hv:v=.ar id lo n:=hv;subst hv;simp[Ag,Ah]at hrefs
   |_=>simp[Io,asL]at ha
  have hblks:blks=[]:=hb0 rfl;subst hblks;refine⟨.ar 0 0 0,[AV e t.size deep []],EX.ext (hext _ _ _ _ _ (.inr ⟨_,hmem,rfl,?_,rfl,rfl,rfl⟩)),?_,?_,rfl⟩
  ·rcases hcase with rfl|rfl
   ·exact .inl rfl
   ·exact .inr rfl
  ·exact⟨0,rfl,fun b hb=>by cases hb;rfl⟩
  ·intro id b hb;have hb:AG [(0,some (TB.arr e deep t []))] id=some b:=hb;simp only[AG]at hb;cases hi:Nat.beq id 0 with
   |false=>rw[hi]at hb;cases hb
   |true=>
    rw[hi]at hb;have hb:some (TB.arr e deep t [])=some b:=hb;cases hb;have:id=0:=za8 hi;subst this;exact⟨_,rfl,rfl,rfl,rfl,rfl,RLx.nil⟩
end
section
open Go Go.RowKit
def ME:(c:AC)->c.den->V->Prop
 |.int k,n,v=>v=.v (.int k n)
 |.bool,b,v=>v=.v (.bool b)
 |.str,s,v=>v=.v (.string ⟨s.toArray⟩)
 |.err,b,v=>v=.er b
 |.im t,l,v=>(l=[]/\v=.em)\/∃rows,v=.im rows/\RLx (RE t) l rows
 |.at _,_,_=>False
section
variable {hp hp':THp} {u v:SV} {a:V} {b n:Nat} {c:AC}
theorem Wi(hc:c.isU=false)(h:tnC (tmC [] c) u hp b=some (v,hp',n))(hr:RV2 hp u a)(ha:Ag a=[]):hp'=hp/\∀f d,rdC c (BW f v)=some d->ME c d a:=by
 cases c with
 | «at» j=>cases hc
 |im t=>
  simp only[tmC,tnC]at h;cases hl:Io hp t u with
  |none=>rw[hl]at h;cases h
  |some l=>
   rw[hl]at h;simp only[zx,Prod.mk.injEq]at h;obtain⟨rfl,rfl,_⟩:=h;have key:frV u=[]/\ME (.im t) l a:=by
    cases u with
    |em=>
     simp only[Io,asL,zx]at hl;subst hl;exact⟨rfl,.inl ⟨rfl,hr⟩⟩
    |im t' l'=>
     simp only[Io,asL]at hl;split at hl
     ·rename_i ht;subst ht;have hl:l'=l:=zv hl;subst hl;exact⟨rfl,hr⟩
     ·cases hl
    |ow id=>
     obtain⟨m,rfl,_⟩:=hr;simp[Ag,Ah]at ha
    |ar id lo m=>
     have hr:a=.ar id lo m:=hr;subst hr;simp[Ag,Ah]at ha
    |_=>simp[Io,asL]at hl
   refine⟨by rw[key.1];rfl,fun f d hd=> ?_⟩;simp only[BW,FD,rdC,dite_true]at hd;have hd:l=d:=zv hd;subst hd;exact key.2
 |int k=>
  simp only[tmC,tnC,zx,Prod.mk.injEq]at h;obtain⟨rfl,rfl,_⟩:=h;refine⟨rfl,fun f d hd=> ?_⟩;cases u with
  |int k' m=>
   simp only[BW,FD,rdC]at hd;split at hd
   ·rename_i hk;subst hk;cases hd;exact hr
   ·cases hd
  |ow id=>simp only[BW,FD]at hd;split at hd<;>cases hd
  |ar id lo m=>simp only[BW,FD]at hd;split at hd<;>cases hd
  |rf id r c=>simp only[BW,FD]at hd;split at hd<;>cases hd
  |cl g caps=>cases hd
  |_=>cases hd
 |bool=>
  simp only[tmC,tnC,zx,Prod.mk.injEq]at h;obtain⟨rfl,rfl,_⟩:=h;refine⟨rfl,fun f d hd=> ?_⟩;cases u with
  |bool m=>cases hd;exact hr
  |ow id=>simp only[BW,FD]at hd;split at hd<;>cases hd
  |ar id lo m=>simp only[BW,FD]at hd;split at hd<;>cases hd
  |rf id r c=>simp only[BW,FD]at hd;split at hd<;>cases hd
  |cl g caps=>cases hd
  |_=>cases hd
 |str=>
  simp only[tmC,tnC,zx,Prod.mk.injEq]at h;obtain⟨rfl,rfl,_⟩:=h;refine⟨rfl,fun f d hd=> ?_⟩;cases u with
  |str m=>cases hd;exact hr
  |ow id=>simp only[BW,FD]at hd;split at hd<;>cases hd
  |ar id lo m=>simp only[BW,FD]at hd;split at hd<;>cases hd
  |rf id r c=>simp only[BW,FD]at hd;split at hd<;>cases hd
  |cl g caps=>cases hd
  |_=>cases hd
 |err=>
  simp only[tmC,tnC,zx,Prod.mk.injEq]at h;obtain⟨rfl,rfl,_⟩:=h;refine⟨rfl,fun f d hd=> ?_⟩;cases u with
  |er m=>cases hd;exact hr
  |ow id=>simp only[BW,FD]at hd;split at hd<;>cases hd
  |ar id lo m=>simp only[BW,FD]at hd;split at hd<;>cases hd
  |rf id r c=>simp only[BW,FD]at hd;split at hd<;>cases hd
  |cl g caps=>cases hd
  |_=>cases hd
end
theorem Ar4{c:AC}{st:TSt}{x:CC [.slot 0 (.cell c)]}{a:V}(hc:c.isU=false)(h:GB 0 [.slot 0 (.cell c)] st=some x)(hr:RV2 st.hp (BI st.tm 0) a)(ha:Ag a=[]):
  ∃d,x=JR (.slot 0 (.cell c)) [] d ()/\ME c d a:=by
 unfold GB at h;split at h
 case isFalse=>cases h
 simp only[LD,C8,tmS,tnS,tnV]at h;cases h1:tnC (tmC [] c) (BI st.tm 0) st.hp (16*st.c)with
 |none=>rw[h1]at h;cases h
 |some z=>
  obtain⟨v,hp1,n⟩:=z;rw[h1]at h;simp only at h;split at h
  case h_2=>cases h
  rename_i st1 hle;split at hle
  case isFalse=>cases hle
  cases hle;obtain⟨rfl,h2⟩:=Wi hc h1 hr ha;split at h
  case h_2=>cases h
  rename_i st2 hst2;unfold P9 at hst2;split at hst2
  case isFalse=>cases hst2
  split at hst2
  case h_2=>cases hst2
  rename_i o ho;split at hst2
  case isFalse=>cases hst2
  have hst2:=zv hst2;subst hst2;simp only[Gg,zb9,List.map_nil,BI,Nat.beq_refl,cond_true]at h;cases hhp:FC st.hp (DJ o) 0 o with
  |cons y l=>rw[hhp]at h;simp only[rdI,Nat.beq_refl,if_true]at h;split at h<;>cases h
  |nil=>
   rw[hhp]at h;simp only[rdI,Nat.beq_refl,if_true,rdS]at h;split at h
   ·rename_i d hd;exact⟨d,(zv h).symm,h2 _ _ hd⟩
   ·cases h
theorem Ar5{c c':AC}{st:TSt}{x:CC [.slot 0 (.cell c),.slot 1 (.cell c')]}{a a':V}(hc:c.isU=false)(hc':c'.isU=false)(h:GB 0 [.slot 0 (.cell c),.slot 1 (.cell c')] st=some x)
  (hr:RV2 st.hp (BI st.tm 0) a) (hr':RV2 st.hp (BI st.tm 1) a') (ha:Ag a=[]) (ha':Ag a'=[]):
  ∃d d',x=JR (.slot 0 (.cell c)) [.slot 1 (.cell c')] d (JR (.slot 1 (.cell c')) [] d' ())/\ME c d a/\ME c' d' a':=by
 unfold GB at h;split at h
 case isFalse=>cases h
 simp only[LD,C8,tmS,tnS,tnV]at h;cases h1:tnC (tmC [] c) (BI st.tm 0) st.hp (16*st.c)with
 |none=>rw[h1]at h;cases h
 |some z=>
  obtain⟨v,hp1,n⟩:=z;rw[h1]at h;simp only at h;obtain⟨rfl,h2⟩:=Wi hc h1 hr ha;split at h
  case h_2=>cases h
  rename_i st1 hle;split at hle
  case isFalse=>cases hle
  have hg:BI ((0,v)::st.tm) 1=BI st.tm 1:=rfl;rw[hg]at hle;cases h3:tnC (tmC [] c') (BI st.tm 1) st.hp (16*(st.c+1))with
  |none=>rw[h3]at hle;cases hle
  |some z=>
   obtain⟨v',hp2,n'⟩:=z;rw[h3]at hle;simp only at hle;obtain⟨rfl,h4⟩:=Wi hc' h3 hr' ha';split at hle
   case isFalse=>cases hle
   cases hle;split at h
   case h_2=>cases h
   rename_i st2 hst2;unfold P9 at hst2;split at hst2
   case isFalse=>cases hst2
   split at hst2
   case h_2=>cases hst2
   rename_i o ho;split at hst2
   case isFalse=>cases hst2
   have hst2:=zv hst2;subst hst2;have g0:BI ((1,v')::(0,v)::st.tm) 0=v:=rfl;have g1:BI ((1,v')::(0,v)::st.tm) 1=v':=rfl;simp only[Gg,zb9,List.map_nil,g0,g1]at h;cases hhp:FC st.hp (DJ o) 0 o with
   |cons y l=>
    rw[hhp]at h;cases e1:rdS (.cell c) (BW (DJ o) v)with
    |none=>simp[rdI,e1]at h
    |some d=>cases e2:rdS (.cell c') (BW (DJ o) v')with
     |none=>simp[rdI,e1,e2]at h
     |some d'=>simp[rdI,e1,e2]at h
   |nil=>
    rw[hhp]at h;cases e1:rdS (.cell c) (BW (DJ o) v)with
    |none=>simp[rdI,e1]at h
    |some d=>cases e2:rdS (.cell c') (BW (DJ o) v')with
     |none=>simp[rdI,e1,e2]at h
     |some d'=>
      simp only[rdI,e1,e2,Nat.beq_refl,if_true,zx]at h;exact⟨d,d',h.symm,h2 _ _ e1,h4 _ _ e2⟩
section
variable {P:Program} {J:Il} {cf:Cfg} {ext:Rel}
theorem V6{args:List V}(h:(args.flatMap Ag).eraseDups.length=0):∀v∈args,Ag v=[]:=by
 have h0:args.flatMap Ag=[]:=by
  cases hr:args.flatMap Ag with
  |nil=>rfl
  |cons i l=>rw[hr]at h;simp[List.eraseDups_cons]at h
 intro v hv;rw[List.flatMap_eq_nil_iff]at h0;exact h0 v hv
theorem kO{g:FuncId}{c:AC}{res:List Item}{F:CC [.slot 0 (.cell c)]->Option (CC res)}(hc:c.isU=false)
  (h:∀d y a,ME c d a->F (JR (.slot 0 (.cell c)) [] d ())=some y->∃r blks',ext g [a] [] r blks'/\ResRel res y r blks'):
  Ch (EX P cf ext) ⟨⟨g,0,[.slot 0 (.cell c)],res,[],[],[]⟩,F⟩:=by
 intro x y args blks st hF hs hd hid hlen href hb0
 match args,hlen with
 |[a],_=>
  have hb:blks=[]:=hb0 rfl;subst hb;have hn:=V6 href;have h0:RV2 st.hp (BI st.tm 0) a:=hs.tm 0;obtain⟨d,rfl,hA⟩:=Ar4 hc hd h0 (hn a (by simp));obtain⟨r,blks',h1,h2⟩:=h d y a hA hF;exact⟨r,blks',EX.ext h1,h2⟩
theorem Qo{g:FuncId}{c c':AC}{res:List Item}{F:CC [.slot 0 (.cell c),.slot 1 (.cell c')]->Option (CC res)}(hc:c.isU=false)(hc':c'.isU=false)
  (h:∀d d' y a a',ME c d a->ME c' d' a'->F (JR (.slot 0 (.cell c)) [.slot 1 (.cell c')] d (JR (.slot 1 (.cell c')) [] d' ()))=some y->∃r blks',ext g [a,a'] [] r blks'/\ResRel res y r blks'):
  Ch (EX P cf ext) ⟨⟨g,0,[.slot 0 (.cell c),.slot 1 (.cell c')],res,[],[],[]⟩,F⟩:=by
 intro x y args blks st hF hs hd hid hlen href hb0
 match args,hlen with
 |[a,a'],_=>
  have hb:blks=[]:=hb0 rfl;subst hb;have hn:=V6 href;have h0:RV2 st.hp (BI st.tm 0) a:=hs.tm 0;have h1:RV2 st.hp (BI st.tm 1) a':=hs.tm 1;obtain⟨d,d',rfl,hA,hA'⟩:=Ar5 hc hc' hd h0 h1 (hn a (by simp)) (hn a' (by simp));obtain⟨r,blks',h1,h2⟩:=h d d' y a a' hA hA' hF;exact⟨r,blks',EX.ext h1,h2⟩
def Pd(P:Program)(g:FuncId):Prop:=∃fn,P.funcs[g]? =some fn/\Uy fn=true/\fn.body.isSome=true
theorem k7{E:Env}{b:Nat}:¬Own E (lkB []) b:=fun⟨id,k,hk,_⟩=>by simp[lkB]at hk
theorem eO{w w':World}{A:Nat->Prop}{E:Env}(hI:HpInv w (Own E (lkB [])) A E A (lkB []) w)(h:Below w.heap.size w w'):HpInv w (Own E (lkB [])) A E A (lkB []) w':=by
 refine⟨⟨h.os,h.tape,h.output,h.size,fun b hb _=>h.block b hb,fun b cur ty fz hb=>⟨cur,fz,?_,rfl⟩⟩,fun b hb=> ?_,fun b _=>k7,fun b hb=>absurd hb k7,fun id k id' k' hk=>by simp[lkB]at hk,fun id k b hk=>by simp[lkB]at hk,fun id k hk=>by simp[lkB]at hk⟩
 ·rw[h.block b (Array.getElem?_eq_some_iff.1 hb).1];exact hb
 ·have h1:=hI.g1 b hb;have:=h.size;exact⟨by omega,h1.2⟩
theorem Ga{g:FuncId}{args:List V}{r:V}(hent:Pd P g)
  (h:∀(w:World)(A:Nat->Prop)(E:Env)(vals:List Value),(∀x∈J,w.heap[x.1]? =some x.2)->(∀b,A b->b<w.heap.size)->VL (VR1 w E (lkB []) A) args vals->
   Calls P g vals.toArray w fun e w'=>∃y,e=.returned y/\Below w.heap.size w w'/\VR2 w' E (lkB []) A r y):CSpec P J g args [] r []:=by
 refine⟨hent,fun _ w A E vals hT hI hvl=> ?_⟩;refine(show Calls P g vals w _ from(h w A E vals.toList (fun x hx=>(hT x hx).1) (fun b hb=>(hI.g1 b hb).1) hvl)).mono ?_;rintro e w' ⟨y,rfl,hb,hv⟩;exact⟨y,E,A,rfl,eO hI hb,hv,fun j _ k' hk=>by simp at hk⟩
theorem jU{g:FuncId}{args:List V}{e size:Nat}{deep:Bool}{rows:List (List V)}(hent:Pd P g)(h0:0<size)(hna:args.flatMap Ag=[])
  (h:∀(w:World)(A:Nat->Prop)(E:Env)(vals:List Value),(∀x∈J,w.heap[x.1]? =some x.2)->(∀b,A b->b<w.heap.size)->VL (VR1 w E (lkB []) A) args vals->
   Calls P g vals.toArray w fun ee w'=>∃(b cap:Nat)(cur:Array Value),ee=.returned (.slice (some ⟨b,0,none⟩) rows.length cap)/\Below w.heap.size w w'/\w.heap.size<=b/\b<w'.heap.size/\w'.heap[b]? =some (.cells cur e (0,0))/\
    cur.size=cap*size/\cap<=maxLen/\rows.length<=cap/\(∀(i:Nat)(row:List V),rows[i]? =some row->row.length=size)/\
    ∀(i j:Nat)(row:List V)(x:V),rows[i]? =some row->row[j]? =some x->∃u,cur[i*size+j]? =some u/\∀G,Rep w' G x u):CSpec P J g args [] (.ar 0 0 rows.length) [AV e size deep rows]:=by
 refine⟨hent,fun _ w A E vals hT hI hvl=> ?_⟩;refine(show Calls P g vals w _ from(h w A E vals.toList (fun x hx=>(hT x hx).1) (fun b hb=>(hI.g1 b hb).1) hvl)).mono ?_;rintro ee w' ⟨b,cap,cur,rfl,hb,hbn,hbs,hbk,hsz,hcap,hle,hrl,hre⟩;have hk0:∀id k,lkB [AV e size deep rows] id=some k->id=0/\k=AV e size deep rows:=by
  intro id k hk;cases id with
  |zero=>simp[lkB]at hk;exact⟨rfl,hk.symm⟩
  |succ id=>simp[lkB]at hk
 have hown:∀x,Own ⟨fun i=>if i=0 then some b else none,fun _ _=>False⟩ (lkB [AV e size deep rows]) x->x=b:=by
  rintro x ⟨id,k,hk,_,hx⟩;obtain⟨rfl,rfl⟩:=hk0 id k hk;rcases hx with hx|hx
  ·simpa using hx.symm
  ·exact hx.elim
 have hI':=eO hI hb;refine⟨_,⟨fun i=>if i=0 then some b else none,fun _ _=>False⟩,A,rfl,⟨hI'.fr,hI'.g1,fun x hx ho=> ?_,fun x ho=> ?_,fun id k id' k' hk _ hk' _ _ _ _=> ?_,fun id k x _ _ _ hn=>hn,fun id k hk=> ?_⟩,?_,fun j hj k' hk'=> ?_⟩
 ·rw[hown x ho]at hx;have:=(hI.g1 b hx).1;omega
 ·rw[hown x ho];exact⟨hbs,.inr hbn⟩
 ·rw[(hk0 id k hk).1,(hk0 id' k' hk').1]
 ·obtain⟨rfl,rfl⟩:=hk0 id k hk;exact .inr ⟨b,cur,cap,rfl,hbk,h0,hsz,hcap,hle,hrl,fun i j row x h1 h2=>by
   obtain⟨u,h3,h4⟩:=hre i j row x h1 h2;exact⟨u,h3,h4 _⟩⟩
 ·refine⟨some ⟨b,0,none⟩,cap,rfl,fun k hk=> ?_⟩;have hk:some (AV e size deep rows)=some k:=hk;cases hk;refine⟨by simp[AV],by simp[AV],.inr ⟨b,cur,e,(0,0),rfl,by simp,hle,hbk,by simp[AV];exact hsz⟩⟩
 ·rw[hna]at hj;cases hj
end
end
section
open Go Go.RowKit
section
variable {P:Program} {J:Il} {cf:Cfg} {ext:Rel} {g:FuncId}
def Ae1(P:Program)(J:Il)(name:String)(k:IntKind)(zs:List Int):Prop:=∀w:World,(∀x∈J,w.heap[x.1]? =some x.2)->Lib.TabIs P w name k zs
theorem Ad9{w:World}{E:Env}{A:Nat->Prop}{x:Value}{ys:List Value}(h:VL (VR1 w E (lkB []) A) [.v x] ys):ys=[x]:=by
 match ys,h with
 |[y],h=>
  have h1:Rep w A (.v x) y:=h.1;cases h1;rfl
 |[],h=>exact h.elim
 |_::_::_,h=>exact h.2.elim
theorem rl{w:World}{E:Env}{A:Nat->Prop}{x x':Value}{ys:List Value}(h:VL (VR1 w E (lkB []) A) [.v x,.v x'] ys):ys=[x,x']:=by
 match ys,h with
 |[y,z],h=>
  have h1:Rep w A (.v x) y:=h.1;have h2:Rep w A (.v x') z:=h.2.1;cases h1;cases h2;rfl
 |[],h=>exact h.elim
 |[_],h=>exact h.2.elim
 |_::_::_::_,h=>exact h.2.2.elim
def YO(n:Int):Option Str:=if-9223372036854775808<=n/\n<=9223372036854775807 then some (Lib.itoa n)else none
def gS(g:FuncId):Rel:=fun g' args blks r blks'=>g'=g/\∃n:Int,-9223372036854775808<=n/\n<=9223372036854775807/\args=[.v (.int .i64 n)]/\blks=[]/\r=.v (.string ⟨(Lib.itoa n).toArray⟩)/\blks'=[]
def An2(g:FuncId):FAnn:=⟨g,0,[.slot 0 (.cell (.int .i64))],[.slot 0 (.cell .str)],[],[],[]⟩
theorem sK(hent:Pd P g)(hc:∀(n:Int) (h0: -9223372036854775808<=n) (h1:n<=9223372036854775807) (w:World) (htab:Lib.TabIs P w "internal/strconv.uint64pow10" .u64 Lib.pow10Tab),
  Calls P g #[.int .i64 n] w fun e w'=>e=.returned (.string ⟨(Lib.itoa n).toArray⟩)/\∃k os,w'=Sort.grow (w.drewN k) os)(hJ:Ae1 P J "internal/strconv.uint64pow10" .u64 Lib.pow10Tab):
  ∀g' args blks r blks',gS g g' args blks r blks'->CSpec P J g' args blks r blks':=by
 rintro g' args blks r blks' ⟨rfl,n,h0,h1,rfl,rfl,rfl,rfl⟩;refine Ga hent fun w A E vals hT hA hvl=> ?_
 rw[Ad9 hvl];refine(hc n h0 h1 w (hJ w hT)).mono ?_;rintro e w' ⟨rfl,k,os,rfl⟩;exact⟨_,rfl,Lib.below_grow _ w (za7 _) k os,.v _ rfl⟩
theorem vZ(hx:∀g' args blks r blks',gS g g' args blks r blks'->ext g' args blks r blks'):Ch (EX P cf ext) ⟨An2 g,YO⟩:=by
 refine kO rfl fun d y a ha hF=> ?_
 have hF:YO d=some y:=hF;unfold YO at hF;split at hF
 ·rename_i h;cases hF;have ha:a=.v (.int .i64 d):=ha;exact⟨_,[],hx _ _ _ _ _ ⟨rfl,d,h.1,h.2,by rw[ha],rfl,rfl,rfl⟩,rfl,fun id b hb=>by simp[Bq,AG]at hb,rfl⟩
 ·cases hF
def uq(J:Il)(k:Nat):Prop:=∀w:World,(∀x∈J,w.heap[x.1]? =some x.2)->∃m:Int,w.cell? ⟨k,0,none⟩=some (.int .i64 m)
def YN(s p:Str):Option (Str×Bool):=some (Lib.trimPrefix s p,Lib.hasPrefix s p)
def gA(g:FuncId):Rel:=fun g' args blks r blks'=>g'=g/\∃s p:Str,args=[.v (.string ⟨s.toArray⟩),.v (.string ⟨p.toArray⟩)]/\blks=[]/\r=.tup [.v (.string ⟨(Lib.trimPrefix s p).toArray⟩),.v (.bool (Lib.hasPrefix s p))]/\blks'=[]
def Am3(g:FuncId):FAnn:=⟨g,0,[.slot 0 (.cell .str),.slot 1 (.cell .str)],[.slot 0 (.cell .str),.slot 1 (.cell .bool)],[],[],[]⟩
theorem rT(hent:Pd P g)(hc:∀(s p:ByteArray) (w:World),Calls P g #[.string s,.string p] w fun e w'=>e=.returned (.tuple #[.string ⟨(Lib.trimPrefix s.data.toList p.data.toList).toArray⟩,.bool (Lib.hasPrefix s.data.toList p.data.toList)])/\w'=w):
  ∀g' args blks r blks',gA g g' args blks r blks'->CSpec P J g' args blks r blks':=by
 rintro g' args blks r blks' ⟨rfl,s,p,rfl,rfl,rfl,rfl⟩;refine Ga hent fun w A E vals hT hA hvl=> ?_
 rw[rl hvl];refine(hc ⟨s.toArray⟩ ⟨p.toArray⟩ w).mono ?_;rintro e w' ⟨rfl,rfl⟩;exact⟨_,rfl,Below.refl _ _,_,rfl,.v _ rfl,.v _ rfl,trivial⟩
theorem u6(hx:∀g' args blks r blks',gA g g' args blks r blks'->ext g' args blks r blks'):Ch (EX P cf ext) ⟨Am3 g,fun x=>YN x.1 x.2⟩:=by
 refine Qo rfl rfl fun d d' y a a' ha ha' hF=> ?_
 have hF:YN d d'=some y:=hF;cases hF;have ha:a=.v (.string ⟨(show Str from d).toArray⟩):=ha;have ha':a'=.v (.string ⟨(show Str from d').toArray⟩):=ha';exact⟨_,[],hx _ _ _ _ _ ⟨rfl,d,d',by rw[ha,ha'],rfl,rfl,rfl⟩,⟨_,rfl,rfl,rfl,trivial⟩,fun id b hb=>by simp[Bq,AG]at hb,rfl⟩
def iS(s sep:Str):Option (Str×Str×Bool):=if s.length<4294967281 then some (Lib.cut s sep)else none
def ng(g:FuncId):Rel:=fun g' args blks r blks'=>g'=g/\∃s p:Str,s.length<4294967281/\args=[.v (.string ⟨s.toArray⟩),.v (.string ⟨p.toArray⟩)]/\blks=[]/\
 r=.tup [.v (.string ⟨(Lib.cut s p).1.toArray⟩),.v (.string ⟨(Lib.cut s p).2.1.toArray⟩),.v (.bool (Lib.cut s p).2.2)]/\blks'=[]
def Ar3(g:FuncId):FAnn:=⟨g,0,[.slot 0 (.cell .str),.slot 1 (.cell .str)],[.slot 0 (.cell .str),.slot 1 (.cell .str),.slot 2 (.cell .bool)],[],[],[]⟩
theorem u5{k:Nat}(hent:Pd P g)(hc:∀(s sep:ByteArray) (m:Int) (w:World) (hs:s.size<4294967281) (hm:w.cell? ⟨k,0,none⟩=some (.int .i64 m)),
  Calls P g #[.string s,.string sep] w fun e w'=>e=.returned (.tuple #[.string ⟨(Lib.cut s.data.toList sep.data.toList).1.toArray⟩,.string ⟨(Lib.cut s.data.toList sep.data.toList).2.1.toArray⟩,.bool (Lib.cut s.data.toList sep.data.toList).2.2])/\∃n,w'=w.drewN n)(hJ:uq J k):
  ∀g' args blks r blks',ng g g' args blks r blks'->CSpec P J g' args blks r blks':=by
 rintro g' args blks r blks' ⟨rfl,s,p,hs,rfl,rfl,rfl,rfl⟩;refine Ga hent fun w A E vals hT hA hvl=> ?_
 rw[rl hvl];obtain⟨m,hm⟩:=hJ w hT;refine(hc ⟨s.toArray⟩ ⟨p.toArray⟩ m w (by simpa[ByteArray.size]using hs) hm).mono ?_;rintro e w' ⟨rfl,n,rfl⟩;exact⟨_,rfl,⟨rfl,rfl,rfl,za7 _,fun _ _=>rfl⟩,_,rfl,.v _ rfl,.v _ rfl,.v _ rfl,trivial⟩
theorem yy(hx:∀g' args blks r blks',ng g g' args blks r blks'->ext g' args blks r blks'):Ch (EX P cf ext) ⟨Ar3 g,fun x=>iS x.1 x.2⟩:=by
 refine Qo rfl rfl fun d d' y a a' ha ha' hF=> ?_
 have hF:iS d d'=some y:=hF;unfold iS at hF;split at hF
 ·rename_i h;cases hF;have ha:a=.v (.string ⟨(show Str from d).toArray⟩):=ha;have ha':a'=.v (.string ⟨(show Str from d').toArray⟩):=ha';exact⟨_,[],hx _ _ _ _ _ ⟨rfl,d,d',h,by rw[ha,ha'],rfl,rfl,rfl⟩,⟨_,rfl,rfl,rfl,rfl,trivial⟩,fun id b hb=>by simp[Bq,AG]at hb,rfl⟩
 ·cases hF
def K5(s sub:Str):Option Bool:=if s.length<4294967281 then some (Lib.contains s sub)else none
def Qe(g:FuncId):Rel:=fun g' args blks r blks'=>g'=g/\∃s p:Str,s.length<4294967281/\args=[.v (.string ⟨s.toArray⟩),.v (.string ⟨p.toArray⟩)]/\blks=[]/\r=.v (.bool (Lib.contains s p))/\blks'=[]
def rR(g:FuncId):FAnn:=⟨g,0,[.slot 0 (.cell .str),.slot 1 (.cell .str)],[.slot 0 (.cell .bool)],[],[],[]⟩
theorem cp{k:Nat}(hent:Pd P g)(hc:∀(s sub:ByteArray) (m:Int) (w:World) (hs:s.size<4294967281) (hm:w.cell? ⟨k,0,none⟩=some (.int .i64 m)),
  Calls P g #[.string s,.string sub] w fun e w'=>e=.returned (.bool (Lib.contains s.data.toList sub.data.toList))/\w'=w)(hJ:uq J k):
  ∀g' args blks r blks',Qe g g' args blks r blks'->CSpec P J g' args blks r blks':=by
 rintro g' args blks r blks' ⟨rfl,s,p,hs,rfl,rfl,rfl,rfl⟩;refine Ga hent fun w A E vals hT hA hvl=> ?_
 rw[rl hvl];obtain⟨m,hm⟩:=hJ w hT;refine(hc ⟨s.toArray⟩ ⟨p.toArray⟩ m w (by simpa[ByteArray.size]using hs) hm).mono ?_;rintro e w' ⟨rfl,rfl⟩;exact⟨_,rfl,Below.refl _ _,.v _ rfl⟩
theorem gx(hx:∀g' args blks r blks',Qe g g' args blks r blks'->ext g' args blks r blks'):Ch (EX P cf ext) ⟨rR g,fun x=>K5 x.1 x.2⟩:=by
 refine Qo rfl rfl fun d d' y a a' ha ha' hF=> ?_
 have hF:K5 d d'=some y:=hF;unfold K5 at hF;split at hF
 ·rename_i h;cases hF;have ha:a=.v (.string ⟨(show Str from d).toArray⟩):=ha;have ha':a'=.v (.string ⟨(show Str from d').toArray⟩):=ha';exact⟨_,[],hx _ _ _ _ _ ⟨rfl,d,d',h,by rw[ha,ha'],rfl,rfl,rfl⟩,rfl,fun id b hb=>by simp[Bq,AG]at hb,rfl⟩
 ·cases hF
def Ho(s sep:Str):List Str:=(Lib.splitB ⟨sep.toArray⟩ 0 (Lib.countB ⟨s.toArray⟩ ⟨sep.toArray⟩) ⟨s.toArray⟩).map fun b=>b.data.toList
def QK(s sep:Str):Option (List Str):=if s.length<4294967281/\1<=sep.length then some (Ho s sep)else none
def bz(g:FuncId)(e:TypeId):Rel:=fun g' args blks r blks'=>g'=g/\∃s p:Str,s.length<4294967281/\1<=p.length/\args=[.v (.string ⟨s.toArray⟩),.v (.string ⟨p.toArray⟩)]/\blks=[]/\
 r=.ar 0 0 ((Ho s p).map fun x=>[V.v (.string ⟨x.toArray⟩)]).length/\blks'=[AV e 1 true ((Ho s p).map fun x=>[V.v (.string ⟨x.toArray⟩)])]
def Ak0(g:FuncId)(e:TypeId):FAnn:=⟨g,0,[.slot 0 (.cell .str),.slot 1 (.cell .str)],[.blk (.arr e true .str),.slot 0 (.ref 0 false)],[],[],[]⟩
theorem oO{k:Nat}{e:TypeId}(hent:Pd P g)(hc:∀(s sep:ByteArray) (m:Int) (w:World) (hs:s.size<4294967281) (hm:w.cell? ⟨k,0,none⟩=some (.int .i64 m)) (h1:1<=sep.size),
  Calls P g #[.string s,.string sep] w fun ee w'=>ee=.returned (.slice (some ⟨w.heap.size,0,none⟩) (Lib.countB s sep+1) (Lib.countB s sep+1))/\w'=w.alloc (.cells ((Lib.splitB sep 0 (Lib.countB s sep) s).map Value.string).toArray e))(hJ:uq J k):
  ∀g' args blks r blks',bz g e g' args blks r blks'->CSpec P J g' args blks r blks':=by
 rintro g' args blks r blks' ⟨rfl,s,p,hs,hp,rfl,rfl,rfl,rfl⟩;refine jU hent (by decide) rfl fun w A E vals hT hA hvl=> ?_
 rw[rl hvl];obtain⟨m,hm⟩:=hJ w hT;refine(hc ⟨s.toArray⟩ ⟨p.toArray⟩ m w (by simpa[ByteArray.size]using hs) hm (by simpa[ByteArray.size]using hp)).mono ?_;rintro ee w' ⟨rfl,rfl⟩;have h1:1<=(⟨p.toArray⟩:ByteArray).size:=by simpa[ByteArray.size]using hp
 have hl:=Lib.splitB_all ⟨p.toArray⟩ h1 0 _ ⟨s.toArray⟩ rfl;have hk:=Lib.countB_le ⟨p.toArray⟩ h1 _ ⟨s.toArray⟩ (za7 _);have hk':Lib.countB ⟨s.toArray⟩ ⟨p.toArray⟩<=s.length:=by simpa[ByteArray.size]using hk
 have hrl:((Ho s p).map fun x=>[V.v (.string ⟨x.toArray⟩)]).length=Lib.countB ⟨s.toArray⟩ ⟨p.toArray⟩+1:=by unfold Ho;simp[hl]
 refine⟨w.heap.size,Lib.countB ⟨s.toArray⟩ ⟨p.toArray⟩+1,((Lib.splitB ⟨p.toArray⟩ 0 (Lib.countB ⟨s.toArray⟩ ⟨p.toArray⟩) ⟨s.toArray⟩).map Value.string).toArray,by rw[hrl],(Below.refl _ w).alloc (za7 _) _,za7 _,by simp,by unfold World.alloc;simp,by simp[hl],by unfold maxLen;omega,by omega,fun i row hr=> ?_,fun i j row x hr hx=> ?_⟩
 ·rw[zd4]at hr;cases hz:(Ho s p)[i]? with
  |none=>rw[hz]at hr;cases hr
  |some z=>rw[hz]at hr;cases hr;rfl
 ·rw[zd4]at hr;cases hz:(Ho s p)[i]? with
  |none=>rw[hz]at hr;cases hr
  |some z=>
   rw[hz]at hr;cases hr;cases j with
   |succ j=>simp at hx
   |zero=>
    simp at hx;subst hx;unfold Ho at hz;rw[zd4,zb6]at hz;obtain⟨b,hb,rfl⟩:=hz;refine⟨.string b,?_,fun G=> ?_⟩
    ·simp[hb]
    ·exact .v _ rfl
theorem tW{e:TypeId}(hx:∀g' args blks r blks',bz g e g' args blks r blks'->ext g' args blks r blks'):Ch (EX P cf ext) ⟨Ak0 g e,fun x=>QK x.1 x.2⟩:=by
 refine Qo rfl rfl fun d d' y a a' ha ha' hF=> ?_
 have hF:QK d d'=some y:=hF;unfold QK at hF;split at hF
 ·rename_i h;cases hF;have ha:a=.v (.string ⟨(show Str from d).toArray⟩):=ha;have ha':a'=.v (.string ⟨(show Str from d').toArray⟩):=ha';refine⟨_,_,hx _ _ _ _ _ ⟨rfl,d,d',h.1,h.2,by rw[ha,ha'],rfl,rfl,rfl⟩,⟨_,rfl,fun b hb=> ?_⟩,fun id b hb=> ?_,rfl⟩
  ·have hb:some (TB.arr e true .str (Ho d d'))=some b:=hb;cases hb;simp[Gt]
  ·have hb:AG [(0,some (TB.arr e true .str (Ho d d')))] id=some b:=hb;simp only[AG]at hb;cases hi:Nat.beq id 0 with
   |false=>rw[hi]at hb;cases hb
   |true=>
    rw[hi]at hb;have hb:some (TB.arr e true .str (Ho d d'))=some b:=hb;cases hb;have:id=0:=za8 hi;subst this;refine⟨_,rfl,rfl,rfl,rfl,rfl,by simp[AV],fun i x row h1 h2=> ?_⟩;have h2:((Ho d d').map fun x=>[V.v (.string ⟨x.toArray⟩)])[i]? =some row:=h2;have h1:(Ho d d')[i]? =some x:=h1;rw[zd4,h1]at h2;cases h2;rfl
 ·cases hF
def YP(l:List Str)(sep:Str):Option Str:=if l.length<=140737488355328/\(Lib.join l sep).length<=140737488355328 then some (Lib.join l sep)else none
def gT(g:FuncId):Rel:=fun g' args blks r blks'=>g'=g/\∃(l:List Str)(sep:Str)(a:V),l.length<=140737488355328/\(Lib.join l sep).length<=140737488355328/\ME (.im .str) l a/\args=[a,.v (.string ⟨sep.toArray⟩)]/\blks=[]/\
 r=.v (.string ⟨(Lib.join l sep).toArray⟩)/\blks'=[]
def An3(g:FuncId):FAnn:=⟨g,0,[.slot 0 (.cell (.im .str)),.slot 1 (.cell .str)],[.slot 0 (.cell .str)],[],[],[]⟩
theorem sM(hent:Pd P g)(hc0:∀(a:Option Addr) (c:Nat) (sep:ByteArray) (w:World),Calls P g #[.slice a 0 c,.string sep] w fun e w'=>e=.returned (.string ⟨#[]⟩)/\w'=w)
  (hc:∀(bk o c:Nat)(xs:List ByteArray)(sep:ByteArray)(w:World)(hcells:∀(j:Nat) x,xs[j]? =some x->w.cell? ⟨bk,o+j,none⟩=some (.string x))(hbk:bk<w.heap.size)(hN:xs.length<=140737488355328)(hcap:xs.length<=c)(hlen:(Lib.join (xs.map (·.data.toList)) sep.data.toList).length<=140737488355328),
   Calls P g #[.slice (some ⟨bk,o,none⟩) xs.length c,.string sep] w fun e w'=>e=.returned (.string ⟨(Lib.join (xs.map (·.data.toList)) sep.data.toList).toArray⟩)/\Below w.heap.size w w'):
  ∀g' args blks r blks',gT g g' args blks r blks'->CSpec P J g' args blks r blks':=by
 rintro g' args blks r blks' ⟨rfl,l,sep,a,hl1,hl2,ha,rfl,rfl,rfl,rfl⟩;refine Ga hent fun w A E vals hT hA hvl=> ?_
 obtain⟨y,rfl,hy⟩:∃y,vals=[y,.string ⟨sep.toArray⟩]/\VR1 w E (lkB []) A a y:=by
  match vals,hvl with
  |[y,z],h=>
   have h2:Rep w A (.v (.string ⟨sep.toArray⟩)) z:=h.2.1;cases h2;exact⟨y,rfl,h.1⟩
  |[],h=>exact h.elim
  |[_],h=>exact h.2.elim
  |_::_::_::_,h=>exact h.2.2.elim
 have empty:∀(a:Option Addr)(c:Nat),l=[]->Calls P g' [Value.slice a 0 c,.string ⟨sep.toArray⟩].toArray w fun e w'=>∃y,e=.returned y/\Below w.heap.size w w'/\VR2 w' E (lkB []) A (.v (.string ⟨(Lib.join l sep).toArray⟩)) y:=by
  intro a c h0;subst h0;refine(hc0 a c ⟨sep.toArray⟩ w).mono ?_;rintro e w' ⟨rfl,rfl⟩;exact⟨_,rfl,Below.refl _ _,.v _ rfl⟩
 rcases ha with⟨h0,rfl⟩|⟨rows,rfl,hrows⟩
 ·have hy:Rep w A .em y:=hy;cases hy with
  |em a=>exact empty a 0 h0
 ·have hy:Rep w A (.im rows) y:=hy;cases hy with
  |im0 a cap=>exact empty a cap (zb2 (by have:=hrows.1;simpa using this.symm))
  |im b off cap size rows f hb hs hcap hcm hrl hcell hrep=>
   have hone:∀(i:Nat)(s:Str),l[i]? =some s->rows[i]? =some [V.v (.string ⟨s.toArray⟩)]:=by
    intro i s hi;obtain⟨row,h1,h2⟩:=hrows.get hi;rw[h1];have h2:row=_:=h2;rw[h2]
   have hsz:l≠[]->size=1:=by
    intro hne
    match l,hne,hone with
    |s::l',_,hone=>
     have:=hrl 0 _ (hone 0 s rfl);simpa using this.symm
   by_cases h0:l=[]
   ·have hr0:rows.length=0:=by have:=hrows.1;rw[h0]at this;simpa using this
    rw[hr0];exact empty _ cap h0
   ·have hs1:=hsz h0;subst hs1;have hmap:(l.map fun s=>(⟨s.toArray⟩:ByteArray)).map (fun b=>b.data.toList)=l:=by simp[Function.comp_def]
    have hll:(l.map fun s=>(⟨s.toArray⟩:ByteArray)).length=rows.length:=by simp[hrows.1]
    have key:=hc b off cap (l.map fun s=>⟨s.toArray⟩) ⟨sep.toArray⟩ w (fun j x hx=>by
     rw[zd4,zb6]at hx;obtain⟨s,h1,rfl⟩:=hx;have h2:=hone j s h1;have h3:=hcell j 0 _ _ h2 rfl;have h4:=hrep j 0 _ _ h2 rfl;rw[Nat.mul_one,Nat.add_zero]at h3;rw[h3];generalize f j 0=z at h4;cases h4;rfl) (hA b hb) (by rw[hll];have:=hrows.1;omega) (by rw[hll];exact hcap) (by rw[hmap];simpa using hl2)
    rw[hll,hmap]at key;refine key.mono ?_;rintro e w' ⟨rfl,hbl⟩;exact⟨_,rfl,hbl,.v _ rfl⟩
theorem v8(hx:∀g' args blks r blks',gT g g' args blks r blks'->ext g' args blks r blks'):Ch (EX P cf ext) ⟨An3 g,fun x=>YP x.1 x.2⟩:=by
 refine Qo rfl rfl fun d d' y a a' ha ha' hF=> ?_
 have hF:YP d d'=some y:=hF;unfold YP at hF;split at hF
 ·rename_i h;cases hF;have ha':a'=.v (.string ⟨(show Str from d').toArray⟩):=ha';exact⟨_,[],hx _ _ _ _ _ ⟨rfl,d,d',a,h.1,h.2,ha,by rw[ha'],rfl,rfl,rfl⟩,rfl,fun id b hb=>by simp[Bq,AG]at hb,rfl⟩
 ·cases hF
def uu(P:Program)(J:Il)(name:String):Prop:=∀w:World,(∀x∈J,w.heap[x.1]? =some x.2)->∃tp p,w.var? P name=some #[.iface tp p]
def J9(s:Str):Int×Bool:=match Lib.atoiAll s with|.ok v=>(v,false)|.range=>(Lib.atoiSat s,true)|_=>(0,true)
def U4(s:Str):Option (Int×Bool):=if s.length<=281474976710656 then some (J9 s)else none
def gq(g:FuncId):Rel:=fun g' args blks r blks'=>g'=g/\∃s:Str,s.length<=281474976710656/\args=[.v (.string ⟨s.toArray⟩)]/\blks=[]/\r=.tup [.v (.int .i64 (J9 s).1),.er (J9 s).2]/\blks'=[]
def Al9(g:FuncId):FAnn:=⟨g,0,[.slot 0 (.cell .str)],[.slot 0 (.cell (.int .i64)),.slot 1 (.cell .err)],[],[],[]⟩
theorem rH{t5 t1 t2:TypeId}(hent:Pd P g)(hok:∀(s:ByteArray) (hmax:s.size<=9223372036854775806) (v:Int) (h:Lib.atoiAll s.data.toList=.ok v) (w:World),
   Calls P g #[.string s] w fun e w'=>e=.returned (.tuple #[.int .i64 v,.nilIface])/\(w'=w\/∃t,w'=Lib.bytesWorld w t5 t))
  (hsy:∀(s:ByteArray)(hlim:s.size<=281474976710656)(h:Lib.atoiAll s.data.toList=Lib.atoiAll [])(tp:TypeId)(p:Value)(w:World)(hvar:w.var? P "strconv.ErrSyntax" =some #[.iface tp p]),
   Calls P g #[.string s] w fun e w'=>∃N,e=.returned (.tuple #[.int .i64 0,.iface t1 (.pointer (some ⟨N,0,none⟩))])/\w.heap.size<=N/\w'.heap[N]? =some (.cells #[.string ⟨#[65,116,111,105]⟩,.string s,.iface tp p] t2 (0,0))/\Below w.heap.size w w')
  (hrg:∀(s:ByteArray)(hlim:s.size<=281474976710656)(h:Lib.atoiAll s.data.toList=.range)(tp:TypeId)(p:Value)(w:World)(hvar:w.var? P "strconv.ErrRange" =some #[.iface tp p]),
   Calls P g #[.string s] w fun e w'=>∃N,e=.returned (.tuple #[.int .i64 (Lib.atoiSat s.data.toList),.iface t1 (.pointer (some ⟨N,0,none⟩))])/\w.heap.size<=N/\w'.heap[N]? =some (.cells #[.string ⟨#[65,116,111,105]⟩,.string s,.iface tp p] t2 (0,0))/\Below w.heap.size w w')
  (hJ1:uu P J "strconv.ErrSyntax") (hJ2:uu P J "strconv.ErrRange"):
  ∀g' args blks r blks',gq g g' args blks r blks'->CSpec P J g' args blks r blks':=by
 rintro g' args blks r blks' ⟨rfl,s,hs,rfl,rfl,rfl,rfl⟩;refine Ga hent fun w A E vals hT hA hvl=> ?_
 rw[Ad9 hvl];have hs':(⟨s.toArray⟩:ByteArray).size<=281474976710656:=by simpa[ByteArray.size]using hs
 cases hz:Lib.atoiAll s
 case ok v=>
  have e0:J9 s=(v,false):=by unfold J9;rw[hz]
  rw[e0];refine(hok ⟨s.toArray⟩ (by omega) v (by simpa using hz) w).mono ?_;rintro e w' ⟨rfl,hw⟩;refine⟨_,rfl,?_,_,rfl,.v _ rfl,.er0,trivial⟩;rcases hw with rfl|⟨t,rfl⟩
  ·exact Below.refl _ _
  ·exact Lib.bytesWorld_below w _ t
 case range=>
  have e0:J9 s=(Lib.atoiSat s,true):=by unfold J9;rw[hz]
  rw[e0];obtain⟨tp,p,hv⟩:=hJ2 w hT;refine(hrg ⟨s.toArray⟩ hs' (by simpa using hz) tp p w hv).mono ?_;rintro e w' ⟨N,rfl,_,_,hb⟩;exact⟨_,rfl,hb,_,rfl,.v _ rfl,.er1 _ _,trivial⟩
 ·have e0:J9 s=(0,true):=by unfold J9;rw[hz]
  rw[e0];obtain⟨tp,p,hv⟩:=hJ1 w hT;have he:Lib.atoiAll (⟨s.toArray⟩:ByteArray).data.toList=Lib.atoiAll []:=by
   rw[show(⟨s.toArray⟩:ByteArray).data.toList=s from rfl,hz];rfl
  refine(hsy ⟨s.toArray⟩ hs' he tp p w hv).mono ?_;rintro e w' ⟨N,rfl,_,_,hb⟩;exact⟨_,rfl,hb,_,rfl,.v _ rfl,.er1 _ _,trivial⟩
theorem uG(hx:∀g' args blks r blks',gq g g' args blks r blks'->ext g' args blks r blks'):Ch (EX P cf ext) ⟨Al9 g,U4⟩:=by
 refine kO rfl fun d y a ha hF=> ?_
 have hF:U4 d=some y:=hF;unfold U4 at hF;split at hF
 ·rename_i h;cases hF;have ha:a=.v (.string ⟨(show Str from d).toArray⟩):=ha;exact⟨_,[],hx _ _ _ _ _ ⟨rfl,d,h,by rw[ha],rfl,rfl,rfl⟩,⟨_,rfl,rfl,rfl,trivial⟩,fun id b hb=>by simp[Bq,AG]at hb,rfl⟩
 ·cases hF
end
end
end Go.Proofs.YtiijheppiboglaaGreatDoor.Ev
namespace Go.Proofs
section
open Go.Shelf
def Tryz.lays169_ren:Go.Shelf.Ren:=⟨fun|169=>149|n=>n,fun|70=>164|9=>9|0=>0|72=>166|37=>32|127=>200|3=>3|5=>5|n=>n,fun|n=>n⟩
theorem Tryz.lays169:Go.Proofs.Lays.n169 Tryz.prog Tryz.lays169_ren:={
 mixed:=by kernel_rfl
 f169:=Tryz.func149.trans (congrArg some (by kernel_rfl))
 t0:=Tryz.underlying0
 a0:=Tryz.isAgg0
 z0:=Tryz.sizeOf0
 v0:=Tryz.zeroValue0
 t3:=Tryz.underlying3
 a3:=Tryz.isAgg3
 z3:=Tryz.sizeOf3
 v3:=Tryz.zeroValue3
 t9:=Tryz.underlying9
 a9:=Tryz.isAgg9
 z9:=Tryz.sizeOf9
 v9:=Tryz.zeroValue9
 t37:=Tryz.underlying32
 a37:=Tryz.isAgg32
 z37:=Tryz.sizeOf32
 v37:=Tryz.zeroValue32
 t70:=Tryz.underlying164
 a70:=Tryz.isAgg164
 z70:=Tryz.sizeOf164
 v70:=Tryz.zeroValue164
 t72:=Tryz.underlying166
 a72:=Tryz.isAgg166
 z72:=Tryz.sizeOf166
 v72:=Tryz.zeroValue166
 t127:=Tryz.underlying200
 a127:=Tryz.isAgg200
 z127:=Tryz.sizeOf200
 v127:=Tryz.zeroValue200}
theorem Tryz.Builder_Extra_169:Builder.Extra Tryz.prog Tryz.lays169_ren:={
 sizeBuilder:=by kernel_rfl
 liesBuilder:=by kernel_rfl
 t5:=Tryz.underlying5
 a5:=Tryz.isAgg5
 z5:=Tryz.sizeOf5
 v5:=Tryz.zeroValue5
 infoByte:=by kernel_rfl
 cellsByte:=by kernel_rfl
 sizeByte:=by kernel_rfl
 neB5:=by decide}
open Go.RowKit in
theorem Tryz.Builder_String_any (B b : Nat) (l : List UInt8) (w : World) (h : Lib.IsBuilder 166 5 B b (Lib.byteCells l) w) (hBw : B <= w.heap.size) :
  Calls Tryz.prog 149 #[.pointer (some ⟨b, 0, none⟩)] w fun e w' => e = .returned (.string ⟨l.toArray⟩) /\ Below B w w' := Any.Builder_String_any Tryz.lays169 Tryz.Builder_Extra_169 B b l w h hBw
def Tryz.lays156_ren:Go.Shelf.Ren:=⟨fun|156=>83|165=>147|166=>148|169=>149|240=>201|241=>202|276=>253|277=>254|n=>n,fun|31=>63|9=>9|3=>3|4=>4|0=>0|20=>20|72=>166|76=>126|70=>164|37=>32|75=>125|127=>200|164=>232|5=>5|80=>116|n=>n,fun|n=>n⟩
theorem Tryz.lays156:Go.Proofs.Lays.n156 Tryz.prog Tryz.lays156_ren:={
 mixed:=by kernel_rfl
 f156:=Tryz.func83.trans (congrArg some (by kernel_rfl))
 f165:=Tryz.func147.trans (congrArg some (by kernel_rfl))
 f166:=Tryz.func148.trans (congrArg some (by kernel_rfl))
 f169:=Tryz.func149.trans (congrArg some (by kernel_rfl))
 f240:=Tryz.func201.trans (congrArg some (by kernel_rfl))
 f241:=Tryz.func202.trans (congrArg some (by kernel_rfl))
 f276:=Tryz.func253.trans (congrArg some (by kernel_rfl))
 f277:=Tryz.func254.trans (congrArg some (by kernel_rfl))
 t0:=Tryz.underlying0
 a0:=Tryz.isAgg0
 z0:=Tryz.sizeOf0
 v0:=Tryz.zeroValue0
 t3:=Tryz.underlying3
 a3:=Tryz.isAgg3
 z3:=Tryz.sizeOf3
 v3:=Tryz.zeroValue3
 t4:=Tryz.underlying4
 a4:=Tryz.isAgg4
 z4:=Tryz.sizeOf4
 v4:=Tryz.zeroValue4
 t9:=Tryz.underlying9
 a9:=Tryz.isAgg9
 z9:=Tryz.sizeOf9
 v9:=Tryz.zeroValue9
 t20:=Tryz.underlying20
 a20:=Tryz.isAgg20
 z20:=Tryz.sizeOf20
 v20:=Tryz.zeroValue20
 t31:=Tryz.underlying63
 a31:=Tryz.isAgg63
 z31:=Tryz.sizeOf63
 v31:=Tryz.zeroValue63
 t37:=Tryz.underlying32
 a37:=Tryz.isAgg32
 z37:=Tryz.sizeOf32
 v37:=Tryz.zeroValue32
 t70:=Tryz.underlying164
 a70:=Tryz.isAgg164
 z70:=Tryz.sizeOf164
 v70:=Tryz.zeroValue164
 t72:=Tryz.underlying166
 a72:=Tryz.isAgg166
 z72:=Tryz.sizeOf166
 v72:=Tryz.zeroValue166
 t75:=Tryz.underlying125
 a75:=Tryz.isAgg125
 z75:=Tryz.sizeOf125
 v75:=Tryz.zeroValue125
 t76:=Tryz.underlying126
 a76:=Tryz.isAgg126
 z76:=Tryz.sizeOf126
 v76:=Tryz.zeroValue126
 t127:=Tryz.underlying200
 a127:=Tryz.isAgg200
 z127:=Tryz.sizeOf200
 v127:=Tryz.zeroValue200
 t164:=Tryz.underlying232
 a164:=Tryz.isAgg232
 z164:=Tryz.sizeOf232
 v164:=Tryz.zeroValue232}
theorem Tryz.Builder_Extra_156:Builder.Extra Tryz.prog Tryz.lays156_ren:={
 sizeBuilder:=by kernel_rfl
 liesBuilder:=by kernel_rfl
 t5:=Tryz.underlying5
 a5:=Tryz.isAgg5
 z5:=Tryz.sizeOf5
 v5:=Tryz.zeroValue5
 infoByte:=by kernel_rfl
 cellsByte:=by kernel_rfl
 sizeByte:=by kernel_rfl
 neB5:=by decide}
open Go.RowKit in
theorem Tryz.strings_Join_none (a : Option Addr) (c : Nat) (sep : ByteArray) (w : World) :
  Calls Tryz.prog 83 #[.slice a 0 c, .string sep] w fun e w' => e = .returned (.string ⟨#[]⟩) /\ w' = w := Any.strings_Join_none Tryz.lays156 Tryz.Builder_Extra_156 a c sep w
open Go.RowKit in
theorem Tryz.strings_Join (bk o c : Nat) (xs : List ByteArray) (sep : ByteArray) (w : World) (hcells : ∀ (j : Nat) x, xs[j]? = some x -> w.cell? ⟨bk, o + j, none⟩ = some (.string x)) (hbk : bk < w.heap.size) (hN : xs.length <= 140737488355328) (hcap : xs.length <= c) (hlen : (Lib.join (xs.map (·.data.toList)) sep.data.toList).length <= 140737488355328) :
  Calls Tryz.prog 83 #[.slice (some ⟨bk, o, none⟩) xs.length c, .string sep] w fun e w' => e = .returned (.string ⟨(Lib.join (xs.map (·.data.toList)) sep.data.toList).toArray⟩) /\ Below w.heap.size w w' := Any.strings_Join Tryz.lays156 Tryz.Builder_Extra_156 bk o c xs sep w hcells hbk hN hcap hlen
def Tryz.lays103_ren:Go.Shelf.Ren:=⟨fun|103=>127|210=>186|206=>237|n=>n,fun|9=>9|4=>4|24=>35|3=>3|n=>n,fun|n=>n⟩
theorem Tryz.lays103:Go.Proofs.Lays.n103 Tryz.prog Tryz.lays103_ren:={
 mixed:=by kernel_rfl
 f103:=Tryz.func127.trans (congrArg some (by kernel_rfl))
 f206:=Tryz.func237.trans (congrArg some (by kernel_rfl))
 f210:=Tryz.func186.trans (congrArg some (by kernel_rfl))
 t3:=Tryz.underlying3
 a3:=Tryz.isAgg3
 z3:=Tryz.sizeOf3
 v3:=Tryz.zeroValue3
 t4:=Tryz.underlying4
 a4:=Tryz.isAgg4
 z4:=Tryz.sizeOf4
 v4:=Tryz.zeroValue4
 t9:=Tryz.underlying9
 a9:=Tryz.isAgg9
 z9:=Tryz.sizeOf9
 v9:=Tryz.zeroValue9
 t24:=Tryz.underlying35
 a24:=Tryz.isAgg35
 z24:=Tryz.sizeOf35
 v24:=Tryz.zeroValue35}
open Go.RowKit in
theorem Tryz.strings_CutPrefix (s p : ByteArray) (w : World) :
  Calls Tryz.prog 127 #[.string s, .string p] w fun e w' => e = .returned (.tuple #[.string ⟨(Lib.trimPrefix s.data.toList p.data.toList).toArray⟩, .bool (Lib.hasPrefix s.data.toList p.data.toList)]) /\ w' = w := Any.strings_CutPrefix Tryz.lays103 s p w
def Tryz.laysM171_ren:Go.Shelf.Ren:=⟨fun|171=>82|243=>146|246=>200|283=>249|284=>250|285=>251|286=>252|129=>286|317=>285|318=>287|319=>288|320=>289|337=>305|338=>306|n=>n,fun|3=>3|9=>9|2=>2|4=>4|171=>227|0=>0|53=>113|37=>32|5=>5|173=>230|212=>254|51=>255|20=>20|213=>256|46=>221|232=>280|233=>281|n=>n,fun|17=>3|18=>6|19=>7|n=>n⟩
theorem Tryz.laysM171:Go.Proofs.LaysM.n171 Tryz.prog Tryz.laysM171_ren:={
 mixed:=by kernel_rfl
 f129:=Tryz.func286.trans (congrArg some (by kernel_rfl))
 f171:=Tryz.func82.trans (congrArg some (by kernel_rfl))
 f243:=Tryz.func146.trans (congrArg some (by kernel_rfl))
 f246:=Tryz.func200.trans (congrArg some (by kernel_rfl))
 f283:=Tryz.func249.trans (congrArg some (by kernel_rfl))
 f284:=Tryz.func250.trans (congrArg some (by kernel_rfl))
 f285:=Tryz.func251.trans (congrArg some (by kernel_rfl))
 f286:=Tryz.func252.trans (congrArg some (by kernel_rfl))
 f317:=Tryz.func285.trans (congrArg some (by kernel_rfl))
 f318:=Tryz.func287.trans (congrArg some (by kernel_rfl))
 f319:=Tryz.func288.trans (congrArg some (by kernel_rfl))
 f320:=Tryz.func289.trans (congrArg some (by kernel_rfl))
 f337:=Tryz.func305.trans (congrArg some (by kernel_rfl))
 f338:=Tryz.func306.trans (congrArg some (by kernel_rfl))
 t0:=Tryz.underlying0
 a0:=Tryz.isAgg0
 z0:=Tryz.sizeOf0
 v0:=Tryz.zeroValue0
 t2:=Tryz.underlying2
 a2:=Tryz.isAgg2
 z2:=Tryz.sizeOf2
 v2:=Tryz.zeroValue2
 t3:=Tryz.underlying3
 a3:=Tryz.isAgg3
 z3:=Tryz.sizeOf3
 v3:=Tryz.zeroValue3
 t4:=Tryz.underlying4
 a4:=Tryz.isAgg4
 z4:=Tryz.sizeOf4
 v4:=Tryz.zeroValue4
 t5:=Tryz.underlying5
 a5:=Tryz.isAgg5
 z5:=Tryz.sizeOf5
 v5:=Tryz.zeroValue5
 t9:=Tryz.underlying9
 a9:=Tryz.isAgg9
 z9:=Tryz.sizeOf9
 v9:=Tryz.zeroValue9
 t20:=Tryz.underlying20
 a20:=Tryz.isAgg20
 z20:=Tryz.sizeOf20
 v20:=Tryz.zeroValue20
 t37:=Tryz.underlying32
 a37:=Tryz.isAgg32
 z37:=Tryz.sizeOf32
 v37:=Tryz.zeroValue32
 t46:=Tryz.underlying221
 a46:=Tryz.isAgg221
 z46:=Tryz.sizeOf221
 v46:=Tryz.zeroValue221
 t51:=Tryz.underlying255
 a51:=Tryz.isAgg255
 z51:=Tryz.sizeOf255
 v51:=Tryz.zeroValue255
 t53:=Tryz.underlying113
 a53:=Tryz.isAgg113
 z53:=Tryz.sizeOf113
 v53:=Tryz.zeroValue113
 t171:=Tryz.underlying227
 a171:=Tryz.isAgg227
 z171:=Tryz.sizeOf227
 v171:=Tryz.zeroValue227
 t173:=Tryz.underlying230
 a173:=Tryz.isAgg230
 z173:=Tryz.sizeOf230
 v173:=Tryz.zeroValue230
 t212:=Tryz.underlying254
 a212:=Tryz.isAgg254
 z212:=Tryz.sizeOf254
 v212:=Tryz.zeroValue254
 t213:=Tryz.underlying256
 a213:=Tryz.isAgg256
 z213:=Tryz.sizeOf256
 t232:=Tryz.underlying280
 a232:=Tryz.isAgg280
 z232:=Tryz.sizeOf280
 v232:=Tryz.zeroValue280
 t233:=Tryz.underlying281
 a233:=Tryz.isAgg281
 z233:=Tryz.sizeOf281
 v233:=Tryz.zeroValue281
 g17:=by kernel_rfl
 g18:=by kernel_rfl
 g19:=by kernel_rfl
 i0:=by kernel_rfl
 i2:=by kernel_rfl
 i3:=by kernel_rfl
 i4:=by kernel_rfl
 i5:=by kernel_rfl
 i9:=by kernel_rfl
 i20:=by kernel_rfl
 i37:=by kernel_rfl
 i46:=by kernel_rfl
 i51:=by kernel_rfl
 i53:=by kernel_rfl
 i171:=by kernel_rfl
 i173:=by kernel_rfl
 i212:=by kernel_rfl
 i232:=by kernel_rfl
 i233:=by kernel_rfl
 m17:=by kernel_rfl
 m18:=by kernel_rfl
 m19:=by kernel_rfl}
open Go.RowKit Go.Sort Go.Lib in
theorem Tryz.strconv_Itoa (n : Int) (h0 : -9223372036854775808 <= n) (h1 : n <= 9223372036854775807) (w : World) (htab : Lib.TabIs Tryz.prog w "internal/strconv.uint64pow10" .u64 Lib.pow10Tab) :
  Calls Tryz.prog 82 #[.int .i64 n] w fun e w' => e = .returned (.string ⟨(Lib.itoa n).toArray⟩) /\ ∃ k os, w' = grow (w.drewN k) os := Any.strconv_Itoa Tryz.laysM171 n h0 h1 w htab
def Tryz.laysC172_ren:Go.Shelf.Ren:=⟨fun|172=>101|244=>164|245=>165|247=>210|279=>211|280=>212|281=>213|282=>214|287=>260|316=>261|171=>82|205=>262|321=>291|322=>292|243=>146|246=>200|283=>249|284=>250|285=>251|286=>252|129=>286|317=>285|318=>287|319=>288|320=>289|337=>305|338=>306|n=>n,fun|9=>9|3=>3|75=>125|76=>126|4=>4|5=>5|167=>205|37=>32|0=>0|85=>206|2=>2|168=>208|53=>113|175=>240|46=>221|210=>244|127=>200|145=>261|143=>259|21=>21|171=>227|173=>230|212=>254|51=>255|20=>20|213=>256|232=>280|233=>281|80=>116|n=>n,fun|15=>0|16=>1|17=>3|18=>6|19=>7|n=>n⟩
theorem Tryz.laysC172:Go.Proofs.LaysC.n172 Tryz.prog Tryz.laysC172_ren:={
 mixed:=by kernel_rfl
 f129:=Tryz.func286.trans (congrArg some (by kernel_rfl))
 f171:=Tryz.func82.trans (congrArg some (by kernel_rfl))
 f172:=Tryz.func101.trans (congrArg some (by kernel_rfl))
 f205:=Tryz.func262.trans (congrArg some (by kernel_rfl))
 f243:=Tryz.func146.trans (congrArg some (by kernel_rfl))
 f244:=Tryz.func164.trans (congrArg some (by kernel_rfl))
 f245:=Tryz.func165.trans (congrArg some (by kernel_rfl))
 f246:=Tryz.func200.trans (congrArg some (by kernel_rfl))
 f247:=Tryz.func210.trans (congrArg some (by kernel_rfl))
 f279:=Tryz.func211.trans (congrArg some (by kernel_rfl))
 f280:=Tryz.func212.trans (congrArg some (by kernel_rfl))
 f281:=Tryz.func213.trans (congrArg some (by kernel_rfl))
 f282:=Tryz.func214.trans (congrArg some (by kernel_rfl))
 f283:=Tryz.func249.trans (congrArg some (by kernel_rfl))
 f284:=Tryz.func250.trans (congrArg some (by kernel_rfl))
 f285:=Tryz.func251.trans (congrArg some (by kernel_rfl))
 f286:=Tryz.func252.trans (congrArg some (by kernel_rfl))
 f287:=Tryz.func260.trans (congrArg some (by kernel_rfl))
 f316:=Tryz.func261.trans (congrArg some (by kernel_rfl))
 f317:=Tryz.func285.trans (congrArg some (by kernel_rfl))
 f318:=Tryz.func287.trans (congrArg some (by kernel_rfl))
 f319:=Tryz.func288.trans (congrArg some (by kernel_rfl))
 f320:=Tryz.func289.trans (congrArg some (by kernel_rfl))
 f321:=Tryz.func291.trans (congrArg some (by kernel_rfl))
 f322:=Tryz.func292.trans (congrArg some (by kernel_rfl))
 f337:=Tryz.func305.trans (congrArg some (by kernel_rfl))
 f338:=Tryz.func306.trans (congrArg some (by kernel_rfl))
 t0:=Tryz.underlying0
 a0:=Tryz.isAgg0
 z0:=Tryz.sizeOf0
 v0:=Tryz.zeroValue0
 t2:=Tryz.underlying2
 a2:=Tryz.isAgg2
 z2:=Tryz.sizeOf2
 v2:=Tryz.zeroValue2
 t3:=Tryz.underlying3
 a3:=Tryz.isAgg3
 z3:=Tryz.sizeOf3
 v3:=Tryz.zeroValue3
 t4:=Tryz.underlying4
 a4:=Tryz.isAgg4
 z4:=Tryz.sizeOf4
 v4:=Tryz.zeroValue4
 t5:=Tryz.underlying5
 a5:=Tryz.isAgg5
 z5:=Tryz.sizeOf5
 v5:=Tryz.zeroValue5
 t9:=Tryz.underlying9
 a9:=Tryz.isAgg9
 z9:=Tryz.sizeOf9
 v9:=Tryz.zeroValue9
 t20:=Tryz.underlying20
 a20:=Tryz.isAgg20
 z20:=Tryz.sizeOf20
 v20:=Tryz.zeroValue20
 t21:=Tryz.underlying21
 a21:=Tryz.isAgg21
 z21:=Tryz.sizeOf21
 v21:=Tryz.zeroValue21
 t37:=Tryz.underlying32
 a37:=Tryz.isAgg32
 z37:=Tryz.sizeOf32
 v37:=Tryz.zeroValue32
 t46:=Tryz.underlying221
 a46:=Tryz.isAgg221
 z46:=Tryz.sizeOf221
 v46:=Tryz.zeroValue221
 t51:=Tryz.underlying255
 a51:=Tryz.isAgg255
 z51:=Tryz.sizeOf255
 v51:=Tryz.zeroValue255
 t53:=Tryz.underlying113
 a53:=Tryz.isAgg113
 z53:=Tryz.sizeOf113
 v53:=Tryz.zeroValue113
 t75:=Tryz.underlying125
 a75:=Tryz.isAgg125
 z75:=Tryz.sizeOf125
 v75:=Tryz.zeroValue125
 t76:=Tryz.underlying126
 a76:=Tryz.isAgg126
 z76:=Tryz.sizeOf126
 v76:=Tryz.zeroValue126
 t85:=Tryz.underlying206
 a85:=Tryz.isAgg206
 z85:=Tryz.sizeOf206
 v85:=Tryz.zeroValue206
 t127:=Tryz.underlying200
 a127:=Tryz.isAgg200
 z127:=Tryz.sizeOf200
 v127:=Tryz.zeroValue200
 t143:=Tryz.underlying259
 a143:=Tryz.isAgg259
 z143:=Tryz.sizeOf259
 v143:=Tryz.zeroValue259
 t145:=Tryz.underlying261
 a145:=Tryz.isAgg261
 z145:=Tryz.sizeOf261
 v145:=Tryz.zeroValue261
 t167:=Tryz.underlying205
 a167:=Tryz.isAgg205
 z167:=Tryz.sizeOf205
 v167:=Tryz.zeroValue205
 t168:=Tryz.underlying208
 a168:=Tryz.isAgg208
 z168:=Tryz.sizeOf208
 v168:=Tryz.zeroValue208
 t171:=Tryz.underlying227
 a171:=Tryz.isAgg227
 z171:=Tryz.sizeOf227
 v171:=Tryz.zeroValue227
 t173:=Tryz.underlying230
 a173:=Tryz.isAgg230
 z173:=Tryz.sizeOf230
 v173:=Tryz.zeroValue230
 t175:=Tryz.underlying240
 a175:=Tryz.isAgg240
 z175:=Tryz.sizeOf240
 v175:=Tryz.zeroValue240
 t210:=Tryz.underlying244
 a210:=Tryz.isAgg244
 z210:=Tryz.sizeOf244
 v210:=Tryz.zeroValue244
 t212:=Tryz.underlying254
 a212:=Tryz.isAgg254
 z212:=Tryz.sizeOf254
 v212:=Tryz.zeroValue254
 t213:=Tryz.underlying256
 a213:=Tryz.isAgg256
 z213:=Tryz.sizeOf256
 t232:=Tryz.underlying280
 a232:=Tryz.isAgg280
 z232:=Tryz.sizeOf280
 v232:=Tryz.zeroValue280
 t233:=Tryz.underlying281
 a233:=Tryz.isAgg281
 z233:=Tryz.sizeOf281
 v233:=Tryz.zeroValue281
 g15:=by kernel_rfl
 g16:=by kernel_rfl
 g17:=by kernel_rfl
 g18:=by kernel_rfl
 g19:=by kernel_rfl
 t80:=Tryz.underlying116
 a80:=Tryz.isAgg116
 z80:=Tryz.sizeOf116
 v80:=Tryz.zeroValue116
 i0:=by kernel_rfl
 i2:=by kernel_rfl
 i3:=by kernel_rfl
 i4:=by kernel_rfl
 i5:=by kernel_rfl
 i9:=by kernel_rfl
 i20:=by kernel_rfl
 i21:=by kernel_rfl
 i37:=by kernel_rfl
 i46:=by kernel_rfl
 i51:=by kernel_rfl
 i53:=by kernel_rfl
 i75:=by kernel_rfl
 i76:=by kernel_rfl
 i80:=by kernel_rfl
 i85:=by kernel_rfl
 i127:=by kernel_rfl
 i143:=by kernel_rfl
 i145:=by kernel_rfl
 i167:=by kernel_rfl
 i168:=by kernel_rfl
 i171:=by kernel_rfl
 i173:=by kernel_rfl
 i175:=by kernel_rfl
 i210:=by kernel_rfl
 i212:=by kernel_rfl
 i232:=by kernel_rfl
 i233:=by kernel_rfl
 m15:=by kernel_rfl
 m16:=by kernel_rfl
 m17:=by kernel_rfl
 m18:=by kernel_rfl
 m19:=by kernel_rfl
 c0:=by kernel_rfl
 c2:=by kernel_rfl
 c3:=by kernel_rfl
 c4:=by kernel_rfl
 c5:=by kernel_rfl
 c9:=by kernel_rfl
 c20:=by kernel_rfl
 c21:=by kernel_rfl
 c37:=by kernel_rfl
 c46:=by kernel_rfl
 c51:=by kernel_rfl
 c53:=by kernel_rfl
 c75:=by kernel_rfl
 c76:=by kernel_rfl
 c80:=by kernel_rfl
 c85:=by kernel_rfl
 c127:=by kernel_rfl
 c143:=by kernel_rfl
 c145:=by kernel_rfl
 c167:=by kernel_rfl
 c168:=by kernel_rfl
 c171:=by kernel_rfl
 c173:=by kernel_rfl
 c175:=by kernel_rfl
 c210:=by kernel_rfl
 c212:=by kernel_rfl
 c213:=by kernel_rfl
 c232:=by kernel_rfl
 c233:=by kernel_rfl}
open Go.RowKit in
theorem Tryz.strconv_Atoi_ok (s : ByteArray) (hmax : s.size <= 9223372036854775806) (v : Int) (h : Lib.atoiAll s.data.toList = .ok v) (w : World) :
  Calls Tryz.prog 101 #[.string s] w fun e w' => e = .returned (.tuple #[.int .i64 v, .nilIface]) /\ (w' = w \/ ∃ t, w' = Lib.bytesWorld w 5 t) := Any.strconv_Atoi_ok Tryz.laysC172 s hmax v h w
open Go.RowKit in
theorem Tryz.strconv_Atoi_syntax_var (s : ByteArray) (hlim : s.size <= 281474976710656) (h : Lib.atoiAll s.data.toList = Lib.atoiAll []) (tp : TypeId) (p : Value) (w : World) (hvar : w.var? Tryz.prog "strconv.ErrSyntax" = some #[.iface tp p]) :
  Calls Tryz.prog 101 #[.string s] w fun e w' => ∃ N, e = .returned (.tuple #[.int .i64 0, .iface 208 (.pointer (some ⟨N, 0, none⟩))]) /\ w.heap.size <= N /\ w'.heap[N]? = some (.cells #[.string ⟨#[65, 116, 111, 105]⟩, .string s, .iface tp p] 244 (0, 0)) /\ Below w.heap.size w w' := Any.strconv_Atoi_syntax_var Tryz.laysC172 s hlim h tp p w hvar
open Go.RowKit in
theorem Tryz.strconv_Atoi_range_var (s : ByteArray) (hlim : s.size <= 281474976710656) (h : Lib.atoiAll s.data.toList = .range) (tp : TypeId) (p : Value) (w : World) (hvar : w.var? Tryz.prog "strconv.ErrRange" = some #[.iface tp p]) :
  Calls Tryz.prog 101 #[.string s] w fun e w' => ∃ N, e = .returned (.tuple #[.int .i64 (Lib.atoiSat s.data.toList), .iface 208 (.pointer (some ⟨N, 0, none⟩))]) /\ w.heap.size <= N /\ w'.heap[N]? = some (.cells #[.string ⟨#[65, 116, 111, 105]⟩, .string s, .iface tp p] 244 (0, 0)) /\ Below w.heap.size w w' := Any.strconv_Atoi_range_var Tryz.laysC172 s hlim h tp p w hvar
def Tryz.lays144_ren:Go.Shelf.Ren:=⟨fun|144=>155|143=>207|219=>238|217=>279|225=>280|224=>281|267=>282|266=>303|314=>304|n=>n,fun|9=>9|4=>4|3=>3|5=>5|46=>221|146=>266|51=>255|n=>n,fun|1=>2|n=>n⟩
theorem Tryz.lays144:Go.Proofs.Lays.n144 Tryz.prog Tryz.lays144_ren:={
 mixed:=by kernel_rfl
 f143:=Tryz.func207.trans (congrArg some (by kernel_rfl))
 f144:=Tryz.func155.trans (congrArg some (by kernel_rfl))
 f217:=Tryz.func279.trans (congrArg some (by kernel_rfl))
 f219:=Tryz.func238.trans (congrArg some (by kernel_rfl))
 f224:=Tryz.func281.trans (congrArg some (by kernel_rfl))
 f225:=Tryz.func280.trans (congrArg some (by kernel_rfl))
 f266:=Tryz.func303.trans (congrArg some (by kernel_rfl))
 f267:=Tryz.func282.trans (congrArg some (by kernel_rfl))
 f314:=Tryz.func304.trans (congrArg some (by kernel_rfl))
 t3:=Tryz.underlying3
 a3:=Tryz.isAgg3
 z3:=Tryz.sizeOf3
 v3:=Tryz.zeroValue3
 t4:=Tryz.underlying4
 a4:=Tryz.isAgg4
 z4:=Tryz.sizeOf4
 v4:=Tryz.zeroValue4
 t5:=Tryz.underlying5
 a5:=Tryz.isAgg5
 z5:=Tryz.sizeOf5
 v5:=Tryz.zeroValue5
 t9:=Tryz.underlying9
 a9:=Tryz.isAgg9
 z9:=Tryz.sizeOf9
 v9:=Tryz.zeroValue9
 t46:=Tryz.underlying221
 a46:=Tryz.isAgg221
 z46:=Tryz.sizeOf221
 v46:=Tryz.zeroValue221
 t51:=Tryz.underlying255
 a51:=Tryz.isAgg255
 z51:=Tryz.sizeOf255
 v51:=Tryz.zeroValue255
 t146:=Tryz.underlying266
 a146:=Tryz.isAgg266
 z146:=Tryz.sizeOf266
 v146:=Tryz.zeroValue266
 g1:=by kernel_rfl}
open Go.RowKit Go.Lib in
theorem Tryz.strings_Contains (s sub : ByteArray) (m : Int) (w : World) (hs : s.size < 4294967281) (hm : w.cell? ⟨2, 0, none⟩ = some (.int .i64 m)) :
  Calls Tryz.prog 155 #[.string s, .string sub] w fun e w' => e = .returned (.bool (Lib.contains s.data.toList sub.data.toList)) /\ w' = w := Any.strings_Contains Tryz.lays144 s sub m w hs hm
def Tryz.lays145_ren:Go.Shelf.Ren:=⟨fun|145=>129|220=>187|219=>238|217=>279|225=>280|224=>281|267=>282|266=>303|314=>304|n=>n,fun|9=>9|4=>4|59=>148|3=>3|5=>5|46=>221|146=>266|51=>255|n=>n,fun|1=>2|n=>n⟩
theorem Tryz.lays145:Go.Proofs.Lays.n145 Tryz.prog Tryz.lays145_ren:={
 mixed:=by kernel_rfl
 f145:=Tryz.func129.trans (congrArg some (by kernel_rfl))
 f217:=Tryz.func279.trans (congrArg some (by kernel_rfl))
 f219:=Tryz.func238.trans (congrArg some (by kernel_rfl))
 f220:=Tryz.func187.trans (congrArg some (by kernel_rfl))
 f224:=Tryz.func281.trans (congrArg some (by kernel_rfl))
 f225:=Tryz.func280.trans (congrArg some (by kernel_rfl))
 f266:=Tryz.func303.trans (congrArg some (by kernel_rfl))
 f267:=Tryz.func282.trans (congrArg some (by kernel_rfl))
 f314:=Tryz.func304.trans (congrArg some (by kernel_rfl))
 t3:=Tryz.underlying3
 a3:=Tryz.isAgg3
 z3:=Tryz.sizeOf3
 v3:=Tryz.zeroValue3
 t4:=Tryz.underlying4
 a4:=Tryz.isAgg4
 z4:=Tryz.sizeOf4
 v4:=Tryz.zeroValue4
 t5:=Tryz.underlying5
 a5:=Tryz.isAgg5
 z5:=Tryz.sizeOf5
 v5:=Tryz.zeroValue5
 t9:=Tryz.underlying9
 a9:=Tryz.isAgg9
 z9:=Tryz.sizeOf9
 v9:=Tryz.zeroValue9
 t46:=Tryz.underlying221
 a46:=Tryz.isAgg221
 z46:=Tryz.sizeOf221
 v46:=Tryz.zeroValue221
 t51:=Tryz.underlying255
 a51:=Tryz.isAgg255
 z51:=Tryz.sizeOf255
 v51:=Tryz.zeroValue255
 t59:=Tryz.underlying148
 a59:=Tryz.isAgg148
 z59:=Tryz.sizeOf148
 v59:=Tryz.zeroValue148
 t146:=Tryz.underlying266
 a146:=Tryz.isAgg266
 z146:=Tryz.sizeOf266
 v146:=Tryz.zeroValue266
 g1:=by kernel_rfl}
open Go.RowKit Go.Lib in
theorem Tryz.strings_Cut (s sep : ByteArray) (m : Int) (w : World) (hs : s.size < 4294967281) (hm : w.cell? ⟨2, 0, none⟩ = some (.int .i64 m)) :
  Calls Tryz.prog 129 #[.string s, .string sep] w fun e w' => e = .returned (.tuple #[.string ⟨(Lib.cut s.data.toList sep.data.toList).1.toArray⟩, .string ⟨(Lib.cut s.data.toList sep.data.toList).2.1.toArray⟩, .bool (Lib.cut s.data.toList sep.data.toList).2.2]) /\ ∃ n, w' = w.drewN n := Any.strings_Cut Tryz.lays145 s sep m w hs hm
def Tryz.lays146_ren:Go.Shelf.Ren:=⟨fun|146=>91|221=>153|268=>205|138=>206|143=>207|195=>256|197=>257|218=>258|219=>238|260=>290|217=>279|225=>280|224=>281|267=>282|266=>303|314=>304|n=>n,fun|9=>9|31=>63|3=>3|4=>4|0=>0|105=>236|21=>21|5=>5|46=>221|119=>269|139=>272|138=>271|146=>266|51=>255|n=>n,fun|1=>2|3=>4|4=>5|n=>n⟩
theorem Tryz.lays146:Go.Proofs.Lays.n146 Tryz.prog Tryz.lays146_ren:={
 mixed:=by kernel_rfl
 f138:=Tryz.func206.trans (congrArg some (by kernel_rfl))
 f143:=Tryz.func207.trans (congrArg some (by kernel_rfl))
 f146:=Tryz.func91.trans (congrArg some (by kernel_rfl))
 f195:=Tryz.func256.trans (congrArg some (by kernel_rfl))
 f197:=Tryz.func257.trans (congrArg some (by kernel_rfl))
 f217:=Tryz.func279.trans (congrArg some (by kernel_rfl))
 f218:=Tryz.func258.trans (congrArg some (by kernel_rfl))
 f219:=Tryz.func238.trans (congrArg some (by kernel_rfl))
 f221:=Tryz.func153.trans (congrArg some (by kernel_rfl))
 f224:=Tryz.func281.trans (congrArg some (by kernel_rfl))
 f225:=Tryz.func280.trans (congrArg some (by kernel_rfl))
 f260:=Tryz.func290.trans (congrArg some (by kernel_rfl))
 f266:=Tryz.func303.trans (congrArg some (by kernel_rfl))
 f267:=Tryz.func282.trans (congrArg some (by kernel_rfl))
 f268:=Tryz.func205.trans (congrArg some (by kernel_rfl))
 f314:=Tryz.func304.trans (congrArg some (by kernel_rfl))
 t0:=Tryz.underlying0
 a0:=Tryz.isAgg0
 z0:=Tryz.sizeOf0
 v0:=Tryz.zeroValue0
 t3:=Tryz.underlying3
 a3:=Tryz.isAgg3
 z3:=Tryz.sizeOf3
 v3:=Tryz.zeroValue3
 t4:=Tryz.underlying4
 a4:=Tryz.isAgg4
 z4:=Tryz.sizeOf4
 v4:=Tryz.zeroValue4
 t5:=Tryz.underlying5
 a5:=Tryz.isAgg5
 z5:=Tryz.sizeOf5
 v5:=Tryz.zeroValue5
 t9:=Tryz.underlying9
 a9:=Tryz.isAgg9
 z9:=Tryz.sizeOf9
 v9:=Tryz.zeroValue9
 t21:=Tryz.underlying21
 a21:=Tryz.isAgg21
 z21:=Tryz.sizeOf21
 v21:=Tryz.zeroValue21
 t31:=Tryz.underlying63
 a31:=Tryz.isAgg63
 z31:=Tryz.sizeOf63
 v31:=Tryz.zeroValue63
 t46:=Tryz.underlying221
 a46:=Tryz.isAgg221
 z46:=Tryz.sizeOf221
 v46:=Tryz.zeroValue221
 t51:=Tryz.underlying255
 a51:=Tryz.isAgg255
 z51:=Tryz.sizeOf255
 v51:=Tryz.zeroValue255
 t105:=Tryz.underlying236
 a105:=Tryz.isAgg236
 z105:=Tryz.sizeOf236
 v105:=Tryz.zeroValue236
 t119:=Tryz.underlying269
 a119:=Tryz.isAgg269
 z119:=Tryz.sizeOf269
 t138:=Tryz.underlying271
 a138:=Tryz.isAgg271
 z138:=Tryz.sizeOf271
 v138:=Tryz.zeroValue271
 t139:=Tryz.underlying272
 a139:=Tryz.isAgg272
 z139:=Tryz.sizeOf272
 v139:=Tryz.zeroValue272
 t146:=Tryz.underlying266
 a146:=Tryz.isAgg266
 z146:=Tryz.sizeOf266
 v146:=Tryz.zeroValue266
 g1:=by kernel_rfl
 g3:=by kernel_rfl
 g4:=by kernel_rfl}
open Go.RowKit Go.Lib in
theorem Tryz.strings_Split (s sep : ByteArray) (m : Int) (w : World) (hs : s.size < 4294967281) (hm : w.cell? ⟨2, 0, none⟩ = some (.int .i64 m)) (h1 : 1 <= sep.size) :
  Calls Tryz.prog 91 #[.string s, .string sep] w fun e w' =>
   e = .returned (.slice (some ⟨w.heap.size, 0, none⟩) (Lib.countB s sep + 1) (Lib.countB s sep + 1)) /\ w' = w.alloc (.cells ((Lib.splitB sep 0 (Lib.countB s sep) s).map Value.string).toArray 9) := Any.strings_Split Tryz.lays146 (by kernel_rfl) s sep m w hs hm h1
end
end Go.Proofs
namespace Go.Proofs.YtiijheppiboglaaGreatDoor.Ev
section
open Go Go.RowKit
def DK:Nat->List AC->List Item
 |_,[]=>[]
 |i,c::l=>.slot i (.cell c)::DK (i+1) l
def um:(l:List AC)->(i:Nat)->CC (DK i l)->List V->Prop
 |[],_,_,[]=>True
 |c::l,i,d,x::xs=>ME c (hdI (.slot i (.cell c)) (DK (i+1) l) d) x/\um l (i+1) (tlI (.slot i (.cell c)) (DK (i+1) l) d) xs
 |_,_,_,_=>False
theorem Ae9{c:AC}{d:c.den}{a:V}(hp:THp)(h:ME c d a):RV2 hp (rY c d) a:=by
 cases c with
 |int k=>exact h
 |bool=>exact h
 |str=>exact h
 |err=>exact h
 |im t=>exact h
 | «at» j=>exact h.elim
theorem jH{c:AC}{d:c.den}{a:V}(h:ME c d a):Ag a=[]:=by
 cases c with
 |int k=>have h:a=_:=h;rw[h];rfl
 |bool=>have h:a=_:=h;rw[h];rfl
 |str=>have h:a=_:=h;rw[h];rfl
 |err=>have h:a=_:=h;rw[h];rfl
 |im t=>
  rcases h with⟨_,rfl⟩|⟨rows,rfl,_⟩
  ·rfl
  ·rfl
 | «at» j=>exact h.elim
theorem jI:∀(l:List AC)(i:Nat)(d:CC (DK i l)){xs:List V},um l i d xs->(∀k,(Bq k (DK i l) d).2=[])/\(∀k hp,RT hp (Bq k (DK i l) d).1 (lk .any (Ud i xs)))/\xs.flatMap Ag=[]/\xs.length=(Gg (DK i l)).length
 |[],i,d,[],_=>⟨fun _=>rfl,fun k hp t=>trivial,rfl,rfl⟩
 |c::l,i,d,x::xs,h=>by
  obtain⟨h1,h2⟩:=h;obtain⟨k1,k2,k3,k4⟩:=jI l (i+1) _ h2;refine⟨fun k=> ?_,fun k hp=> ?_,?_,?_⟩
  ·simp only[DK,Bq];exact k1 k
  ·simp only[DK,Bq];intro t;show RV2 hp (BI ((i,j4 (.cell c) _)::_) t) (if t=i then x else lk .any (Ud (i+1) xs) t);rw[Gw];split
   ·exact Ae9 hp h1
   ·exact k2 k hp t
  ·rw[zb8,jH h1,k3];rfl
  ·simp only[DK,Gg,zb7,k4]
 |[],_,_,_::_,h=>h.elim
 |_::_,_,_,[],h=>h.elim
theorem Z3{R:Rel}{g:FuncId}{cs:List AC}{res:List Item}{heads joins:List (Nat×List Item)}{outs:List (Nat×List (Ex×List Item))}{F:CC (DK 0 cs)->Option (CC res)}
  (hE:Ch R ⟨⟨g,0,DK 0 cs,res,heads,outs,joins⟩,F⟩) {d:CC (DK 0 cs)} {y:CC res} {xs:List V} (hD:GB 0 (DK 0 cs) (JS (DK 0 cs) d)=some d) (hA:um cs 0 d xs) (hF:F d=some y):
  ∃r blks',R g xs [] r blks'/\ResRel res y r blks'/\xs.flatMap Ag=[]:=by
 obtain⟨k1,k2,k3,k4⟩:=jI cs 0 d hA;obtain⟨r,blks',q1,q2⟩:=hE d y xs [] (JS (DK 0 cs) d) hF ⟨k2 0 _,(fun id b hb=>by
  rw[show(JS (DK 0 cs) d).hp=(Bq 0 (DK 0 cs) d).2 from rfl,k1]at hb;exact absurd hb (by simp[AG])),rfl⟩ hD (by unfold Kg;rw[k3];rfl) k4 (by rw[k3];rfl) (fun _=>rfl)
 exact⟨r,blks',q1,q2,k3⟩
section
variable {P:Program} {J:Il}
theorem Nj{g:FuncId}{xs:List V}{x:Value}(hs:CSpec P J g xs [] (.v x) [])(hx:xs.flatMap Ag=[]){w W:World}(hJ:∀x∈J,w.heap[x.1]? =some x.2)(hb:Below w.heap.size w W){A:Nat->Prop}(hA:∀b,A b->b<w.heap.size){vals:List Value}
  (hv:VL (Rep w A) xs vals):Calls P g vals.toArray W fun e w'=>e=.returned x/\Below W.heap.size W w':=by
 have hno:∀E b,¬Own E (lkB []) b:=fun E b ⟨id,k,hk,_⟩=>by simp[lkB]at hk
 have hsz:=hb.size;have hI:HpInv W (Own ⟨fun _=>none,fun _ _=>False⟩ (lkB [])) A ⟨fun _=>none,fun _ _=>False⟩ A (lkB []) W:=
  ⟨Fr.refl _ W,fun b hb=>⟨by have:=hA b hb;omega,.inl hb⟩,fun b _=>hno _ b,fun b h=>absurd h (hno _ b),fun id k id' k' hk=>by simp[lkB]at hk,fun id k b hk=>by simp[lkB]at hk,fun id k hk=>by simp[lkB]at hk⟩
 refine(hs.calls (by unfold Kg;rw[hx];rfl) W A ⟨fun _=>none,fun _ _=>False⟩ vals.toArray (fun x hx=>⟨by
  have h1:=hJ x hx;rw[hb.block _ (Array.getElem?_eq_some_iff.1 h1).1];exact h1,hno _ _⟩) hI (hv.mono fun x _ y hx=>by
  have hx:=hx.same (w':=W) (G':=A) (fun b hb'=>hb.block b (hA b hb')) (fun _ h=>h);cases hx with
  |v _ hs=>exact .v _ hs
  |em a=>exact .em a
  |er0=>exact .er0
  |er1 t x=>exact .er1 t x
  |im0 a cap=>exact .im0 a cap
  |im b off cap size rows f h1 h2 h3 h4 h5 h6 h7=>exact .im b off cap size rows f h1 h2 h3 h4 h5 h6 h7)).mono ?_
 rintro e w' ⟨y,E',G',rfl,hI',hy,_⟩;have hyt:y=x:=(HK hy).1;subst hyt;exact⟨rfl,hI'.fr.os,hI'.fr.tape,hI'.fr.output,hI'.fr.size,fun b hb=>hI'.fr.block b hb (hno _ b)⟩
end
theorem Ar6{c c' c'':AC}{st:TSt}{x:CC [.slot 0 (.cell c),.slot 1 (.cell c'),.slot 2 (.cell c'')]}{a a' a'':V}(hc:c.isU=false)(hc':c'.isU=false)(hc'':c''.isU=false)(h:GB 0 [.slot 0 (.cell c),.slot 1 (.cell c'),.slot 2 (.cell c'')] st=some x)
  (hr:RV2 st.hp (BI st.tm 0) a) (hr':RV2 st.hp (BI st.tm 1) a') (hr'':RV2 st.hp (BI st.tm 2) a'') (ha:Ag a=[]) (ha':Ag a'=[]) (ha'':Ag a''=[]):
  ∃d d' d'',x=JR (.slot 0 (.cell c)) [.slot 1 (.cell c'),.slot 2 (.cell c'')] d (JR (.slot 1 (.cell c')) [.slot 2 (.cell c'')] d' (JR (.slot 2 (.cell c'')) [] d'' ()))/\ME c d a/\ME c' d' a'/\ME c'' d'' a'':=by
 unfold GB at h;split at h
 case isFalse=>cases h
 simp only[LD,C8,tmS,tnS,tnV]at h;cases h1:tnC (tmC [] c) (BI st.tm 0) st.hp (16*st.c)with
 |none=>rw[h1]at h;cases h
 |some z=>
  obtain⟨v,hp1,n⟩:=z;rw[h1]at h;simp only at h;obtain⟨rfl,h2⟩:=Wi hc h1 hr ha;split at h
  case h_2=>cases h
  rename_i st1 hle;split at hle
  case isFalse=>cases hle
  have hg:BI ((0,v)::st.tm) 1=BI st.tm 1:=rfl;rw[hg]at hle;cases h3:tnC (tmC [] c') (BI st.tm 1) st.hp (16*(st.c+1))with
  |none=>rw[h3]at hle;cases hle
  |some z=>
   obtain⟨v',hp2,n'⟩:=z;rw[h3]at hle;simp only at hle;obtain⟨rfl,h4⟩:=Wi hc' h3 hr' ha';split at hle
   case isFalse=>cases hle
   have hg2:BI ((1,v')::(0,v)::st.tm) 2=BI st.tm 2:=rfl;rw[hg2]at hle;cases h5:tnC (tmC [] c'') (BI st.tm 2) st.hp (16*(st.c+1+1))with
   |none=>rw[h5]at hle;cases hle
   |some z=>
    obtain⟨v'',hp3,n''⟩:=z;rw[h5]at hle;simp only at hle;obtain⟨rfl,h6⟩:=Wi hc'' h5 hr'' ha'';split at hle
    case isFalse=>cases hle
    cases hle;split at h
    case h_2=>cases h
    rename_i st2 hst2;unfold P9 at hst2;split at hst2
    case isFalse=>cases hst2
    split at hst2
    case h_2=>cases hst2
    rename_i o ho;split at hst2
    case isFalse=>cases hst2
    have hst2:=zv hst2;subst hst2;have g0:BI ((2,v'')::(1,v')::(0,v)::st.tm) 0=v:=rfl;have g1:BI ((2,v'')::(1,v')::(0,v)::st.tm) 1=v':=rfl;have g2:BI ((2,v'')::(1,v')::(0,v)::st.tm) 2=v'':=rfl;simp only[Gg,zb9,List.map_nil,g0,g1,g2]at h;cases e1:rdS (.cell c) (BW (DJ o) v)with
    |none=>cases hhp:FC st.hp (DJ o) 0 o<;>(rw[hhp]at h;simp[rdI,e1]at h)
    |some d=>cases e2:rdS (.cell c') (BW (DJ o) v')with
     |none=>cases hhp:FC st.hp (DJ o) 0 o<;>(rw[hhp]at h;simp[rdI,e1,e2]at h)
     |some d'=>cases e3:rdS (.cell c'') (BW (DJ o) v'')with
      |none=>cases hhp:FC st.hp (DJ o) 0 o<;>(rw[hhp]at h;simp[rdI,e1,e2,e3]at h)
      |some d''=>
       cases hhp:FC st.hp (DJ o) 0 o with
       |cons y l=>rw[hhp]at h;simp[rdI,e1,e2,e3]at h
       |nil=>
        rw[hhp]at h;simp only[rdI,e1,e2,e3,Nat.beq_refl,if_true,zx]at h;exact⟨d,d',d'',h.symm,h2 _ _ e1,h4 _ _ e2,h6 _ _ e3⟩
theorem wi{P:Program}{cf:Cfg}{ext:Rel}{g:FuncId}{c c' c'':AC}{res:List Item}{F:CC [.slot 0 (.cell c),.slot 1 (.cell c'),.slot 2 (.cell c'')]->Option (CC res)}(hc:c.isU=false)(hc':c'.isU=false)(hc'':c''.isU=false)
  (h:∀d d' d'' y a a' a'',ME c d a->ME c' d' a'->ME c'' d'' a''->F (JR (.slot 0 (.cell c)) [.slot 1 (.cell c'),.slot 2 (.cell c'')] d (JR (.slot 1 (.cell c')) [.slot 2 (.cell c'')] d' (JR (.slot 2 (.cell c'')) [] d'' ())))=some y->
   ∃r blks',ext g [a,a',a''] [] r blks'/\ResRel res y r blks'):
  Ch (EX P cf ext) ⟨⟨g,0,[.slot 0 (.cell c),.slot 1 (.cell c'),.slot 2 (.cell c'')],res,[],[],[]⟩,F⟩:=by
 intro x y args blks st hF hs hd hid hlen href hb0
 match args,hlen with
 |[a,a',a''],_=>
  have hb:blks=[]:=hb0 rfl;subst hb;have hn:=V6 href;have h0:RV2 st.hp (BI st.tm 0) a:=hs.tm 0;have h1:RV2 st.hp (BI st.tm 1) a':=hs.tm 1;have h2:RV2 st.hp (BI st.tm 2) a'':=hs.tm 2;obtain⟨d,d',d'',rfl,hA,hA',hA''⟩:=Ar6 hc hc' hc'' hd h0 h1 h2 (hn a (by simp)) (hn a' (by simp)) (hn a'' (by simp));obtain⟨r,blks',h1,h2⟩:=h d d' d'' y a a' a'' hA hA' hA'' hF;exact⟨r,blks',EX.ext h1,h2⟩
def iv(n:Int):V:=.v (.int .i64 n)
def MQ:V:=.tup [.v (.string ⟨#[]⟩),.v (.bool false)]
abbrev CS(P:Program)(K:Il->Prop)(g:FuncId)(xs:List V)(x:Value):Prop:=∀J,K J->CSpec P J g xs [] (.v x) []
def og(P:Program)(K:Il->Prop)(g gw ga gh:FuncId):Rel:=fun g' args blks r blks'=>g'=g/\blks=[]/\blks'=[]/\∃(a b:Int)(l:List Int)(x:V),ME (.im (.int .i64)) l x/\args=[iv a,iv b,x]/\
 ∃c1,CS P K gw [iv a,iv 1,iv 10] (.bool c1)/\(c1=false/\r=MQ\/c1=true/\∃c2,CS P K gw [iv b,iv 1,iv 10] (.bool c2)/\(c2=false/\r=MQ\/c2=true/\
  (¬(l.length:Int)=zi zj (a*b)/\r=MQ\/(l.length:Int)=zi zj (a*b)/\∃c3,CS P K ga [x] (.bool c3)/\(c3=false/\r=MQ\/c3=true/\
   ∃s:Str,CS P K gh [iv a,iv b] (.string ⟨s.toArray⟩)/\s.length<=1000000/\l.length<=1000000/\r=.tup [.v (.string ⟨(s++BK (l.map (zi .u8))).toArray⟩),.v (.bool true)]))))
def tg (fw:Int->Int->Int->Option Bool) (fa:List Int->Option Bool) (fh:Int->Int->Option (List UInt8)) (a b:Int) (l:List Int):Option (List UInt8×Bool):=
 (fw a 1 10).bind fun c1=>bif !c1 then some ([],false)else(fw b 1 10).bind fun c2=>bif !c2 then some ([],false)else if ¬(l.length:Int)=zi zj (a*b)then some ([],false)else
 (fa l).bind fun c3=>bif !c3 then some ([],false)else(fh a b).bind fun s=>if s.length<=1000000/\l.length<=1000000 then some (s++BK (l.map (zi .u8)),true)else none
theorem oe{fw:Int->Int->Int->Option Bool}{fa:List Int->Option Bool}{fh:Int->Int->Option (List UInt8)}{a b:Int}{l:List Int}{y:List UInt8×Bool}(hF:tg fw fa fh a b l=some y):
  fw a 1 10=some false/\y=([],false)\/fw a 1 10=some true/\(fw b 1 10=some false/\y=([],false)\/fw b 1 10=some true/\(¬(l.length:Int)=zi zj (a*b)/\y=([],false)\/(l.length:Int)=zi zj (a*b)/\
   (fa l=some false/\y=([],false)\/fa l=some true/\∃s,fh a b=some s/\s.length<=1000000/\l.length<=1000000/\y=(s++BK (l.map (zi .u8)),true)))):=by
 unfold tg at hF;cases e1:fw a 1 10 with
 |none=>rw[e1]at hF;cases hF
 |some c1=>
  rw[e1]at hF;cases c1 with
  |false=>exact .inl ⟨rfl,(zv hF).symm⟩
  |true=>
   refine .inr ⟨rfl,?_⟩;simp only[za0,zf5,cond_false]at hF;cases e2:fw b 1 10 with
   |none=>rw[e2]at hF;cases hF
   |some c2=>
    rw[e2]at hF;cases c2 with
    |false=>exact .inl ⟨rfl,(zv hF).symm⟩
    |true=>
     refine .inr ⟨rfl,?_⟩;simp only[za0,zf5,cond_false]at hF;by_cases hl:(l.length:Int)=zi zj (a*b)
     ·rw[zw (fun h=>h hl)]at hF;refine .inr ⟨hl,?_⟩;cases e3:fa l with
      |none=>rw[e3]at hF;cases hF
      |some c3=>
       rw[e3]at hF;cases c3 with
       |false=>exact .inl ⟨rfl,(zv hF).symm⟩
       |true=>
        simp only[za0,zf5,cond_false]at hF;cases e4:fh a b with
        |none=>rw[e4]at hF;cases hF
        |some s=>
         rw[e4]at hF;simp only[za0]at hF;by_cases hs:s.length<=1000000/\l.length<=1000000
         ·rw[zr hs]at hF;exact .inr ⟨rfl,s,rfl,hs.1,hs.2,(zv hF).symm⟩
         ·rw[zw hs]at hF;cases hF
     ·rw[zr hl]at hF;exact .inl ⟨hl,(zv hF).symm⟩
abbrev rB:List Item:=[.slot 0 (.cell .bool)]
abbrev rS:List Item:=[.slot 0 (.cell .str)]
section
variable {P:Program} {K:Il->Prop} {cf:Cfg} {ext:Rel} {g gw ga gh:FuncId} {hw ha hh jw ja jh:List (Nat×List Item)} {ow oa oh:List (Nat×List (Ex×List Item))}
theorem uY(hm:P.follows .mixedOrders=true)(hext:∀J,K J->∀g args blks r blks',ext g args blks r blks'->CSpec P J g args blks r blks'){g:FuncId}{xs:List V}{x:Value}(h:EX P cf ext g xs [] (.v x) []):CS P K g xs x:=fun J hJ=>by
 obtain⟨k,h⟩:=h;exact Nx hm (hext J hJ) k _ _ _ _ _ h
theorem zm(fw:Int->Int->Int->Option Bool)(fa:List Int->Option Bool)(fh:Int->Int->Option (List UInt8))(hm:P.follows .mixedOrders=true)(hext:∀J,K J->∀g args blks r blks',ext g args blks r blks'->CSpec P J g args blks r blks')
  (Ew:Ch (EX P cf ext) ⟨⟨gw,0,DK 0 [.int .i64,.int .i64,.int .i64],rB,hw,ow,jw⟩,fun(x:Int×Int×Int)=>fw x.1 x.2.1 x.2.2⟩)
  (Ea:Ch (EX P cf ext) ⟨⟨ga,0,DK 0 [.im (.int .i64)],rB,ha,oa,ja⟩,fun(x:List Int)=>fa x⟩)
  (Eh:Ch (EX P cf ext) ⟨⟨gh,0,DK 0 [.int .i64,.int .i64],rS,hh,oh,jh⟩,fun(x:Int×Int)=>fh x.1 x.2⟩)
  (hx:∀g' args blks r blks',og P K g gw ga gh g' args blks r blks'->ext g' args blks r blks'):
  Ch (EX P cf ext) ⟨⟨g,0,[.slot 0 (.cell (.int .i64)),.slot 1 (.cell (.int .i64)),.slot 2 (.cell (.im (.int .i64)))],[.slot 0 (.cell .str),.slot 1 (.cell .bool)],[],[],[]⟩,fun(x:Int×Int×List Int)=>tg fw fa fh x.1 x.2.1 x.2.2⟩:=by
 have cw:∀(a:Int){c:Bool},fw a 1 10=some c->CS P K gw [iv a,iv 1,iv 10] (.bool c):=fun a c h=>by
  obtain⟨r,blks',q1,q2,_⟩:=Z3 (cs:=[.int .i64,.int .i64,.int .i64]) Ew (d:=((a,1,10):Int×Int×Int)) (y:=c) (xs:=[iv a,iv 1,iv 10]) (by rfl) ⟨rfl,rfl,rfl,trivial⟩ h;have hr:r=.v (.bool c):=q2.val;have hb:blks'=[]:=zb2 q2.len;subst hr;subst hb;exact uY hm hext q1
 have ca:∀{l:List Int}{x:V}{c:Bool},ME (.im (.int .i64)) l x->fa l=some c->CS P K ga [x] (.bool c):=fun {l x c} hA h=>by
  obtain⟨r,blks',q1,q2,_⟩:=Z3 (cs:=[.im (.int .i64)]) Ea (d:=l) (y:=c) (xs:=[x]) (by rfl) ⟨hA,trivial⟩ h;have hr:r=.v (.bool c):=q2.val;have hb:blks'=[]:=zb2 q2.len;subst hr;subst hb;exact uY hm hext q1
 have ch:∀(a b:Int){s:Str},fh a b=some s->CS P K gh [iv a,iv b] (.string ⟨s.toArray⟩):=fun a b s h=>by
  obtain⟨r,blks',q1,q2,_⟩:=Z3 (cs:=[.int .i64,.int .i64]) Eh (d:=((a,b):Int×Int)) (y:=s) (xs:=[iv a,iv b]) (by rfl) ⟨rfl,rfl,trivial⟩ h;have hr:r=.v (.string ⟨s.toArray⟩):=q2.val;have hb:blks'=[]:=zb2 q2.len;subst hr;subst hb;exact uY hm hext q1
 refine wi rfl rfl rfl fun a b l y x x' x'' h h' h'' hF=> ?_
 have e:x=iv a:=h;have e':x'=iv b:=h';subst e;subst e';have hF:tg fw fa fh a b l=some y:=hF;have bad:∀{y:List UInt8×Bool},([],false)=y->ResRel [.slot 0 (.cell .str),.slot 1 (.cell .bool)] y MQ []:=by
  rintro _ rfl;exact⟨⟨_,rfl,rfl,rfl,trivial⟩,fun id b hb=>by simp[Bq,AG]at hb,rfl⟩
 rcases oe hF with⟨e1,hy⟩|⟨e1,⟨e2,hy⟩|⟨e2,⟨hl,hy⟩|⟨hl,⟨e3,hy⟩|⟨e3,s,e4,hs,hn,hy⟩⟩⟩⟩
 ·exact⟨MQ,[],hx _ _ _ _ _ ⟨rfl,rfl,rfl,a,b,l,x'',h'',rfl,false,cw a e1,.inl ⟨rfl,rfl⟩⟩,bad hy.symm⟩
 ·exact⟨MQ,[],hx _ _ _ _ _ ⟨rfl,rfl,rfl,a,b,l,x'',h'',rfl,true,cw a e1,.inr ⟨rfl,false,cw b e2,.inl ⟨rfl,rfl⟩⟩⟩,bad hy.symm⟩
 ·exact⟨MQ,[],hx _ _ _ _ _ ⟨rfl,rfl,rfl,a,b,l,x'',h'',rfl,true,cw a e1,.inr ⟨rfl,true,cw b e2,.inr ⟨rfl,.inl ⟨hl,rfl⟩⟩⟩⟩,bad hy.symm⟩
 ·exact⟨MQ,[],hx _ _ _ _ _ ⟨rfl,rfl,rfl,a,b,l,x'',h'',rfl,true,cw a e1,.inr ⟨rfl,true,cw b e2,.inr ⟨rfl,.inr ⟨hl,false,ca h'' e3,.inl ⟨rfl,rfl⟩⟩⟩⟩⟩,bad hy.symm⟩
 ·have hy:y=(s++BK (List.map (zi .u8) l),true):=hy;subst hy;exact⟨_,[],hx _ _ _ _ _ ⟨rfl,rfl,rfl,a,b,l,x'',h'',rfl,true,cw a e1,.inr ⟨rfl,true,cw b e2,.inr ⟨rfl,.inr ⟨hl,true,ca h'' e3,.inr ⟨rfl,s,ch a b e4,hs,hn,rfl⟩⟩⟩⟩⟩,⟨_,rfl,rfl,rfl,trivial⟩,fun id b hb=>by simp[Bq,AG]at hb,rfl⟩
end
end
section
open Go Go.RowKit
theorem pl:(Tryz.prog.info? 166).map (·.size)=some 2:=by kernel_rfl
theorem po:(Tryz.prog.info? 5).map (fun i=>(i.zero,i.size,i.bytes))=some (some (.int .u8 0),1,1):=by kernel_rfl
set_option maxHeartbeats 1000000 in
set_option maxRecDepth 100000 in
theorem yw (b : Nat) (w : World) (h0 : w.cell? ⟨b, 0, none⟩ = some (.pointer (some ⟨b, 0, none⟩))) : Calls Tryz.prog 201 #[.pointer (some ⟨b, 0, none⟩)] w fun e w' => e = .returned (.tuple #[]) /\ w' = w := by
 obtain ⟨j, hj, _⟩ := zb6.1 pl
 go_enter Tryz.func201, Tryz.ntmps201
 go_wp2
 rw [Lib.run_neq_ptr_same w _ Tryz.underlying164 hj]
 go_wp2
 go_end0
 exact ⟨rfl, rfl⟩
set_option maxHeartbeats 1000000 in
set_option maxRecDepth 100000 in
theorem uL (b : Nat) (w : World) (h0 : w.cell? ⟨b, 0, none⟩ = some (.pointer none)) (hsh : w.shape? b = some (166, 2)) (hfz : w.frozen? ⟨b, 0, none⟩ = false) :
  Calls Tryz.prog 201 #[.pointer (some ⟨b, 0, none⟩)] w fun e w' => e = .returned (.tuple #[]) /\ w' = w.setCell ⟨b, 0, none⟩ (.pointer (some ⟨b, 0, none⟩)) := by
 obtain ⟨j, hj, hjs⟩ := zb6.1 pl
 go_enter Tryz.func201, Tryz.ntmps201
 go_wp2
 rw [Lib.run_to_unsafe w ⟨b, 0, none⟩ Tryz.underlying164 Tryz.underlying232 hj (by rw [hjs]; decide) hsh (Nat.zero_lt_succ 1)];simp only [Result.andThen];rw [Oper.upon_value]
 go_wp2
 rw [run_callFunc_extern Tryz.func253 (by kernel_rfl) (by kernel_rfl) (by kernel_rfl) (e := Extern.AbiNoEscape.same) (by kernel_rfl)];rw [Lib.run_noEscape];simp only [Result.andThen];rw [Oper.upon_value]
 go_wp2
 rw [Lib.run_from_unsafe w ⟨b, 0, none⟩ Tryz.underlying232 Tryz.underlying164 hj hsh (by kernel_rfl)];simp only [Result.andThen];rw [Oper.upon_value]
 go_wp2
 go_end0
 exact ⟨rfl, rfl⟩
theorem uK(B b:Nat)(bs:List Value)(w:World)(h:Lib.IsBuilder 166 5 B b bs w):
  Calls Tryz.prog 201 #[.pointer (some ⟨b,0,none⟩)] w fun e w'=>e=.returned (.tuple #[])/\(Lib.BuilderAt 166 5 B b (.pointer (some ⟨b,0,none⟩)) bs w'/\Below B w w'):=by
 rcases h with h|h
 ·refine(uL b w h.cell0 h.shape h.frozen0).mono ?_;rintro e w' ⟨rfl,rfl⟩;exact⟨rfl,h.used _,(Below.refl B w).setCell (p:=⟨b,0,none⟩) h.1 _⟩
 ·refine(yw b w h.cell0).mono ?_;rintro e w' ⟨rfl,rfl⟩;exact⟨rfl,h,Below.refl B _⟩
set_option maxRecDepth 100000 in
theorem Aa5 (B b : Nat) (bs : List Value) (c : Int) (w : World) (h : Lib.IsBuilder 166 5 B b bs w) (hlen : bs.length + 1 <= 140737488355328) (hBw : B <= w.heap.size) :
  Calls Tryz.prog 185 #[.pointer (some ⟨b, 0, none⟩), .int .u8 c] w fun e w' => e = .returned .nilIface /\ (Lib.BuilderAt 166 5 B b (.pointer (some ⟨b, 0, none⟩)) (bs ++ [.int .u8 c]) w' /\ Below B w w') := by
 obtain ⟨i0, hi, hz0, hz1, hz2⟩ := info_parts po
 go_enter Tryz.func185, Tryz.ntmps185
 go_wp2_with (go_at_call 201; refine (uK B b bs _ h).mono ?_)
 rintro e w1 ⟨rfl, h1, hb1⟩;obtain ⟨hB, v, hbk, hown, hne⟩ := h1;have c0 : w1.cell? ⟨b, 0, none⟩ = some (.pointer (some ⟨b, 0, none⟩)) := by rw [Lib.cell_of_heap hbk]; rfl
 have c1 : w1.cell? ⟨b, 1, none⟩ = some v := by rw [Lib.cell_of_heap hbk]; rfl
 go_wp2_with (at_builtin; refine wpList_append_own _ rfl _ _ 32 rfl B 5 i0 (.int .u8 0) 1 1 Tryz.underlying32 hi hz0 hz1 hz2 rfl (by decide) _ _ _ rfl (hown.alloc _) ⟨w1.heap.size, 0, none⟩ 1 1 [.int .u8 c] rfl rfl ?c1 ?c2 ?c3 ?c4 ?c5 ?_)
 case c1 =>
  intro j u hj
  match j, hj with
  | 0, hj => simp at hj; subst hj; simp [Addr.add]
 case c2 => intro u hu; simp at hu; subst hu; rfl
 case c3 => unfold maxLen; omega
 case c4 => omega
 case c5 => have := hb1.size; simp; omega
 intro v' w2 hown' hgrow _;have hlt : b < w1.heap.size := by
  rcases zd8 b w1.heap.size with h' | h'
  ·exact h'
  ·simp [Array.getElem?_eq_none h'] at hbk
 have hb2 : w2.heap[b]? = some (.cells #[.pointer (some ⟨b, 0, none⟩), v] 166 (0, 0)) := by
  rw [hgrow.block b (by simp; omega) (fun e => hne e.symm), Lib.alloc_old w1 _ b hlt];exact hbk
 have d0 : w2.cell? ⟨b, 0, none⟩ = some (.pointer (some ⟨b, 0, none⟩)) := by rw [Lib.cell_of_heap hb2]; rfl
 have d1 : w2.cell? ⟨b, 1, none⟩ = some v := by rw [Lib.cell_of_heap hb2]; rfl
 have f1 : w2.frozen? ⟨b, 1, none⟩ = false := Lib.frozen_of_heap hb2 1;obtain ⟨g, cap, rfl⟩ : ∃ g cap, v' = .slice (some ⟨g, 0, none⟩) (bs.length + 1) cap := by
  rcases hown'.2 with ⟨_, h0⟩ | ⟨g, cap, cur, hv, _⟩
  ·omega
  ·exact ⟨g, cap, hv⟩
 go_wp2
 go_ret
 refine ⟨rfl, ?_, ?_⟩
 ·exact Lib.BuilderAt.put (T := 166) (e := 5) hB hb2 (bs' := bs ++ [.int .u8 c]) (by simpa using hown') (by decide)
 ·exact ((hb1.alloc (by have := hb1.size; omega) _).grown hgrow (by have := hb1.size; simp; omega) (fun k hk => (hown.lt k hk).1)).setCell (p := ⟨b, 1, none⟩) hB _
set_option maxRecDepth 100000 in
theorem Al0 (B b : Nat) (bs : List Value) (s : ByteArray) (w : World) (h : Lib.IsBuilder 166 5 B b bs w) (hlen : bs.length + s.size <= 140737488355328) (hBw : B <= w.heap.size) :
  Calls Tryz.prog 148 #[.pointer (some ⟨b, 0, none⟩), .string s] w fun e w' => e = .returned (.tuple #[.int .i64 s.size, .nilIface]) /\ (Lib.BuilderAt 166 5 B b (.pointer (some ⟨b, 0, none⟩)) (bs ++ Lib.strCells s) w' /\ Below B w w') := by
 obtain ⟨i0, hi, hz0, hz1, hz2⟩ := info_parts po
 go_enter Tryz.func148, Tryz.ntmps148
 go_wp2_with (go_at_call 201; refine (uK B b bs _ h).mono ?_)
 rintro e w1 ⟨rfl, h1, hb1⟩;obtain ⟨hB, v, hbk, hown, hne⟩ := h1;have c0 : w1.cell? ⟨b, 0, none⟩ = some (.pointer (some ⟨b, 0, none⟩)) := by rw [Lib.cell_of_heap hbk]; rfl
 have c1 : w1.cell? ⟨b, 1, none⟩ = some v := by rw [Lib.cell_of_heap hbk]; rfl
 go_wp2_with (at_builtin; refine Lib.wpList_append_own_string _ rfl _ _ 32 9 rfl B 5 i0 Tryz.underlying32 Tryz.underlying9 hi hz0 hz1 hz2 _ _ _ rfl hown s rfl ?c3 ?c4 ?c5 ?_)
 case c3 => unfold maxLen; omega
 case c4 => omega
 case c5 => have := hb1.size; omega
 intro v' w2 hown' hgrow _;have hlt : b < w1.heap.size := by
  rcases zd8 b w1.heap.size with h' | h'
  ·exact h'
  ·simp [Array.getElem?_eq_none h'] at hbk
 have hb2 : w2.heap[b]? = some (.cells #[.pointer (some ⟨b, 0, none⟩), v] 166 (0, 0)) := by
  rw [hgrow.block b hlt (fun e => hne e.symm)];exact hbk
 have d0 : w2.cell? ⟨b, 0, none⟩ = some (.pointer (some ⟨b, 0, none⟩)) := by rw [Lib.cell_of_heap hb2]; rfl
 have d1 : w2.cell? ⟨b, 1, none⟩ = some v := by rw [Lib.cell_of_heap hb2]; rfl
 have f1 : w2.frozen? ⟨b, 1, none⟩ = false := Lib.frozen_of_heap hb2 1;obtain ⟨ao, n', cap, rfl⟩ : ∃ ao n' cap, v' = .slice ao n' cap := by
  rcases hown'.2 with ⟨hv, _⟩ | ⟨g, cap, cur, hv, _⟩
  ·exact ⟨_, _, _, hv⟩
  ·exact ⟨_, _, _, hv⟩
 go_wp2
 go_ret2
 refine ⟨rfl, ?_, ?_⟩
 ·exact Lib.BuilderAt.put (T := 166) (e := 5) hB hb2 (bs' := bs ++ Lib.strCells s) (by simpa [Lib.strCells_length] using hown') (by decide)
 ·exact (hb1.grown hgrow (by have := hb1.size; omega) (fun k hk => (hown.lt k hk).1)).setCell (p := ⟨b, 1, none⟩) hB _
theorem th(z:List Int):Lib.byteCells (BK (z.map (zi .u8)))=z.map fun n=>Value.int .u8 (zi .u8 n):=by
 simp only[Lib.byteCells,BK,List.map_map];apply List.map_congr_left;intro n _;have h0:0<=zi .u8 n/\zi .u8 n<256:=by
  rw[show zi .u8 n=n%256 by simp[zi,IntKind.signed,IntKind.bits]];omega
 obtain⟨k,hk⟩:∃k:Nat,zi .u8 n=k:=⟨(zi .u8 n).toNat,by omega⟩;simp only[Function.comp_apply,hk,zc2];have:k<256:=by omega
 simp[Nat.mod_eq_of_lt this]
theorem fQ(n:Int):zi zj n=wrap64 n:=by rw[IntKind.wrap_i64,wrap64]
theorem uc{l:List Int}{k:Nat}{z:Int}(h:l[k]? =some z):l.take (k+1)=l.take k++[z]:=by
 rw[ze7,h];rfl
set_option maxHeartbeats 4000000 in
set_option maxRecDepth 1000000 in
theorem wM {w : World} {a b : Int} {ad : Option Addr} {cap : Nat} {l : List Int} {s : Str} (hl : (l.length : Int) = zi zj (a * b)) (hs : s.length <= 1000000) (hn : l.length <= 1000000)
  (hc : ∀ (i : Nat) z, l[i]? = some z -> ∃ bk off, ad = some ⟨bk, off, none⟩ /\ bk < w.heap.size /\ l.length <= cap /\ w.cell? ⟨bk, off + i, none⟩ = some (.int .i64 z))
  (q1 : ∀ W, Below w.heap.size w W -> Calls Tryz.prog 85 #[.int .i64 a, .int .i64 1, .int .i64 10] W fun e w' => e = .returned (.bool true) /\ Below W.heap.size W w')
  (q2 : ∀ W, Below w.heap.size w W -> Calls Tryz.prog 85 #[.int .i64 b, .int .i64 1, .int .i64 10] W fun e w' => e = .returned (.bool true) /\ Below W.heap.size W w')
  (q3 : ∀ W, Below w.heap.size w W -> Calls Tryz.prog 123 #[.slice ad l.length cap] W fun e w' => e = .returned (.bool true) /\ Below W.heap.size W w')
  (q4 : ∀ W, Below w.heap.size w W -> Calls Tryz.prog 128 #[.int .i64 a, .int .i64 b] W fun e w' => e = .returned (.string ⟨s.toArray⟩) /\ Below W.heap.size W w') :
  Calls Tryz.prog 126 #[.int .i64 a, .int .i64 b, .slice ad l.length cap] w fun e w' => e = .returned (.tuple #[.string ⟨(s ++ BK (l.map (zi .u8))).toArray⟩, .bool true]) /\ Below w.heap.size w w' := by
 have hl2 : wrap64 (a * b) = (l.length : Int) := by rw [hl, fQ]
 clear hl
 go_enter Tryz.func126, Tryz.ntmps126
 go_wp2_with (go_at_call 85; refine (q1 w (Below.refl _ _)).mono ?_)
 rintro e w1 ⟨rfl, b1⟩
 go_wp2_with (go_at_call 85; refine (q2 w1 b1).mono ?_)
 rintro e w2 ⟨rfl, b2⟩;replace b2 := b1.trans (b2.mono b1.size)
 go_wp2_with (go_at_call 123; refine (q3 w2 b2).mono ?_)
 rintro e w3 ⟨rfl, b3⟩;replace b3 := b2.trans (b3.mono b2.size)
 go_wp2_with (go_at_call 128; refine (q4 _ ?hb3).mono ?_)
 case hb3 => exact b3.alloc b3.size _
 rintro e w4 ⟨rfl, b4⟩;have hsz3 := b3.size;have hsz4 := b4.size;have hal : (w3.alloc (.cells #[.pointer none, .slice none 0 0] 166)).heap.size = w3.heap.size + 1 := by simp
 have hI4 : Lib.IsBuilder 166 5 w.heap.size w3.heap.size [] w4 := Or.inl ⟨hsz3, .slice none 0 0, by
  rw [b4.block _ (by rw [hal]; omega)];exact heap_alloc_new w3 _, World.ownsRow_nil _ _ _ _, by simp [Value.ownBlock]⟩
 have b4' : Below w.heap.size w w4 := (b3.alloc b3.size _).trans (b4.mono (by rw [hal]; omega))
 go_wp2_with (go_at_call 148; refine (Al0 w.heap.size w3.heap.size [] ⟨s.toArray⟩ _ hI4 ?hlen (by omega)).mono ?_)
 case hlen => simp [ByteArray.size]; omega
 rintro e w5 ⟨rfl, h5, b5⟩;replace b5 := b4'.trans b5;clear q1 q2 q3 q4
 go_wp2
 go_loopw [38] (fun i wr => ∃ k : Nat, k <= l.length /\ i = .int .i64 k /\ Lib.IsBuilder 166 5 w.heap.size w3.heap.size (Lib.byteCells (s ++ BK ((l.take k).map (zi .u8)))) wr /\ Below w.heap.size w wr) (fun i wr => l.length - (intOf i).toNat)
 case atStart =>
  refine ⟨0, by omega, rfl, ?_, b5⟩;have : Lib.byteCells (s ++ BK ((l.take 0).map (zi .u8))) = [] ++ Lib.strCells ⟨s.toArray⟩ := by simp [BK, Lib.strCells_eq]
  rw [this];exact Or.inr h5
 case round =>
  obtain ⟨k, hk, rfl, hI, hb⟩ := hrel;have hbs := hb.size;have hln : (Lib.byteCells (s ++ BK ((l.take k).map (zi .u8)))).length = s.length + k := by rw [Lib.byteCells_length]; simp [BK]; omega
  by_cases hlt : k < l.length
  ·obtain ⟨z, hz⟩ : ∃ z, l[k]? = some z := ⟨l[k], za1 hlt⟩;obtain ⟨bk, off, rfl, hbk, hcap, hcell⟩ := hc k z hz;have hcell : wr.cell? ⟨bk, off + k, none⟩ = some (.int .i64 z) := by rw [hb.cell (p := ⟨bk, off + k, none⟩) hbk]; exact hcell
   clear hc
   go_wp2_with (go_at_call 185; refine (Aa5 w.heap.size w3.heap.size _ (zi .u8 z) _ hI (by rw [hln]; omega) hbs).mono ?_)
   rintro e w6 ⟨rfl, h6, b6⟩
   go_wp2
   go_roundw
   case rel =>
    refine ⟨k + 1, by omega, by go_num, ?_, hb.trans b6⟩;rw [uc hz, List.map_append, BK, List.map_append, <- ze6, Lib.byteCells_append];have h1 := th [z];simp only [zb9, List.map_nil, BK] at h1;simp only [zb9, List.map_nil];rw [h1];exact Or.inr h6
   case measure => simp [intOf]; omega
  ·have hkl : k = l.length := by omega
   subst hkl;rw [List.take_length] at hI;clear hc
   go_wp2_with (go_at_call 149; refine (Tryz.Builder_String_any w.heap.size w3.heap.size _ _ hI hbs).mono ?_)
   rintro e w6 ⟨rfl, b6⟩
   go_wp2
   go_ret2
   exact ⟨rfl, hb.trans b6⟩
set_option maxHeartbeats 4000000 in
set_option maxRecDepth 1000000 in
theorem zl {w : World} {a b : Int} {ad : Option Addr} {cap : Nat} {n : Nat} {c1 c2 c3 : Bool} (hc : c1 = false \/ c2 = false \/ ¬ (n : Int) = zi zj (a * b) \/ c3 = false)
  (q1 : ∀ W, Below w.heap.size w W -> Calls Tryz.prog 85 #[.int .i64 a, .int .i64 1, .int .i64 10] W fun e w' => e = .returned (.bool c1) /\ Below W.heap.size W w')
  (q2 : c1 = true -> ∀ W, Below w.heap.size w W -> Calls Tryz.prog 85 #[.int .i64 b, .int .i64 1, .int .i64 10] W fun e w' => e = .returned (.bool c2) /\ Below W.heap.size W w')
  (q3 : c1 = true -> c2 = true -> (n : Int) = zi zj (a * b) -> ∀ W, Below w.heap.size w W -> Calls Tryz.prog 123 #[.slice ad n cap] W fun e w' => e = .returned (.bool c3) /\ Below W.heap.size W w') :
  Calls Tryz.prog 126 #[.int .i64 a, .int .i64 b, .slice ad n cap] w fun e w' => e = .returned (.tuple #[.string ⟨#[]⟩, .bool false]) /\ Below w.heap.size w w' := by
 have hw : zi zj (a * b) = wrap64 (a * b) := fQ _;rw [hw] at hc q3;clear hw
 go_enter Tryz.func126, Tryz.ntmps126
 go_wp2_with (go_at_call 85; refine (q1 w (Below.refl _ _)).mono ?_)
 rintro e w1 ⟨rfl, b1⟩;cases c1 with
 | false =>
  clear hc q1 q2 q3
  go_wp2
  go_ret2
  exact ⟨rfl, b1⟩
 | true =>
  replace q2 := q2 rfl;replace q3 := q3 rfl
  go_wp2_with (go_at_call 85; refine (q2 w1 b1).mono ?_)
  rintro e w2 ⟨rfl, b2⟩;replace b2 := b1.trans (b2.mono b1.size);cases c2 with
  | false =>
   clear hc q1 q2 q3
   go_wp2
   go_ret2
   exact ⟨rfl, b2⟩
  | true =>
   replace q3 := q3 rfl;by_cases hl : (n : Int) = wrap64 (a * b)
   ·have h3 : c3 = false := by simpa [hl] using hc
    subst h3;replace q3 := q3 hl;have hl2 : wrap64 (a * b) = (n : Int) := hl.symm;clear hl hc
    go_wp2_with (go_at_call 123; refine (q3 w2 b2).mono ?_)
    rintro e w3 ⟨rfl, b3⟩;replace b3 := b2.trans (b3.mono b2.size);clear q1 q2 q3
    go_wp2
    go_ret2
    exact ⟨rfl, b3⟩
   ·clear hc q1 q2 q3
    go_wp2
    go_ret2
    exact ⟨rfl, b2⟩
theorem zh{w:World}{A:Nat->Prop}{l:List Int}{x:V}{y:Value}(hx:ME (.im (.int .i64)) l x)(hy:Rep w A x y)(hA:∀b,A b->b<w.heap.size):
  ∃ad cap,y=.slice ad l.length cap/\∀(i:Nat) z,l[i]? =some z->∃bk off,ad=some ⟨bk,off,none⟩/\bk<w.heap.size/\l.length<=cap/\w.cell? ⟨bk,off+i,none⟩=some (.int .i64 z):=by
 rcases hx with⟨rfl,rfl⟩|⟨rows,rfl,hrows⟩
 ·cases hy with
  |em a=>exact⟨a,0,rfl,fun i z h=>by simp at h⟩
 ·cases hy with
  |im0 a cap=>
   have h0:l=[]:=zb2 (by have:=hrows.1;simpa using this.symm);subst h0;exact⟨a,cap,rfl,fun i z h=>by simp at h⟩
  |im b off cap size rows f hb hs hcap hcm hrl hcell hrep=>
   have hll:l.length=rows.length:=by have:=hrows.1;first|exact this|exact this.symm
   refine⟨some ⟨b,off,none⟩,cap,by rw[hll],fun i z hi=> ?_⟩;obtain⟨row,h1,h2⟩:=hrows.get hi;have h2:row=[V.v (.int .i64 z)]:=h2;subst h2;have hs1:size=1:=by have:=hrl i _ h1;simpa using this.symm
   subst hs1;have h3:=hcell i 0 _ _ h1 rfl;have h4:=hrep i 0 _ _ h1 rfl;rw[Nat.mul_one,Nat.add_zero]at h3;refine⟨b,off,rfl,hA b hb,by omega,?_⟩;rw[h3];generalize f i 0=u at h4;cases h4;rfl
theorem wL{K:Il->Prop}{J:Il}(hent:Pd Tryz.prog 126)(hJ:K J):∀g' args blks r blks',og Tryz.prog K 126 85 123 128 g' args blks r blks'->CSpec Tryz.prog J g' args blks r blks':=by
 rintro g' args blks r blks' ⟨rfl,rfl,rfl,a,b,l,x,hx,rfl,c1,h1,hr⟩;refine Ga hent fun w A E vals hT hA hvl=> ?_
 obtain⟨y,rfl,hy⟩:∃y,vals=[.int .i64 a,.int .i64 b,y]/\Rep w A x y:=by
  match vals,hvl with
  |[y1,y2,y3],h=>
   have k1:Rep w A (.v (.int .i64 a)) y1:=h.1;have k2:Rep w A (.v (.int .i64 b)) y2:=h.2.1;have k3:Rep w A x y3:=by
    have k:=h.2.2.1;rcases hx with⟨_,rfl⟩|⟨rows,rfl,_⟩
    ·exact k
    ·exact k
   cases k1;cases k2;exact⟨y3,rfl,k3⟩
  |[],h=>exact h.elim
  |[_],h=>exact h.2.elim
  |[_,_],h=>exact h.2.2.elim
  |_::_::_::_::_,h=>exact h.2.2.2.elim
 obtain⟨ad,cap,rfl,hcell⟩:=zh hx hy hA;have hxr:([x]:List V).flatMap Ag=[]:=by rw[zb8,jH hx];rfl
 have q1:∀W,Below w.heap.size w W->Calls Tryz.prog 85 #[.int .i64 a,.int .i64 1,.int .i64 10] W fun e w'=>e=.returned (.bool c1)/\Below W.heap.size W w':=fun W hW=>
  Nj (h1 J hJ) rfl hT hW hA (vals:=[.int .i64 a,.int .i64 1,.int .i64 10]) ⟨.v _ rfl,.v _ rfl,.v _ rfl,trivial⟩
 have fin:∀(c2 c3:Bool),r=MQ->(c1=false\/c2=false\/¬(l.length:Int)=zi zj (a*b)\/c3=false)->
   (c1=true->CS Tryz.prog K 85 [iv b,iv 1,iv 10] (.bool c2))->(c1=true->c2=true->(l.length:Int)=zi zj (a*b)->CS Tryz.prog K 123 [x] (.bool c3))->
   Calls Tryz.prog 126 [Value.int .i64 a,.int .i64 b,.slice ad l.length cap].toArray w fun e w'=>∃y,e=.returned y/\Below w.heap.size w w'/\VR2 w' E (lkB []) A r y:=by
  rintro c2 c3 rfl hc h2 h3;refine(zl hc q1 (fun e W hW=>Nj (h2 e J hJ) rfl hT hW hA (vals:=[.int .i64 b,.int .i64 1,.int .i64 10]) ⟨.v _ rfl,.v _ rfl,.v _ rfl,trivial⟩)
   (fun e e' e'' W hW=>Nj (h3 e e' e'' J hJ) hxr hT hW hA (vals:=[.slice ad l.length cap]) ⟨hy,trivial⟩)).mono ?_
  rintro e w' ⟨rfl,hb⟩;exact⟨_,rfl,hb,_,rfl,.v _ rfl,.v _ rfl,trivial⟩
 rcases hr with⟨e1,hr⟩|⟨e1,c2,h2,⟨e2,hr⟩|⟨e2,⟨hl,hr⟩|⟨hl,c3,h3,⟨e3,hr⟩|⟨e3,s,h4,hs,hn,hr⟩⟩⟩⟩
 ·exact fin false false hr (.inl e1) (fun e=>by rw[e1]at e;cases e) (fun e=>by rw[e1]at e;cases e)
 ·exact fin c2 false hr (.inr (.inl e2)) (fun _=>h2) (fun _ e=>by rw[e2]at e;cases e)
 ·exact fin c2 false hr (.inr (.inr (.inl hl))) (fun _=>h2) (fun _ _ e=>absurd e hl)
 ·exact fin c2 c3 hr (.inr (.inr (.inr e3))) (fun _=>h2) (fun _ _ _=>h3)
 ·subst e1;subst e2;subst e3;subst hr;refine(wM hl hs hn hcell q1 (fun W hW=>Nj (h2 J hJ) rfl hT hW hA (vals:=[.int .i64 b,.int .i64 1,.int .i64 10]) ⟨.v _ rfl,.v _ rfl,.v _ rfl,trivial⟩)
   (fun W hW=>Nj (h3 J hJ) hxr hT hW hA (vals:=[.slice ad l.length cap]) ⟨hy,trivial⟩)
   (fun W hW=>Nj (h4 J hJ) rfl hT hW hA (vals:=[.int .i64 a,.int .i64 b]) ⟨.v _ rfl,.v _ rfl,trivial⟩)).mono ?_
  rintro e w' ⟨rfl,hb⟩;exact⟨_,rfl,hb,_,rfl,.v _ rfl,.v _ rfl,trivial⟩
end
section
open Go Go.RowKit
variable {H:Type} {enc:TypeId×Value->H}
theorem Qv{a:Assume}{C:Checked}{os:Os}{f:FuncId}{fn:Func}{s:ChangeSpec}{conds:List PathCond}{apart fresh handsOn again:Bool}{X:World->Array Value->Prop}
  (hX:∀(w w':World)(args:Array Value),w.heap=w'.heap->X w args->X w' args)
  (own:ownKnob C.prog.godebug=none) (started:os.Started) (noInit:C.prog.inits.idxOf? f=none) (hfn:C.prog.funcs[f]? =some fn)
  (witness:∃(w:World)(tape:Tape)(i:Input),w.os=os/\(w.forCall tape i).Shaped C.prog/\i.vars=[]/\Input.okWide C.prog (w.forCall tape i) .any w.heap.size f i/\
   ((s.pre enc C.prog fn conds apart (w.forCall tape i).memory i.args/\X (w.forCall tape i).memory i.args)/\sizedMet enc C.prog fn (OpenSpec.ofChange s) apart (w.forCall tape i).memory i.args)/\a.holds C.prog (lone (Frame.enter C.prog f i.args .normal) [] (w.forCall tape i)))
  (contract:∀(W:World)(base:Nat)(args:Array Value)(ds gs:List (DataW H))(before:List MemPlace),
   (∀(j:Nat) t v,fn.params[j]? =some t->args[j]? =some v->Value.okWide C.prog W .any base t v)->
   DataW.Whole enc C.prog fn.params.toList s.vars apart W args.toList ds gs before->
   (DataW.weightsEach C.prog (fn.params.toList++s.plain.varTypes C.prog) (ds++gs)).all (· <=reachBytes)=true->
   W.ShapedOpen C.prog->X W args->
   Calls C.prog f args W fun e W'=>∃v,e=.returned v/\s.post enc C.prog fn apart fresh handsOn again W args v W'):
  ReturnsInHanded a C os f .any (fun w args=>(s.pre enc C.prog fn conds apart w args/\X w args)/\sizedMet enc C.prog fn (OpenSpec.ofChange s) apart w args) (s.post enc C.prog fn apart fresh handsOn again):=by
 refine returnsInHanded_of_calls own started noInit witness ?_;intro w tape i _ hsh _ hok hpre hholds;obtain⟨_,_,_,fn',hfn',_,_,_,_,hval⟩:=hok;have e:fn'=fn:=zv (hfn'.symm.trans hfn);subst e;obtain⟨⟨⟨ds,gs,before,hw,hc⟩,hx⟩,hz⟩:=hpre;have hw':=DataW.Whole.of_heap (w':=w.forCall tape i) (by rfl) hw;refine(contract (w.forCall tape i) w.heap.size i.args ds gs before hval hw' (hz.weights hw) hsh (hX _ _ _ (by rfl) hx)).mono fun e W' ⟨v,he,hp⟩=> ?_
 subst he;exact ChangeSpec.post_blind hp
def Jof(w:World)(ids:List Nat):Il:=ids.filterMap fun g=>(w.heap[g]?).map fun o=>(g,o)
theorem uv{w:World}{ids:List Nat}:∀x∈Jof w ids,w.heap[x.1]? =some x.2:=by
 intro x hx;simp only[Jof,List.mem_filterMap,zb6]at hx;obtain⟨g,_,o,ho,rfl⟩:=hx;exact ho
theorem iT{w w':World}{ids:List Nat}(h:∀x∈Jof w ids,w'.heap[x.1]? =some x.2){g:Nat}(hg:g∈ids){o:Obj}(ho:w.heap[g]? =some o):w'.heap[g]? =some o:=
 h (g,o) (by simp only[Jof,List.mem_filterMap,zb6];exact⟨g,hg,o,ho,rfl⟩)
theorem pc{P:Program}{w w':World}{ids:List Nat}(h:∀x∈Jof w ids,w'.heap[x.1]? =some x.2){name:String}{g:Nat}(hn:P.globalNamed name=some g)(hg:g∈ids){cs:Array Value}
  (hv:w.var? P name=some cs):w'.var? P name=some cs:=by
 cases ho:w.heap[g]? with
 |none=>simp[World.var?,hn,ho]at hv
 |some o=>
  have:=iT h hg ho;simp only[World.var?,hn,za0,ho]at hv;simp only[World.var?,hn,za0,this];exact hv
theorem As0{P:Program}{w:World}{ids:List Nat}{name:String}{g:Nat}{k:IntKind}{zs:List Int}(hn:P.globalNamed name=some g)(hg:g∈ids)(h:Lib.TabIs P w name k zs):Ae1 P (Jof w ids) name k zs:=
 fun _ hw=>pc hw hn hg h
theorem Ar9{w:World}{ids:List Nat}{g:Nat}(hg:g∈ids)(h:∃m:Int,w.cell? ⟨g,0,none⟩=some (.int .i64 m)):uq (Jof w ids) g:=by
 intro w' hw;obtain⟨m,hm⟩:=h;cases ho:w.heap[g]? with
 |none=>simp[World.cell?,ho]at hm
 |some o=>
  refine⟨m,?_⟩;have:=iT hw hg ho;simp only[World.cell?,ho,this]at hm⊢
  exact hm
theorem An4{P:Program}{w:World}{ids:List Nat}{name:String}{g:Nat}(hn:P.globalNamed name=some g)(hg:g∈ids)(h:∃tp p,w.var? P name=some #[.iface tp p]):uu P (Jof w ids) name:=by
 intro w' hw;obtain⟨tp,p,h⟩:=h;exact⟨tp,p,pc hw hn hg h⟩
theorem KD{P:Program}{w:World}:∀(n:Nat){l:List (String×DataW Unit)},laidMet P l w->laidMet P (l.drop n) w
 |0,_,h=>h
 |n+1,[],h=>h
 |n+1,_::_,h=>KD n h.tail
end
section
open Go
set_option maxRecDepth 100000
abbrev Tq0:Type:=(((Bool×List Int)×Bool×List Int)×(Bool×List Int)×Bool×List Int)
abbrev Tq1:Type:=((Bool×List Int)×Bool×List Int)
abbrev Tq2:Type:=(List (Int×Int))
abbrev Tq3:Type:=(Bool×List Int×Bool×List Int)
abbrev Tq4:Type:=(Bool×List Int×Bool×List Int×Bool×List Int×Bool×List Int)
abbrev Tq5:Type:=(Bool×List Int)
abbrev Tq6:Type:=(Int×Int×Int×Int)
abbrev Tq7:Type:=(Bool×List (Int)×Bool×List (Int))
abbrev Tq8:Type:=(List (List UInt8))
abbrev Tq9:Type:=(((Bool×List (Int))×Bool×List (Int))×(Bool×List (Int))×Bool×List (Int))
abbrev Tq10:Type:=(List Int×Int×Int)
abbrev Tq11:Type:=(Bool×List (Int)×Bool×List (Int)×Bool×List (Int)×Bool×List (Int))
abbrev Tq12:Type:=(Bool×List (Int))
abbrev Tq13:Type:=(List (Int)×Int×Int)
abbrev Tq14:Type:=(List Int×List Int×List Int×Int×Int)
abbrev Tq15:Type:=(Tq8×Int×Bool)
abbrev Tq16:Type:=(List Int×List Int×Int×Int×Int)
abbrev Tq17:Type:=(List Int×List Int×List Int×Int×Int×Int×Int×Int×Int×Int⊕List Int×List Int×List Int×Int×Int×Int×Int×Int)
abbrev Tq18:Type:=(Tq6×List Tq1×List Tq2×Int×Int×List Tq1×Int×Int⊕(Tq6×List Tq1×List Tq2×Int×Int⊕List Tq1×Bool))
abbrev Tq19:Type:=(Tq8×Int×Int)
abbrev Tq20:Type:=(List Int×List Int×List Int×Int×Int⊕List Int)
abbrev Tq21:Type:=(List Int×List Int×Int×Int×Int⊕List Int)
abbrev Tq22:Type:=(Tq12×Bool×List (Int))
abbrev Tq23:Type:=(Tq6×List Tq1×List Tq0×Int×Int⊕(Tq6×List Tq1×List Tq0×Int⊕List Tq1×Bool))
abbrev Tq24:Type:=(List UInt8×Bool)
abbrev Tq25:Type:=(Tq3×Tq3×List Tq0×List Tq0×Int×Int⊕Tq3×Bool×List Int×Bool×List Int)
abbrev Yq0:Ty:=(.pair (.pair .bool (.sl (.int .i64))) (.pair .bool (.sl (.int .i64))))
abbrev Yq1:Ty:=(.pair (.int .i64) (.int .i64))
abbrev Yq2:Ty:=(.pair (.bool) (.sl (.int .i64)))
def Ak5:TyD:=⟨1,8,false,[(.v (.int .i64 0))],none,false,(some .i64),[],false⟩
def Aq1:TyD:=⟨1,1,false,[(.v (.bool false))],none,false,none,[],false⟩
def Aq2:TyD:=⟨1,1,false,[(.v (.int .u8 0))],none,false,(some .u8),[],false⟩
def Aq3:TyD:=⟨1,16,false,[(.v (.string ⟨#[]⟩))],none,true,none,[],false⟩
def xX:TyD:=⟨1,24,false,[.em],(some 3),false,none,[],false⟩
def Ac6:TyD:=⟨2,32,true,[(.v (.bool false)),.em],none,false,none,[⟨0,4,1,false⟩,⟨1,22,1,false⟩],false⟩
def Ac7:TyD:=⟨4,64,true,[(.v (.bool false)),.em,(.v (.bool false)),.em],none,false,none,[⟨0,24,2,true⟩,⟨2,24,2,true⟩],false⟩
def Ac8:TyD:=⟨1,24,false,[.em],(some 5),false,none,[],false⟩
def Ac9:TyD:=⟨1,24,false,[.em],(some 87),false,none,[],false⟩
def Ad0:TyD:=⟨2,16,true,[(.v (.int .i64 0)),(.v (.int .i64 0))],none,false,none,[⟨0,3,1,false⟩,⟨1,3,1,false⟩],false⟩
def Ad1:TyD:=⟨4,32,true,[(.v (.int .i64 0)),(.v (.int .i64 0)),(.v (.int .i64 0)),(.v (.int .i64 0))],none,false,none,[⟨0,3,1,false⟩,⟨1,3,1,false⟩,⟨2,3,1,false⟩,⟨3,3,1,false⟩],false⟩
def Ad2:TyD:=⟨1,24,false,[.em],(some 9),false,none,[],false⟩
def Ad3:TyD:=⟨1,24,false,[.em],(some 26),false,none,[],false⟩
def Ad4:TyD:=⟨1,24,false,[.em],(some 151),false,none,[],false⟩
def Ad5:TyD:=⟨1,24,false,[.em],(some 48),false,none,[],false⟩
def Ad6:TyD:=⟨1,24,false,[.em],(some 161),false,none,[],false⟩
def xP:TyD:=⟨5,88,true,[.em,(.v (.int .i64 0)),.em,.em,(.v (.bool false))],none,false,none,[⟨0,63,1,false⟩,⟨1,3,1,false⟩,⟨2,33,1,false⟩,⟨3,87,1,false⟩,⟨4,4,1,false⟩],false⟩
def xQ:TyD:=⟨1,8,false,[(.v (.int .u64 0))],none,false,(some .u64),[],false⟩
def xR:TyD:=⟨3,40,true,[.em,(.v (.int .i64 0)),(.v (.int .u64 0))],none,false,none,[⟨0,32,1,false⟩,⟨1,3,1,false⟩,⟨2,113,1,false⟩],false⟩
def xT:TyD:=⟨5,88,true,[.em,(.v (.int .i64 0)),.em,.em,(.v (.int .i64 0))],none,false,none,[⟨0,63,1,false⟩,⟨1,3,1,false⟩,⟨2,33,1,false⟩,⟨3,87,1,false⟩,⟨4,3,1,false⟩],false⟩
def xU:TyD:=⟨1,16,false,[(.v .nilIface)],none,false,none,[],true⟩
def xV:TyD:=⟨2,16,true,[(.v (.int .i64 0)),(.v (.int .i64 0))],none,false,none,[⟨0,3,1,false⟩,⟨1,3,1,false⟩],false⟩
def xW:TyD:=⟨8,128,true,[(.v (.bool false)),.em,(.v (.bool false)),.em,(.v (.bool false)),.em,(.v (.bool false)),.em],none,false,none,[⟨0,26,4,true⟩,⟨4,26,4,true⟩],false⟩
def xY:TyD:=⟨1,8,false,[(.v (.int .u64 0))],none,false,(some .u64),[],false⟩
def xZ:TyD:=⟨1,24,false,[.em],(some 24),false,none,[],false⟩
theorem ty3:AX Tryz.prog 3=some Ak5:=by kernel_rfl
theorem ty4:AX Tryz.prog 4=some Aq1:=by kernel_rfl
theorem ty5:AX Tryz.prog 5=some Aq2:=by kernel_rfl
theorem ty9:AX Tryz.prog 9=some Aq3:=by kernel_rfl
theorem Ap8:AX Tryz.prog 22=some xX:=by kernel_rfl
theorem As3:AX Tryz.prog 24=some Ac6:=by kernel_rfl
theorem As4:AX Tryz.prog 26=some Ac7:=by kernel_rfl
theorem As5:AX Tryz.prog 32=some Ac8:=by kernel_rfl
theorem As6:AX Tryz.prog 33=some Ac9:=by kernel_rfl
theorem As7:AX Tryz.prog 48=some Ad0:=by kernel_rfl
theorem As8:AX Tryz.prog 58=some Ad1:=by kernel_rfl
theorem As9:AX Tryz.prog 63=some Ad2:=by kernel_rfl
theorem At0:AX Tryz.prog 70=some Ad3:=by kernel_rfl
theorem At1:AX Tryz.prog 83=some Ad4:=by kernel_rfl
theorem At2:AX Tryz.prog 87=some Ad5:=by kernel_rfl
theorem At3:AX Tryz.prog 95=some Ad6:=by kernel_rfl
theorem Ap1:AX Tryz.prog 108=some xP:=by kernel_rfl
theorem Ap2:AX Tryz.prog 113=some xQ:=by kernel_rfl
theorem Ap3:AX Tryz.prog 115=some xR:=by kernel_rfl
theorem Ap4:AX Tryz.prog 120=some xT:=by kernel_rfl
theorem Ap5:AX Tryz.prog 125=some xU:=by kernel_rfl
theorem Ap6:AX Tryz.prog 151=some xV:=by kernel_rfl
theorem Ap7:AX Tryz.prog 161=some xW:=by kernel_rfl
theorem Ap9:AX Tryz.prog 221=some xY:=by kernel_rfl
theorem Aq0:AX Tryz.prog 249=some xZ:=by kernel_rfl
def UY:List (Nat×TyD):=[(3,Ak5),(4,Aq1),(5,Aq2),(9,Aq3),(22,xX),(24,Ac6),(26,Ac7),(32,Ac8),(33,Ac9),(48,Ad0),(58,Ad1),(63,Ad2),(70,Ad3),(83,Ad4),(87,Ad5),(95,Ad6),(108,xP),(113,xQ),(115,xR),(120,xT),(125,xU),(151,xV),(161,xW),(221,xY),(249,xZ)]
def R8:List (Nat×Ty):=[(3,.int .i64),(5,.int .u8),(9,.str),(24,.pair (.bool) (.sl (.int .i64))),(26,.pair Yq2 Yq2),(48,.pair (.int .i64) (.int .i64)),(87,.sl Yq1),(151,.pair (.int .i64) (.int .i64)),(161,.pair (.pair Yq2 Yq2) (.pair Yq2 Yq2))]
theorem uf:∀t d,getD UY t=some d->AX Tryz.prog t=some d:=Ak4 (by unfold UY;exact⟨ty3,⟨ty4,⟨ty5,⟨ty9,⟨Ap8,⟨As3,⟨As4,⟨As5,⟨As6,⟨As7,⟨As8,⟨As9,⟨At0,⟨At1,⟨At2,⟨At3,⟨Ap1,⟨Ap2,⟨Ap3,⟨Ap4,⟨Ap5,⟨Ap6,⟨Ap7,⟨Ap9,⟨Aq0,trivial⟩⟩⟩⟩⟩⟩⟩⟩⟩⟩⟩⟩⟩⟩⟩⟩⟩⟩⟩⟩⟩⟩⟩⟩⟩)
theorem Am0:Tryz.prog.underlying 4=some .bool:=by kernel_rfl
theorem Vq:∀t,([4]:List Nat).contains t=true->Tryz.prog.underlying t=some .bool:=by
 intro t h;simp at h;rcases h with rfl
 all_goals first|exact Am0
theorem r8:∀t,([]:List Nat).contains t=true->Al2 Tryz.prog t:=by
 intro t h;simp at h
 try exact h.elim
abbrev qC(i:Nat)(c:AC):Item:=.slot i (.cell c)
abbrev qI(i:Nat):Item:=.slot i (.cell (.int .i64))
abbrev qB(i:Nat):Item:=.slot i (.cell .bool)
abbrev qS(i:Nat):Item:=.slot i (.cell .str)
abbrev qA(i:Nat)(l:List AC):Item:=.slot i (.agg l)
abbrev qT(i j:Nat):Item:=.slot i (.ref j true)
abbrev qF(i j:Nat):Item:=.slot i (.ref j false)
abbrev qdy:List AC:=[.int .i64,.int .i64,.int .i64,.int .i64]
abbrev qdz:List AC:=[.int .i64,.int .i64]
abbrev qd0:List AC:=[.bool,.im (.int .i64)]
abbrev qd1:List AC:=[.bool,.im (.int .i64),.bool,.im (.int .i64)]
abbrev qd2:List AC:=[.bool,.im (.int .i64),.bool,.im (.int .i64),.bool,.im (.int .i64),.bool,.im (.int .i64)]
abbrev qt:Item:=qC 0 (.im (.pair Yq0 Yq0))
abbrev qa:Item:=.blk (.arr 3 true (.int .i64))
abbrev qz:Item:=.blk (.arr 161 false (.pair Yq0 Yq0))
abbrev qh:Item:=.blk (.arr 87 false (.sl Yq1))
abbrev qi:Item:=.blk (.arr 48 true Yq1)
abbrev qm:Item:=.blk (.box 115 [.im (.int .u8),.int .i64,.int .u64])
abbrev qac:Item:=.blk (.arr 26 false Yq0)
abbrev qj:Item:=.blk (.box 24 qd0)
abbrev qu:Item:=.blk (.box 58 qdy)
abbrev qat:Item:=qA 0 qd2
abbrev qag:Item:=.blk (.box 26 qd1)
abbrev qak:Item:=.blk (.box 108 [.im .str,.int .i64,.at 1,.at 2,.bool])
abbrev qn:Item:=.blk (.arr 9 true .str)
abbrev qau:Item:=.blk (.box 120 [.im .str,.int .i64,.at 1,.at 2,.int .i64])
abbrev qo:Item:=qC 1 (.im (.int .i64))
abbrev qp:Item:=qC 0 (.im (.int .i64))
abbrev qav:Item:=.blk (.arr 151 true Yq1)
abbrev qb4:Item:=qC 17 (.im (.pair Yq0 Yq0))
abbrev qbi:Item:=qA 1 qd2
abbrev qa4:Item:=qA 0 qd1
abbrev qaw:Item:=.blk (.box 48 qdz)
abbrev qa5:Item:=qC 0 (.im (.sl Yq1))
abbrev qa9:Item:=qA 2 qd1
abbrev qa6:Item:=qC 0 (.im Yq1)
abbrev qba:Item:=qC 8 (.im (.sl Yq1))
abbrev qbb:Item:=qC 7 (.im Yq1)
abbrev qap:Item:=.blk (.box 4 [.bool])
abbrev qb5:Item:=qC 0 (.im Yq0)
abbrev qd:Item:=qI 6
abbrev qbj:Item:=qC 15 (.im (.sl Yq1))
abbrev qk:Item:=qT 0 0
abbrev qe:Item:=qI 7
abbrev qf:Item:=qI 9
abbrev qbk:Item:=qC 0 (.im (.pair .bool (.sl (.int .i64))))
abbrev qbl:Item:=qC 6 (.im Yq1)
abbrev qb6:Item:=.blk (.box 120 [.im .str,.int .i64,.at 2,.at 3,.int .i64])
abbrev qb7:Item:=.blk (.box 108 [.im .str,.int .i64,.at 2,.at 3,.bool])
abbrev qb8:Item:=.blk (.arr 87 true (.sl Yq1))
abbrev qv:Item:=qF 10 0
abbrev qb9:Item:=qA 1 qd1
abbrev qca:Item:=qA 3 qd1
abbrev qa7:Item:=qC 1 (.im (.int .u8))
abbrev qq:Item:=qF 0 0
abbrev qcb:Item:=qA 0 qdy
abbrev qcc:Item:=qA 1 qdy
abbrev qcd:Item:=qC 44 (.im (.sl Yq1))
abbrev qce:Item:=qC 6 (.im (.sl Yq1))
abbrev qcf:Item:=qC 19 (.im Yq1)
abbrev qcg:Item:=qC 21 (.im Yq1)
abbrev qch:Item:=qC 5 (.im Yq1)
abbrev qx:Item:=qF 3 0
abbrev qad:Item:=qF 11 1
abbrev qy:Item:=qT 3 0
abbrev qbm:Item:=qA 0 qdz
abbrev qbn:Item:=qA 1 qdz
abbrev qci:Item:=.blk (.box 151 qdz)
abbrev qae:Item:=qT 2 0
abbrev qbo:Item:=qC 20 (.im (.int .i64))
abbrev qbp:Item:=qC 18 (.im (.int .i64))
abbrev qbq:Item:=qC 2 (.im (.int .i64))
abbrev qbr:Item:=qC 5 (.im (.int .i64))
abbrev qah:Item:=qF 5 0
abbrev qcj:Item:=qA 0 qd0
abbrev qaq:Item:=qF 12 2
abbrev qck:Item:=.slot 9 (.cap 308 [2,0,1])
abbrev qax:Item:=qF 10 1
abbrev qay:List Item:=[qm,qk]
abbrev qbs:List Item:=[qm,qI 0]
abbrev qcl:List Item:=[qm,qk,qI 1]
abbrev qcm:List Item:=[qm,qi,qk,qF 3 1]
abbrev qcn:List Item:=[qm,qh,qk,qF 3 1,qI 4]
abbrev qb:List Item:=[qB 0]
abbrev qbc:List Item:=[qbm]
abbrev qaf:List Item:=[qa6]
abbrev qa0:List Item:=[qa5]
abbrev qg:List Item:=[qI 0]
abbrev qr:List Item:=[qS 0]
abbrev qco:List Item:=[qS 3,qba,qf,qI 10]
abbrev qar:List Item:=[qS 0,qB 1]
abbrev qbt:List Item:=[qm,qS 0]
abbrev qbu:List Item:=[qm,qk,qS 5]
abbrev qbv:List Item:=[qC 0 (.im (.int .u8))]
abbrev qal:List Item:=[qS 0,qcc]
abbrev qbd:List Item:=[qS 0,qS 1]
abbrev qcp:List Item:=[qn,qq]
abbrev qbw:List Item:=[qC 0 (.im .str),qS 1]
abbrev qan:List Item:=[qI 4]
abbrev qbe:List Item:=[qI 0,qB 1]
abbrev qcq:List Item:=[qak,qh,qi,qk]
abbrev qcr:List Item:=[qak,qh,qi,qT 6 0]
abbrev qcs:List Item:=[qcb]
abbrev ql:List Item:=[qcj]
abbrev qc:List Item:=[qa4]
abbrev qa1:List Item:=[qz,qq]
abbrev qct:List Item:=[qz,qx]
abbrev qcu:List Item:=[qp,.slot 1 (.clo 293)]
abbrev qcv:List Item:=[qbk,.slot 1 (.clo 278)]
abbrev qaa:List Item:=[qp,qo]
abbrev qcw:List Item:=[qp,qo,qI 5]
abbrev qab:List Item:=[qp]
abbrev qcx:List Item:=[qp,qI 3]
abbrev qa2:List Item:=[qp,qI 1]
abbrev qcy:List Item:=[qa,qp,qI 1,qF 6 0,qe,qI 8]
abbrev qcz:List Item:=[qa,qF 6 0,qe]
abbrev qai:List Item:=[qa,qq]
abbrev qc0:List Item:=[qB 0,qo]
abbrev qbx:List Item:=[qa,qA 0 [.bool,.at 0]]
abbrev qw:List Item:=[qcj,qA 1 qd0]
abbrev qc1:List Item:=[qa,qa,qa,qd,qf,qv,qad,qaq,qI 13,qI 15,qI 16]
abbrev qc2:List Item:=[qb5]
abbrev qao:List Item:=[qat]
abbrev qc3:List Item:=[qt,.slot 1 (.clo 224)]
abbrev qam:List Item:=[qt]
abbrev qaj:List Item:=[qa4,qb9]
abbrev qby:List Item:=[qat,qB 1]
abbrev qa3:List Item:=[qa,qp,qo,qah,qd,qe]
abbrev qaz:List Item:=[qa,qah]
abbrev qc4:List Item:=[qat,qbi,qa9]
abbrev qbf:List Item:=[qt,qbi,qA 2 qd2]
abbrev qbz:List Item:=[qz,qq,qB 1]
abbrev qc5:List Item:=[qag,qag,qt,qae,qT 3 1,qC 8 (.im (.pair Yq0 Yq0)),qf,qI 10]
abbrev qc6:List Item:=[qag,qag,qae,qT 3 1]
abbrev qa8:List Item:=[qa4,qB 1]
abbrev qc7:List Item:=[qt,qI 1,qI 2]
abbrev qc8:List Item:=[qt,qcc]
abbrev qbg:List Item:=[qb5,qB 1]
abbrev qbh:List Item:=[qu,qac,qt,qy,qF 6 1,qe]
abbrev qc9:List Item:=[qu,qac,qt,qy,qF 6 1,qe,qI 8]
abbrev qda:List Item:=[qac,qF 6 0]
abbrev qas:List Item:=[qC 4 (.im Yq0),qB 5]
abbrev qdb:List Item:=[qu,qac,qy,qax,qcd,qI 45,qI 46]
abbrev qdc:List Item:=[qac,qv]
abbrev qdd:List Item:=[qa,qx]
abbrev qb0:List Item:=[qa,qq,qB 1]
abbrev qde:List Item:=[qp,.slot 1 (.clo 181)]
abbrev qb1:List Item:=[qI 0,qI 1,qbq]
abbrev qdf:List Item:=[qau,qh,qi,qk]
abbrev qdg:List Item:=[qau,qh,qi]
abbrev qb2:List Item:=[qau,qh,qi,qT 6 0]
abbrev qdh:List Item:=[qz,qF 4 0]
abbrev qdi:List Item:=[qa,qa,qq,qF 1 1]
abbrev qdj:List Item:=[qp,qo,qI 2,qe,qf,qI 10]
abbrev qdk:List Item:=[qa]
abbrev qdl:List Item:=[qa,qq,qo,qd]
abbrev qdm:List Item:=[qa,qo,qah,qbp,qI 19,qI 20]
abbrev qdn:List Item:=[qa,qo,qah,qd,qe,qI 8,qf,qbp,qI 19,qI 20]
abbrev qb3:List Item:=[qt,qB 1]
abbrev qdo:List Item:=[qu,qac,qh,qy,qax,qF 49 2,qI 50,qI 51]
abbrev qdp:List Item:=[qav,qq]
abbrev qdq:List Item:=[qav,qx]
abbrev qdr:List Item:=[qn,qq,qB 1]
abbrev qds:List Item:=[qn,qF 8 0]
abbrev qdt:List Item:=[qa,qI 2,qI 3,qF 4 0,qB 5]
abbrev qdu:List Item:=[qa,qx,qbb,qI 8,qf]
abbrev qdv:List Item:=[qa6,.slot 1 (.clo 204)]
abbrev qdw:List Item:=[qa5,.slot 1 (.clo 87)]
abbrev qdx:List Item:=[qn,qF 4 0,qbj,qI 16,qI 17]
def PS:FAnn:=⟨209,1,qay,qbs,[],[],[(4,[qm,qk,qI 3])]⟩
def PU:FAnn:=⟨159,1,qcl,qbs,[],[],[]⟩
def RM:FAnn:=⟨158,1,qcl,[qm,qB 0],[],[],[]⟩
def O7:FAnn:=⟨97,1,[qm,qk,qo],qbs,[],[],[]⟩
def Nb:FAnn:=⟨173,1,qay,[qm,qcb],[],[],[]⟩
def TY:FAnn:=⟨103,1,qay,[qm,qbm],[],[],[]⟩
def RN:FAnn:=⟨199,1,qay,[qm,qi,qF 0 1],[(8,[qm,qi,qk,qF 3 1,qI 4]),(12,qcm)],[(8,[(.exit 1,qcm)]),(12,[(.exit 3,[qm,qi,qF 3 1])])],[]⟩
def PW:FAnn:=⟨145,1,qay,[qm,qh,qF 0 1],[(5,qcn)],[(5,[(.exit 0,[qm,qh,qF 3 1])])],[(5,qcn)]⟩
def jB:FAnn:=⟨90,0,[qI 0,qI 1,qI 2],qb,[],[],[]⟩
def Zj:FAnn:=⟨166,0,qbc,qb,[],[],[]⟩
def dJ:FAnn:=⟨152,0,qaf,qb,[(2,[qch,qd,qe])],[(2,[(.exit 0,[]),(.ret,[qB 2])])],[]⟩
def dK:FAnn:=⟨89,0,qaf,qb,[],[],[]⟩
def TO:FAnn:=⟨21,0,qa0,qb,[(2,[qa5,qC 5 (.im (.sl Yq1)),qd,qe])],[(2,[(.exit 0,qa0),(.ret,[qB 2])])],[]⟩
def QP:FAnn:=⟨163,0,qg,qr,[],[],[]⟩
def Zr:FAnn:=⟨99,0,qg,qr,[],[],[]⟩
def TT:FAnn:=⟨84,0,qa0,qr,[(3,qco),(8,[qS 3,qba,qf,qI 10,qcf,qI 20,qI 21])],[(3,[(.exit 0,[qS 3])]),(8,[(.exit 2,qco)])],[(7,[qS 3,qch,qba,qf,qI 10]),(13,[qaw,qS 3,qT 7 0,qba,qf,qI 10,qcf,qI 20,qI 21])]⟩
def RK:FAnn:=⟨19,0,qa0,qar,[],[],[]⟩
def TW:FAnn:=⟨100,1,[qm,qk,qC 1 (.im .str)],qbt,[],[],[]⟩
def Na:FAnn:=⟨160,1,[qm,qk,qS 1,qS 2],qbt,[(2,[qm,qk,qS 1,qS 2,qe])],[(2,[(.exit 0,[qm,qS 1])])],[]⟩
def PT:FAnn:=⟨94,1,qay,qbt,[(7,[qm,qk,qS 5,qd])],[(7,[(.exit 0,qbu)])],[(5,qay),(13,qbu),(15,qbu)]⟩
def Mw:FAnn:=⟨115,0,qbv,qal,[],[],[]⟩
def O5:FAnn:=⟨65,0,qbv,qal,[],[],[]⟩
def Zi:FAnn:=⟨85,0,[qI 0,qI 1,qI 2],qb,[],[],[]⟩
def O8:FAnn:=⟨91,0,qbd,qcp,[],[],[]⟩
def EO:FAnn:=⟨259,0,qbw,qg,[(2,[qC 0 (.im .str),qS 1,qe,qI 8])],[(2,[(.exit 0,[]),(.ret,qan)])],[]⟩
def D4:FAnn:=⟨208,0,qbw,qb,[],[],[]⟩
def PK:FAnn:=⟨154,1,[qak,qh,qi,qk,qS 1],[qak,qh,qi,qI 0],[],[],[]⟩
def Lf:FAnn:=⟨155,0,qbd,qb,[],[],[]⟩
def P0:FAnn:=⟨101,0,qr,[qI 0,qC 1 (.err)],[],[],[]⟩
def TG:FAnn:=⟨98,0,qg,qb,[],[],[]⟩
def P1:FAnn:=⟨82,0,qg,qr,[],[],[]⟩
def PF:FAnn:=⟨30,0,qr,qbe,[],[],[]⟩
def O4:FAnn:=⟨156,1,qcq,[qak,qh,qi,qI 0,qB 1],[],[],[]⟩
def RI:FAnn:=⟨157,1,[qak,qh,qi,qk,qS 1,qbq],[qak,qh,qi,qbm],[],[],[(4,[.blk (.box 108 [.im .str,.int .i64,.at 3,.at 4,.bool]),qaw,qaw,qh,qi,qS 1,qbq,qT 6 1,qT 7 2])]⟩
def Y9:FAnn:=⟨104,0,qbc,qb,[],[],[]⟩
def M7:FAnn:=⟨92,1,qcq,[qak,qh,qi,qI 0,qI 1],[(14,[qb7,qa,qh,qi,qk,qS 4,qF 7 1,qI 62,qI 63])],[(14,[(.exit 0,[qb7,qa,qh,qi,qk,qS 4,qF 7 1]),(.ret,[qak,qh,qi,qI 2,qI 3])])],[(12,[qak,qh,qi,qk,qS 4,qd])]⟩
def Rz:FAnn:=⟨22,0,qr,[qa5,qI 1,qI 2,qB 3],[(4,qcr)],[(4,[(.exit 0,qcr),(.ret,[qC 2 (.im (.sl Yq1)),qI 3,qI 4,qB 5])])],[]⟩
def PD:FAnn:=⟨58,0,qcs,qb,[],[],[]⟩
def cV:FAnn:=⟨137,0,qg,ql,[(6,[qj,qa,qae,qB 3,qC 4 (.int .u64),qF 5 1])],[(6,[(.exit 0,[qj,qa,qae,qB 3,qF 5 1])])],[(5,[qj,qae,qB 3,qC 4 (.int .u64)])]⟩
def dh:FAnn:=⟨73,0,qg,qc,[],[],[]⟩
def Zg:FAnn:=⟨76,0,qaf,qa1,[(3,[qz,qx,qbb,qI 8,qf])],[(3,[(.exit 0,qct)])],[]⟩
def Ry:FAnn:=⟨293,0,qg,qb,[],[],[]⟩
def Dc:FAnn:=⟨233,0,qcu,qg,[(2,[qp,.slot 1 (.clo 293),qe,qI 8])],[(2,[(.exit 0,[]),(.ret,qan)])],[]⟩
def CL:FAnn:=⟨180,0,qcu,qb,[],[],[]⟩
def WN:FAnn:=⟨265,0,ql,qb,[],[],[]⟩
def TA:FAnn:=⟨278,0,ql,qb,[],[],[]⟩
def El:FAnn:=⟨302,0,qcv,qg,[(2,[qbk,.slot 1 (.clo 278),qe,qI 8])],[(2,[(.exit 0,[]),(.ret,qan)])],[]⟩
def DB:FAnn:=⟨277,0,qcv,qb,[],[],[]⟩
def Za:FAnn:=⟨234,0,[qbk],qb,[],[],[]⟩
def Tl:FAnn:=⟨235,0,ql,qg,[],[],[]⟩
def O0:FAnn:=⟨284,0,qg,qb,[],[],[]⟩
def Mv:FAnn:=⟨248,0,[qI 0,qI 1],qg,[],[],[]⟩
def M6:FAnn:=⟨195,0,qaa,qg,[(4,qcw)],[(4,[(.exit 0,[]),(.ret,qan)])],[]⟩
def pf:FAnn:=⟨247,0,qab,qab,[(2,qcx)],[(2,[(.exit 0,qcx)])],[]⟩
def TF:FAnn:=⟨283,0,qa2,qa2,[(4,qcy)],[(4,[(.exit 0,qcz)])],[]⟩
def Ca:FAnn:=⟨246,0,qab,qai,[],[],[]⟩
def cX:FAnn:=⟨193,0,qc0,qbx,[],[],[]⟩
def WI:FAnn:=⟨139,0,qw,qbx,[(3,[qj,qj,qj,qa,qae,qT 3 1,qT 4 2,qF 5 3,qbo,qI 21,qI 22]),(7,[qj,qj,qj,qa,qae,qT 3 1,qT 4 2,qF 5 3,qd,qe,qI 8,qbo,qI 21,qI 22,qC 28 (.im (.int .i64)),qI 29,qI 30])],[(3,[(.exit 0,[qj,qj,qj,qa,qae,qT 3 1,qT 4 2,qF 5 3])]),(7,[(.exit 2,[qj,qj,qj,qa,qae,qT 3 1,qT 4 2,qF 5 3,qd,qI 8,qbo,qI 21,qI 22])])],[]⟩
def TE:FAnn:=⟨245,0,qaa,qaa,[(10,[qa,qa,qp,qd,qf,qv,qad]),(14,[qa,qa,qa,qd,qf,qv,qad,qaq,qI 13]),(18,qc1),(23,[qa,qa,qa,qd,qf,qv,qad,qaq,qI 13,qI 15,qI 17,qI 153,qI 154]),(37,[qa,qa,qa,qd,qf,qv,qad,qaq,qI 13,qI 15,qI 20,qI 208,qI 209])],[(10,[(.exit 0,[qa,qa,qd,qf,qv,qad])]),(14,[(.exit 2,[qa,qa,qd,qf,qv,qF 12 1])]),(18,[(.exit 4,[qa,qa,qa,qd,qf,qv,qad,qaq,qI 13,qI 15])]),(23,[(.exit 6,[qa,qa,qa,qd,qf,qv,qad,qaq,qI 13,qI 15,qI 17])]),(37,[(.exit 8,[qa,qa,qa,qd,qf,qv,qad,qaq,qI 13,qI 15,qI 20])])],[(19,qc1),(30,[qa,qa,qa,qd,qf,qv,qad,qaq,qI 13,qI 15,qI 17,qI 18,qI 19,qI 153,qI 154])]⟩
def WH:FAnn:=⟨190,0,qw,ql,[(2,[qj,qT 4 0,qbr,qC 6 (.im (.int .i64))])],[(2,[(.exit 0,[qj,qT 4 0,qbr])])],[]⟩
def PI:FAnn:=⟨236,0,qw,qg,[],[],[]⟩
def WO:FAnn:=⟨182,0,qc,qb,[],[],[]⟩
def WX:FAnn:=⟨124,0,qc2,qb,[(2,[qC 5 (.im Yq0),qd,qe])],[(2,[(.exit 0,[]),(.ret,[qB 2])])],[]⟩
def O1:FAnn:=⟨144,0,[qa4,qI 1],qb,[],[],[]⟩
def cY:FAnn:=⟨225,0,[qat,qI 1],qb,[],[],[]⟩
def PB:FAnn:=⟨224,0,qao,qb,[],[],[]⟩
def Em:FAnn:=⟨267,0,qc3,qg,[(2,[qt,.slot 1 (.clo 224),qe,qI 8])],[(2,[(.exit 0,[]),(.ret,qan)])],[]⟩
def DC:FAnn:=⟨223,0,qc3,qb,[],[],[]⟩
def Tp:FAnn:=⟨174,0,qam,qb,[],[],[]⟩
def PJ:FAnn:=⟨264,0,qaj,qg,[],[],[]⟩
def Tu:FAnn:=⟨220,0,qaj,qb,[],[],[]⟩
def Le:FAnn:=⟨309,0,qby,qc,[],[],[]⟩
def Zd:FAnn:=⟨308,3,[qap,qap,qag,qat,qT 1 0,qT 2 1,qT 3 2],[qap,qap,qag,qB 0],[],[],[]⟩
def WJ:FAnn:=⟨191,0,ql,ql,[],[],[]⟩
def WU:FAnn:=⟨197,0,qc,qc,[],[],[]⟩
def Tz:FAnn:=⟨194,0,qaa,qai,[(4,qa3)],[(4,[(.exit 0,qaz)])],[(6,qa3),(8,qa3),(10,qa3)]⟩
def TJ:FAnn:=⟨196,0,qaa,qab,[(4,[qa,qo,qah,qd,qI 11,qI 12])],[(4,[(.exit 0,qaz)])],[(9,[qa,qo,qah,qe,qI 11,qI 12])]⟩
def WF:FAnn:=⟨140,0,qw,ql,[],[],[]⟩
def WG:FAnn:=⟨192,0,qw,qw,[],[],[]⟩
def dc:FAnn:=⟨138,0,qw,qc,[],[],[(4,[qj,qj,qag,qj,qae,qT 3 1,qT 4 2,qT 5 3])]⟩
def WR:FAnn:=⟨74,0,qaj,qc,[],[],[]⟩
def WV:FAnn:=⟨142,0,qaj,qc,[],[],[]⟩
def WS:FAnn:=⟨198,0,qaj,qc,[],[],[]⟩
def WT:FAnn:=⟨141,0,qaj,qc,[],[],[]⟩
def pg:FAnn:=⟨310,0,qc4,qao,[],[],[]⟩
def jz:FAnn:=⟨296,0,[qt,qB 1,qB 2,qca],qa1,[(4,[qap,qag,qap,qz,qt,qT 5 0,qT 7 1,qck,qF 10 3,qb4,qI 18,qI 19])],[(4,[(.exit 0,[qz,qv])])],[(10,[qap,qag,qap,qz,.blk (.box 161 qd2),qt,qT 5 0,qT 7 1,qck,qF 10 3,qT 12 4,qb4,qI 18,qI 19])]⟩
def WZ:FAnn:=⟨269,0,qbf,qa1,[],[],[]⟩
def Zf:FAnn:=⟨315,0,qc,qc,[],[],[]⟩
def Ze:FAnn:=⟨307,0,qao,qao,[],[],[]⟩
def W1:FAnn:=⟨295,0,qam,qa1,[(3,[qz,qx,qC 7 (.im (.pair Yq0 Yq0)),qI 8,qf])],[(3,[(.exit 0,qct)])],[]⟩
def O3:FAnn:=⟨268,0,qam,qbz,[],[],[]⟩
def WL:FAnn:=⟨226,0,qbf,qbz,[],[],[]⟩
def Tt:FAnn:=⟨143,0,qc,qc,[],[],[]⟩
def TH:FAnn:=⟨75,0,qam,qc,[(3,qc5)],[(3,[(.exit 0,qc6)])],[]⟩
def PH:FAnn:=⟨77,0,qc,qa8,[],[],[]⟩
def Tw:FAnn:=⟨227,0,qam,qa8,[],[],[]⟩
def W2:FAnn:=⟨175,0,qc7,qa8,[],[],[]⟩
def Tx:FAnn:=⟨116,0,qc8,qbg,[(5,qbh),(8,qc9)],[(5,[(.exit 0,qda),(.ret,qas)]),(8,[(.exit 2,qbh),(.ret,qas)])],[]⟩
def RG:FAnn:=⟨50,0,qal,qbg,[(6,[qu,qac,qy,qce,qax,qI 36,qI 37]),(10,qdb),(16,[qu,qac,qy,qax,qcd,qI 45,qI 46,qC 59 (.im Yq0),qI 60,qI 61])],[(6,[(.exit 0,[qu,qac,qy,qce,qax])]),(10,[(.exit 2,qdc),(.ret,qas)]),(16,[(.exit 4,qdb),(.ret,qas)])],[]⟩
def WE:FAnn:=⟨263,0,ql,ql,[],[],[]⟩
def WQ:FAnn:=⟨219,0,qc,qc,[],[],[]⟩
def WK:FAnn:=⟨294,0,qw,ql,[],[],[]⟩
def M4:FAnn:=⟨266,0,qw,ql,[],[],[]⟩
def RD:FAnn:=⟨222,0,qc,ql,[],[],[]⟩
def cW:FAnn:=⟨221,0,ql,qbe,[(5,[qj,qT 1 0,qI 4,qI 5])],[(5,[(.exit 0,[qj,qT 1 0,qI 4])])],[]⟩
def Zc:FAnn:=⟨172,0,qc,qg,[],[],[(4,[qag,qT 1 0])]⟩
def WY:FAnn:=⟨109,0,qc2,qai,[(3,[qa,qx,qC 7 (.im Yq0),qI 8,qf])],[(3,[(.exit 0,qdd)])],[]⟩
def PE:FAnn:=⟨40,0,qal,qb0,[],[],[]⟩
def PG:FAnn:=⟨181,0,qg,qb,[],[],[]⟩
def C1:FAnn:=⟨233,0,qde,qg,[(2,[qp,.slot 1 (.clo 181),qe,qI 8])],[(2,[(.exit 0,[]),(.ret,qan)])],[]⟩
def Cm:FAnn:=⟨180,0,qde,qb,[],[],[]⟩
def TC:FAnn:=⟨123,0,qab,qb,[],[],[]⟩
def jA:FAnn:=⟨128,0,[qI 0,qI 1],qr,[],[],[]⟩
def M5:FAnn:=⟨126,0,qb1,qar,[],[],[]⟩
def WM:FAnn:=⟨64,0,qal,qar,[],[],[]⟩
def TU:FAnn:=⟨95,0,qr,qcp,[(4,[qn,qS 0,qx,qI 4,qI 5])],[(4,[(.exit 0,[qn,qS 0,qx,qI 4])])],[]⟩
def Zp:FAnn:=⟨102,0,[qS 0,qI 1],[qI 0,qI 1],[(3,[qS 0,qI 1,qd,qe])],[(3,[(.exit 0,[qS 0,qI 1,qd,qe])])],[]⟩
def PO:FAnn:=⟨31,0,qr,qbe,[],[],[(2,[qS 0,qB 4]),(5,[qB 4,qS 5]),(8,[qB 4,qd])]⟩
def O6:FAnn:=⟨161,1,qdf,[qau,qh,qi,qI 0],[],[],[]⟩
def PQ:FAnn:=⟨162,1,[qau,qh,qi,qk,qbn],qdg,[],[],[]⟩
def M9:FAnn:=⟨96,1,qdf,qdg,[(4,[qb6,qn,qh,qi,qk,qS 2,qB 3,qB 4,qF 28 1,qI 29,qI 30])],[(4,[(.exit 0,[qau,qh,qi,qk,qS 2,qB 3,qB 4])])],[(16,[qau,qh,qi,qk,qS 2,qB 3]),(21,[qb6,qaw,qh,qi,qk,qS 2,qT 7 1])]⟩
def RJ:FAnn:=⟨25,0,qr,[qh,qq,qI 1,qI 2,qB 3],[(4,qb2)],[(4,[(.exit 0,qb2)])],[(8,qb2)]⟩
def PM:FAnn:=⟨117,0,qcs,qb,[],[],[]⟩
def dr:FAnn:=⟨188,0,qab,qai,[(1,qab)],[(1,[(.exit 0,qab)])],[]⟩
def Zw:FAnn:=⟨133,0,qc0,qbx,[],[],[]⟩
def di:FAnn:=⟨72,0,qg,ql,[(3,[qj,qa,qI 0,qae,qF 3 1,qI 4])],[(3,[(.exit 0,[qj,qa,qI 0,qae,qF 3 1])])],[]⟩
def dE:FAnn:=⟨118,0,qg,qc,[],[],[]⟩
def dk:FAnn:=⟨176,0,qbc,qao,[],[],[]⟩
def Zk:FAnn:=⟨119,0,qaf,qbz,[(5,[qz,qF 4 0,qC 10 (.im Yq1),qI 11,qI 12])],[(5,[(.exit 0,qdh)])],[]⟩
def W5:FAnn:=⟨216,0,ql,qb,[(2,[qj,qT 1 0,qC 7 (.im (.int .i64)),qI 8,qf])],[(2,[(.exit 0,[qj,qT 1 0]),(.ret,[qB 2])])],[]⟩
def dq:FAnn:=⟨217,0,qaa,qg,[(6,qcw)],[(6,[(.exit 0,[]),(.ret,qan)])],[]⟩
def Xj:FAnn:=⟨239,0,qa2,qdi,[(4,qcy)],[(4,[(.exit 0,qcz)])],[]⟩
def jC:FAnn:=⟨240,0,qa2,qai,[(3,[qa,qI 1,qah,qC 13 (.im (.int .i64)),qI 14,qI 15])],[(3,[(.exit 0,qaz)])],[]⟩
def Xi:FAnn:=⟨241,0,[qp,qo,qI 2],qg,[(5,qdj)],[(5,[(.exit 0,[qf])])],[(6,qdj)]⟩
def Zv:FAnn:=⟨276,0,qa2,qg,[],[],[]⟩
def Zu:FAnn:=⟨242,1,[qa,qq,qo,qI 2,qI 3],[qa,qI 0],[(3,[qa,qq,qo,qI 2,qI 3,qf,qI 10])],[(3,[(.exit 0,[qa,qf])])],[(10,[qa,qq,qo,qI 2,qI 3,qf,qI 10,qI 11])]⟩
def Zs:FAnn:=⟨243,1,[qa,qq,qo,qI 2],qdk,[(2,[qa,qq,qo,qI 2,qd,qe])],[(2,[(.exit 0,qdk)])],[]⟩
def Zt:FAnn:=⟨244,0,qa2,qai,[(3,[qa,qp,qI 1,qah,qI 11,qI 12])],[(3,[(.exit 0,qaz)])],[]⟩
def PX:FAnn:=⟨189,0,qaa,qdi,[(7,qdl),(13,[qa,qa,qa,qd,qF 7 0,qF 8 1,qF 9 2,qI 10])],[(7,[(.exit 0,qdl)]),(13,[(.exit 2,[qa,qa,qd,qF 7 0,qF 9 1])])],[]⟩
def dw:FAnn:=⟨134,0,qaa,qai,[(1,qaa)],[(1,[(.exit 0,qab)])],[]⟩
def W6:FAnn:=⟨311,0,qc,qb,[],[],[]⟩
def Xc:FAnn:=⟨297,0,qc,qb,[],[],[]⟩
def TN:FAnn:=⟨270,0,qam,qb,[(2,[qt,qC 5 (.im (.pair Yq0 Yq0)),qd,qe])],[(2,[(.exit 0,qam),(.ret,[qB 2])])],[]⟩
def TQ:FAnn:=⟨298,0,qc,qb,[],[],[]⟩
def dm:FAnn:=⟨271,0,qao,qb,[],[],[]⟩
def PY:FAnn:=⟨232,0,qaa,qai,[(3,qdm),(7,qdn)],[(3,[(.exit 0,qaz)]),(7,[(.exit 2,qdm)])],[(9,qdn)]⟩
def dy:FAnn:=⟨179,0,qw,ql,[],[],[]⟩
def TV:FAnn:=⟨215,0,qw,qg,[],[],[]⟩
def dC:FAnn:=⟨168,0,qaj,qg,[],[],[]⟩
def TR:FAnn:=⟨316,0,qby,qc,[],[],[]⟩
def Xe:FAnn:=⟨313,0,[qat,qB 1,qa9,qB 3],qg,[],[],[]⟩
def dz:FAnn:=⟨136,0,ql,ql,[],[],[]⟩
def dG:FAnn:=⟨301,0,qc,qc,[],[],[]⟩
def PR:FAnn:=⟨230,0,qaa,qai,[(4,qa3)],[(4,[(.exit 0,qaz)])],[(6,qa3)]⟩
def PZ:FAnn:=⟨231,0,qaa,qai,[(4,[qa,qp,qo,qah,qd,qI 10,qI 11])],[(4,[(.exit 0,qaz)])],[]⟩
def dp:FAnn:=⟨178,0,qw,ql,[],[],[]⟩
def dt:FAnn:=⟨135,0,qw,qw,[],[],[]⟩
def Zy:FAnn:=⟨71,0,qw,qc,[],[],[]⟩
def dB:FAnn:=⟨121,0,qaj,qc,[],[],[]⟩
def dH:FAnn:=⟨274,0,qaj,qc,[],[],[]⟩
def dD:FAnn:=⟨275,0,qaj,qc,[],[],[]⟩
def dF:FAnn:=⟨171,0,qaj,qc,[],[],[]⟩
def W9:FAnn:=⟨318,0,[qa4,qb9,qa9],qc,[],[],[]⟩
def Zm:FAnn:=⟨317,0,qc4,qao,[],[],[]⟩
def Zo:FAnn:=⟨314,0,[qat,qbi,qB 2,qca],qao,[],[],[]⟩
def Xb:FAnn:=⟨300,0,[qt,qB 1,qa9,qB 3],qa1,[(3,[qag,qz,qt,qB 1,qB 3,qT 6 0,qF 9 1,qC 15 (.im (.pair Yq0 Yq0)),qI 16,qI 17])],[(3,[(.exit 0,[qz,qF 9 0])])],[]⟩
def Zn:FAnn:=⟨273,0,qbf,qa1,[],[],[]⟩
def Zx:FAnn:=⟨70,0,qc,qa8,[],[],[]⟩
def W8:FAnn:=⟨312,0,qao,qby,[],[],[]⟩
def Zl:FAnn:=⟨299,0,qam,qb3,[(3,[qz,qF 4 0,qC 9 (.im (.pair Yq0 Yq0)),qI 10,qI 11])],[(3,[(.exit 0,qdh),(.ret,[qC 2 (.im (.pair Yq0 Yq0)),qB 3])])],[]⟩
def Xd:FAnn:=⟨272,0,qam,qb3,[],[],[]⟩
def W3:FAnn:=⟨228,0,qbf,qb3,[],[],[]⟩
def Xa:FAnn:=⟨229,0,qam,qc,[(3,qc5)],[(3,[(.exit 0,qc6)])],[]⟩
def TS:FAnn:=⟨177,0,qc7,qa8,[],[],[]⟩
def TP:FAnn:=⟨120,0,qc8,qbg,[(5,qbh),(8,qc9)],[(5,[(.exit 0,qda),(.ret,qas)]),(8,[(.exit 2,qbh),(.ret,qas)])],[]⟩
def RL:FAnn:=⟨51,0,qal,qbg,[(6,[qu,qh,qac,qy,qF 6 1,qF 10 2,qI 11]),(10,qdo),(17,[qu,qac,qh,qy,qax,qF 49 2,qI 50,qI 51,qC 68 (.im Yq0),qI 69,qI 70])],[(6,[(.exit 0,[qu,qh,qac,qy,qF 6 1,qF 10 2])]),(10,[(.exit 2,qdc),(.ret,qas)]),(17,[(.exit 4,qdo),(.ret,qas)])],[]⟩
def dI:FAnn:=⟨167,0,qc,qc,[],[],[]⟩
def dA:FAnn:=⟨218,0,qw,ql,[],[],[]⟩
def Xk:FAnn:=⟨170,0,qc,ql,[],[],[]⟩
def dj:FAnn:=⟨169,0,ql,qbe,[(8,[qj,qT 1 0,qI 5,qd])],[(8,[(.exit 0,[qj,qT 1 0,qI 5])])],[]⟩
def Xf:FAnn:=⟨108,0,qc,qg,[],[],[]⟩
def PN:FAnn:=⟨38,0,qal,qb0,[(6,[qa,qF 8 0,qC 19 (.im Yq0),qI 20,qI 21])],[(6,[(.exit 0,[qa,qF 8 0])])],[]⟩
def Zq:FAnn:=⟨183,0,qab,qb,[(2,[qp,qbr,qd,qe])],[(2,[(.exit 0,qab),(.ret,[qB 2])])],[]⟩
def PP:FAnn:=⟨184,0,qb1,qr,[(3,[qS 7,qbp,qI 19,qI 20])],[(3,[(.exit 0,[qS 7])])],[]⟩
def M8:FAnn:=⟨125,0,qb1,qar,[],[],[]⟩
def W4:FAnn:=⟨63,0,qal,qar,[],[],[]⟩
def Zh:FAnn:=⟨113,0,qab,qdp,[(3,[qav,qx,qC 8 (.im (.int .i64)),qf,qI 10])],[(3,[(.exit 0,qdq)])],[]⟩
def P3:FAnn:=⟨83,0,qbw,qr,[],[],[]⟩
def TI:FAnn:=⟨112,0,qaf,qr,[(3,[qn,qx,qbb,qI 8,qf])],[(3,[(.exit 0,[qn,qx])])],[]⟩
def WW:FAnn:=⟨45,0,qal,qdr,[(6,[qu,qa,qn,qy,qF 6 1,qF 8 2,qI 20,qI 21])],[(6,[(.exit 0,qds)])],[]⟩
def Xg:FAnn:=⟨111,0,qab,qdp,[(3,[qav,qx,qC 7 (.im (.int .i64)),qI 8,qf])],[(3,[(.exit 0,qdq)])],[]⟩
def Xh:FAnn:=⟨110,0,qaf,qr,[(3,[qS 3,qbl,qe,qI 8])],[(3,[(.exit 0,[qS 3])])],[(7,[qci,qS 3,qT 5 0,qbl,qe,qI 8])]⟩
def W7:FAnn:=⟨44,0,qal,qdr,[(6,[qu,qa,qn,qy,qF 6 1,qF 8 2,qf])],[(6,[(.exit 0,qds)])],[]⟩
def J7:FAnn:=⟨127,0,qbd,qar,[],[],[]⟩
def O2:FAnn:=⟨66,0,qr,[qa,qI 0,qI 1,qF 2 0,qB 3],[(2,[qS 0,qd]),(5,[qS 0,qd,qe]),(11,[qa,qd,qe,qv,qC 41 (.im (.int .u8)),qI 42,qI 43])],[(2,[(.exit 0,[]),(.ret,qdt)]),(5,[(.exit 2,[qS 0,qd]),(.ret,qdt)]),(11,[(.exit 4,[qa,qd,qe,qv])])],[]⟩
def TL:FAnn:=⟨54,0,qaa,qb,[(4,[qp,qo,qI 12,qI 13])],[(4,[(.exit 0,[]),(.ret,[qB 4])])],[]⟩
def RO:FAnn:=⟨129,0,qbd,[qS 0,qS 1,qB 2],[],[],[]⟩
def Tq:FAnn:=⟨130,0,qaf,qb,[(3,[qa6,qI 3,qbl,qe,qI 8])],[(3,[(.exit 0,[]),(.ret,[qB 2])])],[]⟩
def Tv:FAnn:=⟨67,0,qr,[qav,qq,qB 1],[(8,[qav,qn,qS 0,qah,qF 23 1,qI 24,qI 25])],[(8,[(.exit 0,[qav,qS 0,qah])])],[]⟩
def df:FAnn:=⟨131,0,qaf,qai,[(3,qdu),(6,[qa,qci,qx,qT 5 1,qbb,qI 8,qf,qI 14,qI 15])],[(3,[(.exit 0,qdd)]),(6,[(.exit 2,qdu)])],[]⟩
def Tn:FAnn:=⟨68,0,qaf,qb0,[],[],[]⟩
def TK:FAnn:=⟨56,0,qbv,qg,[(3,[qI 3,qC 6 (.im (.int .u8)),qe,qI 8])],[(3,[(.exit 0,[qI 3])])],[]⟩
def TD:FAnn:=⟨204,0,qbc,qb,[],[],[]⟩
def EN:FAnn:=⟨255,0,qdv,qg,[(2,[qa6,.slot 1 (.clo 204),qe,qI 8])],[(2,[(.exit 0,[]),(.ret,qan)])],[]⟩
def D3:FAnn:=⟨203,0,qdv,qb,[],[],[]⟩
def Zb:FAnn:=⟨151,0,qaf,qb,[],[],[]⟩
def cZ:FAnn:=⟨88,0,qaf,qb,[],[],[]⟩
def WP:FAnn:=⟨105,0,[qa6,qbn],[qi,qq,qB 1],[(5,[qaw,qi,qy,qF 6 1,qC 18 (.im Yq1),qI 19,qI 20])],[(5,[(.exit 0,[qi,qF 6 0])])],[]⟩
def PC:FAnn:=⟨87,0,qaf,qb,[],[],[]⟩
def Ek:FAnn:=⟨150,0,qdw,qg,[(2,[qa5,.slot 1 (.clo 87),qe,qI 8])],[(2,[(.exit 0,[]),(.ret,qan)])],[]⟩
def DA:FAnn:=⟨86,0,qdw,qb,[],[],[]⟩
def Tr:FAnn:=⟨20,0,qa0,qb,[],[],[]⟩
def RA:FAnn:=⟨18,0,qa0,qar,[(5,qdx),(8,[qn,qF 4 0,qbj,qI 16,qI 17,qcg,qI 22,qI 23])],[(5,[(.exit 0,[qn,qF 4 0])]),(8,[(.exit 2,qdx)])],[(13,[qn,qaw,qF 4 0,qT 8 1,qS 9,qbj,qI 16,qI 17,qcg,qI 22,qI 23])]⟩
def Ts:FAnn:=⟨33,0,[qS 0,qbn],qar,[(6,[qaw,qb8,qy,qax,qC 30 (.im (.sl Yq1)),qI 31,qI 32])],[(6,[(.exit 0,[qb8,qv]),(.ret,[qS 4,qB 5])])],[]⟩
def PL:FAnn:=⟨11,0,[qC 0 (.im (.int .u8)),qa7],qb,[(12,[qu,qn,qn,qa,qa7,qS 5,qT 6 0,qS 7,qB 8,qad,qF 13 2,qF 15 3,qI 106,qI 107]),(22,[qu,qa,qn,qa7,qS 5,qT 6 0,qF 15 1,qF 155 2,qI 156,qI 157])],[(12,[(.exit 0,[qu,qn,qa,qa7,qS 5,qT 6 0,qS 7,qB 8,qad,qF 15 2]),(.ret,[qB 4])]),(22,[(.exit 2,[qu,qa,qa7,qS 5,qT 6 0,qF 15 1]),(.ret,[qB 4])])],[]⟩
def uF:List FAnn:=[PS,PU,RM,O7,Nb,TY,RN,PW,jB,Zj,dJ,dK,TO,QP,Zr,TT,RK,TW,Na,PT,Mw,O5,Zi,O8,EO,D4,PK,Lf,P0,TG,P1,PF,O4,RI,Y9,M7,Rz,PD,cV,dh,Zg,Ry,Dc,CL,WN,TA,El,DB,Za,Tl,O0,Mv,M6,pf,TF,Ca,cX,WI,TE,WH,PI,WO,WX,O1,cY,PB,Em,DC,Tp,PJ,Tu,Le,Zd,WJ,WU,Tz,TJ,WF,WG,dc,WR,WV,WS,WT,pg,jz,WZ,Zf,Ze,W1,O3,WL,Tt,TH,PH,Tw,W2,Tx,RG,WE,WQ,WK,M4,RD,cW,Zc,WY,PE,PG,C1,Cm,TC,jA,M5,WM,TU,Zp,PO,O6,PQ,M9,RJ,PM,dr,Zw,di,dE,dk,Zk,W5,dq,Xj,jC,Xi,Zv,Zu,Zs,Zt,PX,dw,W6,Xc,TN,TQ,dm,PY,dy,TV,dC,TR,Xe,dz,dG,PR,PZ,dp,dt,Zy,dB,dH,dD,dF,W9,Zm,Zo,Xb,Zn,Zx,W8,Zl,Xd,W3,Xa,TS,TP,RL,dI,dA,Xk,dj,Xf,PN,Zq,PP,M8,W4,Zh,P3,TI,WW,Xg,Xh,W7,J7,O2,TL,RO,Tq,Tv,df,Tn,TK,TD,EN,D3,Zb,cZ,WP,PC,Ek,DA,Tr,RA,Ts,PL]
def Ab3:Rel:=fun _ _ _ _ _=>False
def cfC:Cfg:=Pf [Ca] fun _=>false
def ZP:List (FuncId×TypeId×Nat×Bool):=[(246,3,Ty.size (.int .i64),true)]
theorem MJ:CloneOK Tryz.prog (246,3,Ty.size (.int .i64),true):=⟨Tryz.f246,22,4,xX,Ak5,Tryz.func246,by kernel_rfl,by kernel_rfl,rfl,Ap8,rfl,ty3,by kernel_rfl,rfl,rfl⟩
theorem rN:∀x∈ZP,CloneOK Tryz.prog x:=by
 intro x hx;simp only[ZP,zc1,List.not_mem_nil,or_false]at hx;rcases hx with rfl
 exact MJ
structure LibJ (J:Il):Prop where
 tab:Ae1 Tryz.prog J "internal/strconv.uint64pow10" .u64 Lib.pow10Tab
 max:uq J 2
 syn:uu Tryz.prog J "strconv.ErrSyntax"
 rng:uu Tryz.prog J "strconv.ErrRange"
def Ag3:Rel:=fun g args blks r blks'=>ZO (EX Tryz.prog cfC Ab3) ZP g args blks r blks'\/bz 91 9 g args blks r blks'\/Qe 155 g args blks r blks'\/gq 101 g args blks r blks'\/gS 82 g args blks r blks'\/og Tryz.prog LibJ 126 85 123 128 g args blks r blks'\/gT 83 g args blks r blks'\/gA 127 g args blks r blks'\/ng 129 g args blks r blks'
theorem r7:Pd Tryz.prog 91:=⟨Tryz.f91,Tryz.func91,by kernel_rfl,by kernel_rfl⟩
theorem gF:Pd Tryz.prog 155:=⟨Tryz.f155,Tryz.func155,by kernel_rfl,by kernel_rfl⟩
theorem vf:Pd Tryz.prog 101:=⟨Tryz.f101,Tryz.func101,by kernel_rfl,by kernel_rfl⟩
theorem vh:Pd Tryz.prog 82:=⟨Tryz.f82,Tryz.func82,by kernel_rfl,by kernel_rfl⟩
theorem yI:Pd Tryz.prog 126:=⟨Tryz.f126,Tryz.func126,by kernel_rfl,by kernel_rfl⟩
theorem vi:Pd Tryz.prog 83:=⟨Tryz.f83,Tryz.func83,by kernel_rfl,by kernel_rfl⟩
theorem vg:Pd Tryz.prog 127:=⟨Tryz.f127,Tryz.func127,by kernel_rfl,by kernel_rfl⟩
theorem yH:Pd Tryz.prog 129:=⟨Tryz.f129,Tryz.func129,by kernel_rfl,by kernel_rfl⟩
theorem j8{J:Il}(hJ:LibJ J):∀g args blks r blks',Ag3 g args blks r blks'->CSpec Tryz.prog J g args blks r blks':=by
 intro g args blks r blks' h;rcases h with h|h|h|h|h|h|h|h|h
 ·exact ck (by kernel_rfl) rN _ _ _ _ _ h
 ·exact oO r7 Tryz.strings_Split hJ.max _ _ _ _ _ h
 ·exact cp gF Tryz.strings_Contains hJ.max _ _ _ _ _ h
 ·exact rH vf Tryz.strconv_Atoi_ok Tryz.strconv_Atoi_syntax_var Tryz.strconv_Atoi_range_var hJ.syn hJ.rng _ _ _ _ _ h
 ·exact sK vh Tryz.strconv_Itoa hJ.tab _ _ _ _ _ h
 ·exact wL yI hJ _ _ _ _ _ h
 ·exact sM vi Tryz.strings_Join_none Tryz.strings_Join _ _ _ _ _ h
 ·exact rT vg Tryz.strings_CutPrefix _ _ _ _ _ h
 ·exact u5 yH Tryz.strings_Cut hJ.max _ _ _ _ _ h
def cf0:Cfg:=Pf uF fun g=>([246,91,155,101,82,126,83,127,129]:List Nat).contains g
abbrev RR:Rel:=EX Tryz.prog cf0 Ag3
structure OKE where
 E:Ent
 k:Ch RR E
 r:cf0.byref E.a.g=(GI E.a.params).map aW
theorem Ao1:∀l:List OKE,mB RR cf0 (l.map (·.E))
 |[]=>trivial
 |x::l=>⟨⟨x.k,x.r⟩,Ao1 l⟩
def fq(a:FAnn)(F:CC a.params->Option (CC a.res))(l:List OKE){fn:Func}(h0:Tryz.prog.funcs[a.g]? =some fn)(h1:fn.body.isSome=true:=by rfl)(h2:R3 fn (fn.body.get h1) (Gg a.params).length=true:=by kernel_rfl)(h3:cf0.isExt a.g=false:=by rfl)(h:Qh uF a.g=some a:=by kernel_rfl)(hF:∀x,wtF ⟨UY,R8,[],[4],l.map (·.E),a⟩ fn x=F x:=by intro _;kernel_rfl)(hr:cf0.byref a.g=(GI a.params).map aW:=by rfl):OKE:=
 ⟨⟨a,F⟩,Q3 (X:=⟨UY,R8,[],[4],l.map (·.E),a⟩) ⟨uf,Vq,r8⟩ (Uc (Ao1 l)) (pq h) ⟨h0,(Option.some_get h1).symm,h2,h3⟩ hF,hr⟩
def nu{α:Type}:List (Ex×α)->Ex->Option α
 |[],_=>none
 |(e,x)::l,i=>cond (Vy e i) (some x) (nu l i)
theorem Nl{α β:Type}(f:α->β):∀(l:List (Nat×α))(r:Nat),Fd (l.map fun p=>(p.1,f p.2)) r=(Fd l r).map f
 |[],_=>rfl
 |(n,a)::l,r=>by
  show cond (Nat.beq n r) (some (f a)) (Fd (l.map fun p=>(p.1,f p.2)) r)=Option.map f (cond (Nat.beq n r) (some a) (Fd l r));rw[Nl f l r];cases Nat.beq n r<;>rfl
theorem VA:∀(l:List (Ex×List Item))(i:Ex),(RP l i).map CG=nu (l.map fun q=>(q.1,CG q.2)) i
 |[],_=>rfl
 |(e,x)::l,i=>by
  show Option.map CG (cond (Vy e i) (some x) (RP l i))=cond (Vy e i) (some (CG x)) (nu (l.map fun q=>(q.1,CG q.2)) i);rw[<-VA l i];cases Vy e i<;>rfl
theorem uO{tab:List FAnn}{ext:FuncId->Bool}{X:TX}(a:FAnn)(h:Qh tab X.ann.g=some a)(e1:(a.heads.map fun p=>(p.1,CG p.2))=X.ann.heads.map fun p=>(p.1,CG p.2))
  (e2:(a.outs.map fun p=>(p.1,p.2.map fun q=>(q.1,CG q.2)))=X.ann.outs.map fun p=>(p.1,p.2.map fun q=>(q.1,CG q.2))) (e3:(a.joins.map fun p=>(p.1,CG p.2))=X.ann.joins.map fun p=>(p.1,CG p.2))
  (e4:CG a.res=CG X.ann.res) (e5:CG a.params=CG X.ann.params) (e6:GF (Yk (C8 a.res) a.e 0 (C8 a.res))=GF (Yk (C8 X.ann.res) X.ann.e 0 (C8 X.ann.res))):CfOK (Pf tab ext) X.ann.g X where
 live r an hr:=by
  have k:=congrArg (fun l=>Fd l r) e1;simp only[Nl,hr,zd7]at k;cases hf:Fd a.heads r with
  |none=>rw[hf]at k;cases k
  |some l=>
   rw[hf]at k;simp only[Pf,h,za0,hf];exact zv k
 out r outs ex an hr he:=by
  have k:=congrArg (fun l=>Fd l r) e2;simp only[Nl (fun q:List (Ex×List Item)=>q.map fun q=>(q.1,CG q.2)),hr,zd7]at k;cases hf:Fd a.outs r with
  |none=>rw[hf]at k;cases k
  |some l=>
   rw[hf]at k;have k3:(l.map fun q=>(q.1,CG q.2))=outs.map fun q=>(q.1,CG q.2):=zv k
   have k2:(RP l ex).map CG=(RP outs ex).map CG:=by rw[VA,VA,k3]
   rw[he]at k2;simp only[Pf,h,za0,hf];cases hg:RP l ex with
   |none=>rw[hg]at k2;cases k2
   |some q=>rw[hg]at k2;exact zv k2
 join r an hr:=by
  have k:=congrArg (fun l=>Fd l r) e3;simp only[Nl,hr,zd7]at k;cases hf:Fd a.joins r with
  |none=>rw[hf]at k;cases k
  |some l=>
   rw[hf]at k;simp only[Pf,h,za0,hf];exact congrArg some (zv k)
 nojoin r hr:=by
  have k:=congrArg (fun l=>Fd l r) e3;simp only[Nl,hr,Option.map_none]at k;cases hf:Fd a.joins r with
  |none=>simp only[Pf,h,za0,hf]
  |some l=>rw[hf]at k;cases k
 res:=by simp only[Pf,h];rw[e4]
 par:=by simp only[Pf,h];rw[e5]
 rts:=by simp only[Pf,h];rw[e6]
def FY (a0:Tq10):Option (Tq13×Int):=(bif decide (a0.2.1<(a0.1.length:Int))then(AA a0.1 a0.2.1).bind fun x0=>some (zb ((a0.1,a0.2.1,a0.2.2),(zi zj x0)))else some (zb ((a0.1,a0.2.1,a0.2.2),(0:Int)))).bind fun x1=>Sum.elim (fun x2=>some x2) (fun x3=>bif decide ((zi zj (x3.1.2.1+1))<=(x3.1.1.length:Int))then some ((x3.1.1,(zi zj (x3.1.2.1+1)),(zi zk ((zi zk ((zi zk (x3.1.2.2*6364136223846793005))+(zi zk x3.2)))+1442695040888963407))),x3.2)else some ((x3.1.1,(zi zj (x3.1.2.1+1)),(zi zk ((zi zk ((zi zk (x3.1.2.2*6364136223846793005))+(zi zk x3.2)))+1442695040888963407))),(zi zj (uE Go.IntKind.u64 (oM Go.IntKind.u64 (zi zk ((zi zk ((zi zk (x3.1.2.2*6364136223846793005))+(zi zk x3.2)))+1442695040888963407)) (40:Int)) (255:Int))))) x1
def Y3:OKE:=fq PS (fun x=>FY x) [] Tryz.func209
def Ai (a0:Tq10) (a1:Int):Option (Tq13×Int):=bif decide (a1<=1)then some ((a0.1,a0.2.1,a0.2.2),(0:Int))else(FY (a0.1,a0.2.1,a0.2.2)).bind fun x0=>bif decide (a1>200)then(FY (x0.1.1,x0.1.2.1,x0.1.2.2)).bind fun x1=>bif(a1==0)then none else some ((x1.1.1,x1.1.2.1,x1.1.2.2),(Int.tmod (zi zj ((zi zj (x0.2*256))+x1.2)) a1))else bif(a1==0)then none else some ((x0.1.1,x0.1.2.1,x0.1.2.2),(Int.tmod x0.2 a1))
def Cl:OKE:=fq PU (fun x=>Ai x.1 x.2) [Y3] Tryz.func159
def AU (a0:Tq10) (a1:Int):Option (Tq13×Bool):=(Ai (a0.1,a0.2.1,a0.2.2) a1).bind fun x0=>some ((x0.1.1,x0.1.2.1,x0.1.2.2),(x0.2==0))
def Fn:OKE:=fq RM (fun x=>AU x.1 x.2) [Cl] Tryz.func158
def DN (a0:Tq10) (a1:List Int):Option (Tq13×Int):=(Ai (a0.1,a0.2.1,a0.2.2) (a1.length:Int)).bind fun x0=>(AA a1 x0.2).bind fun x1=>some ((x0.1.1,x0.1.2.1,x0.1.2.2),x1)
def OY:OKE:=fq O7 (fun x=>DN x.1 x.2) [Cl] Tryz.func97
def Gq (a0:Tq10):Option (Tq13×Int×Int×Int×Int):=(Ai (a0.1,a0.2.1,a0.2.2) 7).bind fun x0=>(Ai (x0.1.1,x0.1.2.1,x0.1.2.2) 7).bind fun x1=>(Ai (x1.1.1,x1.1.2.1,x1.1.2.2) 4).bind fun x2=>(Ai (x2.1.1,x2.1.2.1,x2.1.2.2) 4).bind fun x3=>(AU (x3.1.1,x3.1.2.1,x3.1.2.2) 20).bind fun x4=>bif x4.2 then(DN (x4.1.1,x4.1.2.1,x4.1.2.2) ([(-(20:Int)),20,21]:List Int)).bind fun x5=>(Ai (x5.1.1,x5.1.2.1,x5.1.2.2) 3).bind fun x6=>(DN (x6.1.1,x6.1.2.1,x6.1.2.2) ([0,8,9]:List Int)).bind fun x7=>some ((x7.1.1,x7.1.2.1,x7.1.2.2),x5.2,x6.2,x7.2,(1:Int))else some ((x4.1.1,x4.1.2.1,x4.1.2.2),(zi zj (x0.2-3)),(zi zj (x1.2-3)),(zi zj ((1:Int)+x2.2)),(zi zj ((1:Int)+x3.2)))
def Ve:OKE:=fq Nb (fun x=>Gq x) [Cl,Fn,OY] Tryz.func173
def Ib (a0:Tq10):Option (Tq13×Int×Int):=(AU (a0.1,a0.2.1,a0.2.2) 40).bind fun x0=>bif x0.2 then(DN (x0.1.1,x0.1.2.1,x0.1.2.2) ([(-(1000:Int)),1000,1001]:List Int)).bind fun x1=>(Ai (x1.1.1,x1.1.2.1,x1.1.2.2) 5).bind fun x2=>some ((x2.1.1,x2.1.2.1,x2.1.2.2),x1.2,x2.2)else(Ai (x0.1.1,x0.1.2.1,x0.1.2.2) 9).bind fun x3=>(Ai (x3.1.1,x3.1.2.1,x3.1.2.2) 9).bind fun x4=>some ((x4.1.1,x4.1.2.1,x4.1.2.2),(zi zj (x3.2-2)),(zi zj (x4.2-2)))
def gk:OKE:=fq TY (fun x=>Ib x) [Fn,OY,Cl] Tryz.func103
def G7 (s0:Tq10) (s1:Tq2) (s2:Int):Option (Tq10×Tq2×Int⊕Tq10×Tq2):=bif decide (s2>0)then(Ib (s0.1,s0.2.1,s0.2.2)).bind fun x0=>(BV 16 2 s1 ([(x0.2.1,x0.2.2)]:List (Int×Int))).bind fun x1=>some (zy ((x0.1.1,x0.1.2.1,x0.1.2.2),x1,(zi zj (s2-1))))else some (zb ((s0.1,s0.2.1,s0.2.2),s1))
def J0 (s0:Tq10) (s1:Tq2):Option (Tq10×Tq2⊕Tq10×Tq2):=(Ai (s0.1,s0.2.1,s0.2.2) 2).bind fun x0=>bif decide ((s1.length:Int)<(zi zj ((12:Int)+x0.2)))then(Ib (x0.1.1,x0.1.2.1,x0.1.2.2)).bind fun x1=>(BV 16 2 s1 ([(x1.2.1,x1.2.2)]:List (Int×Int))).bind fun x2=>some (zy ((x1.1.1,x1.1.2.1,x1.1.2.2),x2))else some (zb ((x0.1.1,x0.1.2.1,x0.1.2.2),s1))
def Jl (a0:Tq10):Option (Tq13×List (Int×Int)):=(Ai (a0.1,a0.2.1,a0.2.2) 4).bind fun x0=>bif(x0.2==0)then(Ai (x0.1.1,x0.1.2.1,x0.1.2.2) 6).bind fun x1=>(Ai (x1.1.1,x1.1.2.1,x1.1.2.2) 2).bind fun x2=>(Ai (x2.1.1,x2.1.2.1,x2.1.2.2) 3).bind fun x3=>(Ai (x3.1.1,x3.1.2.1,x3.1.2.2) 5).bind fun x4=>(Ai (x4.1.1,x4.1.2.1,x4.1.2.2) 2).bind fun x5=>(Ai (x5.1.1,x5.1.2.1,x5.1.2.2) 5).bind fun x6=>some ((x6.1.1,x6.1.2.1,x6.1.2.2),([((0:Int),(0:Int)),((zi zj ((2:Int)+x1.2)),x2.2),((zi zj ((3:Int)+x3.2)),(zi zj ((3:Int)+x4.2))),(x5.2,(zi zj ((2:Int)+x6.2)))]:List (Int×Int)))else bif(x0.2==1)then(Ai (x0.1.1,x0.1.2.1,x0.1.2.2) 4).bind fun x7=>(Ai (x7.1.1,x7.1.2.1,x7.1.2.2) 4).bind fun x8=>some ((x8.1.1,x8.1.2.1,x8.1.2.2),([((0:Int),(0:Int)),((6:Int),(0:Int)),((6:Int),(6:Int)),((4:Int),(6:Int)),((4:Int),(zi zj ((1:Int)+x7.2))),((2:Int),(zi zj ((1:Int)+x8.2))),((2:Int),(6:Int)),((0:Int),(6:Int))]:List (Int×Int)))else(Ai (x0.1.1,x0.1.2.1,x0.1.2.2) 4).bind fun x9=>(Ad (fun(s:Tq10×Tq2×Int)=>G7 s.1 s.2.1 s.2.2) ((x9.1.1,x9.1.2.1,x9.1.2.2),([]:List (Int×Int)),(zi zj ((3:Int)+x9.2)))).bind fun x10=>(AU (x10.1.1,x10.1.2.1,x10.1.2.2) 20).bind fun x11=>bif x11.2 then(Ad (fun(s:Tq10×Tq2)=>J0 s.1 s.2) ((x11.1.1,x11.1.2.1,x11.1.2.2),x10.2)).bind fun x12=>some ((x12.1.1,x12.1.2.1,x12.1.2.2),x12.2)else some ((x11.1.1,x11.1.2.1,x11.1.2.2),x10.2)
def ce:OKE:=fq RN (fun x=>Jl x) [Cl,gk,Fn] Tryz.func199
def B7 (s0:Tq10) (s1:List Tq2) (s2:Int):Option (Tq10×List Tq2×Int⊕Tq10×List Tq2):=bif decide (s2>0)then(Jl (s0.1,s0.2.1,s0.2.2)).bind fun x0=>(BV 24 1 s1 ([x0.2]:List Tq2)).bind fun x1=>some (zy ((x0.1.1,x0.1.2.1,x0.1.2.2),x1,(zi zj (s2-1))))else some (zb ((s0.1,s0.2.1,s0.2.2),s1))
def Ic (a0:Tq10):Option (Tq13×List Tq2):=(Ai (a0.1,a0.2.1,a0.2.2) 2).bind fun x0=>((AU (x0.1.1,x0.1.2.1,x0.1.2.2) 20).bind fun x1=>bif x1.2 then(Ai (x1.1.1,x1.1.2.1,x1.1.2.2) 6).bind fun x2=>some (zb ((x2.1.1,x2.1.2.1,x2.1.2.2),([]:List Tq2),x2.2))else some (zb ((x1.1.1,x1.1.2.1,x1.1.2.2),([]:List Tq2),(zi zj ((1:Int)+x0.2))))).bind fun x3=>Sum.elim (fun x4=>some x4) (fun x5=>(Ad (fun(s:Tq10×List Tq2×Int)=>B7 s.1 s.2.1 s.2.2) ((x5.1.1,x5.1.2.1,x5.1.2.2),x5.2.1,x5.2.2)).bind fun x6=>some ((x6.1.1,x6.1.2.1,x6.1.2.2),x6.2)) x3
def Y5:OKE:=fq PW (fun x=>Ic x) [Cl,Fn,ce] Tryz.func145
def BT (a0 a1 a2:Int):Option Bool:=bif decide (a0>=a1)then some (decide (a0<=a2))else some false
def Ld:OKE:=fq jB (fun x=>BT x.1 x.2.1 x.2.2) [] Tryz.func90
def He (a0:Int×Int):Option Bool:=(BT a0.1 (-(1000:Int)) 1000).bind fun x0=>bif x0 then(BT a0.2 (-(1000:Int)) 1000).bind fun x1=>some x1 else some false
def YX:OKE:=fq Zj (fun x=>He x) [Ld] Tryz.func166
def Jv (s0:Tq2) (s1 s2:Int):Option (Tq2×Int×Int⊕(Unit⊕Bool)):=bif decide (s2<s1)then(AA s0 s2).bind fun x0=>(He (x0.1,x0.2)).bind fun x1=>bif(!x1)then some (zb (zb false))else some (zy (s0,s1,(zi zj (s2+1))))else some (zb (zy ()))
def QJ (a0:Tq2):Option Bool:=(Ad (fun(s:Tq2×Int×Int)=>Jv s.1 s.2.1 s.2.2) (a0,(a0.length:Int),(0:Int))).bind fun x0=>Sum.elim (fun x1=>some true) (fun x2=>some x2) x0
def rA:OKE:=fq dJ (fun x=>QJ x) [YX] Tryz.func152
def MZ (a0:Tq2):Option Bool:=(BT (a0.length:Int) 3 12).bind fun x0=>bif x0 then(QJ a0).bind fun x1=>some x1 else some false
def cS:OKE:=fq dK (fun x=>MZ x) [Ld,rA] Tryz.func89
def FP (s0 s1:List Tq2) (s2 s3:Int):Option (List Tq2×List Tq2×Int×Int⊕(List Tq2⊕Bool)):=bif decide (s3<s2)then(AA s1 s3).bind fun x0=>(MZ x0).bind fun x1=>bif(!x1)then some (zb (zb false))else some (zy (s0,s1,s2,(zi zj (s3+1))))else some (zb (zy s0))
def Kr (a0:List Tq2):Option Bool:=(Ad (fun(s:List Tq2×List Tq2×Int×Int)=>FP s.1 s.2.1 s.2.2.1 s.2.2.2) (a0,a0,(a0.length:Int),(0:Int))).bind fun x0=>Sum.elim (fun x1=>(BT (x1.length:Int) 1 4).bind fun x2=>some x2) (fun x3=>some x3) x0
def gb:OKE:=fq TO (fun x=>Kr x) [cS,Ld] Tryz.func21
def U5 (self:Int->Option (List UInt8)) (a0:Int):Option (List UInt8):=bif decide (a0<10)then some (BK ([(zi .u8 (zi zj ((48:Int)+a0)))]:List Int))else(self (zi zj (Int.tdiv a0 10))).bind fun x0=>(Ds x0 (BK ([(zi .u8 (zi zj ((48:Int)+(Int.tmod a0 10))))]:List Int))).bind fun x1=>some x1
def I4:Nat->Int->Option (List UInt8)
 |0=>fun _=>none
 |n+1=>U5 (I4 n)
def YM (self:Int->Option (List UInt8)):Ent:=⟨QP,fun x=>self x⟩
def cU (self:Int->Option (List UInt8)):TX:=⟨UY,R8,[],[4],[YM self],QP⟩
theorem rE(self:(Int)->Option (List UInt8))(a0:Int):wtF (cU self) Tryz.f163 (a0)=U5 self a0:=by kernel_rfl
theorem Wq:∀n,Ch RR (YM (I4 n))
 |0=>fun x y _ _ _ h=>by cases h
 |n+1=>Q3 (X:=cU (I4 n)) ⟨uf,Vq,r8⟩ (Uc (by exact⟨⟨Wq n,rfl⟩,trivial⟩)) (pq (by kernel_rfl)) ⟨Tryz.func163,rfl,by kernel_rfl,rfl⟩ (fun x=>by exact rE (I4 n) x)
def Fl (a0:Int):Option (List UInt8):=I4 (a0.toNat+1) a0
def cJ:Ent:=⟨QP,fun x=>Fl x⟩
theorem mD:Ch RR cJ:=fun x=>Wq _ x
def Vg:OKE:=⟨cJ,mD,rfl⟩
def EV (a0:Int):Option (List UInt8):=bif decide (a0<0)then(Fl (zi zj ((0:Int)-a0))).bind fun x0=>(Ds ([45]:List UInt8) x0).bind fun x1=>some x1 else(Fl a0).bind fun x2=>some x2
def Y0:OKE:=fq Zr (fun x=>EV x) [Vg] Tryz.func99
def FR (s0:List UInt8) (s1:List Tq2) (s2 s3:Int) (s4:Tq2) (s5 s6:Int):Option (List UInt8×List Tq2×Int×Int×Tq2×Int×Int⊕List UInt8×List Tq2×Int×Int):=bif decide (s6<s5)then(AA s4 s6).bind fun x0=>(bif(s6==0)then(Ds s0 ([77,32]:List UInt8)).bind fun x1=>some (zb ((x0.1,x0.2),x1,s1,s2,s3,s4,s5,s6))else(Ds s0 ([76,32]:List UInt8)).bind fun x2=>some (zb ((x0.1,x0.2),x2,s1,s2,s3,s4,s5,s6))).bind fun x3=>Sum.elim (fun x4=>some x4) (fun x5=>(EV x5.1.1).bind fun x6=>(Ds x6 ([32]:List UInt8)).bind fun x7=>(EV x5.1.2).bind fun x8=>(Ds x7 x8).bind fun x9=>(Ds x9 ([32]:List UInt8)).bind fun x10=>(Ds x5.2.1 x10).bind fun x11=>some (zy (x11,x5.2.2.1,x5.2.2.2.1,x5.2.2.2.2.1,x5.2.2.2.2.2.1,x5.2.2.2.2.2.2.1,(zi zj (x5.2.2.2.2.2.2.2+1))))) x3 else some (zb (s0,s1,s2,s3))
def FQ (s0:List UInt8) (s1:List Tq2) (s2 s3:Int):Option (List UInt8×List Tq2×Int×Int⊕List UInt8):=bif decide (s3<s2)then(AA s1 s3).bind fun x0=>(bif decide (s3>0)then(Ds s0 ([32]:List UInt8)).bind fun x1=>some (zb (x1,x0,s1,s2,s3))else some (zb (s0,x0,s1,s2,s3))).bind fun x2=>Sum.elim (fun x3=>some x3) (fun x4=>(Ad (fun(s:List UInt8×List Tq2×Int×Int×Tq2×Int×Int)=>FR s.1 s.2.1 s.2.2.1 s.2.2.2.1 s.2.2.2.2.1 s.2.2.2.2.2.1 s.2.2.2.2.2.2) (x4.1,x4.2.2.1,x4.2.2.2.1,x4.2.2.2.2,x4.2.1,(x4.2.1.length:Int),(0:Int))).bind fun x5=>(Ds x5.1 ([90]:List UInt8)).bind fun x6=>some (zy (x6,x5.2.1,x5.2.2.1,(zi zj (x5.2.2.2+1))))) x2 else some (zb s0)
def Ks (a0:List Tq2):Option (List UInt8):=(Ad (fun(s:List UInt8×List Tq2×Int×Int)=>FQ s.1 s.2.1 s.2.2.1 s.2.2.2) (([]:List UInt8),a0,(a0.length:Int),(0:Int))).bind fun x0=>some x0
def gf:OKE:=fq TT (fun x=>Ks x) [Y0] Tryz.func84
def Jk (a0:List Tq2):Option Tq24:=(Kr a0).bind fun x0=>bif(!x0)then some (([]:List UInt8),false)else(Ks a0).bind fun x1=>bif decide ((x1.length:Int)>400)then some (([]:List UInt8),false)else some (x1,true)
def cb:OKE:=fq RK (fun x=>Jk x) [gb,gf] Tryz.func19
def Gp (a0:Tq10) (a1:Tq8):Option (Tq13×List UInt8):=(Ai (a0.1,a0.2.1,a0.2.2) (a1.length:Int)).bind fun x0=>(AA a1 x0.2).bind fun x1=>some ((x0.1.1,x0.1.2.1,x0.1.2.2),x1)
def gj:OKE:=fq TW (fun x=>Gp x.1 x.2) [Cl] Tryz.func100
def ET (s0:Tq10) (s1 s2:List UInt8) (s3:Int):Option (Tq10×List UInt8×List UInt8×Int⊕Tq10×List UInt8):=bif decide (s3>0)then bif decide ((s1.length:Int)>0)then(Ai (s0.1,s0.2.1,s0.2.2) (s1.length:Int)).bind fun x0=>(Ai (x0.1.1,x0.1.2.1,x0.1.2.2) (s2.length:Int)).bind fun x1=>(AA s2 x1.2).bind fun x2=>(Ai (x1.1.1,x1.1.2.1,x1.1.2.2) 3).bind fun x3=>bif(x3.2==0)then(Fx (0:Int) x0.2 (List.length s1)).bind fun x4=>(Ds (List.drop x4.1 (List.take x4.2 s1)) (BK ([(((UInt8.toNat x2):Nat):Int)]:List Int))).bind fun x5=>(Fx x0.2 (s1.length:Int) (List.length s1)).bind fun x6=>(Ds x5 (List.drop x6.1 (List.take x6.2 s1))).bind fun x7=>some (zy ((x3.1.1,x3.1.2.1,x3.1.2.2),x7,s2,(zi zj (s3-1))))else bif(x3.2==1)then(Fx (0:Int) x0.2 (List.length s1)).bind fun x8=>(Ds (List.drop x8.1 (List.take x8.2 s1)) (BK ([(((UInt8.toNat x2):Nat):Int)]:List Int))).bind fun x9=>(Fx (zi zj (x0.2+1)) (s1.length:Int) (List.length s1)).bind fun x10=>(Ds x9 (List.drop x10.1 (List.take x10.2 s1))).bind fun x11=>some (zy ((x3.1.1,x3.1.2.1,x3.1.2.2),x11,s2,(zi zj (s3-1))))else(Fx (0:Int) x0.2 (List.length s1)).bind fun x12=>(Fx (zi zj (x0.2+1)) (s1.length:Int) (List.length s1)).bind fun x13=>(Ds (List.drop x12.1 (List.take x12.2 s1)) (List.drop x13.1 (List.take x13.2 s1))).bind fun x14=>some (zy ((x3.1.1,x3.1.2.1,x3.1.2.2),x14,s2,(zi zj (s3-1))))else some (zb ((s0.1,s0.2.1,s0.2.2),s1))else some (zb ((s0.1,s0.2.1,s0.2.2),s1))
def Dr (a0:Tq10) (a1 a2:List UInt8):Option (Tq13×List UInt8):=(Ai (a0.1,a0.2.1,a0.2.2) 3).bind fun x0=>(Ad (fun(s:Tq10×List UInt8×List UInt8×Int)=>ET s.1 s.2.1 s.2.2.1 s.2.2.2) ((x0.1.1,x0.1.2.1,x0.1.2.2),a1,a2,x0.2)).bind fun x1=>some ((x1.1.1,x1.1.2.1,x1.1.2.2),x1.2)
def Vd:OKE:=fq Na (fun x=>Dr x.1 x.2.1 x.2.2) [Cl] Tryz.func160
def B6 (s0:Tq10) (s1:List UInt8) (s2:Int):Option (Tq10×List UInt8×Int⊕Tq10×List UInt8):=bif decide (s2>0)then(Gp (s0.1,s0.2.1,s0.2.2) ([([32,76,32,52,32,49]:List UInt8),([32,108,32,50,32,51]:List UInt8),([32,108,32,45,49,32,50]:List UInt8),([32,72,32,53]:List UInt8),([32,104,32,45,50]:List UInt8),([32,86,32,51]:List UInt8),([32,118,32,50]:List UInt8),([32,76,32,48,32,48]:List UInt8),([32,104,32,49]:List UInt8)]:List (List UInt8))).bind fun x0=>(Ds s1 x0.2).bind fun x1=>some (zy ((x0.1.1,x0.1.2.1,x0.1.2.2),x1,(zi zj (s2-1))))else some (zb ((s0.1,s0.2.1,s0.2.2),s1))
def FZ (a0:Tq10):Option (Tq13×List UInt8):=((AU (a0.1,a0.2.1,a0.2.2) 3).bind fun x0=>bif x0.2 then(Ic (x0.1.1,x0.1.2.1,x0.1.2.2)).bind fun x1=>(Jk x1.2).bind fun x2=>bif x2.2 then some (zy ((x1.1.1,x1.1.2.1,x1.1.2.2),x2.1))else some (zb (x1.1.1,x1.1.2.1,x1.1.2.2))else some (zb (x0.1.1,x0.1.2.1,x0.1.2.2))).bind fun x3=>Sum.elim (fun x4=>some x4) (fun x5=>(Ai (x5.1,x5.2.1,x5.2.2) 5).bind fun x6=>(EV x6.2).bind fun x7=>(Ds ([77,32]:List UInt8) x7).bind fun x8=>(Ds x8 ([32]:List UInt8)).bind fun x9=>(Ai (x6.1.1,x6.1.2.1,x6.1.2.2) 5).bind fun x10=>(EV x10.2).bind fun x11=>(Ds x9 x11).bind fun x12=>(Ai (x10.1.1,x10.1.2.1,x10.1.2.2) 4).bind fun x13=>(Ad (fun(s:Tq10×List UInt8×Int)=>B6 s.1 s.2.1 s.2.2) ((x13.1.1,x13.1.2.1,x13.1.2.2),x12,(zi zj ((2:Int)+x13.2)))).bind fun x14=>(Ds x14.2 ([32,90]:List UInt8)).bind fun x15=>((AU (x14.1.1,x14.1.2.1,x14.1.2.2) 4).bind fun x16=>bif x16.2 then(Ds x15 ([32,77,32,48,32,48,32,72,32,51,32,118,32,50,32,90]:List UInt8)).bind fun x17=>some (zb ((x16.1.1,x16.1.2.1,x16.1.2.2),x17))else some (zb ((x16.1.1,x16.1.2.1,x16.1.2.2),x15))).bind fun x18=>Sum.elim (fun x19=>some x19) (fun x20=>((AU (x20.1.1,x20.1.2.1,x20.1.2.2) 8).bind fun x21=>bif x21.2 then(Dr (x21.1.1,x21.1.2.1,x21.1.2.2) x20.2 ([77,76,90,32,48,45,57]:List UInt8)).bind fun x22=>some (zb ((x22.1.1,x22.1.2.1,x22.1.2.2),x22.2))else some (zb ((x21.1.1,x21.1.2.1,x21.1.2.2),x20.2))).bind fun x23=>Sum.elim (fun x24=>some x24) (fun x25=>(AU (x25.1.1,x25.1.2.1,x25.1.2.2) 12).bind fun x26=>bif x26.2 then(Gp (x26.1.1,x26.1.2.1,x26.1.2.2) ([([32,77,32,49,32,49]:List UInt8),([32,76,32,49,32,49]:List UInt8),([32,81]:List UInt8),([32,77,32,49]:List UInt8),([32,77,32,57,57,57,57,32,48]:List UInt8),([]:List UInt8)]:List (List UInt8))).bind fun x27=>(Ds x25.2 x27.2).bind fun x28=>some ((x27.1.1,x27.1.2.1,x27.1.2.2),x28)else some ((x26.1.1,x26.1.2.1,x26.1.2.2),x25.2)) x23) x18) x3
def Y4:OKE:=fq PT (fun x=>FZ x) [Fn,Y5,cb,Cl,Y0,gj,Vd] Tryz.func94
def H4 (a0:List Int):Option (List UInt8×Int×Int×Int×Int):=(Gq (a0,(0:Int),(0:Int))).bind fun x0=>(AU (x0.1.1,x0.1.2.1,x0.1.2.2) 4).bind fun x1=>bif x1.2 then(FZ (x1.1.1,x1.1.2.1,x1.1.2.2)).bind fun x2=>some (x2.2,(-(2:Int)),(-(2:Int)),(8:Int),(8:Int))else(FZ (x1.1.1,x1.1.2.1,x1.1.2.2)).bind fun x3=>some (x3.2,x0.2.1,x0.2.2.1,x0.2.2.2.1,x0.2.2.2.2)
def Ti:OKE:=fq Mw (fun x=>H4 x) [Ve,Fn,Y4] Tryz.func115
def Hb (a0:List Int):Option (List UInt8×Int×Int×Int×Int):=(H4 a0).bind fun x0=>some (x0.1,x0.2.1,x0.2.2.1,x0.2.2.2.1,x0.2.2.2.2)
def OX:OKE:=fq O5 (fun x=>Hb x) [Ti] Tryz.func65
def AE (a0 a1 a2:Int):Option Bool:=bif decide (a0>=a1)then some (decide (a0<=a2))else some false
def Eg:OKE:=fq Zi (fun x=>AE x.1 x.2.1 x.2.2) [] Tryz.func85
def E9 (a0 a1:List UInt8):Option Tq8:=QK a0 a1
def OU:Ent:=⟨O8,fun x=>E9 x.1 x.2⟩
theorem U6:Ch RR OU:=tW fun _ _ _ _ _ h=>Or.inr (Or.inl h)
def OZ:OKE:=⟨OU,U6,rfl⟩
def A7 (s0:Tq8) (s1:List UInt8) (s2 s3:Int):Option (Tq8×List UInt8×Int×Int⊕(Unit⊕Int)):=bif decide (s3<s2)then(AA s0 s3).bind fun x0=>bif(s1==x0)then some (zb (zb s3))else some (zy (s0,s1,s2,(zi zj (s3+1))))else some (zb (zy ()))
def C0 (a0:Tq8) (a1:List UInt8):Option Int:=(Ad (fun(s:Tq8×List UInt8×Int×Int)=>A7 s.1 s.2.1 s.2.2.1 s.2.2.2) (a0,a1,(a0.length:Int),(0:Int))).bind fun x0=>Sum.elim (fun x1=>some (-(1:Int))) (fun x2=>some x2) x0
def JL:OKE:=fq EO (fun x=>C0 x.1 x.2) [] Tryz.func259
def Bt (a0:Tq8) (a1:List UInt8):Option Bool:=(C0 a0 a1).bind fun x0=>some (decide (x0>=0))
def Ij:OKE:=fq D4 (fun x=>Bt x.1 x.2) [JL] Tryz.func208
def BB (a0:Tq15) (a1:List Tq2) (a2:Tq2) (a3:List UInt8):Option ((List (List UInt8)×Int×Bool)×List Tq2×List (Int×Int)×Int):=(Bt ([([77]:List UInt8),([76]:List UInt8),([108]:List UInt8),([72]:List UInt8),([86]:List UInt8),([104]:List UInt8),([118]:List UInt8),([90]:List UInt8)]:List (List UInt8)) a3).bind fun x0=>bif(!x0)then some ((a0.1,a0.2.1,a0.2.2),a1,a2,(2:Int))else bif((a3==([77]:List UInt8))==a0.2.2)then some ((a0.1,a0.2.1,a0.2.2),a1,a2,(4:Int))else bif(a3==([77]:List UInt8))then bif((a1.length:Int)==4)then bif((a1.length:Int)==4)then some ((a0.1,a0.2.1,a0.2.2),a1,a2,(5:Int))else some ((a0.1,a0.2.1,a0.2.2),a1,a2,(0:Int))else bif(a3==([90]:List UInt8))then bif decide ((a2.length:Int)<3)then bif decide ((a2.length:Int)<3)then some ((a0.1,a0.2.1,a0.2.2),a1,a2,(5:Int))else some ((a0.1,a0.2.1,a0.2.2),a1,a2,(0:Int))else bif(!(a3==([77]:List UInt8)))then bif(!(a3==([90]:List UInt8)))then bif((a2.length:Int)==12)then some ((a0.1,a0.2.1,a0.2.2),a1,a2,(5:Int))else some ((a0.1,a0.2.1,a0.2.2),a1,a2,(0:Int))else some ((a0.1,a0.2.1,a0.2.2),a1,a2,(0:Int))else some ((a0.1,a0.2.1,a0.2.2),a1,a2,(0:Int))else bif(!(a3==([77]:List UInt8)))then bif(!(a3==([90]:List UInt8)))then bif((a2.length:Int)==12)then some ((a0.1,a0.2.1,a0.2.2),a1,a2,(5:Int))else some ((a0.1,a0.2.1,a0.2.2),a1,a2,(0:Int))else some ((a0.1,a0.2.1,a0.2.2),a1,a2,(0:Int))else some ((a0.1,a0.2.1,a0.2.2),a1,a2,(0:Int))else bif(a3==([90]:List UInt8))then bif decide ((a2.length:Int)<3)then bif decide ((a2.length:Int)<3)then some ((a0.1,a0.2.1,a0.2.2),a1,a2,(5:Int))else some ((a0.1,a0.2.1,a0.2.2),a1,a2,(0:Int))else bif(!(a3==([77]:List UInt8)))then bif(!(a3==([90]:List UInt8)))then bif((a2.length:Int)==12)then some ((a0.1,a0.2.1,a0.2.2),a1,a2,(5:Int))else some ((a0.1,a0.2.1,a0.2.2),a1,a2,(0:Int))else some ((a0.1,a0.2.1,a0.2.2),a1,a2,(0:Int))else some ((a0.1,a0.2.1,a0.2.2),a1,a2,(0:Int))else bif(!(a3==([77]:List UInt8)))then bif(!(a3==([90]:List UInt8)))then bif((a2.length:Int)==12)then some ((a0.1,a0.2.1,a0.2.2),a1,a2,(5:Int))else some ((a0.1,a0.2.1,a0.2.2),a1,a2,(0:Int))else some ((a0.1,a0.2.1,a0.2.2),a1,a2,(0:Int))else some ((a0.1,a0.2.1,a0.2.2),a1,a2,(0:Int))
def YW:OKE:=fq PK (fun x=>BB x.1 x.2.1 x.2.2.1 x.2.2.2) [Ij] Tryz.func154
def EW (a0 a1:List UInt8):Option Bool:=K5 a0 a1
def K4:Ent:=⟨Lf,fun x=>EW x.1 x.2⟩
theorem Rr:Ch RR K4:=gx fun _ _ _ _ _ h=>Or.inr (Or.inr (Or.inl h))
def R1:OKE:=⟨K4,Rr,rfl⟩
def EC (a0:List UInt8):Option (Int×Bool):=U4 a0
def Ph:Ent:=⟨P0,fun x=>EC x⟩
theorem X7:Ch RR Ph:=uG fun _ _ _ _ _ h=>Or.inr (Or.inr (Or.inr (Or.inl h)))
def Pz:OKE:=⟨Ph,X7,rfl⟩
def Kp (a0:Int):Option Bool:=(AE a0 (-(9999:Int)) 9999).bind fun x0=>some x0
def f7:OKE:=fq TG (fun x=>Kp x) [Eg] Tryz.func98
def BU (a0:Int):Option (List UInt8):=YO a0
def Pi:Ent:=⟨P1,fun x=>BU x⟩
theorem X8:Ch RR Pi:=vZ fun _ _ _ _ _ h=>Or.inr (Or.inr (Or.inr (Or.inr (Or.inl h))))
def Ik:OKE:=⟨Pi,X8,rfl⟩
def HT (a0:List UInt8):Option (Int×Bool):=(EC a0).bind fun x0=>bif x0.2 then some ((0:Int),false)else(Kp x0.1).bind fun x1=>bif(!x1)then some ((0:Int),false)else(BU x0.1).bind fun x2=>bif(!(x2==a0))then some ((0:Int),false)else some (x0.1,true)
def YT:OKE:=fq PF (fun x=>HT x) [Pz,f7,Ik] Tryz.func30
def Ha (a0:Tq15) (a1:List Tq2) (a2:Tq2):Option ((List (List UInt8)×Int×Bool)×List Tq2×List (Int×Int)×Int×Bool):=bif(a0.2.1==(a0.1.length:Int))then some ((a0.1,a0.2.1,a0.2.2),a1,a2,(0:Int),false)else(AA a0.1 a0.2.1).bind fun x0=>(HT x0).bind fun x1=>bif x1.2 then some ((a0.1,(zi zj (a0.2.1+1)),a0.2.2),a1,a2,x1.1,x1.2)else some ((a0.1,a0.2.1,a0.2.2),a1,a2,x1.1,x1.2)
def Yc:OKE:=fq O4 (fun x=>Ha x.1 x.2.1 x.2.2) [YT] Tryz.func156
def Bp (a0:Tq15) (a1:List Tq2) (a2:Tq2) (a3:List UInt8) (a4:List Int):Option ((List (List UInt8)×Int×Bool)×List Tq2×List (Int×Int)×Int×Int):=(bif decide ((a2.length:Int)>0)then(AW (zi zj ((a2.length:Int)-1)) (List.length a2)).bind fun x0=>(AN a2 x0).bind fun x1=>some (zb ((a0.1,a0.2.1,a0.2.2),((0:Int),(0:Int)),(x1.1,x1.2),a1,a2,a3,a4))else some (zb ((a0.1,a0.2.1,a0.2.2),((0:Int),(0:Int)),((0:Int),(0:Int)),a1,a2,a3,a4))).bind fun x2=>Sum.elim (fun x3=>some x3) (fun x4=>bif(x4.2.2.2.2.2.1==([108]:List UInt8))then(AA x4.2.2.2.2.2.2 0).bind fun x5=>(AA x4.2.2.2.2.2.2 1).bind fun x6=>some ((x4.1.1,x4.1.2.1,x4.1.2.2),x4.2.2.2.1,x4.2.2.2.2.1,(zi zj (x4.2.2.1.1+x5)),(zi zj (x4.2.2.1.2+x6)))else bif(x4.2.2.2.2.2.1==([72]:List UInt8))then(AA x4.2.2.2.2.2.2 0).bind fun x7=>some ((x4.1.1,x4.1.2.1,x4.1.2.2),x4.2.2.2.1,x4.2.2.2.2.1,x7,x4.2.2.1.2)else bif(x4.2.2.2.2.2.1==([86]:List UInt8))then(AA x4.2.2.2.2.2.2 0).bind fun x8=>some ((x4.1.1,x4.1.2.1,x4.1.2.2),x4.2.2.2.1,x4.2.2.2.2.1,x4.2.2.1.1,x8)else bif(x4.2.2.2.2.2.1==([104]:List UInt8))then(AA x4.2.2.2.2.2.2 0).bind fun x9=>some ((x4.1.1,x4.1.2.1,x4.1.2.2),x4.2.2.2.1,x4.2.2.2.2.1,(zi zj (x4.2.2.1.1+x9)),x4.2.2.1.2)else bif(x4.2.2.2.2.2.1==([118]:List UInt8))then(AA x4.2.2.2.2.2.2 0).bind fun x10=>some ((x4.1.1,x4.1.2.1,x4.1.2.2),x4.2.2.2.1,x4.2.2.2.2.1,x4.2.2.1.1,(zi zj (x4.2.2.1.2+x10)))else(AA x4.2.2.2.2.2.2 0).bind fun x11=>(AA x4.2.2.2.2.2.2 1).bind fun x12=>some ((x4.1.1,x4.1.2.1,x4.1.2.2),x4.2.2.2.1,x4.2.2.2.2.1,x11,x12)) x2
def b8:OKE:=fq RI (fun x=>Bp x.1 x.2.1 x.2.2.1 x.2.2.2.1 x.2.2.2.2) [] Tryz.func157
def Ee (a0:Int×Int):Option Bool:=(AE a0.1 (-(1000:Int)) 1000).bind fun x0=>bif x0 then(AE a0.2 (-(1000:Int)) 1000).bind fun x1=>some x1 else some false
def NW:OKE:=fq Y9 (fun x=>Ee x) [Eg] Tryz.func104
def EQ (s0:Tq15) (s1:List Int) (s2:List Tq2) (s3:Tq2) (s4:List UInt8) (s5 s6:Int):Option (Tq15×List Int×List Tq2×Tq2×List UInt8×Int×Int⊕(Tq15×List Int×List Tq2×Tq2×List UInt8⊕Tq15×List Tq2×Tq2×Int×Int)):=bif decide (s6<s5)then(Ha (s0.1,s0.2.1,s0.2.2) s2 s3).bind fun x0=>bif(!x0.2.2.2.2)then some (zb (zb ((x0.1.1,x0.1.2.1,x0.1.2.2),x0.2.1,x0.2.2.1,(3:Int),x0.1.2.1)))else(BV 8 1 s1 ([x0.2.2.2.1]:List Int)).bind fun x1=>some (zy ((x0.1.1,x0.1.2.1,x0.1.2.2),x1,x0.2.1,x0.2.2.1,s4,s5,(zi zj (s6+1))))else some (zb (zy ((s0.1,s0.2.1,s0.2.2),s1,s2,s3,s4)))
def Au (a0:Tq15) (a1:List Tq2) (a2:Tq2):Option ((List (List UInt8)×Int×Bool)×List Tq2×List (Int×Int)×Int×Int):=(AA a0.1 a0.2.1).bind fun x0=>(BB (a0.1,a0.2.1,a0.2.2) a1 a2 x0).bind fun x1=>bif(x1.2.2.2 != (0:Int))then some ((x1.1.1,x1.1.2.1,x1.1.2.2),x1.2.1,x1.2.2.1,x1.2.2.2,x1.1.2.1)else bif(x0==([90]:List UInt8))then(BV 24 1 x1.2.1 ([x1.2.2.1]:List Tq2)).bind fun x2=>some ((x1.1.1,(zi zj (x1.1.2.1+1)),false),x2,([]:List (Int×Int)),(0:Int),(0:Int))else((EW ([72,86,104,118]:List UInt8) x0).bind fun x3=>bif x3 then some (zb ((x1.1.1,(zi zj (x1.1.2.1+1)),x1.1.2.2),x1.2.1,x1.2.2.1,x0,(1:Int)))else some (zb ((x1.1.1,(zi zj (x1.1.2.1+1)),x1.1.2.2),x1.2.1,x1.2.2.1,x0,(2:Int)))).bind fun x4=>Sum.elim (fun x5=>some x5) (fun x6=>(Ad (fun(s:Tq15×List Int×List Tq2×Tq2×List UInt8×Int×Int)=>EQ s.1 s.2.1 s.2.2.1 s.2.2.2.1 s.2.2.2.2.1 s.2.2.2.2.2.1 s.2.2.2.2.2.2) ((x6.1.1,x6.1.2.1,x6.1.2.2),([]:List Int),x6.2.1,x6.2.2.1,x6.2.2.2.1,x6.2.2.2.2,(0:Int))).bind fun x7=>Sum.elim (fun x8=>(Bp (x8.1.1,x8.1.2.1,x8.1.2.2) x8.2.2.1 x8.2.2.2.1 x8.2.2.2.2 x8.2.1).bind fun x9=>(Ee (x9.2.2.2.1,x9.2.2.2.2)).bind fun x10=>bif(!x10)then some ((x9.1.1,x9.1.2.1,x9.1.2.2),x9.2.1,x9.2.2.1,(6:Int),(zi zj (x9.1.2.1-1)))else(BV 16 2 x9.2.2.1 ([(x9.2.2.2.1,x9.2.2.2.2)]:List (Int×Int))).bind fun x11=>some ((x9.1.1,x9.1.2.1,true),x9.2.1,x11,(0:Int),(0:Int))) (fun x12=>some ((x12.1.1,x12.1.2.1,x12.1.2.2),x12.2.1,x12.2.2.1,x12.2.2.2.1,x12.2.2.2.2)) x7) x4
def U9:OKE:=fq M7 (fun x=>Au x.1 x.2.1 x.2.2) [YW,R1,Yc,b8,NW] Tryz.func92
def E5 (s0:Tq15) (s1:List Tq2) (s2:Tq2):Option (Tq15×List Tq2×Tq2⊕(Tq15×List Tq2×Tq2⊕List Tq2×Int×Int×Bool)):=bif decide (s0.2.1<(s0.1.length:Int))then(Au (s0.1,s0.2.1,s0.2.2) s1 s2).bind fun x0=>bif(x0.2.2.2.1 != (0:Int))then some (zb (zb (([]:List Tq2),x0.2.2.2.1,x0.2.2.2.2,false)))else some (zy ((x0.1.1,x0.1.2.1,x0.1.2.2),x0.2.1,x0.2.2.1))else some (zb (zy ((s0.1,s0.2.1,s0.2.2),s1,s2)))
def GO (a0:List UInt8):Option (List Tq2×Int×Int×Bool):=(AE (a0.length:Int) 1 400).bind fun x0=>bif(!x0)then some (([]:List Tq2),(1:Int),(0:Int),false)else(E9 a0 ([32]:List UInt8)).bind fun x1=>(Ad (fun(s:Tq15×List Tq2×Tq2)=>E5 s.1 s.2.1 s.2.2) ((x1,(0:Int),false),([]:List Tq2),([]:List (Int×Int)))).bind fun x2=>Sum.elim (fun x3=>bif x3.1.2.2 then some (([]:List Tq2),(7:Int),(x3.1.1.length:Int),false)else some (x3.2.1,(0:Int),(0:Int),true)) (fun x4=>some (x4.1,x4.2.1,x4.2.2.1,x4.2.2.2)) x2
def Rx:OKE:=fq Rz (fun x=>GO x) [Eg,OZ,U9] Tryz.func22
def Ci (a0:Tq6):Option Bool:=(AE a0.1 (-(20:Int)) 20).bind fun x0=>bif x0 then(AE a0.2.1 (-(20:Int)) 20).bind fun x1=>bif x1 then(AE a0.2.2.1 1 8).bind fun x2=>bif x2 then(AE a0.2.2.2 1 8).bind fun x3=>some x3 else some false else some false else some false
def Ie:OKE:=fq PD (fun x=>Ci x) [Eg] Tryz.func58
def L7 (s0:Tq5) (s1:List Int) (s2:Bool) (s3:Int):Option (Tq5×List Int×Bool×Int⊕Tq5×List Int×Bool):=bif decide (s3>0)then(BV 8 1 s1 ([(zi zj (Int.tmod s3 65536))]:List Int)).bind fun x0=>some (zy ((s0.1,s0.2),x0,s2,(zi zk (Int.tdiv s3 65536))))else some (zb ((s0.1,s0.2),s1,s2))
def Ez (a0:Int):Option Tq12:=(bif decide (a0<0)then some (zb ((false,([]:List Int)),decide (a0<0),(zi zk ((0:Int)-(zi zk a0)))))else some (zb ((false,([]:List Int)),decide (a0<0),(zi zk a0)))).bind fun x0=>Sum.elim (fun x1=>some x1) (fun x2=>(Ad (fun(s:Tq5×List Int×Bool×Int)=>L7 s.1 s.2.1 s.2.2.1 s.2.2.2) ((x2.1.1,x2.1.2),([]:List Int),x2.2.1,x2.2.2)).bind fun x3=>some (x3.2.2,x3.2.1)) x0
def M0:OKE:=fq cV (fun x=>Ez x) [] Tryz.func137
def Be (a0:Int):Option Tq7:=(Ez a0).bind fun x0=>(Ez 1).bind fun x1=>some (x0.1,x0.2,x1.1,x1.2)
def IZ:OKE:=fq dh (fun x=>Be x) [M0] Tryz.func73
def DR (s0:List Tq0) (s1:Tq2) (s2 s3:Int):Option (List Tq0×Tq2×Int×Int⊕List Tq0):=bif decide (s3<s2)then(AA s1 s3).bind fun x0=>(Be x0.1).bind fun x1=>(Be x0.2).bind fun x2=>(BV 128 8 s0 ([(((x1.1,x1.2.1),x1.2.2.1,x1.2.2.2),(x2.1,x2.2.1),x2.2.2.1,x2.2.2.2)]:List Tq0)).bind fun x3=>some (zy (x3,s1,s2,(zi zj (s3+1))))else some (zb s0)
def NH (a0:Tq2):Option (List Tq9):=(Ad (fun(s:List Tq0×Tq2×Int×Int)=>DR s.1 s.2.1 s.2.2.1 s.2.2.2) (([]:List Tq0),a0,(a0.length:Int),(0:Int))).bind fun x0=>some x0
def mJ:OKE:=fq Zg (fun x=>NH x) [IZ] Tryz.func76
def Jh (a0:Int):Option Bool:=(AE a0 0 65535).bind fun x0=>some (!x0)
def bX:OKE:=fq Ry (fun x=>Jh x) [Eg] Tryz.func293
def Bc (s0:List Int) (s1 s2:Int):Option (List Int×Int×Int⊕(Unit⊕Int)):=bif decide (s2<s1)then(AA s0 s2).bind fun x0=>(Jh x0).bind fun x1=>bif x1 then some (zb (zb s2))else some (zy (s0,s1,(zi zj (s2+1))))else some (zb (zy ()))
def Db (a0:List Int):Option Int:=(Ad (fun(s:Tq10)=>Bc s.1 s.2.1 s.2.2) (a0,(a0.length:Int),(0:Int))).bind fun x0=>Sum.elim (fun x1=>some (-(1:Int))) (fun x2=>some x2) x0
def Kw:OKE:=fq Dc (fun x=>Db x) [bX] Tryz.func233
def AM (a0:List Int):Option Bool:=(Db a0).bind fun x0=>some (decide (x0>=0))
def I2:OKE:=fq CL (fun x=>AM x) [Kw] Tryz.func180
def Jy (a0:Tq5):Option Bool:=bif decide ((a0.2.length:Int)>40)then some false else bif((a0.2.length:Int)==0)then bif a0.1 then some false else bif decide ((a0.2.length:Int)>0)then(AA a0.2 (zi zj ((a0.2.length:Int)-1))).bind fun x0=>bif(x0==0)then some false else(AM a0.2).bind fun x1=>some (!x1)else(AM a0.2).bind fun x2=>some (!x2)else bif decide ((a0.2.length:Int)>0)then(AA a0.2 (zi zj ((a0.2.length:Int)-1))).bind fun x3=>bif(x3==0)then some false else(AM a0.2).bind fun x4=>some (!x4)else(AM a0.2).bind fun x5=>some (!x5)
def Wv:OKE:=fq WN (fun x=>Jy x) [I2] Tryz.func265
def Km (a0:Tq5):Option Bool:=(Jy (a0.1,a0.2)).bind fun x0=>some (!x0)
def fY:OKE:=fq TA (fun x=>Km x) [Wv] Tryz.func278
def A0 (s0:List Tq5) (s1 s2:Int):Option (List Tq5×Int×Int⊕(Unit⊕Int)):=bif decide (s2<s1)then(AA s0 s2).bind fun x0=>(Km (x0.1,x0.2)).bind fun x1=>bif x1 then some (zb (zb s2))else some (zy (s0,s1,(zi zj (s2+1))))else some (zb (zy ()))
def CA (a0:List Tq5):Option Int:=(Ad (fun(s:List Tq5×Int×Int)=>A0 s.1 s.2.1 s.2.2) (a0,(a0.length:Int),(0:Int))).bind fun x0=>Sum.elim (fun x1=>some (-(1:Int))) (fun x2=>some x2) x0
def IH:OKE:=fq El (fun x=>CA x) [fY] Tryz.func302
def B3 (a0:List Tq5):Option Bool:=(CA a0).bind fun x0=>some (decide (x0>=0))
def Hh:OKE:=fq DB (fun x=>B3 x) [IH] Tryz.func277
def K6 (a0:List Tq5):Option Bool:=(B3 a0).bind fun x0=>some (!x0)
def mE:OKE:=fq Za (fun x=>K6 x) [Hh] Tryz.func234
def BZ (a0:Tq5):Option Int:=bif((a0.2.length:Int)==0)then some (0:Int)else bif a0.1 then some (-(1:Int))else some (1:Int)
def NU:OKE:=fq Tl (fun x=>BZ x) [] Tryz.func235
def G8 (a0:Int):Option Bool:=some (a0 != a0)
def Ya:OKE:=fq O0 (fun x=>G8 x) [] Tryz.func284
def C2 (a0 a1:Int):Option Int:=(G8 a0).bind fun x0=>(G8 a1).bind fun x1=>bif x0 then bif x1 then some (0:Int)else some (-(1:Int))else bif x1 then some (1:Int)else bif decide (a0<a1)then some (-(1:Int))else bif decide (a0>a1)then some (1:Int)else some (0:Int)
def Mu:OKE:=fq Mv (fun x=>C2 x.1 x.2) [Ya] Tryz.func248
def Bf (s0 s1:List Int) (s2:Int):Option (List Int×List Int×Int⊕(Unit⊕Int)):=bif decide (s2>=0)then(AA s0 s2).bind fun x0=>(AA s1 s2).bind fun x1=>bif(x0 != x1)then(AA s0 s2).bind fun x2=>(AA s1 s2).bind fun x3=>(C2 x2 x3).bind fun x4=>some (zb (zb x4))else some (zy (s0,s1,(zi zj (s2-1))))else some (zb (zy ()))
def B8 (a0 a1:List Int):Option Int:=bif((a0.length:Int) != (a1.length:Int))then(C2 (a0.length:Int) (a1.length:Int)).bind fun x0=>some x0 else(Ad (fun(s:List Int×List Int×Int)=>Bf s.1 s.2.1 s.2.2) (a0,a1,(zi zj ((a0.length:Int)-1)))).bind fun x1=>Sum.elim (fun x2=>some (0:Int)) (fun x3=>some x3) x1
def Gr:OKE:=fq M6 (fun x=>B8 x.1 x.2) [Mu] Tryz.func195
def QE (s0:List Int) (s1:Int):Option (List Int×Int⊕List Int×Int):=bif decide (s1>0)then(AA s0 (zi zj (s1-1))).bind fun x0=>bif(x0==0)then some (zy (s0,(zi zj (s1-1))))else some (zb (s0,s1))else some (zb (s0,s1))
def Ko (a0:List Int):Option (List Int):=(Ad (fun(s:List Int×Int)=>QE s.1 s.2) (a0,(a0.length:Int))).bind fun x0=>(Fx (0:Int) x0.2 (List.length x0.1)).bind fun x1=>some (List.drop x1.1 (List.take x1.2 x0.1))
def Ym:OKE:=fq pf (fun x=>Ko x) [] Tryz.func247
def FM (s0 s1:List Int) (s2 s3 s4:Int):Option (List Int×List Int×Int×Int×Int⊕List Int×Int):=bif decide (s4>=0)then(AA s1 s4).bind fun x0=>bif(s2==0)then none else(AW s4 (List.length s0)).bind fun x1=>(AN s0 x1).bind fun x2=>bif(s2==0)then none else some (zy ((List.set s0 x1 (zi zj (Int.tdiv (zi zj ((zi zj (s3*65536))+x0)) s2))),s1,s2,(Int.tmod (zi zj ((zi zj (s3*65536))+x0)) s2),(zi zj (s4-1))))else some (zb (s0,s3))
def H0 (a0:List Int) (a1:Int):Option (List Int×Int):=(Ru (a0.length:Int) 8 1).bind fun x0=>(Ad (fun(s:Tq16)=>FM s.1 s.2.1 s.2.2.1 s.2.2.2.1 s.2.2.2.2) ((List.replicate x0 (0:Int)),a0,a1,(0:Int),(zi zj ((a0.length:Int)-1)))).bind fun x1=>(Ko x1.1).bind fun x2=>some (x2,x1.2)
def f6:OKE:=fq TF (fun x=>H0 x.1 x.2) [Ym] Tryz.func283
def Cj (a0:List Int):Option (List Int):=(neL a0).bind fun x0=>bif(ft (List.length a0) 8 1)then some a0 else none
def K3:Ent:=⟨Ca,fun x=>Cj x⟩
def HB:TX:=⟨UY,R8,[],[4],[],Ca⟩
theorem M3(a0:List (Int)):wtF HB Tryz.f246 a0=Cj a0:=by kernel_rfl
theorem L3:Ch (EX Tryz.prog cfC Ab3) K3:=Q3 (X:=HB) ⟨uf,Vq,r8⟩ (vj rfl) (pq (by kernel_rfl)) ⟨Tryz.func246,rfl,by kernel_rfl,rfl⟩ (fun x=>by exact M3 x)
def B9 (a0:List Int):Option (List Int):=wE Cj a0
def Hs:Ent:=⟨Ca,fun x=>B9 x⟩
theorem MH:Ch RR Hs:=m9 L3 (.head _) fun _ _ _ _ _ h=>Or.inl h
def HA:OKE:=⟨Hs,MH,rfl⟩
def Bo (a0:Bool) (a1:List Int):Option (List Int×Bool):=(Ko a1).bind fun x0=>(B9 x0).bind fun x1=>bif a0 then some (x1,decide ((x1.length:Int)>0))else some (x1,false)
def Fm:OKE:=fq cX (fun x=>Bo x.1 x.2) [Ym,HA] Tryz.func193
def GJ (s0 s1 s2:Tq5) (s3:List Int) (s4 s5 s6:Int) (s7:List Int) (s8 s9:Int) (s10:List Int) (s11 s12:Int):Option (Tq5×Tq5×Tq5×List Int×Int×Int×Int×List Int×Int×Int×List Int×Int×Int⊕Tq5×Tq5×Tq5×List Int×Int×Int×List Int×Int×Int):=bif decide (s12<s11)then(AA s10 s12).bind fun x0=>(AW (zi zj (s4+s12)) (List.length s3)).bind fun x1=>(AN s3 x1).bind fun x2=>(AW (zi zj (s4+s12)) (List.length s3)).bind fun x3=>(AN s3 x3).bind fun x4=>some (zy ((s0.1,s0.2),(s1.1,s1.2),(s2.1,s2.2),(List.set s3 x3 (Int.tmod (zi zj (s6+(zi zj (x2+(zi zj (s5*x0)))))) 65536)),s4,s5,(zi zj (Int.tdiv (zi zj (s6+(zi zj (x2+(zi zj (s5*x0)))))) 65536)),s7,s8,s9,s10,s11,(zi zj (s12+1))))else some (zb ((s0.1,s0.2),(s1.1,s1.2),(s2.1,s2.2),s3,s4,s6,s7,s8,s9))
def Jf (s0 s1 s2:Tq5) (s3 s4:List Int) (s5 s6:Int):Option (Tq5×Tq5×Tq5×List Int×List Int×Int×Int⊕Tq5×Tq5×Tq5×List Int):=bif decide (s6<s5)then(AA s4 s6).bind fun x0=>(Ad (fun(s:Tq5×Tq5×Tq5×List Int×Int×Int×Int×List Int×Int×Int×List Int×Int×Int)=>GJ s.1 s.2.1 s.2.2.1 s.2.2.2.1 s.2.2.2.2.1 s.2.2.2.2.2.1 s.2.2.2.2.2.2.1 s.2.2.2.2.2.2.2.1 s.2.2.2.2.2.2.2.2.1 s.2.2.2.2.2.2.2.2.2.1 s.2.2.2.2.2.2.2.2.2.2.1 s.2.2.2.2.2.2.2.2.2.2.2.1 s.2.2.2.2.2.2.2.2.2.2.2.2) ((s0.1,s0.2),(s1.1,s1.2),(s2.1,s2.2),s3,s6,x0,(0:Int),s4,s5,s6,s1.2,(s1.2.length:Int),(0:Int))).bind fun x1=>(AW (zi zj (x1.2.2.2.2.1+(x1.2.1.2.length:Int))) (List.length x1.2.2.2.1)).bind fun x2=>(AN x1.2.2.2.1 x2).bind fun x3=>(AW (zi zj (x1.2.2.2.2.1+(x1.2.1.2.length:Int))) (List.length x1.2.2.2.1)).bind fun x4=>(AN x1.2.2.2.1 x4).bind fun x5=>some (zy ((x1.1.1,x1.1.2),(x1.2.1.1,x1.2.1.2),(x1.2.2.1.1,x1.2.2.1.2),(List.set x1.2.2.2.1 x4 (zi zj (x3+x1.2.2.2.2.2.1))),x1.2.2.2.2.2.2.1,x1.2.2.2.2.2.2.2.1,(zi zj (x1.2.2.2.2.2.2.2.2+1))))else some (zb ((s0.1,s0.2),(s1.1,s1.2),(s2.1,s2.2),s3))
def BM (a0 a1:Tq5):Option (List Int×Bool):=(Ru (zi zj ((a0.2.length:Int)+(a1.2.length:Int))) 8 1).bind fun x0=>(Ad (fun(s:Tq5×Tq5×Tq5×List Int×List Int×Int×Int)=>Jf s.1 s.2.1 s.2.2.1 s.2.2.2.1 s.2.2.2.2.1 s.2.2.2.2.2.1 s.2.2.2.2.2.2) ((a0.1,a0.2),(a1.1,a1.2),(false,([]:List Int)),(List.replicate x0 (0:Int)),a0.2,(a0.2.length:Int),(0:Int))).bind fun x1=>(Bo (!(x1.1.1==x1.2.1.1)) x1.2.2.2).bind fun x2=>some (x2.1,x2.2)
def JI:OKE:=fq WI (fun x=>BM x.1 x.2) [Fm] Tryz.func139
def Pg (s0 s1 s2:List Int) (s3 s4:Int):Option (List Int×List Int×List Int×Int×Int⊕List Int×List Int×Int×Int):=bif decide ((s0.length:Int)<(zi zj ((s2.length:Int)+1)))then(BV 8 1 s0 ([0]:List Int)).bind fun x0=>some (zy (x0,s1,s2,s3,s4))else some (zb (s0,s1,s3,s4))
def Dw (s0 s1 s2:List Int) (s3 s4:Int) (s5 s6 s7:Int):Option (List Int×List Int×List Int×Int×Int×Int×Int×Int⊕List Int×List Int×List Int×Int×Int×Int×Int):=(bif decide (s6>=65536)then some (zb (s0,s1,s2,s3,s4,s5,s6,s7))else bif decide (s7<65536)then(AW (zi zj (s3-2)) (List.length s1)).bind fun x0=>(AN s1 x0).bind fun x1=>(AW (zi zj ((zi zj (s5+s3))-2)) (List.length s0)).bind fun x2=>(AN s0 x2).bind fun x3=>bif decide ((zi zj (s6*x1))>(zi zj ((zi zj (s7*65536))+x3)))then some (zb (s0,s1,s2,s3,s4,s5,s6,s7))else some (zy (zb (s0,s1,s2,s3,s4,s5,s6)))else some (zy (zb (s0,s1,s2,s3,s4,s5,s6)))).bind fun x4=>Sum.elim (fun x5=>some x5) (fun x6=>(AW (zi zj (x6.2.2.2.1-1)) (List.length x6.2.1)).bind fun x7=>(AN x6.2.1 x7).bind fun x8=>some (zy (x6.1,x6.2.1,x6.2.2.1,x6.2.2.2.1,x6.2.2.2.2.1,x6.2.2.2.2.2.1,(zi zj (x6.2.2.2.2.2.2.1-1)),(zi zj (x6.2.2.2.2.2.2.2+x8))))) x4
def FK (s0 s1 s2:List Int) (s3 s4:Int) (s5 s6:Int) (s7 s8 s9:Int):Option Tq17:=bif decide (s9<s8)then(AW (zi zj (s5+s9)) (List.length s0)).bind fun x0=>(AN s0 x0).bind fun x1=>(AW s9 (List.length s1)).bind fun x2=>(AN s1 x2).bind fun x3=>(bif decide ((zi zj ((zi zj (x1-(zi zj (s6*x3))))-s7))<0)then some (zb (s0,s1,s2,s3,s4,s5,s6,(zi zj (Int.tdiv (zi zj ((zi zj ((zi zj ((0:Int)-(zi zj ((zi zj (x1-(zi zj (s6*x3))))-s7))))+65536))-1)) 65536)),s9,(zi zj ((zi zj ((zi zj (x1-(zi zj (s6*x3))))-s7))+(zi zj ((zi zj (Int.tdiv (zi zj ((zi zj ((zi zj ((0:Int)-(zi zj ((zi zj (x1-(zi zj (s6*x3))))-s7))))+65536))-1)) 65536))*65536)))),s8,s9))else some (zb (s0,s1,s2,s3,s4,s5,s6,(0:Int),s9,(zi zj ((zi zj (x1-(zi zj (s6*x3))))-s7)),s8,s9))).bind fun x4=>Sum.elim (fun x5=>some x5) (fun x6=>(AW (zi zj (x6.2.2.2.2.2.1+x6.2.2.2.2.2.2.2.2.1)) (List.length x6.1)).bind fun x7=>(AN x6.1 x7).bind fun x8=>some (zy ((List.set x6.1 x7 x6.2.2.2.2.2.2.2.2.2.1),x6.2.1,x6.2.2.1,x6.2.2.2.1,x6.2.2.2.2.1,x6.2.2.2.2.2.1,x6.2.2.2.2.2.2.1,x6.2.2.2.2.2.2.2.1,x6.2.2.2.2.2.2.2.2.2.2.1,(zi zj (x6.2.2.2.2.2.2.2.2.2.2.2+1))))) x4 else some (zb (s0,s1,s2,s3,s4,s5,s6,s7))
def FL (s0 s1 s2:List Int) (s3 s4:Int) (s5 s6:Int) (s7 s8 s9:Int):Option Tq17:=bif decide (s9<s8)then(AW (zi zj (s5+s9)) (List.length s0)).bind fun x0=>(AN s0 x0).bind fun x1=>(AW s9 (List.length s1)).bind fun x2=>(AN s1 x2).bind fun x3=>(AW (zi zj (s5+s9)) (List.length s0)).bind fun x4=>(AN s0 x4).bind fun x5=>some (zy ((List.set s0 x4 (Int.tmod (zi zj (s7+(zi zj (x1+x3)))) 65536)),s1,s2,s3,s4,s5,s6,(zi zj (Int.tdiv (zi zj (s7+(zi zj (x1+x3)))) 65536)),s8,(zi zj (s9+1))))else some (zb (s0,s1,s2,s3,s4,s5,s6,s7))
def Dv (s0 s1 s2:List Int) (s3 s4 s5:Int):Option (List Int×List Int×List Int×Int×Int×Int⊕List Int×List Int×Int×Int):=bif decide (s5>=0)then(AW (zi zj (s5+s3)) (List.length s0)).bind fun x0=>(AN s0 x0).bind fun x1=>(AW (zi zj ((zi zj (s5+s3))-1)) (List.length s0)).bind fun x2=>(AN s0 x2).bind fun x3=>(AW (zi zj (s3-1)) (List.length s1)).bind fun x4=>(AN s1 x4).bind fun x5=>bif(x5==0)then none else(AW (zi zj (s3-1)) (List.length s1)).bind fun x6=>(AN s1 x6).bind fun x7=>bif(x7==0)then none else(Ad (fun(s:List Int×List Int×List Int×Int×Int×Int×Int×Int)=>Dw s.1 s.2.1 s.2.2.1 s.2.2.2.1 s.2.2.2.2.1 s.2.2.2.2.2.1 s.2.2.2.2.2.2.1 s.2.2.2.2.2.2.2) (s0,s1,s2,s3,s4,s5,(zi zj (Int.tdiv (zi zj ((zi zj (x1*65536))+x3)) x5)),(Int.tmod (zi zj ((zi zj (x1*65536))+x3)) x7))).bind fun x8=>(Ad (fun(s:List Int×List Int×List Int×Int×Int×Int×Int×Int×Int×Int)=>FK s.1 s.2.1 s.2.2.1 s.2.2.2.1 s.2.2.2.2.1 s.2.2.2.2.2.1 s.2.2.2.2.2.2.1 s.2.2.2.2.2.2.2.1 s.2.2.2.2.2.2.2.2.1 s.2.2.2.2.2.2.2.2.2) (x8.1,x8.2.1,x8.2.2.1,x8.2.2.2.1,x8.2.2.2.2.1,x8.2.2.2.2.2.1,x8.2.2.2.2.2.2,(0:Int),x8.2.2.2.1,(0:Int))).bind fun x9=>(AW (zi zj (x9.2.2.2.2.2.1+x9.2.2.2.1)) (List.length x9.1)).bind fun x10=>(AN x9.1 x10).bind fun x11=>(AW (zi zj (x9.2.2.2.2.2.1+x9.2.2.2.1)) (List.length x9.1)).bind fun x12=>(AN x9.1 x12).bind fun x13=>(AW (zi zj (x9.2.2.2.2.2.1+x9.2.2.2.1)) (List.length (List.set x9.1 x12 (zi zj (x11-x9.2.2.2.2.2.2.2))))).bind fun x14=>(AN (List.set x9.1 x12 (zi zj (x11-x9.2.2.2.2.2.2.2))) x14).bind fun x15=>bif decide (x15<0)then(Ad (fun(s:List Int×List Int×List Int×Int×Int×Int×Int×Int×Int×Int)=>FL s.1 s.2.1 s.2.2.1 s.2.2.2.1 s.2.2.2.2.1 s.2.2.2.2.2.1 s.2.2.2.2.2.2.1 s.2.2.2.2.2.2.2.1 s.2.2.2.2.2.2.2.2.1 s.2.2.2.2.2.2.2.2.2) ((List.set x9.1 x12 (zi zj (x11-x9.2.2.2.2.2.2.2))),x9.2.1,x9.2.2.1,x9.2.2.2.1,x9.2.2.2.2.1,x9.2.2.2.2.2.1,(zi zj (x9.2.2.2.2.2.2.1-1)),(0:Int),x9.2.2.2.1,(0:Int))).bind fun x16=>(AW (zi zj (x16.2.2.2.2.2.1+x16.2.2.2.1)) (List.length x16.1)).bind fun x17=>(AN x16.1 x17).bind fun x18=>(AW (zi zj (x16.2.2.2.2.2.1+x16.2.2.2.1)) (List.length x16.1)).bind fun x19=>(AN x16.1 x19).bind fun x20=>(AW x16.2.2.2.2.2.1 (List.length x16.2.2.1)).bind fun x21=>(AN x16.2.2.1 x21).bind fun x22=>some (zy ((List.set x16.1 x19 (zi zj (x18+x16.2.2.2.2.2.2.2))),x16.2.1,(List.set x16.2.2.1 x21 x16.2.2.2.2.2.2.1),x16.2.2.2.1,x16.2.2.2.2.1,(zi zj (x16.2.2.2.2.2.1-1))))else(AW x9.2.2.2.2.2.1 (List.length x9.2.2.1)).bind fun x23=>(AN x9.2.2.1 x23).bind fun x24=>some (zy ((List.set x9.1 x12 (zi zj (x11-x9.2.2.2.2.2.2.2))),x9.2.1,(List.set x9.2.2.1 x23 x9.2.2.2.2.2.2.1),x9.2.2.2.1,x9.2.2.2.2.1,(zi zj (x9.2.2.2.2.2.1-1))))else some (zb (s0,s2,s3,s4))
def HZ (a0 a1:List Int):Option (List Int×List Int):=(B8 a0 a1).bind fun x0=>bif decide (x0<0)then some (([]:List Int),a0)else bif((a1.length:Int)==1)then(AA a1 0).bind fun x1=>(H0 a0 x1).bind fun x2=>(Ko ([x2.2]:List Int)).bind fun x3=>some (x2.1,x3)else(AA a1 (zi zj ((a1.length:Int)-1))).bind fun x4=>bif((zi zj (x4+1))==0)then none else(Bo false a0).bind fun x5=>(Ez (zi zj (Int.tdiv 65536 (zi zj (x4+1))))).bind fun x6=>(BM (x5.2,x5.1) (x6.1,x6.2)).bind fun x7=>(BV 8 1 x7.1 ([0]:List Int)).bind fun x8=>(Bo false a1).bind fun x9=>(Ez (zi zj (Int.tdiv 65536 (zi zj (x4+1))))).bind fun x10=>(BM (x9.2,x9.1) (x10.1,x10.2)).bind fun x11=>(Ad (fun(s:Tq14)=>Pg s.1 s.2.1 s.2.2.1 s.2.2.2.1 s.2.2.2.2) (x8,x11.1,a0,(a1.length:Int),(zi zj (Int.tdiv 65536 (zi zj (x4+1)))))).bind fun x12=>(Ru (zi zj ((x12.1.length:Int)-x12.2.2.1)) 8 1).bind fun x13=>(Ad (fun(s:List Int×List Int×List Int×Int×Int×Int)=>Dv s.1 s.2.1 s.2.2.1 s.2.2.2.1 s.2.2.2.2.1 s.2.2.2.2.2) (x12.1,x12.2.1,(List.replicate x13 (0:Int)),x12.2.2.1,x12.2.2.2,(zi zj ((zi zj ((x12.1.length:Int)-x12.2.2.1))-1)))).bind fun x14=>(Fx (0:Int) x14.2.2.1 (List.length x14.1)).bind fun x15=>(Ko (List.drop x15.1 (List.take (x15.1+(x15.2-x15.1)) x14.1))).bind fun x16=>(H0 x16 x14.2.2.2).bind fun x17=>(Ko x14.2.1).bind fun x18=>some (x18,x17.1)
def Te:OKE:=fq TE (fun x=>HZ x.1 x.2) [Gr,f6,Ym,Fm,M0,JI] Tryz.func245
def Je (s0:Tq5) (s1 s2:List Int):Option (Tq5×List Int×List Int⊕Tq5×List Int):=bif decide ((s2.length:Int)>0)then(HZ s1 s2).bind fun x0=>some (zy ((s0.1,s0.2),s2,x0.2))else some (zb ((s0.1,s0.2),s1))
def Jx (a0 a1:Tq5):Option Tq12:=(Ad (fun(s:Tq5×List Int×List Int)=>Je s.1 s.2.1 s.2.2) ((false,([]:List Int)),a0.2,a1.2)).bind fun x0=>(Bo false x0.2).bind fun x1=>some (x1.2,x1.1)
def Wt:OKE:=fq WH (fun x=>Jx x.1 x.2) [Te,Fm] Tryz.func190
def FV (a0 a1:Tq5):Option Int:=(BZ (a0.1,a0.2)).bind fun x0=>(BZ (a1.1,a1.2)).bind fun x1=>bif(x0 != x1)then(BZ (a0.1,a0.2)).bind fun x2=>(BZ (a1.1,a1.2)).bind fun x3=>(C2 x2 x3).bind fun x4=>some x4 else(BZ (a0.1,a0.2)).bind fun x5=>(B8 a0.2 a1.2).bind fun x6=>some (zi zj (x5*x6))
def Pv:OKE:=fq PI (fun x=>FV x.1 x.2) [NU,Mu,Gr] Tryz.func236
def Me (a0:Tq3):Option Bool:=(K6 ([(a0.1,a0.2.1),(a0.2.2.1,a0.2.2.2)]:List Tq5)).bind fun x0=>bif x0 then(BZ (a0.2.2.1,a0.2.2.2)).bind fun x1=>bif decide (x1>0)then(Jx (a0.1,a0.2.1) (a0.2.2.1,a0.2.2.2)).bind fun x2=>(Ez 1).bind fun x3=>(FV (x2.1,x2.2) (x3.1,x3.2)).bind fun x4=>some (x4==0)else some false else some false
def iX:OKE:=fq WO (fun x=>Me x) [mE,NU,Wt,M0,Pv] Tryz.func182
def Jg (s0:List Tq1) (s1 s2:Int):Option (List Tq1×Int×Int⊕(Unit⊕Bool)):=bif decide (s2<s1)then(AA s0 s2).bind fun x0=>(Me (x0.1.1,x0.1.2,x0.2.1,x0.2.2)).bind fun x1=>bif(!x1)then some (zb (zb false))else some (zy (s0,s1,(zi zj (s2+1))))else some (zb (zy ()))
def Hw (a0:List Tq1):Option Bool:=(Ad (fun(s:List Tq1×Int×Int)=>Jg s.1 s.2.1 s.2.2) (a0,(a0.length:Int),(0:Int))).bind fun x0=>Sum.elim (fun x1=>some true) (fun x2=>some x2) x0
def i7:OKE:=fq WX (fun x=>Hw x) [iX] Tryz.func124
def Cw (a0:Tq3) (a1:Int):Option Bool:=bif decide ((a0.2.1.length:Int)<=a1)then some (decide ((a0.2.2.2.length:Int)<=a1))else some false
def OV:OKE:=fq O1 (fun x=>Cw x.1 x.2) [] Tryz.func144
def Hx (a0:Tq4) (a1:Int):Option Bool:=(Hw ([((a0.1,a0.2.1),a0.2.2.1,a0.2.2.2.1),((a0.2.2.2.2.1,a0.2.2.2.2.2.1),a0.2.2.2.2.2.2.1,a0.2.2.2.2.2.2.2)]:List Tq1)).bind fun x0=>bif x0 then(Cw (a0.1,a0.2.1,a0.2.2.1,a0.2.2.2.1) a1).bind fun x1=>bif x1 then(Cw (a0.2.2.2.2.1,a0.2.2.2.2.2.1,a0.2.2.2.2.2.2.1,a0.2.2.2.2.2.2.2) a1).bind fun x2=>some x2 else some false else some false
def cL:OKE:=fq cY (fun x=>Hx x.1 x.2) [i7,OV] Tryz.func225
def HP (a0:Tq4):Option Bool:=(Hx (a0.1,a0.2.1,a0.2.2.1,a0.2.2.2.1,a0.2.2.2.2.1,a0.2.2.2.2.2.1,a0.2.2.2.2.2.2.1,a0.2.2.2.2.2.2.2) 8).bind fun x0=>some (!x0)
def YR:OKE:=fq PB (fun x=>HP x) [cL] Tryz.func224
def Ay (s0:List Tq0) (s1 s2:Int):Option (List Tq0×Int×Int⊕(Unit⊕Int)):=bif decide (s2<s1)then(AA s0 s2).bind fun x0=>(HP (x0.1.1.1,x0.1.1.2,x0.1.2.1,x0.1.2.2,x0.2.1.1,x0.2.1.2,x0.2.2.1,x0.2.2.2)).bind fun x1=>bif x1 then some (zb (zb s2))else some (zy (s0,s1,(zi zj (s2+1))))else some (zb (zy ()))
def CB (a0:List Tq0):Option Int:=(Ad (fun(s:List Tq0×Int×Int)=>Ay s.1 s.2.1 s.2.2) (a0,(a0.length:Int),(0:Int))).bind fun x0=>Sum.elim (fun x1=>some (-(1:Int))) (fun x2=>some x2) x0
def II:OKE:=fq Em (fun x=>CB x) [YR] Tryz.func267
def Bg (a0:List Tq0):Option Bool:=(CB a0).bind fun x0=>some (decide (x0>=0))
def Hi:OKE:=fq DC (fun x=>Bg x) [II] Tryz.func223
def EU (a0:List Tq0):Option Bool:=bif decide ((a0.length:Int)<=40)then(Bg a0).bind fun x0=>some (!x0)else some false
def Kv:OKE:=fq Tp (fun x=>EU x) [Hi] Tryz.func174
def HY (a0 a1:Tq3):Option Int:=(BM (a0.1,a0.2.1) (a1.2.2.1,a1.2.2.2)).bind fun x0=>(BM (a1.1,a1.2.1) (a0.2.2.1,a0.2.2.2)).bind fun x1=>(FV (x0.2,x0.1) (x1.2,x1.1)).bind fun x2=>some x2
def YV:OKE:=fq PJ (fun x=>HY x.1 x.2) [JI,Pv] Tryz.func264
def DY (a0 a1:Tq3):Option Bool:=(HY (a0.1,a0.2.1,a0.2.2.1,a0.2.2.2) (a1.1,a1.2.1,a1.2.2.1,a1.2.2.2)).bind fun x0=>some (decide (x0<0))
def NX:OKE:=fq Tu (fun x=>DY x.1 x.2) [YV] Tryz.func220
def B0 (a0:Tq4) (a1:Bool):Option Tq7:=bif a1 then some (a0.2.2.2.2.1,a0.2.2.2.2.2.1,a0.2.2.2.2.2.2.1,a0.2.2.2.2.2.2.2)else some (a0.1,a0.2.1,a0.2.2.1,a0.2.2.2.1)
def Lc:OKE:=fq Le (fun x=>B0 x.1 x.2) [] Tryz.func309
def IT (a0 a1:Bool) (a2:Tq3) (a3:Tq4):Option (Bool×Bool×Tq7×Bool):=bif a0 then(B0 (a3.1,a3.2.1,a3.2.2.1,a3.2.2.2.1,a3.2.2.2.2.1,a3.2.2.2.2.2.1,a3.2.2.2.2.2.2.1,a3.2.2.2.2.2.2.2) a1).bind fun x0=>(DY (x0.1,x0.2.1,x0.2.2.1,x0.2.2.2) (a2.1,a2.2.1,a2.2.2.1,a2.2.2.2)).bind fun x1=>some (a0,a1,(a2.1,a2.2.1,a2.2.2.1,a2.2.2.2),(!x1))else(B0 (a3.1,a3.2.1,a3.2.2.1,a3.2.2.2.1,a3.2.2.2.2.1,a3.2.2.2.2.2.1,a3.2.2.2.2.2.2.1,a3.2.2.2.2.2.2.2) a1).bind fun x2=>(DY (a2.1,a2.2.1,a2.2.2.1,a2.2.2.2) (x2.1,x2.2.1,x2.2.2.1,x2.2.2.2)).bind fun x3=>some (a0,a1,(a2.1,a2.2.1,a2.2.2.1,a2.2.2.2),(!x3))
def mG:OKE:=fq Zd (fun x=>IT x.1 x.2.1 x.2.2.1 x.2.2.2) [Lc,NX] Tryz.func308
def Hu (a0:Tq5):Option Tq12:=(Bo (!a0.1) a0.2).bind fun x0=>some (x0.2,x0.1)
def Pq:OKE:=fq WJ (fun x=>Hu x) [Fm] Tryz.func191
def Mh (a0:Tq3):Option Tq7:=(Hu (a0.1,a0.2.1)).bind fun x0=>(Bo false a0.2.2.2).bind fun x1=>some (x0.1,x0.2,x1.2,x1.1)
def i6:OKE:=fq WU (fun x=>Mh x) [Pq,Fm] Tryz.func197
def FI (s0 s1 s2:List Int) (s3 s4:Int):Option Tq20:=(bif decide (s4<(wq ([(s1.length:Int),(s2.length:Int)]:List Int)))then some (zb (s0,s1,s2,s3,s4))else bif decide (s3>0)then some (zb (s0,s1,s2,s3,s4))else some (zy (zb s0))).bind fun x0=>Sum.elim (fun x1=>some x1) (fun x2=>(bif decide (x2.2.2.2.2<(x2.2.1.length:Int))then(AA x2.2.1 x2.2.2.2.2).bind fun x3=>some (zb (x2.1,x2.2.1,x2.2.2.1,(zi zj (x2.2.2.2.1+x3)),x2.2.2.2.2))else some (zb (x2.1,x2.2.1,x2.2.2.1,x2.2.2.2.1,x2.2.2.2.2))).bind fun x4=>Sum.elim (fun x5=>some x5) (fun x6=>(bif decide (x6.2.2.2.2<(x6.2.2.1.length:Int))then(AA x6.2.2.1 x6.2.2.2.2).bind fun x7=>some (zb (x6.1,x6.2.1,x6.2.2.1,(zi zj (x6.2.2.2.1+x7)),x6.2.2.2.2))else some (zb (x6.1,x6.2.1,x6.2.2.1,x6.2.2.2.1,x6.2.2.2.2))).bind fun x8=>Sum.elim (fun x9=>some x9) (fun x10=>(BV 8 1 x10.1 ([(Int.tmod x10.2.2.2.1 65536)]:List Int)).bind fun x11=>some (zy (x11,x10.2.1,x10.2.2.1,(zi zj (Int.tdiv x10.2.2.2.1 65536)),(zi zj (x10.2.2.2.2+1))))) x8) x4) x0
def Kl (a0 a1:List Int):Option (List Int):=(Ad (fun(s:Tq14)=>FI s.1 s.2.1 s.2.2.1 s.2.2.2.1 s.2.2.2.2) (([]:List Int),a0,a1,(0:Int),(0:Int))).bind fun x0=>some x0
def fX:OKE:=fq Tz (fun x=>Kl x.1 x.2) [] Tryz.func194
def HN (s0 s1:List Int) (s2 s3 s4:Int):Option Tq21:=bif decide (s4<s3)then(AW s4 (List.length s0)).bind fun x0=>(AN s0 x0).bind fun x1=>(AW s4 (List.length s0)).bind fun x2=>(AN s0 x2).bind fun x3=>(bif decide (s4<(s1.length:Int))then(AW s4 (List.length (List.set s0 x2 (zi zj (x1-s2))))).bind fun x4=>(AN (List.set s0 x2 (zi zj (x1-s2))) x4).bind fun x5=>(AA s1 s4).bind fun x6=>(AW s4 (List.length (List.set s0 x2 (zi zj (x1-s2))))).bind fun x7=>(AN (List.set s0 x2 (zi zj (x1-s2))) x7).bind fun x8=>some (zb ((List.set (List.set s0 x2 (zi zj (x1-s2))) x7 (zi zj (x5-x6))),s1,s4,s3,s4))else some (zb ((List.set s0 x2 (zi zj (x1-s2))),s1,s4,s3,s4))).bind fun x9=>Sum.elim (fun x10=>some x10) (fun x11=>(AW x11.2.2.1 (List.length x11.1)).bind fun x12=>(AN x11.1 x12).bind fun x13=>bif decide (x13<0)then(AW x11.2.2.1 (List.length x11.1)).bind fun x14=>(AN x11.1 x14).bind fun x15=>(AW x11.2.2.1 (List.length x11.1)).bind fun x16=>(AN x11.1 x16).bind fun x17=>some (zy ((List.set x11.1 x16 (zi zj (x15+65536))),x11.2.1,(1:Int),x11.2.2.2.1,(zi zj (x11.2.2.2.2+1))))else some (zy (x11.1,x11.2.1,(0:Int),x11.2.2.2.1,(zi zj (x11.2.2.2.2+1))))) x9 else some (zb s0)
def H2 (a0 a1:List Int):Option (List Int):=(B9 a0).bind fun x0=>(Ad (fun(s:Tq16)=>HN s.1 s.2.1 s.2.2.1 s.2.2.2.1 s.2.2.2.2) (x0,a1,(0:Int),(x0.length:Int),(0:Int))).bind fun x1=>(Ko x1).bind fun x2=>some x2
def f9:OKE:=fq TJ (fun x=>H2 x.1 x.2) [HA,Ym] Tryz.func196
def Jw (a0 a1:Tq5):Option Tq12:=bif(a0.1==a1.1)then(Kl a0.2 a1.2).bind fun x0=>(Bo a0.1 x0).bind fun x1=>some (x1.2,x1.1)else(B8 a0.2 a1.2).bind fun x2=>bif decide (x2>=0)then(H2 a0.2 a1.2).bind fun x3=>(Bo a0.1 x3).bind fun x4=>some (x4.2,x4.1)else(H2 a1.2 a0.2).bind fun x5=>(Bo a1.1 x5).bind fun x6=>some (x6.2,x6.1)
def Wr:OKE:=fq WF (fun x=>Jw x.1 x.2) [fX,Fm,Gr,f9] Tryz.func140
def Ht (a0 a1:Tq5):Option Tq22:=(HZ a0.2 a1.2).bind fun x0=>(Bo (!(a0.1==a1.1)) x0.1).bind fun x1=>(Bo a0.1 x0.2).bind fun x2=>some ((x1.2,x1.1),x2.2,x2.1)
def Ws:OKE:=fq WG (fun x=>Ht x.1 x.2) [Te,Fm] Tryz.func192
def KK (a0 a1:Tq5):Option Tq7:=(Jx (a0.1,a0.2) (a1.1,a1.2)).bind fun x0=>(bif a1.1 then(Hu (x0.1,x0.2)).bind fun x1=>some (zb ((a0.1,a0.2),(a1.1,a1.2),(false,([]:List Int),false,([]:List Int)),x1.1,x1.2))else some (zb ((a0.1,a0.2),(a1.1,a1.2),(false,([]:List Int),false,([]:List Int)),x0.1,x0.2))).bind fun x2=>Sum.elim (fun x3=>some x3) (fun x4=>(Ht (x4.1.1,x4.1.2) (x4.2.2.2.1,x4.2.2.2.2)).bind fun x5=>(Ht (x4.2.1.1,x4.2.1.2) (x4.2.2.2.1,x4.2.2.2.2)).bind fun x6=>some (x5.1.1,x5.1.2,x6.1.1,x6.1.2)) x2
def Va:OKE:=fq dc (fun x=>KK x.1 x.2) [Wt,Pq,Ws] Tryz.func138
def Dj (a0 a1:Tq3):Option Tq7:=(BM (a0.1,a0.2.1) (a1.2.2.1,a1.2.2.2)).bind fun x0=>(BM (a1.1,a1.2.1) (a0.2.2.1,a0.2.2.2)).bind fun x1=>(Jw (x0.2,x0.1) (x1.2,x1.1)).bind fun x2=>(BM (a0.2.2.1,a0.2.2.2) (a1.2.2.1,a1.2.2.2)).bind fun x3=>(KK (x2.1,x2.2) (x3.2,x3.1)).bind fun x4=>some (x4.1,x4.2.1,x4.2.2.1,x4.2.2.2)
def JJ:OKE:=fq WR (fun x=>Dj x.1 x.2) [JI,Wr,Va] Tryz.func74
def FT (a0 a1:Tq3):Option Tq7:=(Mh (a1.1,a1.2.1,a1.2.2.1,a1.2.2.2)).bind fun x0=>(Dj (a0.1,a0.2.1,a0.2.2.1,a0.2.2.2) (x0.1,x0.2.1,x0.2.2.1,x0.2.2.2)).bind fun x1=>some (x1.1,x1.2.1,x1.2.2.1,x1.2.2.2)
def Ps:OKE:=fq WV (fun x=>FT x.1 x.2) [i6,JJ] Tryz.func142
def Hv (a0 a1:Tq3):Option Tq7:=(BM (a0.1,a0.2.1) (a1.2.2.1,a1.2.2.2)).bind fun x0=>(BM (a0.2.2.1,a0.2.2.2) (a1.1,a1.2.1)).bind fun x1=>(KK (x0.2,x0.1) (x1.2,x1.1)).bind fun x2=>some (x2.1,x2.2.1,x2.2.2.1,x2.2.2.2)
def Ww:OKE:=fq WS (fun x=>Hv x.1 x.2) [JI,Va] Tryz.func198
def CY (a0 a1:Tq3):Option Tq7:=(BM (a0.1,a0.2.1) (a1.1,a1.2.1)).bind fun x0=>(BM (a0.2.2.1,a0.2.2.2) (a1.2.2.1,a1.2.2.2)).bind fun x1=>(KK (x0.2,x0.1) (x1.2,x1.1)).bind fun x2=>some (x2.1,x2.2.1,x2.2.2.1,x2.2.2.2)
def Pr:OKE:=fq WT (fun x=>CY x.1 x.2) [JI,Va] Tryz.func141
def Yl (a0 a1:Tq4) (a2:Tq3):Option Tq11:=(Be 1).bind fun x0=>(FT (x0.1,x0.2.1,x0.2.2.1,x0.2.2.2) (a2.1,a2.2.1,a2.2.2.1,a2.2.2.2)).bind fun x1=>(CY (x1.1,x1.2.1,x1.2.2.1,x1.2.2.2) (a0.1,a0.2.1,a0.2.2.1,a0.2.2.2.1)).bind fun x2=>(CY (a2.1,a2.2.1,a2.2.2.1,a2.2.2.2) (a1.1,a1.2.1,a1.2.2.1,a1.2.2.2.1)).bind fun x3=>(Dj (x2.1,x2.2.1,x2.2.2.1,x2.2.2.2) (x3.1,x3.2.1,x3.2.2.1,x3.2.2.2)).bind fun x4=>(CY (x1.1,x1.2.1,x1.2.2.1,x1.2.2.2) (a0.2.2.2.2.1,a0.2.2.2.2.2.1,a0.2.2.2.2.2.2.1,a0.2.2.2.2.2.2.2)).bind fun x5=>(CY (a2.1,a2.2.1,a2.2.2.1,a2.2.2.2) (a1.2.2.2.2.1,a1.2.2.2.2.2.1,a1.2.2.2.2.2.2.1,a1.2.2.2.2.2.2.2)).bind fun x6=>(Dj (x5.1,x5.2.1,x5.2.2.1,x5.2.2.2) (x6.1,x6.2.1,x6.2.2.1,x6.2.2.2)).bind fun x7=>some (x4.1,x4.2.1,x4.2.2.1,x4.2.2.2,x7.1,x7.2.1,x7.2.2.1,x7.2.2.2)
def yo:OKE:=fq pg (fun x=>Yl x.1 x.2.1 x.2.2) [IZ,Ps,Pr,JJ] Tryz.func310
def FJ (s0:Bool) (s1:Tq3) (s2:Bool) (s3 s4 s5:List Tq0) (s6 s7:Int):Option (Bool×Tq3×Bool×List Tq0×List Tq0×List Tq0×Int×Int⊕List Tq0):=bif decide (s7<s6)then(AA s5 s7).bind fun x0=>bif((s4.length:Int)==0)then none else(AA s4 (Int.tmod (zi zj ((zi zj (s7+(s4.length:Int)))-1)) (s4.length:Int))).bind fun x1=>((IT s2 s0 (s1.1,s1.2.1,s1.2.2.1,s1.2.2.2) (x1.1.1.1,x1.1.1.2,x1.1.2.1,x1.1.2.2,x1.2.1.1,x1.2.1.2,x1.2.2.1,x1.2.2.2)).bind fun x2=>(IT x2.1 x2.2.1 (x2.2.2.1.1,x2.2.2.1.2.1,x2.2.2.1.2.2.1,x2.2.2.1.2.2.2) (x0.1.1.1,x0.1.1.2,x0.1.2.1,x0.1.2.2,x0.2.1.1,x0.2.1.2,x0.2.2.1,x0.2.2.2)).bind fun x3=>bif(!(x2.2.2.2==x3.2.2.2))then(B0 (x1.1.1.1,x1.1.1.2,x1.1.2.1,x1.1.2.2,x1.2.1.1,x1.2.1.2,x1.2.2.1,x1.2.2.2) x3.2.1).bind fun x4=>(FT (x3.2.2.1.1,x3.2.2.1.2.1,x3.2.2.1.2.2.1,x3.2.2.1.2.2.2) (x4.1,x4.2.1,x4.2.2.1,x4.2.2.2)).bind fun x5=>(B0 (x0.1.1.1,x0.1.1.2,x0.1.2.1,x0.1.2.2,x0.2.1.1,x0.2.1.2,x0.2.2.1,x0.2.2.2) x3.2.1).bind fun x6=>(B0 (x1.1.1.1,x1.1.1.2,x1.1.2.1,x1.1.2.2,x1.2.1.1,x1.2.1.2,x1.2.2.1,x1.2.2.2) x3.2.1).bind fun x7=>(FT (x6.1,x6.2.1,x6.2.2.1,x6.2.2.2) (x7.1,x7.2.1,x7.2.2.1,x7.2.2.2)).bind fun x8=>(Hv (x5.1,x5.2.1,x5.2.2.1,x5.2.2.2) (x8.1,x8.2.1,x8.2.2.1,x8.2.2.2)).bind fun x9=>(Yl (x1.1.1.1,x1.1.1.2,x1.1.2.1,x1.1.2.2,x1.2.1.1,x1.2.1.2,x1.2.2.1,x1.2.2.2) (x0.1.1.1,x0.1.1.2,x0.1.2.1,x0.1.2.2,x0.2.1.1,x0.2.1.2,x0.2.2.1,x0.2.2.2) (x9.1,x9.2.1,x9.2.2.1,x9.2.2.2)).bind fun x10=>(BV 128 8 s3 ([(((x10.1,x10.2.1),x10.2.2.1,x10.2.2.2.1),(x10.2.2.2.2.1,x10.2.2.2.2.2.1),x10.2.2.2.2.2.2.1,x10.2.2.2.2.2.2.2)]:List Tq0)).bind fun x11=>some (zb (x3.2.1,(x3.2.2.1.1,x3.2.2.1.2.1,x3.2.2.1.2.2.1,x3.2.2.1.2.2.2),x3.1,x11,(x0.1.1.1,x0.1.1.2,x0.1.2.1,x0.1.2.2,x0.2.1.1,x0.2.1.2,x0.2.2.1,x0.2.2.2),s4,s5,s6,s7))else some (zb (x3.2.1,(x3.2.2.1.1,x3.2.2.1.2.1,x3.2.2.1.2.2.1,x3.2.2.1.2.2.2),x3.1,s3,(x0.1.1.1,x0.1.1.2,x0.1.2.1,x0.1.2.2,x0.2.1.1,x0.2.1.2,x0.2.2.1,x0.2.2.2),s4,s5,s6,s7))).bind fun x12=>Sum.elim (fun x13=>some x13) (fun x14=>(IT x14.2.2.1 x14.1 (x14.2.1.1,x14.2.1.2.1,x14.2.1.2.2.1,x14.2.1.2.2.2) (x14.2.2.2.2.1.1,x14.2.2.2.2.1.2.1,x14.2.2.2.2.1.2.2.1,x14.2.2.2.2.1.2.2.2.1,x14.2.2.2.2.1.2.2.2.2.1,x14.2.2.2.2.1.2.2.2.2.2.1,x14.2.2.2.2.1.2.2.2.2.2.2.1,x14.2.2.2.2.1.2.2.2.2.2.2.2)).bind fun x15=>bif x15.2.2.2 then(BV 128 8 x14.2.2.2.1 ([(((x14.2.2.2.2.1.1,x14.2.2.2.2.1.2.1),x14.2.2.2.2.1.2.2.1,x14.2.2.2.2.1.2.2.2.1),(x14.2.2.2.2.1.2.2.2.2.1,x14.2.2.2.2.1.2.2.2.2.2.1),x14.2.2.2.2.1.2.2.2.2.2.2.1,x14.2.2.2.2.1.2.2.2.2.2.2.2)]:List Tq0)).bind fun x16=>some (zy (x15.2.1,(x15.2.2.1.1,x15.2.2.1.2.1,x15.2.2.1.2.2.1,x15.2.2.1.2.2.2),x15.1,x16,x14.2.2.2.2.2.1,x14.2.2.2.2.2.2.1,x14.2.2.2.2.2.2.2.1,(zi zj (x14.2.2.2.2.2.2.2.2+1))))else some (zy (x15.2.1,(x15.2.2.1.1,x15.2.2.1.2.1,x15.2.2.1.2.2.1,x15.2.2.1.2.2.2),x15.1,x14.2.2.2.1,x14.2.2.2.2.2.1,x14.2.2.2.2.2.2.1,x14.2.2.2.2.2.2.2.1,(zi zj (x14.2.2.2.2.2.2.2.2+1))))) x12 else some (zb s3)
def K8 (a0:List Tq0) (a1 a2:Bool) (a3:Tq3):Option (List Tq9):=(Ad (fun(s:Bool×Tq3×Bool×List Tq0×List Tq0×List Tq0×Int×Int)=>FJ s.1 s.2.1 s.2.2.1 s.2.2.2.1 s.2.2.2.2.1 s.2.2.2.2.2.1 s.2.2.2.2.2.2.1 s.2.2.2.2.2.2.2) (a1,(a3.1,a3.2.1,a3.2.2.1,a3.2.2.2),a2,([]:List Tq0),a0,a0,(a0.length:Int),(0:Int))).bind fun x0=>some x0
def ux:OKE:=fq jz (fun x=>K8 x.1 x.2.1 x.2.2.1 x.2.2.2) [mG,Lc,Ps,Ww,yo] Tryz.func296
def Mj (a0:List Tq0) (a1 a2:Tq4):Option (List Tq9):=(K8 a0 false true (a1.1,a1.2.1,a1.2.2.1,a1.2.2.2.1)).bind fun x0=>(K8 x0 false false (a2.1,a2.2.1,a2.2.2.1,a2.2.2.2.1)).bind fun x1=>(K8 x1 true true (a1.2.2.2.2.1,a1.2.2.2.2.2.1,a1.2.2.2.2.2.2.1,a1.2.2.2.2.2.2.2)).bind fun x2=>(K8 x2 true false (a2.2.2.2.2.1,a2.2.2.2.2.2.1,a2.2.2.2.2.2.2.1,a2.2.2.2.2.2.2.2)).bind fun x3=>some x3
def jb:OKE:=fq WZ (fun x=>Mj x.1 x.2.1 x.2.2) [ux] Tryz.func269
def K9 (a0:Tq3):Option Tq7:=(Bo a0.1 a0.2.1).bind fun x0=>(Bo false a0.2.2.2).bind fun x1=>some (x0.2,x0.1,x1.2,x1.1)
def mI:OKE:=fq Zf (fun x=>K9 x) [Fm] Tryz.func315
def NG (a0:Tq4):Option Tq11:=(K9 (a0.1,a0.2.1,a0.2.2.1,a0.2.2.2.1)).bind fun x0=>(K9 (a0.2.2.2.2.1,a0.2.2.2.2.2.1,a0.2.2.2.2.2.2.1,a0.2.2.2.2.2.2.2)).bind fun x1=>some (x0.1,x0.2.1,x0.2.2.1,x0.2.2.2,x1.1,x1.2.1,x1.2.2.1,x1.2.2.2)
def mH:OKE:=fq Ze (fun x=>NG x) [mI] Tryz.func307
def Eb (s0 s1:List Tq0) (s2 s3:Int):Option (List Tq0×List Tq0×Int×Int⊕List Tq0):=bif decide (s3<s2)then(AA s1 s3).bind fun x0=>(NG (x0.1.1.1,x0.1.1.2,x0.1.2.1,x0.1.2.2,x0.2.1.1,x0.2.1.2,x0.2.2.1,x0.2.2.2)).bind fun x1=>(BV 128 8 s0 ([(((x1.1,x1.2.1),x1.2.2.1,x1.2.2.2.1),(x1.2.2.2.2.1,x1.2.2.2.2.2.1),x1.2.2.2.2.2.2.1,x1.2.2.2.2.2.2.2)]:List Tq0)).bind fun x2=>some (zy (x2,s1,s2,(zi zj (s3+1))))else some (zb s0)
def Mk (a0:List Tq0):Option (List Tq9):=(Ad (fun(s:List Tq0×List Tq0×Int×Int)=>Eb s.1 s.2.1 s.2.2.1 s.2.2.2) (([]:List Tq0),a0,(a0.length:Int),(0:Int))).bind fun x0=>some x0
def jd:OKE:=fq W1 (fun x=>Mk x) [mH] Tryz.func295
def G9 (a0:List Tq0):Option (List Tq9×Bool):=(EU a0).bind fun x0=>bif(!x0)then some (([]:List Tq0),false)else(Mk a0).bind fun x1=>some (x1,true)
def Yb:OKE:=fq O3 (fun x=>G9 x) [Kv,jd] Tryz.func268
def Cv (a0:List Tq0) (a1 a2:Tq4):Option (List Tq9×Bool):=(EU a0).bind fun x0=>bif(!x0)then some (([]:List Tq0),false)else(Hx (a1.1,a1.2.1,a1.2.2.1,a1.2.2.2.1,a1.2.2.2.2.1,a1.2.2.2.2.2.1,a1.2.2.2.2.2.2.1,a1.2.2.2.2.2.2.2) 2).bind fun x1=>bif(!x1)then some (([]:List Tq0),false)else(Hx (a2.1,a2.2.1,a2.2.2.1,a2.2.2.2.1,a2.2.2.2.2.1,a2.2.2.2.2.2.1,a2.2.2.2.2.2.2.1,a2.2.2.2.2.2.2.2) 2).bind fun x2=>bif(!x2)then some (([]:List Tq0),false)else(DY (a2.1,a2.2.1,a2.2.2.1,a2.2.2.2.1) (a1.1,a1.2.1,a1.2.2.1,a1.2.2.2.1)).bind fun x3=>bif x3 then some (([]:List Tq0),false)else(DY (a2.2.2.2.2.1,a2.2.2.2.2.2.1,a2.2.2.2.2.2.2.1,a2.2.2.2.2.2.2.2) (a1.2.2.2.2.1,a1.2.2.2.2.2.1,a1.2.2.2.2.2.2.1,a1.2.2.2.2.2.2.2)).bind fun x4=>bif x4 then some (([]:List Tq0),false)else(Mj a0 (a1.1,a1.2.1,a1.2.2.1,a1.2.2.2.1,a1.2.2.2.2.1,a1.2.2.2.2.2.1,a1.2.2.2.2.2.2.1,a1.2.2.2.2.2.2.2) (a2.1,a2.2.1,a2.2.2.1,a2.2.2.2.1,a2.2.2.2.2.1,a2.2.2.2.2.2.1,a2.2.2.2.2.2.2.1,a2.2.2.2.2.2.2.2)).bind fun x5=>(G9 x5).bind fun x6=>some (x6.1,x6.2)
def iW:OKE:=fq WL (fun x=>Cv x.1 x.2.1 x.2.2) [Kv,cL,NX,jb,Yb] Tryz.func226
def DX (a0:Tq3):Option Tq7:=(Be 2).bind fun x0=>(Hv (a0.1,a0.2.1,a0.2.2.1,a0.2.2.2) (x0.1,x0.2.1,x0.2.2.1,x0.2.2.2)).bind fun x1=>some (x1.1,x1.2.1,x1.2.2.1,x1.2.2.2)
def Tc:OKE:=fq Tt (fun x=>DX x) [IZ,Ww] Tryz.func143
def BA (s0 s1:Tq3) (s2 s3:List Tq0) (s4 s5:Int):Option Tq25:=bif decide (s5<s4)then(AA s3 s5).bind fun x0=>bif((s2.length:Int)==0)then none else(AA s2 (Int.tmod (zi zj (s5+1)) (s2.length:Int))).bind fun x1=>(CY (x0.1.1.1,x0.1.1.2,x0.1.2.1,x0.1.2.2) (x1.2.1.1,x1.2.1.2,x1.2.2.1,x1.2.2.2)).bind fun x2=>(CY (x1.1.1.1,x1.1.1.2,x1.1.2.1,x1.1.2.2) (x0.2.1.1,x0.2.1.2,x0.2.2.1,x0.2.2.2)).bind fun x3=>(FT (x2.1,x2.2.1,x2.2.2.1,x2.2.2.2) (x3.1,x3.2.1,x3.2.2.1,x3.2.2.2)).bind fun x4=>(Dj (s1.1,s1.2.1,s1.2.2.1,s1.2.2.2) (x4.1,x4.2.1,x4.2.2.1,x4.2.2.2)).bind fun x5=>some (zy ((s0.1,s0.2.1,s0.2.2.1,s0.2.2.2),(x5.1,x5.2.1,x5.2.2.1,x5.2.2.2),s2,s3,s4,(zi zj (s5+1))))else some (zb ((s0.1,s0.2.1,s0.2.2.1,s0.2.2.2),s1.1,s1.2.1,s1.2.2.1,s1.2.2.2))
def Kq (a0:List Tq0):Option Tq7:=(Be 0).bind fun x0=>(Ad (fun(s:Tq3×Tq3×List Tq0×List Tq0×Int×Int)=>BA s.1 s.2.1 s.2.2.1 s.2.2.2.1 s.2.2.2.2.1 s.2.2.2.2.2) ((false,([]:List Int),false,([]:List Int)),(x0.1,x0.2.1,x0.2.2.1,x0.2.2.2),a0,a0,(a0.length:Int),(0:Int))).bind fun x1=>(DX (x1.2.1,x1.2.2.1,x1.2.2.2.1,x1.2.2.2.2)).bind fun x2=>some (x2.1,x2.2.1,x2.2.2.1,x2.2.2.2)
def f8:OKE:=fq TH (fun x=>Kq x) [IZ,Pr,Ps,JJ,Tc] Tryz.func75
def FU (a0:Tq3):Option (Tq7×Bool):=(Cw (a0.1,a0.2.1,a0.2.2.1,a0.2.2.2) 40).bind fun x0=>bif(!x0)then some ((false,([]:List Int),false,([]:List Int)),false)else some ((a0.1,a0.2.1,a0.2.2.1,a0.2.2.2),true)
def Pu:OKE:=fq PH (fun x=>FU x) [OV] Tryz.func77
def HV (a0:List Tq0):Option (Tq7×Bool):=(EU a0).bind fun x0=>bif(!x0)then some ((false,([]:List Int),false,([]:List Int)),false)else(Kq a0).bind fun x1=>(FU (x1.1,x1.2.1,x1.2.2.1,x1.2.2.2)).bind fun x2=>some ((x2.1.1,x2.1.2.1,x2.1.2.2.1,x2.1.2.2.2),x2.2)
def fV:OKE:=fq Tw (fun x=>HV x) [Kv,f8,Pu] Tryz.func227
def FW (a0:List Tq0) (a1 a2:Int):Option (Tq7×Bool):=(Be a1).bind fun x0=>(Be a2).bind fun x1=>(Be (zi zj (a1+1))).bind fun x2=>(Be (zi zj (a2+1))).bind fun x3=>(Cv a0 (x0.1,x0.2.1,x0.2.2.1,x0.2.2.2,x1.1,x1.2.1,x1.2.2.1,x1.2.2.2) (x2.1,x2.2.1,x2.2.2.1,x2.2.2.2,x3.1,x3.2.1,x3.2.2.1,x3.2.2.2)).bind fun x4=>bif(!x4.2)then some ((false,([]:List Int),false,([]:List Int)),false)else(HV x4.1).bind fun x5=>some ((x5.1.1,x5.1.2.1,x5.1.2.2.1,x5.1.2.2.2),x5.2)
def je:OKE:=fq W2 (fun x=>FW x.1 x.2.1 x.2.2) [IZ,iW,fV] Tryz.func175
def Cf (s0:Tq6) (s1:List Tq1) (s2:List Tq0) (s3 s4:Int):Option Tq23:=bif decide (s4<(zi zj (s0.1+s0.2.2.1)))then(FW s2 s4 s3).bind fun x0=>bif(!x0.2)then some (zb (zb (([]:List Tq1),false)))else(BV 64 4 s1 ([((x0.1.1,x0.1.2.1),x0.1.2.2.1,x0.1.2.2.2)]:List Tq1)).bind fun x1=>some (zy ((s0.1,s0.2.1,s0.2.2.1,s0.2.2.2),x1,s2,s3,(zi zj (s4+1))))else some (zb (zy ((s0.1,s0.2.1,s0.2.2.1,s0.2.2.2),s1,s2,s3)))
def BP (s0:Tq6) (s1:List Tq1) (s2:List Tq0) (s3:Int):Option (Tq6×List Tq1×List Tq0×Int⊕(List Tq1⊕List Tq1×Bool)):=bif decide (s3<(zi zj (s0.2.1+s0.2.2.2)))then(Ad (fun(s:Tq6×List Tq1×List Tq0×Int×Int)=>Cf s.1 s.2.1 s.2.2.1 s.2.2.2.1 s.2.2.2.2) ((s0.1,s0.2.1,s0.2.2.1,s0.2.2.2),s1,s2,s3,s0.1)).bind fun x0=>Sum.elim (fun x1=>some (zy ((x1.1.1,x1.1.2.1,x1.1.2.2.1,x1.1.2.2.2),x1.2.1,x1.2.2.1,(zi zj (x1.2.2.2+1))))) (fun x2=>some (zb (zb (x2.1,x2.2)))) x0 else some (zb (zy s1))
def CR (a0:List Tq0) (a1:Tq6):Option (List Tq22×Bool):=(EU a0).bind fun x0=>bif(!x0)then some (([]:List Tq1),false)else(Ci (a1.1,a1.2.1,a1.2.2.1,a1.2.2.2)).bind fun x1=>bif(!x1)then some (([]:List Tq1),false)else(Ad (fun(s:Tq6×List Tq1×List Tq0×Int)=>BP s.1 s.2.1 s.2.2.1 s.2.2.2) ((a1.1,a1.2.1,a1.2.2.1,a1.2.2.2),([]:List Tq1),a0,a1.2.1)).bind fun x2=>Sum.elim (fun x3=>some (x3,true)) (fun x4=>some (x4.1,x4.2)) x2
def fW:OKE:=fq Tx (fun x=>CR x.1 x.2) [Kv,Ie,je] Tryz.func116
def Ct (s0:Tq6) (s1:List Tq1) (s2:List Tq2) (s3 s4:Int):Option (Tq6×List Tq1×List Tq2×Int×Int⊕Tq6×List Tq1×List Tq2):=bif decide (s4<s3)then(Be 0).bind fun x0=>(BV 64 4 s1 ([((x0.1,x0.2.1),x0.2.2.1,x0.2.2.2)]:List Tq1)).bind fun x1=>some (zy ((s0.1,s0.2.1,s0.2.2.1,s0.2.2.2),x1,s2,s3,(zi zj (s4+1))))else some (zb ((s0.1,s0.2.1,s0.2.2.1,s0.2.2.2),s1,s2))
def BX (s0:Tq6) (s1:List Tq1) (s2:List Tq2) (s3 s4:Int) (s5:List Tq1) (s6 s7:Int):Option Tq18:=bif decide (s7<s6)then(AA s5 s7).bind fun x0=>(AW s7 (List.length s1)).bind fun x1=>(AN s1 x1).bind fun x2=>(Dj (x2.1.1,x2.1.2,x2.2.1,x2.2.2) (x0.1.1,x0.1.2,x0.2.1,x0.2.2)).bind fun x3=>(FU (x3.1,x3.2.1,x3.2.2.1,x3.2.2.2)).bind fun x4=>(AW s7 (List.length s1)).bind fun x5=>(AN s1 x5).bind fun x6=>bif(!x4.2)then some (zb (zb (([]:List Tq1),false)))else some (zy ((s0.1,s0.2.1,s0.2.2.1,s0.2.2.2),(List.set s1 x5 ((x4.1.1,x4.1.2.1),x4.1.2.2.1,x4.1.2.2.2)),s2,s3,s4,s5,s6,(zi zj (s7+1))))else some (zb (zy ((s0.1,s0.2.1,s0.2.2.1,s0.2.2.2),s1,s2,s3,s4)))
def Bk (s0:Tq6) (s1:List Tq1) (s2:List Tq2) (s3 s4:Int):Option (Tq6×List Tq1×List Tq2×Int×Int⊕(List Tq1⊕List Tq1×Bool)):=bif decide (s4<s3)then(AA s2 s4).bind fun x0=>(NH x0).bind fun x1=>(CR x1 (s0.1,s0.2.1,s0.2.2.1,s0.2.2.2)).bind fun x2=>bif(!x2.2)then some (zb (zb (([]:List Tq1),false)))else(Ad (fun(s:Tq6×List Tq1×List Tq2×Int×Int×List Tq1×Int×Int)=>BX s.1 s.2.1 s.2.2.1 s.2.2.2.1 s.2.2.2.2.1 s.2.2.2.2.2.1 s.2.2.2.2.2.2.1 s.2.2.2.2.2.2.2) ((s0.1,s0.2.1,s0.2.2.1,s0.2.2.2),s1,s2,s3,s4,x2.1,(x2.1.length:Int),(0:Int))).bind fun x3=>Sum.elim (fun x4=>some (zy ((x4.1.1,x4.1.2.1,x4.1.2.2.1,x4.1.2.2.2),x4.2.1,x4.2.2.1,x4.2.2.2.1,(zi zj (x4.2.2.2.2+1))))) (fun x5=>some (zb (zb (x5.1,x5.2)))) x3 else some (zb (zy s1))
end
end Go.Proofs.YtiijheppiboglaaGreatDoor.Ev
