/- What the theorem of this claim leans on, part 4. -/
import Derived.Test.YtiijheppiboglaaGreatDoorKC
import Derived.WalkKit
import Derived.SizedLaws
import Derived.IntWalk
import Derived.Below
import Derived.Lib.LaidTab
import Derived.Lib.ItoaMem
import Derived.Lib.AppendIntMem
import Derived.Lib.Itoa
import Derived.Lib.Join
import Derived.Lib.Repeat
import Derived.Lib.Split
import Derived.Lib.SplitLaws
import Derived.Lib.IndexMore
import Derived.Lib.Strings
import Derived.Lib.AtoiAll
import Derived.Lib.AtoiErrMem
import Derived.Shelf.Strings.Builder1
import Derived.Shelf.Strings.Builder2
import Derived.Shelf.Strings.OnBuilder
import Derived.Shelf.Small.Wraps
import Derived.Shelf.Strconv.Atoi
import Derived.Shelf.Strconv.Itoa0
import Derived.Shelf.Strconv.Itoa1
import Derived.Shelf.LaysM
import Derived.Shelf.Strconv.Itoa2
import Derived.Shelf.Strconv.Itoa3
import Derived.Shelf.Strconv.AtoiErrFast
import Derived.Shelf.Strconv.ParseIntEmpty
import Derived.Shelf.Strconv.AtoiFail
import Derived.Shelf.Strconv.Clone
import Derived.Shelf.Strconv.SyntaxError
import Derived.Shelf.LaysC
import Derived.Shelf.Strconv.ToError
import Derived.Shelf.Strconv.Lower
import Derived.Shelf.Strconv.ParseUint10
import Derived.Shelf.Strconv.ParseUint10Empty
import Derived.Shelf.Strconv.ParseUint10Any
import Derived.Shelf.Strconv.ParseInt10
import Derived.Shelf.Strconv.AtoiLong
import Derived.Shelf.Strconv.AtoiInnerAll
import Derived.Shelf.Strconv.RangeError
import Derived.Shelf.Strconv.ToErrorRange
import Derived.Shelf.Strconv.AtoiAll
import Derived.Shelf.Strconv.ErrVarAll
import Derived.Shelf.Strings.Search1
import Derived.Shelf.Strings.Search2
import Derived.Shelf.Strings.Search3
import Derived.Shelf.Strings.Cut
import Derived.Shelf.Strings.Count
import Derived.Shelf.Strings.Shaped
import Derived.Shelf.Strings.Prefix
import Derived.Shelf.Strings.Split
import Derived.Test.YtiijheppiboglaaGreatDoorProg
import Derived.HandedShaped
import Derived.LaidMore
import Derived.Shelf.Vars
import Derived.Stop.LaidErr
import Derived.KernelRfl
set_option maxHeartbeats 2000000
open Option renaming bind_some → za0, map_eq_some_iff → zb6, map_some → zd4
open List renaming getElem?_eq_getElem → za1, mem_of_getElem? → za3, getElem?_eq_some_iff → za4, all_eq_true → za5, drop_eq_getElem_cons → zb1, mem_append → zb2, mem_flatMap → zb3, getD_eq_getElem?_getD → zb4, flatMap_cons → zb5, length_cons → zb8, map_cons → zb9, eq_nil_of_length_eq_zero → zc0, getElem?_take → zc2, length_append → zc3, take_of_length_le → zc4, mem_cons → zc6, getElem?_map → zc9, length_map → zd0, mem_singleton → zd1, mem_map → zd2, all_cons → zd3, length_pos_iff → zd5, getElem?_drop → zd6, drop_eq_nil_of_le → zd7, cons_append → zd8, getElem?_append_left → zd9, append_nil → ze2, mem_cons_of_mem → ze6, getElem?_eq_none → ze8, length_take → zf2, not_mem_nil → zf3, length_nil → zf4, drop_zero → zf5
open Bool renaming and_eq_true → za2, false_eq_true → zc1, true_and → ze5
open Nat renaming eq_of_beq_eq_true → za6, le_refl → za8, mul_le_mul_right → ze0, lt_of_lt_of_le → ze1, lt_or_ge → ze4, le_trans → ze7, zero_add → zf0, add_mul → zf7
open Int renaming mul_le_mul_of_nonneg_right → za7, mul_le_mul_of_nonneg_left → zb0, tmod_eq_emod_of_nonneg → zb7, tdiv_eq_ediv_of_nonneg → zc5, toNat_natCast → zc8, mul_add → ze3, le_of_lt → ze9, natAbs_natCast → zf1, mul_nonneg → zf6
open Sum renaming elim_inr → za9
open Array renaming getD_eq_getD_getElem? → zc7
open Go.IntKind renaming wrap → zi, i64 → zj, u64 → zk
open Option.some renaming inj → zv, injEq → zx
noncomputable section
set_option linter.unusedVariables false
set_option linter.unusedSimpArgs false
set_option linter.unusedSectionVars false
namespace Go.Proofs.YtiijheppiboglaaGreatDoor.Ev
section
open Go
section
variable {P:Program} {R:Rel} {cf:Cfg} {X:TX} {g:FuncId}
def LI(R:Rel)(cf:Cfg)(X:TX):Prop:=∀g E,Ac6 X.ents g=some E->Eh R E/\E.a.g=g/\cf.byref g=(F6 E.a.params).map YQ
theorem A5D{α:Type}{op:Op}{b:Nat}{tm:TTm}{m:Tm}{hp hpm:THp}{hvm:Hp}{K:SV->THp->Cls->Option α}{z:α}(hX:XOK P X)(hisr:isR op=true)(hr:RT hp tm m)(hh:RHm hpm hp hvm)(h:BW X op b tm hpm K=some z):C7 P R cf op b m hp hpm hvm K z:=by
 cases op with
 |load t a=>exact A5u hX hr hh h
 |indexAddr t x i=>exact A7K hX hr hh h
 |convert s d x=>exact A43 hX hr hh h
 |slice t x lo hi mx=>
  cases mx with
  |none=>exact A08 hX hr hh h
  |some m'=>
   cases hi with
   |none=>simp[BW]at h
   |some h'=>exact AJ0 hX hr h
 |_=>simp[isR]at hisr
theorem A64{α:Type}{op:Op}{b:Nat}{tm:TTm}{m:Tm}{hp:THp}{hv:Hp}{K:SV->THp->Cls->Option α}{z:α}(hX:XOK P X)(hE:LI R cf X)(hh:RH hp hv)(hr:RT hp tm m)(h:BW X op b tm hp K=some z):Z1 P R cf op b tm m hv K z:=by
 cases op with
 |move x=>exact(A8K hr h).done hh hr
 |assign x=>exact(A4M hr h).done hh hr
 |pick c x y=>exact(A79 hr h).done hh hr
 |alloc t=>exact A51 hX hh hr h
 |box t x=>exact A9s hX hh hr h
 |build t Aj=>exact(A6C hX hr h).done hh hr
 |buildSlice t len Aj=>exact A6G hX hh hr h
 |load t a=>exact(A5u hX hr hh.toM h).done hh hr
 |store t a x=>exact A6F hX hh hr h
 |nilCheck x=>exact(A9t hr h).done hh hr
 |binOp op t x y yt=>exact(A9D hX hr h).done hh hr
 |unOp u t x=>exact(A9U hr h).done hh hr
 |convert s d x=>exact(A43 hX hr hh.toM h).done hh hr
 |makeSlice t l c=>exact A8a hX hh hr h
 |slice t x lo hi mx=>
  cases mx with
  |none=>exact(A08 hX hr hh.toM h).done hh hr
  |some m'=>
   cases hi with
   |none=>simp[BW]at h
   |some h'=>exact(AJ0 hX hr h).done hh hr
 |fieldAddr t x k=>exact(AI8 hX hr h).done hh hr
 |field t x k=>exact(A56 hX hr h).done hh hr
 |indexAddr t x i=>exact(A7K hX hr hh.toM h).done hh hr
 |index t x i=>exact(A7b hX hr h).done hh hr
 |extract x k=>exact(A2C hr h).done hh hr
 |makeFunc fn first caps=>
  cases fn with
  |func f=>exact(A8N hr h).done hh hr
  |_=>simp[BW]at h
 |call c=>
  obtain⟨callee,args,ts⟩:=c;cases callee with
  |builtin bi=>
   cases bi with
   |append=>exact A3U hX hh hr h
   |len=>exact(A81 hX hr hh.toM h).done hh hr
   |min=>exact(A9y hr h).done hh hr
   |max=>exact(A9v hr h).done hh hr
   |_=>simp[BW]at h
  |value f=>
   simp only[BW]at h
   split at h
   ·rename_i g caps hf;have hc:=A8 hr f;rw[hf]at hc;obtain⟨us,hfv,hcs⟩:=A0B hc;obtain⟨x,hp',cls,y,hv',h1,h2,h3,h4,h5⟩:=A1n hE hh hr (RC.append (KT hr args.toList) (hcs.mono fun _ _ _ h=>h.to1.to2)) h;refine⟨x,hp',cls,y,hv',h1,h2,h3,h4,fun KV hk=> ?_⟩
    show(match AJ m f with|.cl g caps=>EJ R cf g (args.toList.map (AJ m)++caps) hv b KV|_=>False);rw[hfv];exact h5 KV hk
   ·cases h
  |_=>simp[BW]at h
 |_=>simp[BW]at h
theorem A5q{b:Nat}:∀(hp:THp)(id:Nat),AK (AD2 b hp) id=if id<b then AK hp id else none
 |[],id=>by simp[AD2,AK]
 |(k,x)::l,id=>by
  have ih:=A5q (b:=b) l id;unfold AD2 at ih⊢
  rw[List.filter_cons];by_cases hk:k<b
  ·have:Nat.blt k b=true:=Nat.ble_eq_true_of_le hk;simp only[this,if_true];rw[AF,AF];by_cases hi:id=k
   ·subst hi;rw[zr rfl,zr rfl,zr hk]
   ·rw[zw hi,zw hi];exact ih
  ·have:Nat.blt k b=false:=by
    cases hb:Nat.blt k b with
    |false=>rfl
    |true=>exact absurd (Nat.lt_of_succ_le (Nat.le_of_ble_eq_true hb)) hk
   simp only[this,zc1,if_false];rw[AF];by_cases hi:id=k
   ·subst hi;rw[zw hk]at ih⊢;exact ih
   ·rw[zw hi];exact ih
theorem A6X{α:Type}{draw:Bool}{op:Op}{b:Nat}{tm:TTm}{m:Tm}{hp:THp}{hv:Hp}{K:SV->THp->Cls->Option α}{z:α}(hX:XOK P X)(hE:LI R cf X)(hh:RH hp hv)(hr:RT hp tm m)(h:A4Z X draw op b tm hp K=some z):
  ∃x hp' cls y hv',K x hp' cls=some z/\RV2 hp' x y/\RH hp' hv'/\RT hp' tm m/\∀KV:Cx,KV y hv' cls->HX P R cf draw op b (AJ m) hv KV:=by
 unfold A4Z at h;cases hd:draw&&isR op with
 |true=>
  rw[hd]at h;have hi:isR op=true:=by simp only[za2]at hd;exact hd.2
  obtain⟨x,y,cls,h1,h2,h3⟩:=A5D (R:=R) (cf:=cf) (hp:=hp) (hpm:=AD2 b hp) (hvm:=A6N b hv) hX hi hr (fun id bb hb=>by
   rw[A5q]at hb
   split at hb
   ·rename_i hlt;obtain⟨k,hk,hrb⟩:=hh id bb hb;exact⟨hb,k,by simp only[A6N,zr hlt,hk],hrb⟩
   ·cases hb) h
  refine⟨x,hp,cls,y,hv,h1,h2,hh,hr,fun KV hk=> ?_⟩
  unfold HX;rw[hd];exact h3 (fun x _ cls=>KV x hv cls) hk
 |false=>
  rw[hd]at h;obtain⟨x,hp',cls,y,hv',h1,h2,h3,h4,h5⟩:=A64 hX hE hh hr h;refine⟨x,hp',cls,y,hv',h1,h2,h3,h4,fun KV hk=> ?_⟩
  unfold HX;rw[hd];exact h5 KV hk
theorem A0u{hp:THp}{tm:TTm}{m:Tm}{x:SV}{y:V}(h:RT hp tm m)(hx:RV2 hp x y)(dst:Option Tmp):RT hp (QD tm dst x) (put m dst y):=by
 cases dst with
 |none=>exact h
 |some d=>
  intro t;simp only[QD,put];rw[GZ];unfold upd
  split
  ·exact hx
  ·exact h t
theorem A38{hp:THp}{tm:TTm}{m:Tm}{op:Op}(hr:RT hp tm m)(h:AQ5 tm op=true):A1c m op=A5n tm op:=by
 unfold A1c A5n;unfold AQ5 at h;generalize op.operands.toList=l at h⊢
 induction l with
 |nil=>rfl
 |cons y l ih=>
  simp only[zb9,zd3,za2]at h;simp only[zb5,zb9];rw[ih h.2,(Iz h.1 (A8 hr y)).2.2.1]
theorem SU{α β:Type}{f g:α->List β}:∀{l:List α},(∀x∈l,f x=g x)->l.flatMap f=l.flatMap g
 |[],_=>rfl
 |x::l,h=>by
  rw[zb5,zb5,h x (List.mem_cons_self ..),SU fun y hy=>h y (ze6 _ hy)]
theorem AM7{hp:THp}{hv:Hp}{tm:TTm}{m:Tm}{op:Op}{ids:List Nat}(hE:LI R cf X)(hh:RH hp hv)(hr:RT hp tm m)(h:R7 X op tm hp=some ids):JM cf op (AJ m) hv=some ids:=by
 unfold R7 at h
 split at h
 ·rename_i t a x
  split at h
  ·rename_i hc;cases h
   simp only[za2]at hc;simp only[JM];rw[(Iz hc.1 (A8 hr a)).2.2.1,(Iz hc.2 (A8 hr x)).2.2.1]
  ·cases h
 ·rename_i f args tys
  split at h
  case h_2=>cases h
  rename_i g caps hf
  split at h
  case h_2=>cases h
  rename_i E hfe;obtain⟨_,_,hbr⟩:=hE g E hfe
  split at h
  case h_2=>cases h
  rename_i args' hargs'
  split at h
  case isFalse=>cases h
  rename_i s1
  split at h
  case h_2=>cases h
  rename_i o ho;cases h
  have hc:=A8 hr f;rw[hf]at hc;obtain⟨us,hfv,hcs⟩:=A0B hc;obtain⟨ys',hV,hargs2,hlent⟩:=Rw hh hargs' (RC.append (KT hr args.toList) (hcs.mono fun _ _ _ h=>h.to1.to2));obtain⟨a1,a2,a3,a4⟩:=RC.all1 s1 hargs2;rw[<-hbr]at hV hlent;have hclose:FI hv 64 (ys'.flatMap Ai) []=some o:=by rw[a2];exact H7 hh _ _ _ ho
  have hcloseC:E8 hv (ys'.flatMap Ai)=some o:=by
   unfold E8;rw[hclose];simp only;rw[zr (by rw[a2];exact S7 hh ho)]
  simp only[JM,hfv,hV,hcloseC,hlent]
 ·rename_i t n Aj
  split at h
  ·rename_i hc;cases h
   simp only[JM]
   congr 1
   refine SU fun p hp=> ?_
   exact(Iz (za5.1 hc p hp) (A8 hr p.2)).2.2.1
  ·cases h
 ·cases h
theorem A6u{hp:THp}{hv:Hp}{tm:TTm}{m:Tm}{all:List Oper}{i:Nat}(hE:LI R cf X)(hh:RH hp hv)(hr:RT hp tm m)(h:A1Q X all tm hp i=true):Jn cf all m hv i=true:=by
 unfold A1Q at h;unfold Jn;cases ha:all[i]? with
 |none=>rw[ha]at h;cases h
 |some a=>
  rw[ha]at h;simp only[za2]at h⊢
  refine⟨h.1,?_⟩
  replace h:=h.2
  cases ht:R7 X a.op tm hp with
  |none=>rw[ht]at h;cases h
  |some ids=>
   rw[ht]at h;rw[AM7 hE hh hr ht];simp only at h⊢
   refine za5.2 fun j hj=> ?_
   have h4:=za5.1 h j hj;cases ho:all[j]? with
   |none=>simp
   |some o=>
    rw[ho]at h4;simp only[Bool.or_eq_true,za2]at h4⊢
    rcases h4 with h4|h4|⟨h4,h5,h6⟩
    ·exact .inl h4
    ·exact .inr (.inl h4)
    ·exact .inr (.inr ⟨h4,by rw[A38 hr h5];exact h6⟩)
theorem A8m{hp:THp}{hv:Hp}{tm:TTm}{m:Tm}{all:List Oper}{i:Nat}(hE:LI R cf X)(hh:RH hp hv)(hr:RT hp tm m)(h:(eOK all i||A1Q X all tm hp i)=true):(eOK all i||Jn cf all m hv i)=true:=by
 simp only[Bool.or_eq_true]at h⊢
 exact h.imp (fun h=>h) (A6u hE hh hr)
theorem A3s{α:Type}{draw ok ok':Bool}{cls:Cls}{A:Option α}{z:α}(hok:ok=true->ok'=true)(h:Aq7 draw ok cls A=some z):A=some z/\∀B:Prop,B->drawn draw ok' cls B:=by
 cases draw<;>cases cls<;>first|exact⟨h,fun B hb=>hb⟩|(obtain⟨h1,h2⟩:=Dx h;exact⟨h2,fun B hb=>⟨hok h1,hb⟩⟩)
theorem XE{α:Type}{all:List Oper}{draw:Bool}(hX:XOK P X)(hE:LI R cf X):∀(l:List Oper)(i:Nat){st:TSt}{s:St}{K:TSt->Option α}{z:α},RS st s->Tz X all draw l i st K=some z->
  ∃st' s',K st'=some z/\RS st' s'/\st'.c=st.c/\∀KV:St->Prop,KV s'->CH P R cf all draw l i s KV
 |[],i,st,s,K,z,hs,h=>⟨st,s,h,hs,rfl,fun KV hk=>hk⟩
 |o::l,i,st,s,K,z,hs,h=>by
  have go:∀(tm:TTm),RT st.hp tm s.tm->(A4Z X draw o.op (16*(st.c+i)) tm st.hp fun x hp cls=>Aq7 draw (eOK all i||A1Q X all tm st.hp i) cls (Tz X all draw l (i+1) {tm:=QD tm o.dst x,hp:=hp,c:=st.c} K))=some z->
    ∃st' s',K st'=some z/\RS st' s'/\st'.c=st.c/\∀KV:St->Prop,KV s'->HX P R cf draw o.op (16*(s.c+i)) (AJ s.tm) s.hp fun x hp cls=>drawn draw (eOK all i||Jn cf all s.tm s.hp i) cls (CH P R cf all draw l (i+1) {tm:=put s.tm o.dst x,hp:=hp,c:=s.c} KV):=by
   intro tm hr h;obtain⟨x,hp',cls,y,hv',h1,h2,h3,h4,h5⟩:=A6X (R:=R) (cf:=cf) hX hE hs.hp hr h;obtain⟨h6,h7⟩:=A3s (A8m hE hs.hp hr) h1;obtain⟨st',s',q1,q2,q3,q4⟩:=XE hX hE l (i+1) (st:={tm:=QD tm o.dst x,hp:=hp',c:=st.c}) (s:={tm:=put s.tm o.dst y,hp:=hv',c:=s.c}) ⟨A0u h4 h2 o.dst,h3,hs.c⟩ h6;exact⟨st',s',q1,q2,q3,fun KV hk=>by rw[hs.c];exact h5 _ (by have:=h7 _ (q4 KV hk);rw[hs.c]at this;exact this)⟩
  have no:∀(tm:TTm),RT st.hp tm s.tm->Tz X all draw l (i+1) {tm:=QD tm o.dst (.tup []),hp:=st.hp,c:=st.c} K=some z->
    ∃st' s',K st'=some z/\RS st' s'/\st'.c=st.c/\∀KV:St->Prop,KV s'->CH P R cf all draw l (i+1) {tm:=put s.tm o.dst (.tup []),hp:=s.hp,c:=s.c} KV:=by
   intro tm hr h;exact XE hX hE l (i+1) (st:={tm:=QD tm o.dst (.tup []),hp:=st.hp,c:=st.c}) (s:={tm:=put s.tm o.dst (.tup []),hp:=s.hp,c:=s.c}) ⟨A0u (x:=.tup []) (y:=.tup []) hr ⟨[],rfl,trivial⟩ o.dst,hs.hp,hs.c⟩ h
  simp only[Tz]at h;cases hg:o.guard with
  |none=>
   rw[hg]at h;obtain⟨st',s',q1,q2,q3,q4⟩:=go st.tm hs.tm h;exact⟨st',s',q1,q2,q3,fun KV hk=>by unfold CH;rw[hg];exact q4 KV hk⟩
  |some jw=>
   obtain⟨j,want⟩:=jw;rw[hg]at h;simp only at h;cases hd:(all[j]?).bind (·.dst)with
   |none=>rw[hd]at h;cases h
   |some d=>
    rw[hd]at h;simp only at h;have htd:=hs.tm d;have fin:∀w:Bool,UQ (s.tm d) want=some w->(∃st' s',K st'=some z/\RS st' s'/\st'.c=st.c/\∀KV:St->Prop,KV s'->(if w=true then HX P R cf draw o.op (16*(s.c+i)) (AJ s.tm) s.hp fun x hp cls=>drawn draw (eOK all i||Jn cf all s.tm s.hp i) cls (CH P R cf all draw l (i+1) {tm:=put s.tm o.dst x,hp:=hp,c:=s.c} KV)else CH P R cf all draw l (i+1) {tm:=put s.tm o.dst (.tup []),hp:=s.hp,c:=s.c} KV))->
      ∃st' s',K st'=some z/\RS st' s'/\st'.c=st.c/\∀KV:St->Prop,KV s'->CH P R cf all draw (o::l) i s KV:=by
     intro w hw ⟨st',s',q1,q2,q3,q4⟩;refine⟨st',s',q1,q2,q3,fun KV hk=> ?_⟩
     unfold CH;rw[hg];simp only[hd,zd4,Ao,hw];exact q4 KV hk
    have same:∀t:Bool,s.tm d=.v (.bool t)->RT st.hp ((d,.bool t)::st.tm) s.tm:=by
     intro t ht t';rw[GZ]
     split
     ·rename_i he;rw[he,ht];rfl
     ·exact hs.tm t'
    split at h
    ·rename_i t hv;rw[hv]at htd;have htd:=P4 htd;cases want with
     |true=>
      simp only at h;cases t with
      |true=>
       obtain⟨st',s',q1,q2,q3,q4⟩:=go _ (same true htd) h;exact fin true (by rw[htd];rfl) ⟨st',s',q1,q2,q3,fun KV hk=>by rw[zr rfl];exact q4 KV hk⟩
      |false=>
       obtain⟨st',s',q1,q2,q3,q4⟩:=no _ (same false htd) h;exact fin false (by rw[htd];rfl) ⟨st',s',q1,q2,q3,fun KV hk=>by rw[zw (by simp)];exact q4 KV hk⟩
     |false=>
      simp only at h;cases t with
      |true=>
       obtain⟨st',s',q1,q2,q3,q4⟩:=no _ (same true htd) h;exact fin false (by rw[htd];rfl) ⟨st',s',q1,q2,q3,fun KV hk=>by rw[zw (by simp)];exact q4 KV hk⟩
      |false=>
       obtain⟨st',s',q1,q2,q3,q4⟩:=go _ (same false htd) h;exact fin true (by rw[htd];rfl) ⟨st',s',q1,q2,q3,fun KV hk=>by rw[zr rfl];exact q4 KV hk⟩
    ·rename_i hv;rw[hv]at htd;obtain⟨us,hus,hc⟩:=(show ∃us,s.tm d=.tup us/\RC (RV1 st.hp) [] us from htd);cases us with
     |cons a l=>exact hc.elim
     |nil=>
      obtain⟨st',s',q1,q2,q3,q4⟩:=no _ hs.tm h;exact fin false (by rw[hus];rfl) ⟨st',s',q1,q2,q3,fun KV hk=>by rw[zw (by simp)];exact q4 KV hk⟩
    ·cases h
structure CfOK (cf:Cfg) (g:FuncId) (X:TX):Prop where
 live:∀r an,EQ X.ann.heads r=some an->cf.live g r=Cw an
 out:∀r outs ex an,EQ X.ann.outs r=some outs->QF outs ex=some an->cf.out g r ex=Cw an
 join:∀r an,EQ X.ann.joins r=some an->cf.join g r=some (Cw an)
 nojoin:∀r,EQ X.ann.joins r=none->cf.join g r=none
 res:cf.res g=(Cw X.ann.res).map (·.2)
 par:cf.par g=Cw X.ann.params
 rts:cf.rts g=F9 (Wz (Da X.ann.res) X.ann.e 0 (Da X.ann.res))
theorem An9{a b:Ex}(h:TQ a b=true):a=b:=by
 cases a<;>cases b<;>simp[TQ]at h
 ·rfl
 ·rw[h]
 ·rfl
theorem A0M{α:Type}{e:Nat}{Q:A3N α}{ex:Ex}{st:TSt}{z:α}:∀{l:List (Ex×List Item)}{d:A6j l},AW5 e l ex st=some d->A39 Q l d=some z->∃an dd,QF l ex=some an/\HH e an st=some dd/\Q ex (Lr an dd)=some z
 |[],d,h,_=>by cases h
 |[a],d,h,hz=>by
  simp only[AW5]at h;obtain⟨h1,h2⟩:=Dx h;have:=An9 h1;subst this;refine⟨a.2,d,?_,h2,hz⟩
  show cond (TQ a.1 a.1) (some a.2) _=_;rw[h1];rfl
 |a::b::l,d,h,hz=>by
  simp only[AW5]at h;cases hc:TQ a.1 ex with
  |true=>
   rw[hc]at h;simp only[cond_true,zb6]at h;obtain⟨dd,h1,rfl⟩:=h;have:=An9 hc;subst this;refine⟨a.2,dd,?_,h1,hz⟩
   show cond (TQ a.1 a.1) (some a.2) _=_;rw[hc];rfl
  |false=>
   rw[hc]at h;simp only[cond_false,zb6]at h;obtain⟨dd,h1,rfl⟩:=h;obtain⟨an,d2,q1,q2,q3⟩:=A0M (l:=b::l) h1 hz;refine⟨an,d2,?_,q2,q3⟩
   show cond (TQ a.1 ex) (some a.2) (QF (b::l) ex)=_;rw[hc];exact q1
theorem FQ(hX:XOK P X)(hE:LI R cf X)(hcf:CfOK cf g X):∀(c:Code){α:Type}{st:TSt}{s:St}{Q:A3N α}{z:α},RS st s->wtC X c st Q=some z->
  ∃ex st' s',Q ex st'=some z/\RS st' s'/\∀QV:H4,QV ex s'->we P R cf g X.e c s QV
 |.skip,α,st,s,Q,z,hs,h=>⟨.normal,st,s,h,hs,fun QV hq=>hq⟩
 |.exit id,α,st,s,Q,z,hs,h=>⟨.exit id,st,s,h,hs,fun QV hq=>hq⟩
 |.ret,α,st,s,Q,z,hs,h=>⟨.ret,st,s,h,hs,fun QV hq=>hq⟩
 |.region id ops draw,α,st,s,Q,z,hs,h=>by
  obtain⟨st',s',h1,h2,h3,h4⟩:=XE (R:=R) (cf:=cf) hX hE _ 0 hs h;refine⟨.normal,_,{s' with c:=s'.c+ops.size},h1,⟨h2.tm,h2.hp,by show s'.c+_=st'.c+_;rw[h2.c]⟩,fun QV hq=> ?_⟩
  unfold we;exact h4 _ hq
 |.seq a b,α,st,s,Q,z,hs,h=>by
  unfold wtC at h;cases hj:EQ X.ann.joins (rid b)with
  |none=>
   rw[hj]at h;simp only at h;obtain⟨ex,st1,s1,h1,h2,h3⟩:=FQ hX hE hcf a hs h;cases ex with
   |normal=>
    obtain⟨ex,st2,s2,q1,q2,q3⟩:=FQ hX hE hcf b h2 h1;exact⟨ex,st2,s2,q1,q2,fun QV hq=>by unfold we;exact h3 _ (by show Au5 _ _ _ _;rw[hcf.nojoin _ hj];exact q3 QV hq)⟩
   |exit id=>exact⟨.exit id,st1,s1,h1,h2,fun QV hq=>by unfold we;exact h3 _ hq⟩
   |ret=>exact⟨.ret,st1,s1,h1,h2,fun QV hq=>by unfold we;exact h3 _ hq⟩
  |some an=>
   rw[hj]at h;simp only at h;obtain⟨w,hw,hz⟩:=Bq h;obtain⟨ex,st1,s1,h1,h2,h3⟩:=FQ hX hE hcf a hs hw;have other:∀ex',ex'≠ .normal->ex=ex'->(Q ex' st1).map Sum.inl=some w->∃ex st' s',Q ex st'=some z/\RS st' s'/\∀QV:H4,QV ex s'->we P R cf g X.e (a.seq b) s QV:=by
    intro ex' hne he h1;subst he;simp only[zb6]at h1;obtain⟨r,hr,rfl⟩:=h1;simp only[Sum.elim_inl,zx]at hz;subst hz;refine⟨ex,st1,s1,hr,h2,fun QV hq=> ?_⟩
    unfold we;refine h3 _ ?_
    cases ex with
    |normal=>exact absurd rfl hne
    |exit id=>exact hq
    |ret=>exact hq
   cases ex with
   |normal=>
    simp only[zb6]at h1;obtain⟨d,hd,rfl⟩:=h1;simp only[za9]at hz;obtain⟨s2,c1,c2⟩:=MG h2 hd;obtain⟨ex,st3,s3,q1,q2,q3⟩:=FQ hX hE hcf b c2 hz;exact⟨ex,st3,s3,q1,q2,fun QV hq=>by unfold we;exact h3 _ (by show Au5 _ _ _ _;rw[hcf.join _ _ hj];exact c1 _ (q3 QV hq))⟩
   |exit id=>exact other (.exit id) (by simp) rfl h1
   |ret=>exact other .ret (by simp) rfl h1
 |.cond c x y,α,st,s,Q,z,hs,h=>by
  unfold wtC at h;have hc:=A8 hs.tm c
  split at h
  ·rename_i t ht;rw[ht]at hc;have hc:=P4 hc;cases t with
   |true=>
    obtain⟨ex,st1,s1,h1,h2,h3⟩:=FQ hX hE hcf x hs h;exact⟨ex,st1,s1,h1,h2,fun QV hq=>by unfold we;rw[hc];exact h3 QV hq⟩
   |false=>
    obtain⟨ex,st1,s1,h1,h2,h3⟩:=FQ hX hE hcf y hs h;exact⟨ex,st1,s1,h1,h2,fun QV hq=>by unfold we;rw[hc];exact h3 QV hq⟩
  ·cases h
 |.block id c,α,st,s,Q,z,hs,h=>by
  unfold wtC at h;obtain⟨ex,st1,s1,h1,h2,h3⟩:=FQ hX hE hcf c hs h;cases ex with
  |normal=>exact⟨.normal,st1,s1,h1,h2,fun QV hq=>by unfold we;exact h3 _ hq⟩
  |ret=>exact⟨.ret,st1,s1,h1,h2,fun QV hq=>by unfold we;exact h3 _ hq⟩
  |exit j=>
   simp only at h1;cases hj:Nat.beq j id with
   |true=>
    rw[hj]at h1;have hji:=za6 hj;exact⟨.normal,st1,s1,h1,h2,fun QV hq=>by unfold we;exact h3 _ (by show(if j=id then _ else _);rw[zr hji];exact hq)⟩
   |false=>
    rw[hj]at h1;have hji:j≠id:=fun he=>by subst he;rw[Nat.beq_refl]at hj;cases hj
    exact⟨.exit j,st1,s1,h1,h2,fun QV hq=>by unfold we;exact h3 _ (by show(if j=id then _ else _);rw[zw hji];exact hq)⟩
 |.loop c,α,st,s,Q,z,hs,h=>by
  unfold wtC at h
  split at h
  ·rename_i an outs ha ho;obtain⟨d0,hd0,h⟩:=Bq h;obtain⟨w,hw,hz⟩:=Bq h;obtain⟨n,hn⟩:=M9 hw;obtain⟨s0,c1,c2⟩:=MG hs hd0;have key:∀(n:Nat)(d:De an)(s0:St),H2 (fun d=>wtC X c (Lr an d) fun ex s=>match ex with|.normal=>(HH X.e an s).map .inl|ex=>(AW5 X.e outs ex s).map .inr) n d=some w->RS (Lr an d) s0->
     ∃ex st' s',Q ex st'=some z/\RS st' s'/\∀QV:H4,QV ex s'->YY P R cf g X.e c s0 QV:=by
    intro n
    induction n with
    |zero=>intro d s0 h _;cases h
    |succ n ih=>
     intro d s0 h hs0;simp only[H2]at h;obtain⟨o,hb,h⟩:=Bq h;obtain⟨ex,st1,s1,h1,h2,h3⟩:=FQ hX hE hcf c hs0 hb;have other:∀ex',ex'≠ .normal->ex=ex'->(AW5 X.e outs ex' st1).map Sum.inr=some o->∃ex st' s',Q ex st'=some z/\RS st' s'/\∀QV:H4,QV ex s'->YY P R cf g X.e c s0 QV:=by
      intro ex' hne he h1;subst he;simp only[zb6]at h1;obtain⟨w',hw',rfl⟩:=h1;simp only[za9,zx]at h;subst h;obtain⟨an2,dd,q1,q2,q3⟩:=A0M hw' hz;obtain⟨s2,e1,e2⟩:=MG h2 q2;refine⟨ex,_,s2,q3,e2,fun QV hq=> ?_⟩
      rw[YH];refine h3 _ ?_
      cases ex with
      |normal=>exact absurd rfl hne
      |exit id=>show Fh _ _ _ _;rw[hcf.out _ _ _ _ ho q1];exact e1 _ hq
      |ret=>show Fh _ _ _ _;rw[hcf.out _ _ _ _ ho q1];exact e1 _ hq
     cases ex with
     |normal=>
      simp only[zb6]at h1;obtain⟨d',hd',rfl⟩:=h1;simp only[Sum.elim_inl]at h;obtain⟨s2,e1,e2⟩:=MG h2 hd';obtain⟨ex,st3,s3,q1,q2,q3⟩:=ih d' s2 h e2;refine⟨ex,st3,s3,q1,q2,fun QV hq=> ?_⟩
      rw[YH];refine h3 _ ?_
      show Fh _ _ _ _;rw[hcf.live _ _ ha];exact e1 _ (q3 QV hq)
     |exit id=>exact other (.exit id) (by simp) rfl h1
     |ret=>exact other .ret (by simp) rfl h1
   obtain⟨ex,st',s',q1,q2,q3⟩:=key n d0 s0 hn c2;exact⟨ex,st',s',q1,q2,fun QV hq=>by rw[A6h,hcf.live _ _ ha];exact c1 _ (q3 QV hq)⟩
  ·cases h
 |.scope c,α,st,s,Q,z,hs,h=>by simp[wtC]at h
 |.label l,α,st,s,Q,z,hs,h=>by simp[wtC]at h
 |.goto l,α,st,s,Q,z,hs,h=>by simp[wtC]at h
 |.rangeFunc ..,α,st,s,Q,z,hs,h=>by simp[wtC]at h
 |.refuse _,α,st,s,Q,z,hs,h=>by simp[wtC]at h
end
end
section
open Go
section
variable {P:Program} {X:TX} {g:FuncId}
structure FnOK (P:Program) (cf:Cfg) (X:TX) (fn:Func) (c:Code):Prop where
 get:P.funcs[X.ann.g]? =some fn
 body:fn.body=some c
 ok:Rz fn c (HM X.ann.params).length=true
 ext:cf.isExt X.ann.g=false
theorem P0{cf:Cfg}{ext:Rel}{fn:Func}{c:Code}{F:De X.ann.params->Option (De X.ann.res)}(hX:XOK P X)(hE:LI (Ht P cf ext) cf X)(hcf:CfOK cf X.ann.g X)(hf:FnOK P cf X fn c)
  (hF:∀x,wtF X fn x=F x):Eh (Ht P cf ext) ⟨X.ann,F⟩:=by
 intro x y args blks st0 hy hs0 hd hid hl he _;have hy:wtF X fn x=some y:=by rw[hF];exact hy
 unfold wtF at hy;rw[hf.body]at hy;simp only at hy;have he:(args.flatMap Ai).eraseDups.length=X.e:=he;obtain⟨s0,k1,hs⟩:=MG hs0 hd;obtain⟨ex,st',s',h1,h2,h3⟩:=FQ hX hE hcf c hs hy;have main:∀ex',ex=ex'->(∀i,ex'≠ .exit i)->(AP8 X st'.tm st'.hp fn.results.toList fun xs=>A6S X.ann.res X.e st' xs)=some y->
   ∃r blks',Ht P cf ext X.ann.g args blks r blks'/\ResRel X.ann.res y r blks':=by
  intro ex' hex hno h1;obtain⟨r,blks',q1,q2⟩:=A3Z (e:=X.e) (res:=X.ann.res) (rs:=fn.results.toList) (y:=y) hX h2 h1;refine⟨r,blks',Ht.intro hf.ext hf.get hf.body (by rw[hl];exact hf.ok) hid ?_,q2⟩
  rw[he,hcf.par];refine k1 _ (h3 _ ?_)
  rw[hcf.res,hcf.rts];subst hex;cases ex with
  |exit i=>exact absurd rfl (hno i)
  |normal=>exact q1
  |ret=>exact q1
 cases ex with
 |exit i=>cases h1
 |normal=>exact main .normal rfl (by simp) h1
 |ret=>exact main .ret rfl (by simp) h1
theorem A5O{R:Rel}{cf:Cfg}{X:TX}(h:X.ents=[]):LI R cf X:=by
 intro g E hE;rw[h]at hE;cases hE
def AP7(R:Rel)(cf:Cfg):List Ent->Prop
 |[]=>True
 |E::l=>(Eh R E/\cf.byref E.a.g=(F6 E.a.params).map YQ)/\AP7 R cf l
theorem Sb{R:Rel}{cf:Cfg}{X:TX}(h:AP7 R cf X.ents):LI R cf X:=by
 intro g E hE;generalize X.ents=l at h hE
 induction l with
 |nil=>cases hE
 |cons a l ih=>
  simp only[Ac6]at hE;cases hg:Nat.beq a.a.g g with
  |true=>
   rw[hg]at hE;simp only[cond_true,zx]at hE;subst hE;have:=za6 hg;subst this;exact⟨h.1.1,rfl,h.1.2⟩
  |false=>
   rw[hg]at hE;exact ih h.2 hE
theorem A0Y{tab:List FAnn}{ext:FuncId->Bool}{X:TX}(h:Pd tab X.ann.g=some X.ann):CfOK (Oh tab ext) X.ann.g X where
 live r an hr:=by simp only[Oh,h,za0,hr]
 out r outs ex an hr he:=by simp only[Oh,h,za0,hr,he]
 join r an hr:=by simp only[Oh,h,za0,hr]
 nojoin r hr:=by simp only[Oh,h,za0,hr]
 res:=by simp only[Oh,h]
 par:=by simp only[Oh,h]
 rts:=by simp only[Oh,h]
end
end
section
open Go Go.RowKit
def shT:Sh->Ty
 |.int k=>.int k
 |.str=>.str
 |.bool=>.bool
 |.sl _ e=>.sl (shT e)
 |.pair a b=>.pair (shT a) (shT b)
def WFS:(s:Sh)->(shT s).den->Prop
 |.int k,n=>(Lit.int k n).wf=true
 |.str,s=>s.length<=Ae
 |.bool,_=>True
 |.sl bytes e,l=>(∀a∈(show List (shT e).den from l),WFS e a)/\(show List (shT e).den from l).length*bytes<=Ae
 |.pair a b,x=>WFS a (show(shT a).den×(shT b).den from x).1/\WFS b (show(shT a).den×(shT b).den from x).2
theorem A09:∀{s:Sh}{xs:List V},DV s xs->∃x,RE (shT s) x xs/\WFS s x
 |.int k,xs,h=>by obtain⟨n,rfl,hn⟩:=h;exact⟨n,rfl,hn⟩
 |.str,xs,h=>by obtain⟨s,rfl,hs⟩:=h;exact⟨s.data.toList,by simp[RE,shT],by show s.data.toList.length<=Ae;rw[Array.length_toList];exact hs⟩
 |.bool,xs,h=>by obtain⟨b,rfl⟩:=h;exact⟨b,rfl,trivial⟩
 |.sl bytes e,xs,h=>by
  obtain⟨rows,rfl,hr,hb⟩:=h;have key:∀rows:List (List V),(∀r∈rows,DV e r)->∃l:List (shT e).den,RLx (RE (shT e)) l rows/\∀a∈l,WFS e a:=by
   intro rows
   induction rows with
   |nil=>intro _;exact⟨[],RLx.nil,by simp⟩
   |cons r rows ih=>
    intro h;obtain⟨a,h1,h2⟩:=A09 (h r (by simp));obtain⟨l,h3,h4⟩:=ih fun r' hr'=>h r' (by simp[hr'])
    refine⟨a::l,RLx.cons h1 h3,fun b hb=> ?_⟩
    rcases zc6.1 hb with rfl|hb
    ·exact h2
    ·exact h4 b hb
  obtain⟨l,h1,h2⟩:=key rows hr;exact⟨l,.inr ⟨rows,rfl,h1⟩,h2,by rw[<-h1.1];exact hb⟩
 |.pair a b,xs,h=>by
  obtain⟨l,r,rfl,h1,h2⟩:=h;obtain⟨x,q1,q2⟩:=A09 h1;obtain⟨y,q3,q4⟩:=A09 h2;exact⟨(x,y),⟨l,r,rfl,q1,q3⟩,q2,q4⟩
def UH:Sh->AC
 |.int k=>.int k
 |.str=>.str
 |.bool=>.bool
 |.sl _ e=>.im (shT e)
 |.pair _ _=>.bool
def A5m:Sh->Bool
 |.pair _ _=>false
 |_=>true
def WFC:(s:Sh)->(UH s).den->Prop
 |.int k,n=>WFS (.int k) n
 |.str,s=>WFS .str s
 |.bool,b=>True
 |.sl n e,l=>WFS (.sl n e) l
 |.pair _ _,_=>True
theorem A6w{s:Sh}{x:V}(ho:A5m s=true)(h:DV s [x]):∃d:(UH s).den,WFC s d/\∀hp,RV2 hp (A4z (UH s) d) x:=by
 obtain⟨d,h1,h2⟩:=A09 h;cases s with
 |int k=>
  have h1:[x]=[V.v (.int k d)]:=h1;cases h1
  exact⟨d,h2,fun hp=>rfl⟩
 |str=>
  have h1:[x]=[V.v (.string ⟨Array.mk d⟩)]:=h1;cases h1
  exact⟨d,h2,fun hp=>rfl⟩
 |bool=>
  have h1:[x]=[V.v (.bool d)]:=h1;cases h1
  exact⟨d,trivial,fun hp=>rfl⟩
 |sl n e=>
  refine⟨d,h2,fun hp=> ?_⟩
  rcases h1 with⟨e1,e2⟩|⟨rows,e2,e3⟩
  ·cases e2;exact .inl ⟨e1,rfl⟩
  ·cases e2;exact .inr ⟨rows,rfl,e3⟩
 |pair a b=>cases ho
def KO:Nat->List Sh->List Item
 |_,[]=>[]
 |i,s::l=>.slot i (.cell (UH s))::KO (i+1) l
def WFP:(i:Nat)->(l:List Sh)->De (KO i l)->Prop
 |_,[],_=>True
 |i,s::l,d=>WFC s (hdI (.slot i (.cell (UH s))) (KO (i+1) l) d)/\WFP (i+1) l (tlI (.slot i (.cell (UH s))) (KO (i+1) l) d)
def DVs:List Sh->List V->Prop
 |[],[]=>True
 |s::l,x::xs=>DV s [x]/\DVs l xs
 |_,_=>False
theorem DVs.length:∀{l:List Sh}{xs:List V},DVs l xs->xs.length=l.length
 |[],[],_=>rfl
 |_::l,_::xs,h=>by simp[DVs.length h.2]
 |[],_::_,h=>h.elim
 |_::_,[],h=>h.elim
theorem A0N:∀(l:List Sh)(i:Nat){xs:List V},l.all A5m=true->DVs l xs->∃d:De (KO i l),WFP i l d/\(∀k,(BL k (KO i l) d).2=[])/\∀k hp,RT hp (BL k (KO i l) d).1 (lk .any (Wv i xs))
 |[],i,[],_,_=>⟨(),trivial,fun _=>rfl,fun k hp t=>trivial⟩
 |s::l,i,x::xs,ho,h=>by
  simp only[zd3,za2]at ho;obtain⟨a,h1,h2⟩:=A6w ho.1 h.1;obtain⟨d,h3,h4,h5⟩:=A0N l (i+1) ho.2 h.2;refine⟨OZ (.slot i (.cell (UH s))) (KO (i+1) l) a d,⟨?_,?_⟩,fun k=> ?_,fun k hp=> ?_⟩
  ·rw[WL (.slot i (.cell (UH s)))];exact h1
  ·rw[Sn (.slot i (.cell (UH s)))];exact h3
  ·simp only[KO,BL];rw[Sn (.slot i (.cell (UH s)))];exact h4 k
  ·simp only[KO,BL];rw[Sn (.slot i (.cell (UH s))),WL (.slot i (.cell (UH s)))];intro t;show RV2 hp (CW ((i,A1e (.cell (UH s)) a)::_) t) (if t=i then x else lk .any (Wv (i+1) xs) t);rw[GZ]
   split
   ·exact h2 hp
   ·exact h5 k hp t
 |[],_,_::_,_,h=>h.elim
 |_::_,_,[],_,h=>h.elim
section
variable {P:Program}
def A0T(P:Program):List TypeId->List Sh->Prop
 |[],[]=>True
 |t::ts,s::l=>Fits P t s/\A0T P ts l
 |_,_=>False
theorem Ag5{H:Type}{enc:TypeId×Value->H}{W:World}:∀{ts:List TypeId}{l:List Sh}{vs:List Value}{ds:List (DataW H)}{p:List MemPlace},A0T P ts l->l.all A5m=true->DataW.TrodAll enc P W 0 (fun _=>true) true ts vs ds p->
  (∀(j:Nat) t v,ts[j]? =some t->vs[j]? =some v->∃base,Value.okWide P W .any base t v)->(∀n∈DataW.weightsEach P ts ds,n<=reachBytes)->∃xs,DVs l xs/\AB2 W xs vs
 |[],[],vs,ds,p,_,_,h,_,_=>by
  obtain⟨rfl,rfl,rfl⟩:=ChangeShapes.trodAll_nil h;exact⟨[],trivial,trivial⟩
 |t::ts,s::l,vs,ds,p,hf,ho,h,hv,hw=>by
  obtain⟨v,vs',d,ds',p1,q,rfl,rfl,rfl,⟨fuel,h1⟩,h2⟩:=ChangeShapes.trodAll_cons h;simp only[zd3,za2]at ho;obtain⟨xs,q1,q2,q3⟩:=Qz fuel t s _ _ hf.1 h1 fun n hn=>hw n (by simp[DataW.weightsEach,hn])
  obtain⟨ys,q4,q5⟩:=Ag5 hf.2 ho.2 h2 (fun j t v h1 h2=>hv (j+1) t v (by simpa using h1) (by simpa using h2)) fun n hn=>hw n (by simp[DataW.weightsEach,hn])
  have hs1:s.size=1:=by cases s<;>first|rfl|(cases ho.1)
  obtain⟨x,rfl⟩:=List.length_eq_one_iff.1 (by rw[q2,hs1]);refine⟨x::ys,⟨q1,q4⟩,?_,q5⟩
  obtain⟨base,hok⟩:=hv 0 t v rfl rfl;have hc:v.cells.toList=[v]:=by
   cases hf.1 with
   |int ht=>simp only[Value.okWide,ht,Cell.okWide]at hok;cases v<;>simp_all [Cell.ok,Value.cells]
   |str ht=>simp only[Value.okWide,ht,Cell.okWide]at hok;cases v<;>simp_all [Cell.ok,Value.cells]
   |bool ht=>simp only[Value.okWide,ht,Cell.okWide]at hok;cases v<;>simp_all [Cell.ok,Value.cells]
   |sl ht=>obtain⟨a,n,c,rfl⟩:=WideShapes.okWide_slice ht hok;rfl
   |st=>cases ho.1
  rw[hc]at q3;exact q3.1
 |[],_::_,_,_,_,h,_,_,_,_=>h.elim
 |_::_,[],_,_,_,h,_,_,_,_=>h.elim
theorem Y1{H:Type}{enc:TypeId×Value->H}{W W':World}(hl:laidOutB P=true)(hb:Below W.heap.size W W'):∀{ts:List TypeId}{vs:List Value}{ds:List (DataW H)}{p:List MemPlace},(∀t∈ts,P.readableRec t=true/\t<P.types.size)->DataW.TrodAll enc P W 0 (fun _=>true) true ts vs ds p->
  ∃q,DataW.TrodAll enc P W' 0 (fun b=>decide (b<W.heap.size)) true ts vs ds q
 |[],vs,ds,p,_,h=>by
  obtain⟨rfl,rfl,rfl⟩:=ChangeShapes.trodAll_nil h;exact⟨[],ChangeShapes.trodAll_mk0⟩
 |t::ts,vs,ds,p,hr,h=>by
  obtain⟨v,vs',d,ds',p1,q,rfl,rfl,rfl,h1,h2⟩:=ChangeShapes.trodAll_cons h;obtain⟨q',h3⟩:=Y1 hl hb (fun t ht=>hr t (by simp[ht])) h2;have hlt:∀x∈p1,x.block<W.heap.size:=by obtain⟨m,hm⟩:=h1;exact DataW.trod_lt m _ _ _ hm
  obtain⟨r1,r2⟩:=hr t (by simp);exact⟨_,trodAll_cons_mk (Below.trod hl r1 r2 h1 hb hlt) h3⟩
end
end
section
open Go Go.RowKit
theorem Ah8:∀(l:List Sh)(i:Nat),(HM (KO i l)).length=l.length
 |[],_=>rfl
 |s::l,i=>by simp[KO,HM,Ah8 l (i+1)]
section
variable {P:Program} {J:KQ}
def A7q(P:Program):List (Nat×TyD)->Prop
 |[]=>True
 |x::l=>AX P x.1=some x.2/\A7q P l
theorem A7Y{l:List (Nat×TyD)}(h:A7q P l):∀t d,getD l t=some d->AX P t=some d:=by
 intro t d hd
 induction l with
 |nil=>cases hd
 |cons x l ih=>
  obtain⟨k,y⟩:=x;simp only[getD]at hd;cases hk:Nat.beq t k with
  |true=>
   rw[hk]at hd;simp only[cond_true,zx]at hd;have:=za6 hk;subst this;subst hd;exact h.1
  |false=>
   rw[hk]at hd;exact ih h.2 hd
theorem A5G{cf:Cfg}{ext:Rel}{g:FuncId}{shs:List Sh}{heads joins:List (Nat×List Item)}{outs:List (Nat×List (Ex×List Item))}{F:De (KO 0 shs)->Option Bool}
  (hm:P.follows .mixedOrders=true) (hext:∀g args blks r blks',ext g args blks r blks'->CSpec P J g args blks r blks')
  (hE:Eh (Ht P cf ext) ⟨⟨g,0,KO 0 shs,[.slot 0 (.cell .bool)],heads,outs,joins⟩,F⟩) (hD:∀d,HH 0 (KO 0 shs) (Lr (KO 0 shs) d)=some d) (hF:∀d,WFP 0 shs d->F d=some true) (ho:shs.all A5m=true)
  {w:World} (hJ:∀x∈J,w.heap[x.1]? =some x.2) {xs:List V} {vals:Array Value} (hx:DVs shs xs) (hv:AB2 w xs vals.toList):Calls P g vals w fun e w'=>e=.returned (.bool true)/\Below w.heap.size w w':=by
 obtain⟨d,h1,h2,h3⟩:=A0N shs 0 ho hx;have hrefs:=Ak4 hv;obtain⟨r,blks',q1,q2⟩:=hE d true xs [] (Lr (KO 0 shs) d) (hF d h1) ⟨h3 0 _,(fun id b hb=>by
  rw[show(Lr (KO 0 shs) d).hp=(BL 0 (KO 0 shs) d).2 from rfl,h2]at hb;exact absurd hb (by simp[AK])),rfl⟩ (hD d) (AD9 hv) (by rw[hx.length];exact(Ah8 shs 0).symm) (by rw[hrefs];rfl) (fun _=>rfl)
 have hr:r=.v (.bool true):=q2.val;have hb:blks'=[]:=zc0 q2.len;subst hr;subst hb;exact A2z hm hext hJ hv q1
theorem Au4{H:Type}{enc:TypeId×Value->H}{cf:Cfg}{ext:Rel}{g:FuncId}{shs:List Sh}{heads joins:List (Nat×List Item)}{outs:List (Nat×List (Ex×List Item))}{F:De (KO 0 shs)->Option Bool}{fn:Func}{s:ChangeSpec}{ts:List TypeId}{rt:TypeId}
  (hm:P.follows .mixedOrders=true) (hext:∀g args blks r blks',ext g args blks r blks'->CSpec P J g args blks r blks')
  (hE:Eh (Ht P cf ext) ⟨⟨g,0,KO 0 shs,[.slot 0 (.cell .bool)],heads,outs,joins⟩,F⟩) (hD:∀d,HH 0 (KO 0 shs) (Lr (KO 0 shs) d)=some d) (hF:∀d,WFP 0 shs d->F d=some true) (ho:shs.all A5m=true)
  (hp:fn.params.toList=ts) (hr:fn.resultTypes.toList=[rt]) (hrt:P.underlying rt=some .bool) (hf:A0T P ts shs) (hl:laidOutB P=true) (hread:∀t∈ts,P.readableRec t=true/\t<P.types.size) (hvars:s.vars=[])
  (hs:∀ds:List (DataW H),ds.length=ts.length->s.fn H (ds++[])={results:=[.lit (.bool true)],args:=ds,vars:=[]})
  {W:World} (hJ:∀x∈J,W.heap[x.1]? =some x.2) {base:Nat} {args:Array Value} {ds gs:List (DataW H)} {before:List MemPlace}
  (hval:∀(j:Nat) t v,fn.params[j]? =some t->args[j]? =some v->Value.okWide P W .any base t v) (hW:DataW.Whole enc P fn.params.toList s.vars false W args.toList ds gs before)
  (hsz:(DataW.weightsEach P (fn.params.toList++s.plain.varTypes P) (ds++gs)).all (· <=reachBytes)=true):
  Calls P g args W fun e W'=>∃v,e=.returned v/\s.post enc P fn false true false false W args v W':=by
 have hW':=hW;obtain⟨p,q,hA,hV,rfl,hfz,hnd⟩:=hW;rw[hvars]at hV;obtain⟨rfl,rfl⟩:=ChangeShapes.trodVars_none hV;rw[hp]at hA;have hlen:∀{ts:List TypeId}{vs:List Value}{ds:List (DataW H)}{p:List MemPlace},DataW.TrodAll enc P W 0 (fun _=>true) true ts vs ds p->ds.length=ts.length:=by
  intro ts
  induction ts with
  |nil=>intro vs ds p h;obtain⟨_,rfl,_⟩:=ChangeShapes.trodAll_nil h;rfl
  |cons t ts ih=>intro vs ds p h;obtain⟨v,vs',d,ds',p1,q,rfl,rfl,rfl,h1,h2⟩:=ChangeShapes.trodAll_cons h;simp[ih h2]
 have hdl:=hlen hA;have hwt:∀n∈DataW.weightsEach P ts ds,n<=reachBytes:=by
  intro n hn;have hmem:∀(a b:List TypeId)(c d:List (DataW H)),∀n∈DataW.weightsEach P a c,c.length=a.length->n∈DataW.weightsEach P (a++b) (c++d):=by
   intro a
   induction a with
   |nil=>intro b c d n hn hl;cases c<;>simp[DataW.weightsEach]at hn hl
   |cons t a ih=>
    intro b c d n hn hl;cases c with
    |nil=>simp[DataW.weightsEach]at hn
    |cons x c=>
     simp only[DataW.weightsEach,zb2,zd8]at hn⊢
     rcases hn with hn|hn
     ·exact .inl hn
     ·exact .inr (ih b c d n hn (by simpa using hl))
  rw[hp]at hsz;have:=za5.1 hsz n (hmem ts _ ds _ n hn hdl);simpa using this
 obtain⟨xs,h1,h2⟩:=Ag5 hf ho hA (fun j t v h1 h2=>⟨base,hval j t v (by rw[<-hp]at h1;simpa using h1) (by simpa using h2)⟩) hwt;refine(A5G hm hext hE hD hF ho hJ h1 h2).mono fun e W' ⟨he,bel⟩=> ?_
 subst he;obtain⟨q',hq⟩:=Y1 hl bel hread hA;refine⟨_,rfl,ds,[],_,[],q',[],hW',?_,?_,?_,bel.frame _,fun h=>by cases h⟩
 ·rw[hs ds hdl,hr];have:((Value.bool true).resultList fn.resultTypes.size)=[.bool true]:=by
   have:fn.resultTypes.size=1:=by rw[<-Array.length_toList,hr];rfl
   rw[this];rfl
  rw[this];exact ChangeShapes.trodAll_mk1 (shut_bool hrt true)
 ·rw[hs ds hdl,hp];exact hq
 ·rw[hs ds hdl,hvars];rfl
end
end
section
open Go
theorem Ab{n:Int}(h1: -9223372036854775808<=n)(h2:n<=9223372036854775807):zi zj n=n:=by rw[IntKind.wrap_i64];omega
section
variable {σ τ ρ ρ':Type} {f:σ->Option (σ⊕ρ)} {g:τ->Option (τ⊕ρ')}
theorem AP{s s':σ}(h:f s=some (.inl s')):Ad f s=Ad f s':=by rw[AH5,h];rfl
theorem Ak{s:σ}{r:ρ}(h:f s=some (.inr r)):Ad f s=some r:=by rw[AH5,h];rfl
theorem Gi{I:σ->Prop}{R:ρ->Prop}(m:σ->Nat)(h:∀s,I s->(∃s',f s=some (.inl s')/\I s'/\m s'<m s)\/∃r,f s=some (.inr r)/\R r):∀s,I s->∃r,Ad f s=some r/\R r:=by
 have:∀n s,m s<n->I s->∃r,Ad f s=some r/\R r:=by
  intro n
  induction n with
  |zero=>intro s h;omega
  |succ n ih=>
   intro s hn hs;rcases h s hs with⟨s',h1,h2,h3⟩|⟨r,h1,h2⟩
   ·obtain⟨r,h4,h5⟩:=ih s' (by omega) h2;exact⟨r,by rw[AP h1,h4],h5⟩
   ·exact⟨r,Ak h1,h2⟩
 exact fun s hs=>this (m s+1) s (by omega) hs
end
section
variable {α β γ:Type}
theorem Af(l:List α)(i:Nat):AD l (i:Int)=l[i]? :=by
 unfold AD;rw[zr (by omega)];simp
theorem WJ{l:List α}{i:Int}(h0:0<=i)(h1:i<l.length):∃a,AD l i=some a/\l[i.toNat]? =some a:=by
 unfold AD;rw[zr h0];have:i.toNat<l.length:=by omega
 exact⟨l[i.toNat],za1 this,za1 this⟩
theorem AW{i n:Nat}(h:i<n):A2 (i:Int) n=some i:=by
 unfold A2;rw[zr (by omega)];simp
theorem IR{n b s:Nat}(h1:n*b<=Ae)(h2:n*s<=Ae):QB (n:Int) b s=some n:=by
 unfold QB;rw[zr (by simp;omega)];simp
end
section
variable {α σ ρ:Type} {body:σ->Option (σ⊕ρ)}
theorem EM{l:List α}{st:Nat->σ}{p:α->Bool}{fin:ρ}{bad:Nat->ρ}(hgo:∀k a,l[k]? =some a->p a=true->body (st k)=some (.inl (st (k+1))))(hbad:∀k a,l[k]? =some a->p a=false->body (st k)=some (.inr (bad k)))(hend:body (st l.length)=some (.inr fin)):
  (l.all p=true->Ad body (st 0)=some fin)/\(l.all p=false->∃k,k<l.length/\Ad body (st 0)=some (bad k)):=by
 have key:∀(n k:Nat),k+n=l.length->((l.drop k).all p=true->Ad body (st k)=some fin)/\((l.drop k).all p=false->∃j,j<l.length/\Ad body (st k)=some (bad j)):=by
  intro n
  induction n with
  |zero=>
   intro k hk;have:k=l.length:=by omega
   subst this;rw[List.drop_length];exact⟨fun _=>Ak hend,(fun h=>by cases h)⟩
  |succ n ih=>
   intro k hk;have hlt:k<l.length:=by omega
   have hd:l.drop k=l[k]::l.drop (k+1):=zb1 hlt;have he:l[k]? =some l[k]:=za1 hlt;rw[hd,zd3];cases hp:p l[k]with
   |true=>
    have h1:=hgo k _ he hp;obtain⟨q1,q2⟩:=ih (k+1) (by omega);rw[ze5,AP h1];exact⟨q1,q2⟩
   |false=>
    rw[Bool.false_and];exact⟨(fun h=>by cases h),fun _=>⟨k,hlt,Ak (hbad k _ he hp)⟩⟩
 have:=key l.length 0 (by omega)
 rwa[zf5]at this
end
section
theorem AA{k:Nat}(h:k<4611686018427387904):zi zj ((k:Int)+1)=((k+1:Nat):Int):=by rw[Ab (by omega) (by omega)];omega
end
theorem D2{β:Type}{b s:Nat}{l m:List β}(h1:(l.length+m.length)*b<=Ae)(h2:(l.length+m.length)*s<=Ae):CZ b s l m=some (l++m):=by
 unfold CZ;rw[zr ⟨h1,h2⟩]
end
section
open Go
variable {P:Program} {J:KQ}
def A4E:Value:=.slice none 0 0
def J1(t tb:TypeId):Code:=
 .seq (.region 0 #[⟨some 2,.assign (.const A4E),t, "slices.go:355", #[],none⟩] false)
  (.seq (.seq (.region 1 #[⟨some 3,.move (.tmp 0),t, "slices.go:357", #[],none⟩,⟨some 4,.binOp .eql t (.tmp 3) (.const A4E) t,tb, "slices.go:357", #[⟨0,.data⟩],none⟩] false)
    (.cond (.tmp 4) (.seq (.region 2 #[⟨some 2,.assign (.const A4E),t, "slices.go:358", #[],none⟩] false) .ret) .skip))
   (.seq (.region 3 #[⟨some 5,.buildSlice t 0 #[],t, "slices.go:362", #[],none⟩,⟨some 6,.move (.tmp 0),t, "slices.go:362", #[],none⟩,
     ⟨some 7,.call ⟨.builtin .append, #[.tmp 5,.tmp 6], #[t,t]⟩,t, "slices.go:362", #[⟨0,.data⟩,⟨1,.data⟩],none⟩,
     ⟨some 2,.assign (.tmp 7),t, "slices.go:362", #[⟨2,.data⟩,⟨2,.chain⟩,⟨0,.phase⟩,⟨1,.phase⟩,⟨2,.phase⟩],none⟩] false) .ret))
def cfN(e size:Nat)(deep:Bool):Cfg:={live:=fun _ _=>[],out:=fun _ _ _=>[],join:=fun _ _=>none,res:=fun _=>[.one (.own e size deep)],par:=fun _=>[(0,.one .keep)],rts:=fun _=>[],byref:=fun _=>[],isExt:=fun _=>false}
theorem A2E{g:FuncId}{fn:Func}{t tb e:TypeId}{d de:TyD}(hfn:P.funcs[g]? =some fn)(hb:fn.body=some (J1 t tb))(hok:Rz fn (J1 t tb) 1=true)(hr:fn.results.toList=[.tmp 2])
  (hd:AX P t=some d) (he:d.elem=some e) (hde:AX P e=some de) (hst:Fd P t=false) (a:Option Addr) (c:Nat):
  Ht P (cfN e de.size (de.zero.all Wt)) (fun _ _ _ _ _=>False) g [.v (.slice a 0 c)] [] (.ar 0 0 0) [AT e de.size (de.zero.all Wt) []]:=by
 refine Ht.intro rfl hfn hb hok rfl ?_
 rw[hr];have hsl:RI P t=true:=by unfold RI;rw[hd];simp[he]
 cases a with
 |none=>
  simp[Fh,QG,Vu,N8,BG,Xh,Wv,lk,upd,KY,FI,Al,Ai,Ag,Gc,Dd,Cv,lkB,AN,J1,we,reo,CH,HX,isR,BC,Az,SH,AJ,Ev.put,drawn,Jq,DT,A4E,hsl,Au5,Ah3,IL,cfN,outs,Hj,Oe,A30,Kg,Dw,Ax0,ZR,idx,Fv,AT,Dc]
 |some a=>
  simp[Fh,QG,Vu,N8,BG,Xh,Wv,lk,upd,KY,FI,Al,Ai,Ag,Gc,Dd,Cv,lkB,AN,J1,we,reo,CH,HX,isR,BC,Az,SH,AJ,Ev.put,drawn,Jq,DT,A4E,hsl,Au5,Ah3,IL,cfN,outs,Hj,Oe,A30,Kg,Dw,Ax0,ZR,idx,Fv,AT,Dc,Av,hd,he,hde,C2,BJ,EE]
structure CloneOK (P:Program) (x:FuncId×TypeId×Nat×Bool):Prop where
 ok:∃(fn:Func)(t tb:TypeId)(d de:TyD),P.funcs[x.1]? =some fn/\fn.body=some (J1 t tb)/\Rz fn (J1 t tb) 1=true/\fn.results.toList=[.tmp 2]/\
  AX P t=some d/\d.elem=some x.2.1/\AX P x.2.1=some de/\Fd P t=false/\de.size=x.2.2.1/\de.zero.all Wt=x.2.2.2
theorem Vj(hm:P.follows .mixedOrders=true){x:FuncId×TypeId×Nat×Bool}(h:CloneOK P x){v:V}(hv:v=.em\/v=.im []):CSpec P J x.1 [v] [] (.ar 0 0 0) [AT x.2.1 x.2.2.1 x.2.2.2 []]:=by
 obtain⟨fn,t,tb,d,de,h1,h2,h3,h4,h5,h6,h7,h8,h9,h10⟩:=h.ok;have key:∀(a:Option Addr)(c:Nat),CSpec P J x.1 [.v (.slice a 0 c)] [] (.ar 0 0 0) [AT x.2.1 x.2.2.1 x.2.2.2 []]:=by
  intro a c;obtain⟨k,hk⟩:=A2E h1 h2 h3 h4 h5 h6 h7 h8 a c;rw[<-h9,<-h10];exact Qo hm (fun _ _ _ _ _ h=>h.elim) k _ _ _ _ _ hk
 refine⟨(key none 0).enter,fun _ w A E vals hT hI hvl=> ?_⟩
 obtain⟨y,hy⟩:∃y,vals.toList=[y]:=by
  match hl:vals.toList with
  |[]=>rw[hl]at hvl;exact hvl.elim
  |[y]=>exact⟨y,rfl⟩
  |_::_::_=>rw[hl]at hvl;exact hvl.2.elim
 rw[hy]at hvl;have hv1:=hvl.1;obtain⟨a,c,hyc⟩:∃a c,y=.slice a 0 c:=by
  rcases hv with rfl|rfl
  ·have hv1:Rep w A .em y:=hv1;cases hv1 with
   |em a=>exact⟨a,0,rfl⟩
  ·have hv1:Rep w A (.im []) y:=hv1;cases hv1 with
   |im0 a c=>exact⟨a,c,rfl⟩
   |im b off cap=>exact⟨some ⟨b,off,none⟩,cap,rfl⟩
 subst hyc;have hk:=(key a c).calls rfl w A E vals hT hI (by rw[hy];exact⟨.v _ rfl,trivial⟩);refine hk.mono fun e w' he=> ?_
 obtain⟨y',E',G',q1,q2,q3,q4⟩:=he;refine⟨y',E',G',q1,q2,q3,fun j hj=> ?_⟩
 rcases hv with rfl|rfl<;>simp[Ai,Ag]at hj
def YW(Rc:Rel)(tab:List (FuncId×TypeId×Nat×Bool)):Rel:=fun g args blks r blks'=>
 Rc g args blks r blks'\/∃x∈tab,g=x.1/\(args=[.em]\/args=[.im []])/\blks=[]/\r=.ar 0 0 0/\blks'=[AT x.2.1 x.2.2.1 x.2.2.2 []]
theorem ZZ{cf:Cfg}{tab:List (FuncId×TypeId×Nat×Bool)}(hm:P.follows .mixedOrders=true)(ht:∀x∈tab,CloneOK P x):
  ∀g args blks r blks',YW (Ht P cf fun _ _ _ _ _=>False) tab g args blks r blks'->CSpec P J g args blks r blks':=by
 intro g args blks r blks' h;rcases h with⟨k,hk⟩|⟨x,hx,rfl,ha,rfl,rfl,rfl⟩
 ·exact Qo hm (fun _ _ _ _ _ h=>h.elim) k _ _ _ _ _ hk
 ·rcases ha with rfl|rfl
  ·exact Vj hm (ht x hx) (.inl rfl)
  ·exact Vj hm (ht x hx) (.inr rfl)
theorem A8v{t:Ty}{st:TSt}{x:De [.slot 0 (.cell (.im t))]}(h:HH 0 [.slot 0 (.cell (.im t))] st=some x):Hf st.hp t (CW st.tm 0)=some (show List t.den from x):=by
 unfold HH at h
 split at h
 case isFalse=>cases h
 simp only[La,Da,tmS,tmC,tnS,tnV,tnC]at h;cases ha:Hf st.hp t (CW st.tm 0)with
 |none=>rw[ha]at h;cases h
 |some l=>
  rw[ha]at h;simp only[Nat.zero_le,Nat.ble_eq,if_true]at h;have hc:∀c,Q0 0 (HM [.slot 0 (.cell (.im t))]) {tm:=(0,.im t l)::st.tm,hp:=Fe st.hp (frV (CW st.tm 0)),c:=c}=some {tm:=[(0,.im t l)],hp:=[],c:=1}:=fun c=>rfl
  rw[hc]at h;simp only[rdI,rdS,rdC,Nat.beq_refl,if_true,dite_true]at h;rw[<-zv h];rfl
def A3E{α β:Type}(F:List α->Option (List β))(l:List α):Option (List β):=match l with|[]=>some []|a::l=>F (a::l)
theorem AV4{ext:Rel}{cf:Cfg}{Rc:Rel}{tab:List (FuncId×TypeId×Nat×Bool)}{g:FuncId}{e:TypeId}{deep:Bool}{t:Ty}{heads joins:List (Nat×List Item)}{outs:List (Nat×List (Ex×List Item))}{F:List t.den->Option (List t.den)}
  (h:Eh Rc ⟨⟨g,0,[.slot 0 (.cell (.im t))],[.blk (.arr e deep t),.slot 0 (.ref 0 false)],heads,outs,joins⟩,F⟩) (hmem:(g,e,t.size,deep)∈tab) (hext:∀g args blks r blks',YW Rc tab g args blks r blks'->ext g args blks r blks'):
  Eh (Ht P cf ext) ⟨⟨g,0,[.slot 0 (.cell (.im t))],[.blk (.arr e deep t),.slot 0 (.ref 0 false)],heads,outs,joins⟩,fun l=>A3E F l⟩:=by
 intro x y args blks st hF hs hd hid hlen href hb0;have ha:=A8v hd;cases hx:(show List t.den from x)with
 |cons a l=>
  have hx':x=(show De [.slot 0 (.cell (.im t))]from(a::l:List t.den)):=hx;subst hx';obtain⟨r,blks',q1,q2⟩:=h _ y args blks st hF hs hd hid hlen href hb0;exact⟨r,blks',Ht.ext (hext _ _ _ _ _ (.inl q1)),q2⟩
 |nil=>
  have hx':x=(show De [.slot 0 (.cell (.im t))]from([]:List t.den)):=hx;subst hx';have hy:y=(show De [.blk (.arr e deep t),.slot 0 (.ref 0 false)]from([]:List t.den)):=(zv hF).symm;subst hy;obtain⟨v,rfl⟩:∃v,args=[v]:=by
   match args,hlen with
   |[v],_=>exact⟨v,rfl⟩
  have hrefs:([v]:List V).flatMap Ai=[]:=by
   cases hr:([v]:List V).flatMap Ai with
   |nil=>rfl
   |cons i l=>rw[hr]at href;simp[List.eraseDups_cons]at href
  have hv:=hs.tm 0;have hv:RV2 st.hp (CW st.tm 0) v:=hv;have hcase:v=.em\/v=.im []:=by
   generalize CW st.tm 0=u at ha hv;cases u with
   |em=>exact .inl hv
   |im t' l=>
    simp only[Hf,asL]at ha;rcases hv with⟨_,hv⟩|⟨rows,hv,hl⟩
    ·exact .inl hv
    ·split at ha
     ·rename_i ht;subst ht;have h0:l=[]:=by have:=zv ha;exact this
      subst h0;have:rows=[]:=zc0 (by have:=hl.1;simpa using this);subst this;exact .inr hv
     ·cases ha
   |ow id=>
    obtain⟨n,rfl,_⟩:=hv;simp[Ai,Ag]at hrefs
   |ar id lo n=>
    have hv:v=.ar id lo n:=hv;subst hv;simp[Ai,Ag]at hrefs
   |_=>simp[Hf,asL]at ha
  have hblks:blks=[]:=hb0 rfl;subst hblks;refine⟨.ar 0 0 0,[AT e t.size deep []],Ht.ext (hext _ _ _ _ _ (.inr ⟨_,hmem,rfl,?_,rfl,rfl,rfl⟩)),?_,?_,rfl⟩
  ·rcases hcase with rfl|rfl
   ·exact .inl rfl
   ·exact .inr rfl
  ·exact⟨0,rfl,fun b hb=>by cases hb;rfl⟩
  ·intro id b hb;have hb:AK [(0,some (TB.arr e deep t []))] id=some b:=hb;simp only[AK]at hb;cases hi:Nat.beq id 0 with
   |false=>rw[hi]at hb;cases hb
   |true=>
    rw[hi]at hb;have hb:some (TB.arr e deep t [])=some b:=hb;cases hb
    have:id=0:=za6 hi;subst this;exact⟨_,rfl,rfl,rfl,rfl,rfl,RLx.nil⟩
end
section
open Go Go.RowKit
def AL3:(c:AC)->c.den->V->Prop
 |.int k,n,v=>v=.v (.int k n)
 |.bool,b,v=>v=.v (.bool b)
 |.str,s,v=>v=.v (.string ⟨s.toArray⟩)
 |.err,b,v=>v=.er b
 |.im t,l,v=>(l=[]/\v=.em)\/∃rows,v=.im rows/\RLx (RE t) l rows
 |.at _,_,_=>False
section
variable {hp hp':THp} {u v:SV} {a:V} {b n:Nat} {c:AC}
theorem AY3(hc:c.isU=false)(h:tnC (tmC [] c) u hp b=some (v,hp',n))(hr:RV2 hp u a)(ha:Ai a=[]):hp'=hp/\∀f d,rdC c (B9 f v)=some d->AL3 c d a:=by
 cases c with
 | «at» j=>cases hc
 |im t=>
  simp only[tmC,tnC]at h;cases hl:Hf hp t u with
  |none=>rw[hl]at h;cases h
  |some l=>
   rw[hl]at h;simp only[zx,Prod.mk.injEq]at h;obtain⟨rfl,rfl,_⟩:=h;have key:frV u=[]/\AL3 (.im t) l a:=by
    cases u with
    |em=>
     simp only[Hf,asL,zx]at hl;subst hl;exact⟨rfl,.inl ⟨rfl,hr⟩⟩
    |im t' l'=>
     simp only[Hf,asL]at hl
     split at hl
     ·rename_i ht;subst ht;have hl:l'=l:=zv hl;subst hl;exact⟨rfl,hr⟩
     ·cases hl
    |ow id=>
     obtain⟨m,rfl,_⟩:=hr;simp[Ai,Ag]at ha
    |ar id lo m=>
     have hr:a=.ar id lo m:=hr;subst hr;simp[Ai,Ag]at ha
    |_=>simp[Hf,asL]at hl
   refine⟨by rw[key.1];rfl,fun f d hd=> ?_⟩
   simp only[B9,Fb,rdC,dite_true]at hd;have hd:l=d:=zv hd;subst hd;exact key.2
 |int k=>
  simp only[tmC,tnC,zx,Prod.mk.injEq]at h;obtain⟨rfl,rfl,_⟩:=h;refine⟨rfl,fun f d hd=> ?_⟩
  cases u with
  |int k' m=>
   simp only[B9,Fb,rdC]at hd
   split at hd
   ·rename_i hk;subst hk;cases hd;exact hr
   ·cases hd
  |ow id=>simp only[B9,Fb]at hd;split at hd<;>cases hd
  |ar id lo m=>simp only[B9,Fb]at hd;split at hd<;>cases hd
  |rf id r c=>simp only[B9,Fb]at hd;split at hd<;>cases hd
  |cl g caps=>cases hd
  |_=>cases hd
 |bool=>
  simp only[tmC,tnC,zx,Prod.mk.injEq]at h;obtain⟨rfl,rfl,_⟩:=h;refine⟨rfl,fun f d hd=> ?_⟩
  cases u with
  |bool m=>cases hd;exact hr
  |ow id=>simp only[B9,Fb]at hd;split at hd<;>cases hd
  |ar id lo m=>simp only[B9,Fb]at hd;split at hd<;>cases hd
  |rf id r c=>simp only[B9,Fb]at hd;split at hd<;>cases hd
  |cl g caps=>cases hd
  |_=>cases hd
 |str=>
  simp only[tmC,tnC,zx,Prod.mk.injEq]at h;obtain⟨rfl,rfl,_⟩:=h;refine⟨rfl,fun f d hd=> ?_⟩
  cases u with
  |str m=>cases hd;exact hr
  |ow id=>simp only[B9,Fb]at hd;split at hd<;>cases hd
  |ar id lo m=>simp only[B9,Fb]at hd;split at hd<;>cases hd
  |rf id r c=>simp only[B9,Fb]at hd;split at hd<;>cases hd
  |cl g caps=>cases hd
  |_=>cases hd
 |err=>
  simp only[tmC,tnC,zx,Prod.mk.injEq]at h;obtain⟨rfl,rfl,_⟩:=h;refine⟨rfl,fun f d hd=> ?_⟩
  cases u with
  |er m=>cases hd;exact hr
  |ow id=>simp only[B9,Fb]at hd;split at hd<;>cases hd
  |ar id lo m=>simp only[B9,Fb]at hd;split at hd<;>cases hd
  |rf id r c=>simp only[B9,Fb]at hd;split at hd<;>cases hd
  |cl g caps=>cases hd
  |_=>cases hd
end
theorem A9S{c:AC}{st:TSt}{x:De [.slot 0 (.cell c)]}{a:V}(hc:c.isU=false)(h:HH 0 [.slot 0 (.cell c)] st=some x)(hr:RV2 st.hp (CW st.tm 0) a)(ha:Ai a=[]):
  ∃d,x=OZ (.slot 0 (.cell c)) [] d ()/\AL3 c d a:=by
 unfold HH at h
 split at h
 case isFalse=>cases h
 simp only[La,Da,tmS,tnS,tnV]at h;cases h1:tnC (tmC [] c) (CW st.tm 0) st.hp (16*st.c)with
 |none=>rw[h1]at h;cases h
 |some z=>
  obtain⟨v,hp1,n⟩:=z;rw[h1]at h;simp only at h
  split at h
  case h_2=>cases h
  rename_i st1 hle
  split at hle
  case isFalse=>cases hle
  cases hle
  obtain⟨rfl,h2⟩:=AY3 hc h1 hr ha
  split at h
  case h_2=>cases h
  rename_i st2 hst2;unfold Q0 at hst2
  split at hst2
  case isFalse=>cases hst2
  split at hst2
  case h_2=>cases hst2
  rename_i o ho
  split at hst2
  case isFalse=>cases hst2
  have hst2:=zv hst2;subst hst2;simp only[HM,zb9,List.map_nil,CW,Nat.beq_refl,cond_true]at h;cases hhp:GG st.hp (Er o) 0 o with
  |cons y l=>rw[hhp]at h;simp only[rdI,Nat.beq_refl,if_true]at h;split at h<;>cases h
  |nil=>
   rw[hhp]at h;simp only[rdI,Nat.beq_refl,if_true,rdS]at h
   split at h
   ·rename_i d hd;exact⟨d,(zv h).symm,h2 _ _ hd⟩
   ·cases h
theorem A9O{c c':AC}{st:TSt}{x:De [.slot 0 (.cell c),.slot 1 (.cell c')]}{a a':V}(hc:c.isU=false)(hc':c'.isU=false)(h:HH 0 [.slot 0 (.cell c),.slot 1 (.cell c')] st=some x)
  (hr:RV2 st.hp (CW st.tm 0) a) (hr':RV2 st.hp (CW st.tm 1) a') (ha:Ai a=[]) (ha':Ai a'=[]):
  ∃d d',x=OZ (.slot 0 (.cell c)) [.slot 1 (.cell c')] d (OZ (.slot 1 (.cell c')) [] d' ())/\AL3 c d a/\AL3 c' d' a':=by
 unfold HH at h
 split at h
 case isFalse=>cases h
 simp only[La,Da,tmS,tnS,tnV]at h;cases h1:tnC (tmC [] c) (CW st.tm 0) st.hp (16*st.c)with
 |none=>rw[h1]at h;cases h
 |some z=>
  obtain⟨v,hp1,n⟩:=z;rw[h1]at h;simp only at h;obtain⟨rfl,h2⟩:=AY3 hc h1 hr ha
  split at h
  case h_2=>cases h
  rename_i st1 hle
  split at hle
  case isFalse=>cases hle
  have hg:CW ((0,v)::st.tm) 1=CW st.tm 1:=rfl;rw[hg]at hle;cases h3:tnC (tmC [] c') (CW st.tm 1) st.hp (16*(st.c+1))with
  |none=>rw[h3]at hle;cases hle
  |some z=>
   obtain⟨v',hp2,n'⟩:=z;rw[h3]at hle;simp only at hle;obtain⟨rfl,h4⟩:=AY3 hc' h3 hr' ha'
   split at hle
   case isFalse=>cases hle
   cases hle
   split at h
   case h_2=>cases h
   rename_i st2 hst2;unfold Q0 at hst2
   split at hst2
   case isFalse=>cases hst2
   split at hst2
   case h_2=>cases hst2
   rename_i o ho
   split at hst2
   case isFalse=>cases hst2
   have hst2:=zv hst2;subst hst2;have g0:CW ((1,v')::(0,v)::st.tm) 0=v:=rfl;have g1:CW ((1,v')::(0,v)::st.tm) 1=v':=rfl;simp only[HM,zb9,List.map_nil,g0,g1]at h;cases hhp:GG st.hp (Er o) 0 o with
   |cons y l=>
    rw[hhp]at h;cases e1:rdS (.cell c) (B9 (Er o) v)with
    |none=>simp[rdI,e1]at h
    |some d=>cases e2:rdS (.cell c') (B9 (Er o) v')with
     |none=>simp[rdI,e1,e2]at h
     |some d'=>simp[rdI,e1,e2]at h
   |nil=>
    rw[hhp]at h;cases e1:rdS (.cell c) (B9 (Er o) v)with
    |none=>simp[rdI,e1]at h
    |some d=>cases e2:rdS (.cell c') (B9 (Er o) v')with
     |none=>simp[rdI,e1,e2]at h
     |some d'=>
      simp only[rdI,e1,e2,Nat.beq_refl,if_true,zx]at h;exact⟨d,d',h.symm,h2 _ _ e1,h4 _ _ e2⟩
section
variable {P:Program} {J:KQ} {cf:Cfg} {ext:Rel}
theorem Am5{args:List V}(h:(args.flatMap Ai).eraseDups.length=0):∀v∈args,Ai v=[]:=by
 have h0:args.flatMap Ai=[]:=by
  cases hr:args.flatMap Ai with
  |nil=>rfl
  |cons i l=>rw[hr]at h;simp[List.eraseDups_cons]at h
 intro v hv;rw[List.flatMap_eq_nil_iff]at h0;exact h0 v hv
theorem AC0{g:FuncId}{c:AC}{res:List Item}{F:De [.slot 0 (.cell c)]->Option (De res)}(hc:c.isU=false)
  (h:∀d y a,AL3 c d a->F (OZ (.slot 0 (.cell c)) [] d ())=some y->∃r blks',ext g [a] [] r blks'/\ResRel res y r blks'):
  Eh (Ht P cf ext) ⟨⟨g,0,[.slot 0 (.cell c)],res,[],[],[]⟩,F⟩:=by
 intro x y args blks st hF hs hd hid hlen href hb0
 match args,hlen with
 |[a],_=>
  have hb:blks=[]:=hb0 rfl;subst hb;have hn:=Am5 href;have h0:RV2 st.hp (CW st.tm 0) a:=hs.tm 0;obtain⟨d,rfl,hA⟩:=A9S hc hd h0 (hn a (by simp));obtain⟨r,blks',h1,h2⟩:=h d y a hA hF;exact⟨r,blks',Ht.ext h1,h2⟩
theorem AE7{g:FuncId}{c c':AC}{res:List Item}{F:De [.slot 0 (.cell c),.slot 1 (.cell c')]->Option (De res)}(hc:c.isU=false)(hc':c'.isU=false)
  (h:∀d d' y a a',AL3 c d a->AL3 c' d' a'->F (OZ (.slot 0 (.cell c)) [.slot 1 (.cell c')] d (OZ (.slot 1 (.cell c')) [] d' ()))=some y->∃r blks',ext g [a,a'] [] r blks'/\ResRel res y r blks'):
  Eh (Ht P cf ext) ⟨⟨g,0,[.slot 0 (.cell c),.slot 1 (.cell c')],res,[],[],[]⟩,F⟩:=by
 intro x y args blks st hF hs hd hid hlen href hb0
 match args,hlen with
 |[a,a'],_=>
  have hb:blks=[]:=hb0 rfl;subst hb;have hn:=Am5 href;have h0:RV2 st.hp (CW st.tm 0) a:=hs.tm 0;have h1:RV2 st.hp (CW st.tm 1) a':=hs.tm 1;obtain⟨d,d',rfl,hA,hA'⟩:=A9O hc hc' hd h0 h1 (hn a (by simp)) (hn a' (by simp));obtain⟨r,blks',h1,h2⟩:=h d d' y a a' hA hA' hF;exact⟨r,blks',Ht.ext h1,h2⟩
def Ab0(P:Program)(g:FuncId):Prop:=∃fn,P.funcs[g]? =some fn/\SN fn=true/\fn.body.isSome=true
theorem Az9{E:Env}{b:Nat}:¬Own E (lkB []) b:=fun⟨id,k,hk,_⟩=>by simp[lkB]at hk
theorem Ac3{w w':World}{A:Nat->Prop}{E:Env}(hI:HpInv w (Own E (lkB [])) A E A (lkB []) w)(h:Below w.heap.size w w'):HpInv w (Own E (lkB [])) A E A (lkB []) w':=by
 refine⟨⟨h.os,h.tape,h.output,h.size,fun b hb _=>h.block b hb,fun b cur ty fz hb=>⟨cur,fz,?_,rfl⟩⟩,fun b hb=> ?_,fun b _=>Az9,fun b hb=>absurd hb Az9,fun id k id' k' hk=>by simp[lkB]at hk,fun id k b hk=>by simp[lkB]at hk,fun id k hk=>by simp[lkB]at hk⟩
 ·rw[h.block b (Array.getElem?_eq_some_iff.1 hb).1];exact hb
 ·have h1:=hI.g1 b hb;have:=h.size;exact⟨by omega,h1.2⟩
theorem Oq{g:FuncId}{args:List V}{r:V}(hent:Ab0 P g)
  (h:∀(w:World)(A:Nat->Prop)(E:Env)(vals:List Value),(∀x∈J,w.heap[x.1]? =some x.2)->(∀b,A b->b<w.heap.size)->VL (VR1 w E (lkB []) A) args vals->
   Calls P g vals.toArray w fun e w'=>∃y,e=.returned y/\Below w.heap.size w w'/\VR2 w' E (lkB []) A r y):CSpec P J g args [] r []:=by
 refine⟨hent,fun _ w A E vals hT hI hvl=> ?_⟩
 refine(show Calls P g vals w _ from(h w A E vals.toList (fun x hx=>(hT x hx).1) (fun b hb=>(hI.g1 b hb).1) hvl)).mono ?_
 rintro e w' ⟨y,rfl,hb,hv⟩;exact⟨y,E,A,rfl,Ac3 hI hb,hv,fun j _ k' hk=>by simp at hk⟩
theorem AN2{g:FuncId}{args:List V}{e size:Nat}{deep:Bool}{rows:List (List V)}(hent:Ab0 P g)(h0:0<size)(hna:args.flatMap Ai=[])
  (h:∀(w:World)(A:Nat->Prop)(E:Env)(vals:List Value),(∀x∈J,w.heap[x.1]? =some x.2)->(∀b,A b->b<w.heap.size)->VL (VR1 w E (lkB []) A) args vals->
   Calls P g vals.toArray w fun ee w'=>∃(b cap:Nat)(cur:Array Value),ee=.returned (.slice (some ⟨b,0,none⟩) rows.length cap)/\Below w.heap.size w w'/\w.heap.size<=b/\b<w'.heap.size/\w'.heap[b]? =some (.cells cur e (0,0))/\
    cur.size=cap*size/\cap<=maxLen/\rows.length<=cap/\(∀(i:Nat)(row:List V),rows[i]? =some row->row.length=size)/\
    ∀(i j:Nat)(row:List V)(x:V),rows[i]? =some row->row[j]? =some x->∃u,cur[i*size+j]? =some u/\∀G,Rep w' G x u):CSpec P J g args [] (.ar 0 0 rows.length) [AT e size deep rows]:=by
 refine⟨hent,fun _ w A E vals hT hI hvl=> ?_⟩
 refine(show Calls P g vals w _ from(h w A E vals.toList (fun x hx=>(hT x hx).1) (fun b hb=>(hI.g1 b hb).1) hvl)).mono ?_
 rintro ee w' ⟨b,cap,cur,rfl,hb,hbn,hbs,hbk,hsz,hcap,hle,hrl,hre⟩;have hk0:∀id k,lkB [AT e size deep rows] id=some k->id=0/\k=AT e size deep rows:=by
  intro id k hk;cases id with
  |zero=>simp[lkB]at hk;exact⟨rfl,hk.symm⟩
  |succ id=>simp[lkB]at hk
 have hown:∀x,Own ⟨fun i=>if i=0 then some b else none,fun _ _=>False⟩ (lkB [AT e size deep rows]) x->x=b:=by
  rintro x ⟨id,k,hk,_,hx⟩;obtain⟨rfl,rfl⟩:=hk0 id k hk;rcases hx with hx|hx
  ·simpa using hx.symm
  ·exact hx.elim
 have hI':=Ac3 hI hb;refine⟨_,⟨fun i=>if i=0 then some b else none,fun _ _=>False⟩,A,rfl,⟨hI'.fr,hI'.g1,fun x hx ho=> ?_,fun x ho=> ?_,fun id k id' k' hk _ hk' _ _ _ _=> ?_,fun id k x _ _ _ hn=>hn,fun id k hk=> ?_⟩,?_,fun j hj k' hk'=> ?_⟩
 ·rw[hown x ho]at hx;have:=(hI.g1 b hx).1;omega
 ·rw[hown x ho];exact⟨hbs,.inr hbn⟩
 ·rw[(hk0 id k hk).1,(hk0 id' k' hk').1]
 ·obtain⟨rfl,rfl⟩:=hk0 id k hk;exact .inr ⟨b,cur,cap,rfl,hbk,h0,hsz,hcap,hle,hrl,fun i j row x h1 h2=>by
   obtain⟨u,h3,h4⟩:=hre i j row x h1 h2;exact⟨u,h3,h4 _⟩⟩
 ·refine⟨some ⟨b,0,none⟩,cap,rfl,fun k hk=> ?_⟩
  have hk:some (AT e size deep rows)=some k:=hk;cases hk
  refine⟨by simp[AT],by simp[AT],.inr ⟨b,cur,e,(0,0),rfl,by simp,hle,hbk,by simp[AT];exact hsz⟩⟩
 ·rw[hna]at hj;cases hj
end
end
section
open Go Go.RowKit
section
variable {P:Program} {J:KQ} {cf:Cfg} {ext:Rel} {g:FuncId}
def A8e(P:Program)(J:KQ)(name:String)(k:IntKind)(zs:List Int):Prop:=∀w:World,(∀x∈J,w.heap[x.1]? =some x.2)->Lib.TabIs P w name k zs
theorem A7S{w:World}{E:Env}{A:Nat->Prop}{x:Value}{ys:List Value}(h:VL (VR1 w E (lkB []) A) [.v x] ys):ys=[x]:=by
 match ys,h with
 |[y],h=>
  have h1:Rep w A (.v x) y:=h.1;cases h1
  rfl
 |[],h=>exact h.elim
 |_::_::_,h=>exact h.2.elim
theorem A7T{w:World}{E:Env}{A:Nat->Prop}{x x':Value}{ys:List Value}(h:VL (VR1 w E (lkB []) A) [.v x,.v x'] ys):ys=[x,x']:=by
 match ys,h with
 |[y,z],h=>
  have h1:Rep w A (.v x) y:=h.1;have h2:Rep w A (.v x') z:=h.2.1;cases h1
  cases h2
  rfl
 |[],h=>exact h.elim
 |[_],h=>exact h.2.elim
 |_::_::_::_,h=>exact h.2.2.elim
def Yd(n:Int):Option Str:=if-9223372036854775808<=n/\n<=9223372036854775807 then some (Lib.itoa n)else none
def Ap4(g:FuncId):Rel:=fun g' args blks r blks'=>g'=g/\∃n:Int,-9223372036854775808<=n/\n<=9223372036854775807/\args=[.v (.int .i64 n)]/\blks=[]/\r=.v (.string ⟨(Lib.itoa n).toArray⟩)/\blks'=[]
def A9z(g:FuncId):FAnn:=⟨g,0,[.slot 0 (.cell (.int .i64))],[.slot 0 (.cell .str)],[],[],[]⟩
theorem A1S(hent:Ab0 P g)(hc:∀(n:Int) (h0: -9223372036854775808<=n) (h1:n<=9223372036854775807) (w:World) (htab:Lib.TabIs P w "internal/strconv.uint64pow10" .u64 Lib.pow10Tab),
  Calls P g #[.int .i64 n] w fun e w'=>e=.returned (.string ⟨(Lib.itoa n).toArray⟩)/\∃k os,w'=Sort.grow (w.drewN k) os)(hJ:A8e P J "internal/strconv.uint64pow10" .u64 Lib.pow10Tab):
  ∀g' args blks r blks',Ap4 g g' args blks r blks'->CSpec P J g' args blks r blks':=by
 rintro g' args blks r blks' ⟨rfl,n,h0,h1,rfl,rfl,rfl,rfl⟩;refine Oq hent fun w A E vals hT hA hvl=> ?_
 rw[A7S hvl];refine(hc n h0 h1 w (hJ w hT)).mono ?_
 rintro e w' ⟨rfl,k,os,rfl⟩;exact⟨_,rfl,Lib.below_grow _ w (za8 _) k os,.v _ rfl⟩
theorem A4f(hx:∀g' args blks r blks',Ap4 g g' args blks r blks'->ext g' args blks r blks'):Eh (Ht P cf ext) ⟨A9z g,Yd⟩:=by
 refine AC0 rfl fun d y a ha hF=> ?_
 have hF:Yd d=some y:=hF;unfold Yd at hF
 split at hF
 ·rename_i h;cases hF
  have ha:a=.v (.int .i64 d):=ha;exact⟨_,[],hx _ _ _ _ _ ⟨rfl,d,h.1,h.2,by rw[ha],rfl,rfl,rfl⟩,rfl,fun id b hb=>by simp[BL,AK]at hb,rfl⟩
 ·cases hF
def A50(J:KQ)(k:Nat):Prop:=∀w:World,(∀x∈J,w.heap[x.1]? =some x.2)->∃m:Int,w.cell? ⟨k,0,none⟩=some (.int .i64 m)
def Kn(s sub:Str):Option Bool:=if s.length<4294967281 then some (Lib.contains s sub)else none
def O1(g:FuncId):Rel:=fun g' args blks r blks'=>g'=g/\∃s p:Str,s.length<4294967281/\args=[.v (.string ⟨s.toArray⟩),.v (.string ⟨p.toArray⟩)]/\blks=[]/\r=.v (.bool (Lib.contains s p))/\blks'=[]
def A2d(g:FuncId):FAnn:=⟨g,0,[.slot 0 (.cell .str),.slot 1 (.cell .str)],[.slot 0 (.cell .bool)],[],[],[]⟩
theorem Aa0{k:Nat}(hent:Ab0 P g)(hc:∀(s sub:ByteArray) (m:Int) (w:World) (hs:s.size<4294967281) (hm:w.cell? ⟨k,0,none⟩=some (.int .i64 m)),
  Calls P g #[.string s,.string sub] w fun e w'=>e=.returned (.bool (Lib.contains s.data.toList sub.data.toList))/\w'=w)(hJ:A50 J k):
  ∀g' args blks r blks',O1 g g' args blks r blks'->CSpec P J g' args blks r blks':=by
 rintro g' args blks r blks' ⟨rfl,s,p,hs,rfl,rfl,rfl,rfl⟩;refine Oq hent fun w A E vals hT hA hvl=> ?_
 rw[A7T hvl];obtain⟨m,hm⟩:=hJ w hT;refine(hc ⟨s.toArray⟩ ⟨p.toArray⟩ m w (by simpa[ByteArray.size]using hs) hm).mono ?_
 rintro e w' ⟨rfl,rfl⟩;exact⟨_,rfl,Below.refl _ _,.v _ rfl⟩
theorem Ap0(hx:∀g' args blks r blks',O1 g g' args blks r blks'->ext g' args blks r blks'):Eh (Ht P cf ext) ⟨A2d g,fun x=>Kn x.1 x.2⟩:=by
 refine AE7 rfl rfl fun d d' y a a' ha ha' hF=> ?_
 have hF:Kn d d'=some y:=hF;unfold Kn at hF
 split at hF
 ·rename_i h;cases hF
  have ha:a=.v (.string ⟨(show Str from d).toArray⟩):=ha;have ha':a'=.v (.string ⟨(show Str from d').toArray⟩):=ha';exact⟨_,[],hx _ _ _ _ _ ⟨rfl,d,d',h,by rw[ha,ha'],rfl,rfl,rfl⟩,rfl,fun id b hb=>by simp[BL,AK]at hb,rfl⟩
 ·cases hF
def GC(s sep:Str):List Str:=(Lib.splitB ⟨sep.toArray⟩ 0 (Lib.countB ⟨s.toArray⟩ ⟨sep.toArray⟩) ⟨s.toArray⟩).map fun b=>b.data.toList
def Qp(s sep:Str):Option (List Str):=if s.length<4294967281/\1<=sep.length then some (GC s sep)else none
def XK(g:FuncId)(e:TypeId):Rel:=fun g' args blks r blks'=>g'=g/\∃s p:Str,s.length<4294967281/\1<=p.length/\args=[.v (.string ⟨s.toArray⟩),.v (.string ⟨p.toArray⟩)]/\blks=[]/\
 r=.ar 0 0 ((GC s p).map fun x=>[V.v (.string ⟨x.toArray⟩)]).length/\blks'=[AT e 1 true ((GC s p).map fun x=>[V.v (.string ⟨x.toArray⟩)])]
def A74(g:FuncId)(e:TypeId):FAnn:=⟨g,0,[.slot 0 (.cell .str),.slot 1 (.cell .str)],[.blk (.arr e true .str),.slot 0 (.ref 0 false)],[],[],[]⟩
theorem AW0{k:Nat}{e:TypeId}(hent:Ab0 P g)(hc:∀(s sep:ByteArray) (m:Int) (w:World) (hs:s.size<4294967281) (hm:w.cell? ⟨k,0,none⟩=some (.int .i64 m)) (h1:1<=sep.size),
  Calls P g #[.string s,.string sep] w fun ee w'=>ee=.returned (.slice (some ⟨w.heap.size,0,none⟩) (Lib.countB s sep+1) (Lib.countB s sep+1))/\w'=w.alloc (.cells ((Lib.splitB sep 0 (Lib.countB s sep) s).map Value.string).toArray e))(hJ:A50 J k):
  ∀g' args blks r blks',XK g e g' args blks r blks'->CSpec P J g' args blks r blks':=by
 rintro g' args blks r blks' ⟨rfl,s,p,hs,hp,rfl,rfl,rfl,rfl⟩;refine AN2 hent (by decide) rfl fun w A E vals hT hA hvl=> ?_
 rw[A7T hvl];obtain⟨m,hm⟩:=hJ w hT;refine(hc ⟨s.toArray⟩ ⟨p.toArray⟩ m w (by simpa[ByteArray.size]using hs) hm (by simpa[ByteArray.size]using hp)).mono ?_
 rintro ee w' ⟨rfl,rfl⟩;have h1:1<=(⟨p.toArray⟩:ByteArray).size:=by simpa[ByteArray.size]using hp
 have hl:=Lib.splitB_all ⟨p.toArray⟩ h1 0 _ ⟨s.toArray⟩ rfl;have hk:=Lib.countB_le ⟨p.toArray⟩ h1 _ ⟨s.toArray⟩ (za8 _);have hk':Lib.countB ⟨s.toArray⟩ ⟨p.toArray⟩<=s.length:=by simpa[ByteArray.size]using hk
 have hrl:((GC s p).map fun x=>[V.v (.string ⟨x.toArray⟩)]).length=Lib.countB ⟨s.toArray⟩ ⟨p.toArray⟩+1:=by unfold GC;simp[hl]
 refine⟨w.heap.size,Lib.countB ⟨s.toArray⟩ ⟨p.toArray⟩+1,((Lib.splitB ⟨p.toArray⟩ 0 (Lib.countB ⟨s.toArray⟩ ⟨p.toArray⟩) ⟨s.toArray⟩).map Value.string).toArray,by rw[hrl],(Below.refl _ w).alloc (za8 _) _,za8 _,by simp,by unfold World.alloc;simp,by simp[hl],by unfold maxLen;omega,by omega,fun i row hr=> ?_,fun i j row x hr hx=> ?_⟩
 ·rw[zc9]at hr;cases hz:(GC s p)[i]? with
  |none=>rw[hz]at hr;cases hr
  |some z=>rw[hz]at hr;cases hr;rfl
 ·rw[zc9]at hr;cases hz:(GC s p)[i]? with
  |none=>rw[hz]at hr;cases hr
  |some z=>
   rw[hz]at hr;cases hr
   cases j with
   |succ j=>simp at hx
   |zero=>
    simp at hx;subst hx;unfold GC at hz;rw[zc9,zb6]at hz;obtain⟨b,hb,rfl⟩:=hz;refine⟨.string b,?_,fun G=> ?_⟩
    ·simp[hb]
    ·exact .v _ rfl
theorem A2T{e:TypeId}(hx:∀g' args blks r blks',XK g e g' args blks r blks'->ext g' args blks r blks'):Eh (Ht P cf ext) ⟨A74 g e,fun x=>Qp x.1 x.2⟩:=by
 refine AE7 rfl rfl fun d d' y a a' ha ha' hF=> ?_
 have hF:Qp d d'=some y:=hF;unfold Qp at hF
 split at hF
 ·rename_i h;cases hF
  have ha:a=.v (.string ⟨(show Str from d).toArray⟩):=ha;have ha':a'=.v (.string ⟨(show Str from d').toArray⟩):=ha';refine⟨_,_,hx _ _ _ _ _ ⟨rfl,d,d',h.1,h.2,by rw[ha,ha'],rfl,rfl,rfl⟩,⟨_,rfl,fun b hb=> ?_⟩,fun id b hb=> ?_,rfl⟩
  ·have hb:some (TB.arr e true .str (GC d d'))=some b:=hb;cases hb
   simp[FY]
  ·have hb:AK [(0,some (TB.arr e true .str (GC d d')))] id=some b:=hb;simp only[AK]at hb;cases hi:Nat.beq id 0 with
   |false=>rw[hi]at hb;cases hb
   |true=>
    rw[hi]at hb;have hb:some (TB.arr e true .str (GC d d'))=some b:=hb;cases hb
    have:id=0:=za6 hi;subst this;refine⟨_,rfl,rfl,rfl,rfl,rfl,by simp[AT],fun i x row h1 h2=> ?_⟩
    have h2:((GC d d').map fun x=>[V.v (.string ⟨x.toArray⟩)])[i]? =some row:=h2;have h1:(GC d d')[i]? =some x:=h1;rw[zc9,h1]at h2;cases h2
    rfl
 ·cases hF
def A5d(P:Program)(J:KQ)(name:String):Prop:=∀w:World,(∀x∈J,w.heap[x.1]? =some x.2)->∃tp p,w.var? P name=some #[.iface tp p]
def QS(s:Str):Int×Bool:=match Lib.atoiAll s with|.ok v=>(v,false)|.range=>(Lib.atoiSat s,true)|_=>(0,true)
def Xz(s:Str):Option (Int×Bool):=if s.length<=281474976710656 then some (QS s)else none
def Au9(g:FuncId):Rel:=fun g' args blks r blks'=>g'=g/\∃s:Str,s.length<=281474976710656/\args=[.v (.string ⟨s.toArray⟩)]/\blks=[]/\r=.tup [.v (.int .i64 (QS s).1),.er (QS s).2]/\blks'=[]
def A88(g:FuncId):FAnn:=⟨g,0,[.slot 0 (.cell .str)],[.slot 0 (.cell (.int .i64)),.slot 1 (.cell .err)],[],[],[]⟩
theorem A2O{t5 t1 t2:TypeId}(hent:Ab0 P g)(hok:∀(s:ByteArray) (hmax:s.size<=9223372036854775806) (v:Int) (h:Lib.atoiAll s.data.toList=.ok v) (w:World),
   Calls P g #[.string s] w fun e w'=>e=.returned (.tuple #[.int .i64 v,.nilIface])/\(w'=w\/∃t,w'=Lib.bytesWorld w t5 t))
  (hsy:∀(s:ByteArray)(hlim:s.size<=281474976710656)(h:Lib.atoiAll s.data.toList=Lib.atoiAll [])(tp:TypeId)(p:Value)(w:World)(hvar:w.var? P "strconv.ErrSyntax" =some #[.iface tp p]),
   Calls P g #[.string s] w fun e w'=>∃N,e=.returned (.tuple #[.int .i64 0,.iface t1 (.pointer (some ⟨N,0,none⟩))])/\w.heap.size<=N/\w'.heap[N]? =some (.cells #[.string ⟨#[65,116,111,105]⟩,.string s,.iface tp p] t2 (0,0))/\Below w.heap.size w w')
  (hrg:∀(s:ByteArray)(hlim:s.size<=281474976710656)(h:Lib.atoiAll s.data.toList=.range)(tp:TypeId)(p:Value)(w:World)(hvar:w.var? P "strconv.ErrRange" =some #[.iface tp p]),
   Calls P g #[.string s] w fun e w'=>∃N,e=.returned (.tuple #[.int .i64 (Lib.atoiSat s.data.toList),.iface t1 (.pointer (some ⟨N,0,none⟩))])/\w.heap.size<=N/\w'.heap[N]? =some (.cells #[.string ⟨#[65,116,111,105]⟩,.string s,.iface tp p] t2 (0,0))/\Below w.heap.size w w')
  (hJ1:A5d P J "strconv.ErrSyntax") (hJ2:A5d P J "strconv.ErrRange"):
  ∀g' args blks r blks',Au9 g g' args blks r blks'->CSpec P J g' args blks r blks':=by
 rintro g' args blks r blks' ⟨rfl,s,hs,rfl,rfl,rfl,rfl⟩;refine Oq hent fun w A E vals hT hA hvl=> ?_
 rw[A7S hvl];have hs':(⟨s.toArray⟩:ByteArray).size<=281474976710656:=by simpa[ByteArray.size]using hs
 cases hz:Lib.atoiAll s
 case ok v=>
  have e0:QS s=(v,false):=by unfold QS;rw[hz]
  rw[e0];refine(hok ⟨s.toArray⟩ (by omega) v (by simpa using hz) w).mono ?_
  rintro e w' ⟨rfl,hw⟩;refine⟨_,rfl,?_,_,rfl,.v _ rfl,.er0,trivial⟩
  rcases hw with rfl|⟨t,rfl⟩
  ·exact Below.refl _ _
  ·exact Lib.bytesWorld_below w _ t
 case range=>
  have e0:QS s=(Lib.atoiSat s,true):=by unfold QS;rw[hz]
  rw[e0];obtain⟨tp,p,hv⟩:=hJ2 w hT;refine(hrg ⟨s.toArray⟩ hs' (by simpa using hz) tp p w hv).mono ?_
  rintro e w' ⟨N,rfl,_,_,hb⟩;exact⟨_,rfl,hb,_,rfl,.v _ rfl,.er1 _ _,trivial⟩
 ·have e0:QS s=(0,true):=by unfold QS;rw[hz]
  rw[e0];obtain⟨tp,p,hv⟩:=hJ1 w hT;have he:Lib.atoiAll (⟨s.toArray⟩:ByteArray).data.toList=Lib.atoiAll []:=by
   rw[show(⟨s.toArray⟩:ByteArray).data.toList=s from rfl,hz];rfl
  refine(hsy ⟨s.toArray⟩ hs' he tp p w hv).mono ?_
  rintro e w' ⟨N,rfl,_,_,hb⟩;exact⟨_,rfl,hb,_,rfl,.v _ rfl,.er1 _ _,trivial⟩
theorem A47(hx:∀g' args blks r blks',Au9 g g' args blks r blks'->ext g' args blks r blks'):Eh (Ht P cf ext) ⟨A88 g,Xz⟩:=by
 refine AC0 rfl fun d y a ha hF=> ?_
 have hF:Xz d=some y:=hF;unfold Xz at hF
 split at hF
 ·rename_i h;cases hF
  have ha:a=.v (.string ⟨(show Str from d).toArray⟩):=ha;exact⟨_,[],hx _ _ _ _ _ ⟨rfl,d,h,by rw[ha],rfl,rfl,rfl⟩,⟨_,rfl,rfl,rfl,trivial⟩,fun id b hb=>by simp[BL,AK]at hb,rfl⟩
 ·cases hF
end
end
end Go.Proofs.YtiijheppiboglaaGreatDoor.Ev
namespace Go.Proofs
section
open Go.Shelf
def Tryz.laysM171_ren:Go.Shelf.Ren:=⟨fun|171=>82|243=>146|246=>200|283=>249|284=>250|285=>251|286=>252|129=>286|317=>285|318=>287|319=>288|320=>289|337=>305|338=>306|n=>n,fun|3=>3|9=>9|2=>2|4=>4|171=>227|0=>0|53=>113|37=>32|5=>5|173=>230|212=>254|51=>255|20=>20|213=>256|46=>221|232=>280|233=>281|n=>n,fun|17=>3|18=>6|19=>7|n=>n⟩
theorem Tryz.laysM171:Go.Proofs.LaysM.n171 Tryz.prog Tryz.laysM171_ren:={
 mixed:=by kernel_rfl
 f129:=Tryz.func286.trans (congrArg some (by kernel_rfl))
 f171:=Tryz.func82.trans (congrArg some (by kernel_rfl))
 f243:=Tryz.func146.trans (congrArg some (by kernel_rfl))
 f246:=Tryz.func200.trans (congrArg some (by kernel_rfl))
 f283:=Tryz.func249.trans (congrArg some (by kernel_rfl))
 f284:=Tryz.func250.trans (congrArg some (by kernel_rfl))
 f285:=Tryz.func251.trans (congrArg some (by kernel_rfl))
 f286:=Tryz.func252.trans (congrArg some (by kernel_rfl))
 f317:=Tryz.func285.trans (congrArg some (by kernel_rfl))
 f318:=Tryz.func287.trans (congrArg some (by kernel_rfl))
 f319:=Tryz.func288.trans (congrArg some (by kernel_rfl))
 f320:=Tryz.func289.trans (congrArg some (by kernel_rfl))
 f337:=Tryz.func305.trans (congrArg some (by kernel_rfl))
 f338:=Tryz.func306.trans (congrArg some (by kernel_rfl))
 t0:=Tryz.underlying0
 a0:=Tryz.isAgg0
 z0:=Tryz.sizeOf0
 v0:=Tryz.zeroValue0
 t2:=Tryz.underlying2
 a2:=Tryz.isAgg2
 z2:=Tryz.sizeOf2
 v2:=Tryz.zeroValue2
 t3:=Tryz.underlying3
 a3:=Tryz.isAgg3
 z3:=Tryz.sizeOf3
 v3:=Tryz.zeroValue3
 t4:=Tryz.underlying4
 a4:=Tryz.isAgg4
 z4:=Tryz.sizeOf4
 v4:=Tryz.zeroValue4
 t5:=Tryz.underlying5
 a5:=Tryz.isAgg5
 z5:=Tryz.sizeOf5
 v5:=Tryz.zeroValue5
 t9:=Tryz.underlying9
 a9:=Tryz.isAgg9
 z9:=Tryz.sizeOf9
 v9:=Tryz.zeroValue9
 t20:=Tryz.underlying20
 a20:=Tryz.isAgg20
 z20:=Tryz.sizeOf20
 v20:=Tryz.zeroValue20
 t37:=Tryz.underlying32
 a37:=Tryz.isAgg32
 z37:=Tryz.sizeOf32
 v37:=Tryz.zeroValue32
 t46:=Tryz.underlying221
 a46:=Tryz.isAgg221
 z46:=Tryz.sizeOf221
 v46:=Tryz.zeroValue221
 t51:=Tryz.underlying255
 a51:=Tryz.isAgg255
 z51:=Tryz.sizeOf255
 v51:=Tryz.zeroValue255
 t53:=Tryz.underlying113
 a53:=Tryz.isAgg113
 z53:=Tryz.sizeOf113
 v53:=Tryz.zeroValue113
 t171:=Tryz.underlying227
 a171:=Tryz.isAgg227
 z171:=Tryz.sizeOf227
 v171:=Tryz.zeroValue227
 t173:=Tryz.underlying230
 a173:=Tryz.isAgg230
 z173:=Tryz.sizeOf230
 v173:=Tryz.zeroValue230
 t212:=Tryz.underlying254
 a212:=Tryz.isAgg254
 z212:=Tryz.sizeOf254
 v212:=Tryz.zeroValue254
 t213:=Tryz.underlying256
 a213:=Tryz.isAgg256
 z213:=Tryz.sizeOf256
 t232:=Tryz.underlying280
 a232:=Tryz.isAgg280
 z232:=Tryz.sizeOf280
 v232:=Tryz.zeroValue280
 t233:=Tryz.underlying281
 a233:=Tryz.isAgg281
 z233:=Tryz.sizeOf281
 v233:=Tryz.zeroValue281
 g17:=by kernel_rfl
 g18:=by kernel_rfl
 g19:=by kernel_rfl
 i0:=by kernel_rfl
 i2:=by kernel_rfl
 i3:=by kernel_rfl
 i4:=by kernel_rfl
 i5:=by kernel_rfl
 i9:=by kernel_rfl
 i20:=by kernel_rfl
 i37:=by kernel_rfl
 i46:=by kernel_rfl
 i51:=by kernel_rfl
 i53:=by kernel_rfl
 i171:=by kernel_rfl
 i173:=by kernel_rfl
 i212:=by kernel_rfl
 i232:=by kernel_rfl
 i233:=by kernel_rfl
 m17:=by kernel_rfl
 m18:=by kernel_rfl
 m19:=by kernel_rfl}
open Go.RowKit Go.Sort Go.Lib in
theorem Tryz.strconv_Itoa (n : Int) (h0 : -9223372036854775808 <= n) (h1 : n <= 9223372036854775807) (w : World) (htab : Lib.TabIs Tryz.prog w "internal/strconv.uint64pow10" .u64 Lib.pow10Tab) :
  Calls Tryz.prog 82 #[.int .i64 n] w fun e w' => e = .returned (.string ⟨(Lib.itoa n).toArray⟩) /\ ∃ k os, w' = grow (w.drewN k) os := Any.strconv_Itoa Tryz.laysM171 n h0 h1 w htab
def Tryz.laysC172_ren:Go.Shelf.Ren:=⟨fun|172=>101|244=>164|245=>165|247=>210|279=>211|280=>212|281=>213|282=>214|287=>260|316=>261|171=>82|205=>262|321=>291|322=>292|243=>146|246=>200|283=>249|284=>250|285=>251|286=>252|129=>286|317=>285|318=>287|319=>288|320=>289|337=>305|338=>306|n=>n,fun|9=>9|3=>3|75=>125|76=>126|4=>4|5=>5|167=>205|37=>32|0=>0|85=>206|2=>2|168=>208|53=>113|175=>240|46=>221|210=>244|127=>200|145=>261|143=>259|21=>21|171=>227|173=>230|212=>254|51=>255|20=>20|213=>256|232=>280|233=>281|80=>116|n=>n,fun|15=>0|16=>1|17=>3|18=>6|19=>7|n=>n⟩
theorem Tryz.laysC172:Go.Proofs.LaysC.n172 Tryz.prog Tryz.laysC172_ren:={
 mixed:=by kernel_rfl
 f129:=Tryz.func286.trans (congrArg some (by kernel_rfl))
 f171:=Tryz.func82.trans (congrArg some (by kernel_rfl))
 f172:=Tryz.func101.trans (congrArg some (by kernel_rfl))
 f205:=Tryz.func262.trans (congrArg some (by kernel_rfl))
 f243:=Tryz.func146.trans (congrArg some (by kernel_rfl))
 f244:=Tryz.func164.trans (congrArg some (by kernel_rfl))
 f245:=Tryz.func165.trans (congrArg some (by kernel_rfl))
 f246:=Tryz.func200.trans (congrArg some (by kernel_rfl))
 f247:=Tryz.func210.trans (congrArg some (by kernel_rfl))
 f279:=Tryz.func211.trans (congrArg some (by kernel_rfl))
 f280:=Tryz.func212.trans (congrArg some (by kernel_rfl))
 f281:=Tryz.func213.trans (congrArg some (by kernel_rfl))
 f282:=Tryz.func214.trans (congrArg some (by kernel_rfl))
 f283:=Tryz.func249.trans (congrArg some (by kernel_rfl))
 f284:=Tryz.func250.trans (congrArg some (by kernel_rfl))
 f285:=Tryz.func251.trans (congrArg some (by kernel_rfl))
 f286:=Tryz.func252.trans (congrArg some (by kernel_rfl))
 f287:=Tryz.func260.trans (congrArg some (by kernel_rfl))
 f316:=Tryz.func261.trans (congrArg some (by kernel_rfl))
 f317:=Tryz.func285.trans (congrArg some (by kernel_rfl))
 f318:=Tryz.func287.trans (congrArg some (by kernel_rfl))
 f319:=Tryz.func288.trans (congrArg some (by kernel_rfl))
 f320:=Tryz.func289.trans (congrArg some (by kernel_rfl))
 f321:=Tryz.func291.trans (congrArg some (by kernel_rfl))
 f322:=Tryz.func292.trans (congrArg some (by kernel_rfl))
 f337:=Tryz.func305.trans (congrArg some (by kernel_rfl))
 f338:=Tryz.func306.trans (congrArg some (by kernel_rfl))
 t0:=Tryz.underlying0
 a0:=Tryz.isAgg0
 z0:=Tryz.sizeOf0
 v0:=Tryz.zeroValue0
 t2:=Tryz.underlying2
 a2:=Tryz.isAgg2
 z2:=Tryz.sizeOf2
 v2:=Tryz.zeroValue2
 t3:=Tryz.underlying3
 a3:=Tryz.isAgg3
 z3:=Tryz.sizeOf3
 v3:=Tryz.zeroValue3
 t4:=Tryz.underlying4
 a4:=Tryz.isAgg4
 z4:=Tryz.sizeOf4
 v4:=Tryz.zeroValue4
 t5:=Tryz.underlying5
 a5:=Tryz.isAgg5
 z5:=Tryz.sizeOf5
 v5:=Tryz.zeroValue5
 t9:=Tryz.underlying9
 a9:=Tryz.isAgg9
 z9:=Tryz.sizeOf9
 v9:=Tryz.zeroValue9
 t20:=Tryz.underlying20
 a20:=Tryz.isAgg20
 z20:=Tryz.sizeOf20
 v20:=Tryz.zeroValue20
 t21:=Tryz.underlying21
 a21:=Tryz.isAgg21
 z21:=Tryz.sizeOf21
 v21:=Tryz.zeroValue21
 t37:=Tryz.underlying32
 a37:=Tryz.isAgg32
 z37:=Tryz.sizeOf32
 v37:=Tryz.zeroValue32
 t46:=Tryz.underlying221
 a46:=Tryz.isAgg221
 z46:=Tryz.sizeOf221
 v46:=Tryz.zeroValue221
 t51:=Tryz.underlying255
 a51:=Tryz.isAgg255
 z51:=Tryz.sizeOf255
 v51:=Tryz.zeroValue255
 t53:=Tryz.underlying113
 a53:=Tryz.isAgg113
 z53:=Tryz.sizeOf113
 v53:=Tryz.zeroValue113
 t75:=Tryz.underlying125
 a75:=Tryz.isAgg125
 z75:=Tryz.sizeOf125
 v75:=Tryz.zeroValue125
 t76:=Tryz.underlying126
 a76:=Tryz.isAgg126
 z76:=Tryz.sizeOf126
 v76:=Tryz.zeroValue126
 t85:=Tryz.underlying206
 a85:=Tryz.isAgg206
 z85:=Tryz.sizeOf206
 v85:=Tryz.zeroValue206
 t127:=Tryz.underlying200
 a127:=Tryz.isAgg200
 z127:=Tryz.sizeOf200
 v127:=Tryz.zeroValue200
 t143:=Tryz.underlying259
 a143:=Tryz.isAgg259
 z143:=Tryz.sizeOf259
 v143:=Tryz.zeroValue259
 t145:=Tryz.underlying261
 a145:=Tryz.isAgg261
 z145:=Tryz.sizeOf261
 v145:=Tryz.zeroValue261
 t167:=Tryz.underlying205
 a167:=Tryz.isAgg205
 z167:=Tryz.sizeOf205
 v167:=Tryz.zeroValue205
 t168:=Tryz.underlying208
 a168:=Tryz.isAgg208
 z168:=Tryz.sizeOf208
 v168:=Tryz.zeroValue208
 t171:=Tryz.underlying227
 a171:=Tryz.isAgg227
 z171:=Tryz.sizeOf227
 v171:=Tryz.zeroValue227
 t173:=Tryz.underlying230
 a173:=Tryz.isAgg230
 z173:=Tryz.sizeOf230
 v173:=Tryz.zeroValue230
 t175:=Tryz.underlying240
 a175:=Tryz.isAgg240
 z175:=Tryz.sizeOf240
 v175:=Tryz.zeroValue240
 t210:=Tryz.underlying244
 a210:=Tryz.isAgg244
 z210:=Tryz.sizeOf244
 v210:=Tryz.zeroValue244
 t212:=Tryz.underlying254
 a212:=Tryz.isAgg254
 z212:=Tryz.sizeOf254
 v212:=Tryz.zeroValue254
 t213:=Tryz.underlying256
 a213:=Tryz.isAgg256
 z213:=Tryz.sizeOf256
 t232:=Tryz.underlying280
 a232:=Tryz.isAgg280
 z232:=Tryz.sizeOf280
 v232:=Tryz.zeroValue280
 t233:=Tryz.underlying281
 a233:=Tryz.isAgg281
 z233:=Tryz.sizeOf281
 v233:=Tryz.zeroValue281
 g15:=by kernel_rfl
 g16:=by kernel_rfl
 g17:=by kernel_rfl
 g18:=by kernel_rfl
 g19:=by kernel_rfl
 t80:=Tryz.underlying116
 a80:=Tryz.isAgg116
 z80:=Tryz.sizeOf116
 v80:=Tryz.zeroValue116
 i0:=by kernel_rfl
 i2:=by kernel_rfl
 i3:=by kernel_rfl
 i4:=by kernel_rfl
 i5:=by kernel_rfl
 i9:=by kernel_rfl
 i20:=by kernel_rfl
 i21:=by kernel_rfl
 i37:=by kernel_rfl
 i46:=by kernel_rfl
 i51:=by kernel_rfl
 i53:=by kernel_rfl
 i75:=by kernel_rfl
 i76:=by kernel_rfl
 i80:=by kernel_rfl
 i85:=by kernel_rfl
 i127:=by kernel_rfl
 i143:=by kernel_rfl
 i145:=by kernel_rfl
 i167:=by kernel_rfl
 i168:=by kernel_rfl
 i171:=by kernel_rfl
 i173:=by kernel_rfl
 i175:=by kernel_rfl
 i210:=by kernel_rfl
 i212:=by kernel_rfl
 i232:=by kernel_rfl
 i233:=by kernel_rfl
 m15:=by kernel_rfl
 m16:=by kernel_rfl
 m17:=by kernel_rfl
 m18:=by kernel_rfl
 m19:=by kernel_rfl
 c0:=by kernel_rfl
 c2:=by kernel_rfl
 c3:=by kernel_rfl
 c4:=by kernel_rfl
 c5:=by kernel_rfl
 c9:=by kernel_rfl
 c20:=by kernel_rfl
 c21:=by kernel_rfl
 c37:=by kernel_rfl
 c46:=by kernel_rfl
 c51:=by kernel_rfl
 c53:=by kernel_rfl
 c75:=by kernel_rfl
 c76:=by kernel_rfl
 c80:=by kernel_rfl
 c85:=by kernel_rfl
 c127:=by kernel_rfl
 c143:=by kernel_rfl
 c145:=by kernel_rfl
 c167:=by kernel_rfl
 c168:=by kernel_rfl
 c171:=by kernel_rfl
 c173:=by kernel_rfl
 c175:=by kernel_rfl
 c210:=by kernel_rfl
 c212:=by kernel_rfl
 c213:=by kernel_rfl
 c232:=by kernel_rfl
 c233:=by kernel_rfl}
open Go.RowKit in
theorem Tryz.strconv_Atoi_ok (s : ByteArray) (hmax : s.size <= 9223372036854775806) (v : Int) (h : Lib.atoiAll s.data.toList = .ok v) (w : World) :
  Calls Tryz.prog 101 #[.string s] w fun e w' => e = .returned (.tuple #[.int .i64 v, .nilIface]) /\ (w' = w \/ ∃ t, w' = Lib.bytesWorld w 5 t) := Any.strconv_Atoi_ok Tryz.laysC172 s hmax v h w
open Go.RowKit in
theorem Tryz.strconv_Atoi_syntax_var (s : ByteArray) (hlim : s.size <= 281474976710656) (h : Lib.atoiAll s.data.toList = Lib.atoiAll []) (tp : TypeId) (p : Value) (w : World) (hvar : w.var? Tryz.prog "strconv.ErrSyntax" = some #[.iface tp p]) :
  Calls Tryz.prog 101 #[.string s] w fun e w' => ∃ N, e = .returned (.tuple #[.int .i64 0, .iface 208 (.pointer (some ⟨N, 0, none⟩))]) /\ w.heap.size <= N /\ w'.heap[N]? = some (.cells #[.string ⟨#[65, 116, 111, 105]⟩, .string s, .iface tp p] 244 (0, 0)) /\ Below w.heap.size w w' := Any.strconv_Atoi_syntax_var Tryz.laysC172 s hlim h tp p w hvar
open Go.RowKit in
theorem Tryz.strconv_Atoi_range_var (s : ByteArray) (hlim : s.size <= 281474976710656) (h : Lib.atoiAll s.data.toList = .range) (tp : TypeId) (p : Value) (w : World) (hvar : w.var? Tryz.prog "strconv.ErrRange" = some #[.iface tp p]) :
  Calls Tryz.prog 101 #[.string s] w fun e w' => ∃ N, e = .returned (.tuple #[.int .i64 (Lib.atoiSat s.data.toList), .iface 208 (.pointer (some ⟨N, 0, none⟩))]) /\ w.heap.size <= N /\ w'.heap[N]? = some (.cells #[.string ⟨#[65, 116, 111, 105]⟩, .string s, .iface tp p] 244 (0, 0)) /\ Below w.heap.size w w' := Any.strconv_Atoi_range_var Tryz.laysC172 s hlim h tp p w hvar
def Tryz.lays144_ren:Go.Shelf.Ren:=⟨fun|144=>155|143=>207|219=>238|217=>279|225=>280|224=>281|267=>282|266=>303|314=>304|n=>n,fun|9=>9|4=>4|3=>3|5=>5|46=>221|146=>266|51=>255|n=>n,fun|1=>2|n=>n⟩
theorem Tryz.lays144:Go.Proofs.Lays.n144 Tryz.prog Tryz.lays144_ren:={
 mixed:=by kernel_rfl
 f143:=Tryz.func207.trans (congrArg some (by kernel_rfl))
 f144:=Tryz.func155.trans (congrArg some (by kernel_rfl))
 f217:=Tryz.func279.trans (congrArg some (by kernel_rfl))
 f219:=Tryz.func238.trans (congrArg some (by kernel_rfl))
 f224:=Tryz.func281.trans (congrArg some (by kernel_rfl))
 f225:=Tryz.func280.trans (congrArg some (by kernel_rfl))
 f266:=Tryz.func303.trans (congrArg some (by kernel_rfl))
 f267:=Tryz.func282.trans (congrArg some (by kernel_rfl))
 f314:=Tryz.func304.trans (congrArg some (by kernel_rfl))
 t3:=Tryz.underlying3
 a3:=Tryz.isAgg3
 z3:=Tryz.sizeOf3
 v3:=Tryz.zeroValue3
 t4:=Tryz.underlying4
 a4:=Tryz.isAgg4
 z4:=Tryz.sizeOf4
 v4:=Tryz.zeroValue4
 t5:=Tryz.underlying5
 a5:=Tryz.isAgg5
 z5:=Tryz.sizeOf5
 v5:=Tryz.zeroValue5
 t9:=Tryz.underlying9
 a9:=Tryz.isAgg9
 z9:=Tryz.sizeOf9
 v9:=Tryz.zeroValue9
 t46:=Tryz.underlying221
 a46:=Tryz.isAgg221
 z46:=Tryz.sizeOf221
 v46:=Tryz.zeroValue221
 t51:=Tryz.underlying255
 a51:=Tryz.isAgg255
 z51:=Tryz.sizeOf255
 v51:=Tryz.zeroValue255
 t146:=Tryz.underlying266
 a146:=Tryz.isAgg266
 z146:=Tryz.sizeOf266
 v146:=Tryz.zeroValue266
 g1:=by kernel_rfl}
open Go.RowKit Go.Lib in
theorem Tryz.strings_Contains (s sub : ByteArray) (m : Int) (w : World) (hs : s.size < 4294967281) (hm : w.cell? ⟨2, 0, none⟩ = some (.int .i64 m)) :
  Calls Tryz.prog 155 #[.string s, .string sub] w fun e w' => e = .returned (.bool (Lib.contains s.data.toList sub.data.toList)) /\ w' = w := Any.strings_Contains Tryz.lays144 s sub m w hs hm
def Tryz.lays146_ren:Go.Shelf.Ren:=⟨fun|146=>91|221=>153|268=>205|138=>206|143=>207|195=>256|197=>257|218=>258|219=>238|260=>290|217=>279|225=>280|224=>281|267=>282|266=>303|314=>304|n=>n,fun|9=>9|31=>63|3=>3|4=>4|0=>0|105=>236|21=>21|5=>5|46=>221|119=>269|139=>272|138=>271|146=>266|51=>255|n=>n,fun|1=>2|3=>4|4=>5|n=>n⟩
theorem Tryz.lays146:Go.Proofs.Lays.n146 Tryz.prog Tryz.lays146_ren:={
 mixed:=by kernel_rfl
 f138:=Tryz.func206.trans (congrArg some (by kernel_rfl))
 f143:=Tryz.func207.trans (congrArg some (by kernel_rfl))
 f146:=Tryz.func91.trans (congrArg some (by kernel_rfl))
 f195:=Tryz.func256.trans (congrArg some (by kernel_rfl))
 f197:=Tryz.func257.trans (congrArg some (by kernel_rfl))
 f217:=Tryz.func279.trans (congrArg some (by kernel_rfl))
 f218:=Tryz.func258.trans (congrArg some (by kernel_rfl))
 f219:=Tryz.func238.trans (congrArg some (by kernel_rfl))
 f221:=Tryz.func153.trans (congrArg some (by kernel_rfl))
 f224:=Tryz.func281.trans (congrArg some (by kernel_rfl))
 f225:=Tryz.func280.trans (congrArg some (by kernel_rfl))
 f260:=Tryz.func290.trans (congrArg some (by kernel_rfl))
 f266:=Tryz.func303.trans (congrArg some (by kernel_rfl))
 f267:=Tryz.func282.trans (congrArg some (by kernel_rfl))
 f268:=Tryz.func205.trans (congrArg some (by kernel_rfl))
 f314:=Tryz.func304.trans (congrArg some (by kernel_rfl))
 t0:=Tryz.underlying0
 a0:=Tryz.isAgg0
 z0:=Tryz.sizeOf0
 v0:=Tryz.zeroValue0
 t3:=Tryz.underlying3
 a3:=Tryz.isAgg3
 z3:=Tryz.sizeOf3
 v3:=Tryz.zeroValue3
 t4:=Tryz.underlying4
 a4:=Tryz.isAgg4
 z4:=Tryz.sizeOf4
 v4:=Tryz.zeroValue4
 t5:=Tryz.underlying5
 a5:=Tryz.isAgg5
 z5:=Tryz.sizeOf5
 v5:=Tryz.zeroValue5
 t9:=Tryz.underlying9
 a9:=Tryz.isAgg9
 z9:=Tryz.sizeOf9
 v9:=Tryz.zeroValue9
 t21:=Tryz.underlying21
 a21:=Tryz.isAgg21
 z21:=Tryz.sizeOf21
 v21:=Tryz.zeroValue21
 t31:=Tryz.underlying63
 a31:=Tryz.isAgg63
 z31:=Tryz.sizeOf63
 v31:=Tryz.zeroValue63
 t46:=Tryz.underlying221
 a46:=Tryz.isAgg221
 z46:=Tryz.sizeOf221
 v46:=Tryz.zeroValue221
 t51:=Tryz.underlying255
 a51:=Tryz.isAgg255
 z51:=Tryz.sizeOf255
 v51:=Tryz.zeroValue255
 t105:=Tryz.underlying236
 a105:=Tryz.isAgg236
 z105:=Tryz.sizeOf236
 v105:=Tryz.zeroValue236
 t119:=Tryz.underlying269
 a119:=Tryz.isAgg269
 z119:=Tryz.sizeOf269
 t138:=Tryz.underlying271
 a138:=Tryz.isAgg271
 z138:=Tryz.sizeOf271
 v138:=Tryz.zeroValue271
 t139:=Tryz.underlying272
 a139:=Tryz.isAgg272
 z139:=Tryz.sizeOf272
 v139:=Tryz.zeroValue272
 t146:=Tryz.underlying266
 a146:=Tryz.isAgg266
 z146:=Tryz.sizeOf266
 v146:=Tryz.zeroValue266
 g1:=by kernel_rfl
 g3:=by kernel_rfl
 g4:=by kernel_rfl}
open Go.RowKit Go.Lib in
theorem Tryz.strings_Split (s sep : ByteArray) (m : Int) (w : World) (hs : s.size < 4294967281) (hm : w.cell? ⟨2, 0, none⟩ = some (.int .i64 m)) (h1 : 1 <= sep.size) :
  Calls Tryz.prog 91 #[.string s, .string sep] w fun e w' =>
   e = .returned (.slice (some ⟨w.heap.size, 0, none⟩) (Lib.countB s sep + 1) (Lib.countB s sep + 1)) /\ w' = w.alloc (.cells ((Lib.splitB sep 0 (Lib.countB s sep) s).map Value.string).toArray 9) := Any.strings_Split Tryz.lays146 (by kernel_rfl) s sep m w hs hm h1
end
end Go.Proofs
namespace Go.Proofs.YtiijheppiboglaaGreatDoor.Ev
section
open Go Go.RowKit
variable {H:Type} {enc:TypeId×Value->H}
theorem OB{a:Assume}{C:Checked}{os:Os}{f:FuncId}{fn:Func}{s:ChangeSpec}{conds:List PathCond}{apart fresh handsOn again:Bool}{X:World->Array Value->Prop}
  (hX:∀(w w':World)(args:Array Value),w.heap=w'.heap->X w args->X w' args)
  (own:ownKnob C.prog.godebug=none) (started:os.Started) (noInit:C.prog.inits.idxOf? f=none) (hfn:C.prog.funcs[f]? =some fn)
  (witness:∃(w:World)(tape:Tape)(i:Input),w.os=os/\(w.forCall tape i).Shaped C.prog/\i.vars=[]/\Input.okWide C.prog (w.forCall tape i) .any w.heap.size f i/\
   ((s.pre enc C.prog fn conds apart (w.forCall tape i).memory i.args/\X (w.forCall tape i).memory i.args)/\sizedMet enc C.prog fn (OpenSpec.ofChange s) apart (w.forCall tape i).memory i.args)/\a.holds C.prog (lone (Frame.enter C.prog f i.args .normal) [] (w.forCall tape i)))
  (contract:∀(W:World)(base:Nat)(args:Array Value)(ds gs:List (DataW H))(before:List MemPlace),
   (∀(j:Nat) t v,fn.params[j]? =some t->args[j]? =some v->Value.okWide C.prog W .any base t v)->
   DataW.Whole enc C.prog fn.params.toList s.vars apart W args.toList ds gs before->
   (DataW.weightsEach C.prog (fn.params.toList++s.plain.varTypes C.prog) (ds++gs)).all (· <=reachBytes)=true->
   W.ShapedOpen C.prog->X W args->
   Calls C.prog f args W fun e W'=>∃v,e=.returned v/\s.post enc C.prog fn apart fresh handsOn again W args v W'):
  ReturnsInHanded a C os f .any (fun w args=>(s.pre enc C.prog fn conds apart w args/\X w args)/\sizedMet enc C.prog fn (OpenSpec.ofChange s) apart w args) (s.post enc C.prog fn apart fresh handsOn again):=by
 refine returnsInHanded_of_calls own started noInit witness ?_
 intro w tape i _ hsh _ hok hpre hholds;obtain⟨_,_,_,fn',hfn',_,_,_,_,hval⟩:=hok;have e:fn'=fn:=zv (hfn'.symm.trans hfn);subst e;obtain⟨⟨⟨ds,gs,before,hw,hc⟩,hx⟩,hz⟩:=hpre;have hw':=DataW.Whole.of_heap (w':=w.forCall tape i) (by rfl) hw;refine(contract (w.forCall tape i) w.heap.size i.args ds gs before hval hw' (hz.weights hw) hsh (hX _ _ _ (by rfl) hx)).mono fun e W' ⟨v,he,hp⟩=> ?_
 subst he;exact ChangeSpec.post_blind hp
def Jof(w:World)(ids:List Nat):KQ:=ids.filterMap fun g=>(w.heap[g]?).map fun o=>(g,o)
theorem A3w{w:World}{ids:List Nat}:∀x∈Jof w ids,w.heap[x.1]? =some x.2:=by
 intro x hx;simp only[Jof,List.mem_filterMap,zb6]at hx;obtain⟨g,_,o,ho,rfl⟩:=hx;exact ho
theorem AF3{w w':World}{ids:List Nat}(h:∀x∈Jof w ids,w'.heap[x.1]? =some x.2){g:Nat}(hg:g∈ids){o:Obj}(ho:w.heap[g]? =some o):w'.heap[g]? =some o:=
 h (g,o) (by simp only[Jof,List.mem_filterMap,zb6];exact⟨g,hg,o,ho,rfl⟩)
theorem AY9{P:Program}{w w':World}{ids:List Nat}(h:∀x∈Jof w ids,w'.heap[x.1]? =some x.2){name:String}{g:Nat}(hn:P.globalNamed name=some g)(hg:g∈ids){cs:Array Value}
  (hv:w.var? P name=some cs):w'.var? P name=some cs:=by
 cases ho:w.heap[g]? with
 |none=>simp[World.var?,hn,ho]at hv
 |some o=>
  have:=AF3 h hg ho;simp only[World.var?,hn,za0,ho]at hv;simp only[World.var?,hn,za0,this];exact hv
theorem A9V{P:Program}{w:World}{ids:List Nat}{name:String}{g:Nat}{k:IntKind}{zs:List Int}(hn:P.globalNamed name=some g)(hg:g∈ids)(h:Lib.TabIs P w name k zs):A8e P (Jof w ids) name k zs:=
 fun _ hw=>AY9 hw hn hg h
theorem A9T{w:World}{ids:List Nat}{g:Nat}(hg:g∈ids)(h:∃m:Int,w.cell? ⟨g,0,none⟩=some (.int .i64 m)):A50 (Jof w ids) g:=by
 intro w' hw;obtain⟨m,hm⟩:=h;cases ho:w.heap[g]? with
 |none=>simp[World.cell?,ho]at hm
 |some o=>
  refine⟨m,?_⟩
  have:=AF3 hw hg ho;simp only[World.cell?,ho,this]at hm⊢
  exact hm
theorem A9p{P:Program}{w:World}{ids:List Nat}{name:String}{g:Nat}(hn:P.globalNamed name=some g)(hg:g∈ids)(h:∃tp p,w.var? P name=some #[.iface tp p]):A5d P (Jof w ids) name:=by
 intro w' hw;obtain⟨tp,p,h⟩:=h;exact⟨tp,p,AY9 hw hn hg h⟩
theorem Jr{P:Program}{w:World}:∀(n:Nat){l:List (String×DataW Unit)},laidMet P l w->laidMet P (l.drop n) w
 |0,_,h=>h
 |n+1,[],h=>h
 |n+1,_::_,h=>Jr n h.tail
end
section
open Go
set_option maxRecDepth 100000
abbrev Tq0:Type:=(((Bool×(List Int))×Bool×(List Int))×(Bool×(List Int))×Bool×(List Int))
abbrev Tq1:Type:=((Bool×(List Int))×Bool×(List Int))
abbrev Tq2:Type:=(Bool×(List Int)×Bool×(List Int))
abbrev Tq3:Type:=(List (Int×Int))
abbrev Tq4:Type:=(Bool×(List Int)×Bool×(List Int)×Bool×(List Int)×Bool×(List Int))
abbrev Tq5:Type:=(Bool×(List Int))
abbrev Tq6:Type:=(Int×Int×Int×Int)
abbrev Tq7:Type:=(Bool×List (Int)×Bool×List (Int))
abbrev Tq8:Type:=(((Bool×List (Int))×Bool×List (Int))×(Bool×List (Int))×Bool×List (Int))
abbrev Tq9:Type:=((List Int)×Int×Int)
abbrev Tq10:Type:=(List (List UInt8))
abbrev Tq11:Type:=(Bool×List (Int)×Bool×List (Int)×Bool×List (Int)×Bool×List (Int))
abbrev Tq12:Type:=(Bool×List (Int))
abbrev Tq13:Type:=(List (Int)×Int×Int)
abbrev Tq14:Type:=((List Int)×(List Int)×(List Int)×Int×Int)
abbrev Tq15:Type:=(Tq10×Int×Bool)
abbrev Tq16:Type:=((List Int)×(List Int)×Int×Int×Int)
abbrev Tq17:Type:=((List Int)×(List Int)×(List Int)×Int×Int×Int×Int×Int×Int×Int⊕(List Int)×(List Int)×(List Int)×Int×Int×Int×Int×Int)
abbrev Tq18:Type:=(Tq10×Int×Int)
abbrev Tq19:Type:=(Tq6×(List Tq1)×(List Tq3)×Int×Int×(List Tq1)×Int×Int⊕(Tq6×(List Tq1)×(List Tq3)×Int×Int⊕(List Tq1)×Bool))
abbrev Tq20:Type:=((List Int)×(List Int)×(List Int)×Int×Int⊕(List Int))
abbrev Tq21:Type:=((List Int)×(List Int)×Int×Int×Int⊕(List Int))
abbrev Tq22:Type:=(Tq12×Bool×List (Int))
abbrev Tq23:Type:=(Tq6×(List Tq1)×(List Tq0)×Int×Int⊕(Tq6×(List Tq1)×(List Tq0)×Int⊕(List Tq1)×Bool))
abbrev Tq24:Type:=(Tq2×Tq2×(List Tq0)×(List Tq0)×Int×Int⊕Tq2×Bool×(List Int)×Bool×(List Int))
abbrev Yq0:Ty:=(.pair (.pair .bool (.sl (.int .i64))) (.pair .bool (.sl (.int .i64))))
abbrev Yq1:Ty:=(.pair (.int .i64) (.int .i64))
abbrev Yq2:Ty:=(.pair (.bool) (.sl (.int .i64)))
def A78:TyD:=⟨1,8,false,[(.v (.int .i64 0))],none,false,(some .i64),[],false⟩
def A84:TyD:=⟨1,1,false,[(.v (.bool false))],none,false,none,[],false⟩
def A82:TyD:=⟨1,1,false,[(.v (.int .u8 0))],none,false,(some .u8),[],false⟩
def A9G:TyD:=⟨1,16,false,[(.v (.string ⟨#[]⟩))],none,true,none,[],false⟩
def A3W:TyD:=⟨1,24,false,[.em],(some 3),false,none,[],false⟩
def A7F:TyD:=⟨2,32,true,[(.v (.bool false)),.em],none,false,none,[⟨0,4,1,false⟩,⟨1,22,1,false⟩],false⟩
def A7M:TyD:=⟨4,64,true,[(.v (.bool false)),.em,(.v (.bool false)),.em],none,false,none,[⟨0,24,2,true⟩,⟨2,24,2,true⟩],false⟩
def A7H:TyD:=⟨1,24,false,[.em],(some 5),false,none,[],false⟩
def A7v:TyD:=⟨1,24,false,[.em],(some 87),false,none,[],false⟩
def A7B:TyD:=⟨2,16,true,[(.v (.int .i64 0)),(.v (.int .i64 0))],none,false,none,[⟨0,3,1,false⟩,⟨1,3,1,false⟩],false⟩
def A7n:TyD:=⟨4,32,true,[(.v (.int .i64 0)),(.v (.int .i64 0)),(.v (.int .i64 0)),(.v (.int .i64 0))],none,false,none,[⟨0,3,1,false⟩,⟨1,3,1,false⟩,⟨2,3,1,false⟩,⟨3,3,1,false⟩],false⟩
def A7s:TyD:=⟨1,24,false,[.em],(some 9),false,none,[],false⟩
def A7w:TyD:=⟨1,24,false,[.em],(some 26),false,none,[],false⟩
def A7C:TyD:=⟨1,24,false,[.em],(some 48),false,none,[],false⟩
def A7x:TyD:=⟨1,24,false,[.em],(some 161),false,none,[],false⟩
def A37:TyD:=⟨5,88,true,[.em,(.v (.int .i64 0)),.em,.em,(.v (.bool false))],none,false,none,[⟨0,63,1,false⟩,⟨1,3,1,false⟩,⟨2,33,1,false⟩,⟨3,87,1,false⟩,⟨4,4,1,false⟩],false⟩
def A3d:TyD:=⟨1,8,false,[(.v (.int .u64 0))],none,false,(some .u64),[],false⟩
def A4x:TyD:=⟨3,40,true,[.em,(.v (.int .i64 0)),(.v (.int .u64 0))],none,false,none,[⟨0,32,1,false⟩,⟨1,3,1,false⟩,⟨2,113,1,false⟩],false⟩
def A5B:TyD:=⟨5,88,true,[.em,(.v (.int .i64 0)),.em,.em,(.v (.int .i64 0))],none,false,none,[⟨0,63,1,false⟩,⟨1,3,1,false⟩,⟨2,33,1,false⟩,⟨3,87,1,false⟩,⟨4,3,1,false⟩],false⟩
def A5P:TyD:=⟨1,16,false,[(.v .nilIface)],none,false,none,[],true⟩
def A3H:TyD:=⟨8,128,true,[(.v (.bool false)),.em,(.v (.bool false)),.em,(.v (.bool false)),.em,(.v (.bool false)),.em],none,false,none,[⟨0,26,4,true⟩,⟨4,26,4,true⟩],false⟩
def A4t:TyD:=⟨1,8,false,[(.v (.int .u64 0))],none,false,(some .u64),[],false⟩
def A5Q:TyD:=⟨1,24,false,[.em],(some 24),false,none,[],false⟩
theorem ty3:AX Tryz.prog 3=some A78:=by kernel_rfl
theorem ty4:AX Tryz.prog 4=some A84:=by kernel_rfl
theorem ty5:AX Tryz.prog 5=some A82:=by kernel_rfl
theorem ty9:AX Tryz.prog 9=some A9G:=by kernel_rfl
theorem A9B:AX Tryz.prog 22=some A3W:=by kernel_rfl
theorem A9N:AX Tryz.prog 24=some A7F:=by kernel_rfl
theorem A9L:AX Tryz.prog 26=some A7M:=by kernel_rfl
theorem A96:AX Tryz.prog 32=some A7H:=by kernel_rfl
theorem A9P:AX Tryz.prog 33=some A7v:=by kernel_rfl
theorem A9K:AX Tryz.prog 48=some A7B:=by kernel_rfl
theorem A95:AX Tryz.prog 58=some A7n:=by kernel_rfl
theorem A9Q:AX Tryz.prog 63=some A7s:=by kernel_rfl
theorem A94:AX Tryz.prog 70=some A7w:=by kernel_rfl
theorem A9Z:AX Tryz.prog 87=some A7C:=by kernel_rfl
theorem A9Y:AX Tryz.prog 95=some A7x:=by kernel_rfl
theorem A9j:AX Tryz.prog 108=some A37:=by kernel_rfl
theorem A9d:AX Tryz.prog 113=some A3d:=by kernel_rfl
theorem A9n:AX Tryz.prog 115=some A4x:=by kernel_rfl
theorem A9E:AX Tryz.prog 120=some A5B:=by kernel_rfl
theorem A86:AX Tryz.prog 125=some A5P:=by kernel_rfl
theorem A9h:AX Tryz.prog 161=some A3H:=by kernel_rfl
theorem A9g:AX Tryz.prog 221=some A4t:=by kernel_rfl
theorem A83:AX Tryz.prog 249=some A5Q:=by kernel_rfl
def Tk:List (Nat×TyD):=[(3,A78),(4,A84),(5,A82),(9,A9G),(22,A3W),(24,A7F),(26,A7M),(32,A7H),(33,A7v),(48,A7B),(58,A7n),(63,A7s),(70,A7w),(87,A7C),(95,A7x),(108,A37),(113,A3d),(115,A4x),(120,A5B),(125,A5P),(161,A3H),(221,A4t),(249,A5Q)]
def Rn:List (Nat×Ty):=[(3,.int .i64),(5,.int .u8),(9,.str),(24,.pair (.bool) (.sl (.int .i64))),(26,.pair Yq2 Yq2),(48,.pair (.int .i64) (.int .i64)),(87,.sl Yq1),(161,.pair (.pair Yq2 Yq2) (.pair Yq2 Yq2))]
theorem A2u:∀t d,getD Tk t=some d->AX Tryz.prog t=some d:=A7Y (by unfold Tk;exact⟨ty3,⟨ty4,⟨ty5,⟨ty9,⟨A9B,⟨A9N,⟨A9L,⟨A96,⟨A9P,⟨A9K,⟨A95,⟨A9Q,⟨A94,⟨A9Z,⟨A9Y,⟨A9j,⟨A9d,⟨A9n,⟨A9E,⟨A86,⟨A9h,⟨A9g,⟨A83,trivial⟩⟩⟩⟩⟩⟩⟩⟩⟩⟩⟩⟩⟩⟩⟩⟩⟩⟩⟩⟩⟩⟩⟩)
theorem A8X:Tryz.prog.underlying 4=some .bool:=by kernel_rfl
theorem T0:∀t,([4]:List Nat).contains t=true->Tryz.prog.underlying t=some .bool:=by
 intro t h;simp at h;rcases h with rfl
 all_goals first|exact A8X
theorem A2r:∀t,([]:List Nat).contains t=true->A87 Tryz.prog t:=by
 intro t h;simp at h
 try exact h.elim
abbrev qC(i:Nat)(c:AC):Item:=.slot i (.cell c)
abbrev qI(i:Nat):Item:=.slot i (.cell (.int .i64))
abbrev qB(i:Nat):Item:=.slot i (.cell .bool)
abbrev qS(i:Nat):Item:=.slot i (.cell .str)
abbrev qA(i:Nat)(l:List AC):Item:=.slot i (.agg l)
abbrev qT(i j:Nat):Item:=.slot i (.ref j true)
abbrev qF(i j:Nat):Item:=.slot i (.ref j false)
abbrev qdd:List AC:=[.int .i64,.int .i64,.int .i64,.int .i64]
abbrev qde:List AC:=[.int .i64,.int .i64]
abbrev qdf:List AC:=[.bool,.im (.int .i64)]
abbrev qdg:List AC:=[.bool,.im (.int .i64),.bool,.im (.int .i64)]
abbrev qdh:List AC:=[.bool,.im (.int .i64),.bool,.im (.int .i64),.bool,.im (.int .i64),.bool,.im (.int .i64)]
abbrev qt:Item:=qC 0 (.im (.pair Yq0 Yq0))
abbrev qa:Item:=.blk (.arr 3 true (.int .i64))
abbrev qx:Item:=.blk (.arr 161 false (.pair Yq0 Yq0))
abbrev qd:Item:=.blk (.arr 87 false (.sl Yq1))
abbrev ql:Item:=.blk (.box 26 qdg)
abbrev qi:Item:=.blk (.arr 48 true Yq1)
abbrev qm:Item:=.blk (.box 115 [.im (.int .u8),.int .i64,.int .u64])
abbrev qaa:Item:=.blk (.arr 26 false Yq0)
abbrev qg:Item:=.blk (.box 24 qdf)
abbrev qu:Item:=.blk (.box 58 qdd)
abbrev qaq:Item:=qA 0 qdh
abbrev qp:Item:=.blk (.box 48 qde)
abbrev qad:Item:=.blk (.box 108 [.im .str,.int .i64,.at 1,.at 2,.bool])
abbrev qn:Item:=qC 1 (.im (.int .i64))
abbrev qar:Item:=.blk (.box 120 [.im .str,.int .i64,.at 1,.at 2,.int .i64])
abbrev qq:Item:=qC 0 (.im (.int .i64))
abbrev qaz:Item:=qC 0 (.im Yq0)
abbrev qbt:Item:=qC 17 (.im (.pair Yq0 Yq0))
abbrev qba:Item:=qA 1 qdh
abbrev qay:Item:=qA 0 qdg
abbrev qa0:Item:=qA 2 qdg
abbrev qa1:Item:=qC 8 (.im (.sl Yq1))
abbrev qal:Item:=.blk (.box 4 [.bool])
abbrev qbu:Item:=qC 1 (.im Yq0)
abbrev qbb:Item:=qA 0 qdd
abbrev qj:Item:=qT 0 0
abbrev qbc:Item:=qC 0 (.im (.sl Yq1))
abbrev qbd:Item:=qC 0 (.im Yq1)
abbrev qo:Item:=qT 2 0
abbrev qbe:Item:=qC 0 (.im (.pair .bool (.sl (.int .i64))))
abbrev qe:Item:=qI 6
abbrev qbv:Item:=.blk (.box 120 [.im .str,.int .i64,.at 2,.at 3,.int .i64])
abbrev qbw:Item:=.blk (.box 108 [.im .str,.int .i64,.at 2,.at 3,.bool])
abbrev qh:Item:=qI 9
abbrev qa2:Item:=qA 0 qde
abbrev qbx:Item:=qA 1 qdg
abbrev qby:Item:=qA 3 qdg
abbrev qbz:Item:=qA 1 qdd
abbrev qv:Item:=qF 10 0
abbrev qb0:Item:=qC 44 (.im (.sl Yq1))
abbrev qb1:Item:=qC 28 (.im (.sl Yq1))
abbrev qb2:Item:=qC 6 (.im (.sl Yq1))
abbrev qa3:Item:=.blk (.arr 9 true .str)
abbrev qb3:Item:=qC 19 (.im Yq1)
abbrev qb4:Item:=qC 14 (.im Yq1)
abbrev qb5:Item:=qC 5 (.im Yq1)
abbrev qb6:Item:=qC 7 (.im Yq1)
abbrev qw:Item:=qT 3 0
abbrev qy:Item:=qF 0 0
abbrev qae:Item:=qF 11 1
abbrev qbf:Item:=qC 20 (.im (.int .i64))
abbrev qaf:Item:=qT 3 1
abbrev qb7:Item:=qA 0 qdf
abbrev qam:Item:=qF 12 2
abbrev qb8:Item:=.slot 9 (.cap 308 [2,0,1])
abbrev qai:Item:=qF 5 0
abbrev qb9:Item:=qA 1 qde
abbrev qbg:Item:=qC 0 (.im .str)
abbrev qas:List Item:=[qm,qj]
abbrev qbh:List Item:=[qm,qI 0]
abbrev qca:List Item:=[qm,qj,qI 1]
abbrev qcb:List Item:=[qm,qi,qj,qF 3 1]
abbrev qcc:List Item:=[qm,qd,qj,qF 3 1,qI 4]
abbrev qb:List Item:=[qB 0]
abbrev qa4:List Item:=[qa2]
abbrev qau:List Item:=[qbd]
abbrev qa5:List Item:=[qbc]
abbrev qf:List Item:=[qI 0]
abbrev qab:List Item:=[qS 0]
abbrev qcd:List Item:=[qS 3,qa1,qh,qI 10]
abbrev qbi:List Item:=[qm,qS 0]
abbrev qbj:List Item:=[qm,qj,qS 5]
abbrev qbk:List Item:=[qC 0 (.im (.int .u8))]
abbrev qan:List Item:=[qS 0,qbz]
abbrev qce:List Item:=[qa3,qy]
abbrev qa6:List Item:=[qI 0,qB 1]
abbrev qcf:List Item:=[qad,qd,qi,qj]
abbrev qcg:List Item:=[qad,qd,qi,qT 6 0]
abbrev qch:List Item:=[qbb]
abbrev qk:List Item:=[qb7]
abbrev qc:List Item:=[qay]
abbrev qav:List Item:=[qx,qy]
abbrev qci:List Item:=[qx,qF 3 0]
abbrev qcj:List Item:=[qq,.slot 1 (.clo 293)]
abbrev qck:List Item:=[qbe,.slot 1 (.clo 278)]
abbrev qz:List Item:=[qq,qn]
abbrev qcl:List Item:=[qq,qn,qI 5]
abbrev qaj:List Item:=[qq]
abbrev qcm:List Item:=[qq,qI 3]
abbrev qaw:List Item:=[qq,qI 1]
abbrev qcn:List Item:=[qa,qq,qI 1,qF 6 0,qI 7,qI 8]
abbrev qco:List Item:=[qa,qF 6 0,qI 7]
abbrev qag:List Item:=[qa,qy]
abbrev qcp:List Item:=[qB 0,qn]
abbrev qbl:List Item:=[qa,qA 0 [.bool,.at 0]]
abbrev qr:List Item:=[qb7,qA 1 qdf]
abbrev qcq:List Item:=[qa,qa,qa,qe,qh,qv,qae,qam,qI 13,qI 15,qI 16]
abbrev qbm:List Item:=[qaz]
abbrev qak:List Item:=[qaq]
abbrev qcr:List Item:=[qt,.slot 1 (.clo 224)]
abbrev qah:List Item:=[qt]
abbrev qac:List Item:=[qay,qbx]
abbrev qbn:List Item:=[qaq,qB 1]
abbrev qax:List Item:=[qa,qq,qn,qai,qe,qI 7]
abbrev qat:List Item:=[qa,qai]
abbrev qcs:List Item:=[qaq,qba,qa0]
abbrev qa7:List Item:=[qt,qba,qA 2 qdh]
abbrev qbo:List Item:=[qx,qy,qB 1]
abbrev qct:List Item:=[ql,ql,qt,qo,qaf,qC 8 (.im (.pair Yq0 Yq0)),qh,qI 10]
abbrev qcu:List Item:=[ql,ql,qo,qaf]
abbrev qao:List Item:=[qay,qB 1]
abbrev qcv:List Item:=[qt,qI 1,qI 2]
abbrev qcw:List Item:=[qt,qbz]
abbrev qa8:List Item:=[qaz,qB 1]
abbrev qa9:List Item:=[qu,qaa,qt,qw,qF 6 1,qI 7]
abbrev qcx:List Item:=[qu,qaa,qt,qw,qF 6 1,qI 7,qI 8]
abbrev qcy:List Item:=[qaa,qF 6 0]
abbrev qap:List Item:=[qC 4 (.im Yq0),qB 5]
abbrev qcz:List Item:=[qu,qaa,qw,qF 10 1,qb0,qI 45,qI 46]
abbrev qc0:List Item:=[qaa,qv]
abbrev qbp:List Item:=[qa,qy,qB 1]
abbrev qc1:List Item:=[qar,qd,qi,qj]
abbrev qc2:List Item:=[qar,qd,qi]
abbrev qbq:List Item:=[qar,qd,qi,qT 6 0]
abbrev qc3:List Item:=[qx,qF 4 0]
abbrev qc4:List Item:=[qa,qa,qy,qF 1 1]
abbrev qc5:List Item:=[qq,qn,qI 2,qI 7,qh,qI 10]
abbrev qc6:List Item:=[qa]
abbrev qc7:List Item:=[qa,qy,qn,qe]
abbrev qc8:List Item:=[qa,qn,qai,qC 18 (.im (.int .i64)),qI 19,qI 20]
abbrev qc9:List Item:=[qa,qn,qai,qe,qI 7,qI 8,qh,qC 18 (.im (.int .i64)),qI 19,qI 20]
abbrev qbr:List Item:=[qt,qB 1]
abbrev qda:List Item:=[qu,qaa,qd,qw,qF 10 1,qF 49 2,qI 50,qI 51]
abbrev qdb:List Item:=[qu,qw,qb1,qI 29,qI 30]
abbrev qbs:List Item:=[qp,qp,qp,qp,qp,qo,qaf,qT 4 2,qT 5 3,qT 7 4,qb4,qI 15,qI 16]
abbrev qdc:List Item:=[qq,.slot 1 (.clo 181)]
def O2:FAnn:=⟨209,1,qas,qbh,[],[],[(4,[qm,qj,qI 3])]⟩
def O8:FAnn:=⟨159,1,qca,qbh,[],[],[]⟩
def QH:FAnn:=⟨158,1,qca,[qm,qB 0],[],[],[]⟩
def N6:FAnn:=⟨97,1,[qm,qj,qn],qbh,[],[],[]⟩
def MD:FAnn:=⟨173,1,qas,[qm,qbb],[],[],[]⟩
def SR:FAnn:=⟨103,1,qas,[qm,qa2],[],[],[]⟩
def QL:FAnn:=⟨199,1,qas,[qm,qi,qF 0 1],[(8,[qm,qi,qj,qF 3 1,qI 4]),(12,qcb)],[(8,[(.exit 1,qcb)]),(12,[(.exit 3,[qm,qi,qF 3 1])])],[]⟩
def OH:FAnn:=⟨145,1,qas,[qm,qd,qF 0 1],[(5,qcc)],[(5,[(.exit 0,[qm,qd,qF 3 1])])],[(5,qcc)]⟩
def AA9:FAnn:=⟨90,0,[qI 0,qI 1,qI 2],qb,[],[],[]⟩
def ZD:FAnn:=⟨166,0,qa4,qb,[],[],[]⟩
def Ad7:FAnn:=⟨152,0,qau,qb,[(2,[qb5,qe,qI 7])],[(2,[(.exit 0,[]),(.ret,[qB 2])])],[]⟩
def Aj4:FAnn:=⟨89,0,qau,qb,[],[],[]⟩
def TC:FAnn:=⟨21,0,qa5,qb,[(2,[qbc,qC 5 (.im (.sl Yq1)),qe,qI 7])],[(2,[(.exit 0,qa5),(.ret,[qB 2])])],[]⟩
def Qx:FAnn:=⟨163,0,qf,qab,[],[],[]⟩
def Y5:FAnn:=⟨99,0,qf,qab,[],[],[]⟩
def Tx:FAnn:=⟨84,0,qa5,qab,[(3,qcd),(8,[qS 3,qa1,qh,qI 10,qb3,qI 20,qI 21])],[(3,[(.exit 0,[qS 3])]),(8,[(.exit 2,qcd)])],[(7,[qS 3,qb5,qa1,qh,qI 10]),(13,[qp,qS 3,qT 7 0,qa1,qh,qI 10,qb3,qI 20,qI 21])]⟩
def QO:FAnn:=⟨19,0,qa5,[qS 0,qB 1],[],[],[]⟩
def SM:FAnn:=⟨100,1,[qm,qj,qC 1 (.im .str)],qbi,[],[],[]⟩
def L0:FAnn:=⟨160,1,[qm,qj,qS 1,qS 2],qbi,[(2,[qm,qj,qS 1,qS 2,qI 7])],[(2,[(.exit 0,[qm,qS 1])])],[]⟩
def OY:FAnn:=⟨94,1,qas,qbi,[(7,[qm,qj,qS 5,qe])],[(7,[(.exit 0,qbj)])],[(5,qas),(13,qbj),(15,qbj)]⟩
def Ln:FAnn:=⟨115,0,qbk,qan,[],[],[]⟩
def Kt:FAnn:=⟨49,0,qbk,qan,[],[],[]⟩
def Y8:FAnn:=⟨85,0,[qI 0,qI 1,qI 2],qb,[],[],[]⟩
def N5:FAnn:=⟨91,0,[qS 0,qS 1],qce,[],[],[]⟩
def Em:FAnn:=⟨259,0,[qbg,qS 1],qf,[(2,[qbg,qS 1,qI 7,qI 8])],[(2,[(.exit 0,[]),(.ret,[qI 4])])],[]⟩
def DD:FAnn:=⟨208,0,[qbg,qS 1],qb,[],[],[]⟩
def OW:FAnn:=⟨154,1,[qad,qd,qi,qj,qS 1],[qad,qd,qi,qI 0],[],[],[]⟩
def KA:FAnn:=⟨155,0,[qS 0,qS 1],qb,[],[],[]⟩
def PA:FAnn:=⟨101,0,qab,[qI 0,qC 1 (.err)],[],[],[]⟩
def Sy:FAnn:=⟨98,0,qf,qb,[],[],[]⟩
def OJ:FAnn:=⟨82,0,qf,qab,[],[],[]⟩
def Pa:FAnn:=⟨30,0,qab,qa6,[],[],[]⟩
def Od:FAnn:=⟨156,1,qcf,[qad,qd,qi,qI 0,qB 1],[],[],[]⟩
def QN:FAnn:=⟨157,1,[qad,qd,qi,qj,qS 1,qC 2 (.im (.int .i64))],[qad,qd,qi,qa2],[],[],[(4,[.blk (.box 108 [.im .str,.int .i64,.at 3,.at 4,.bool]),qp,qp,qd,qi,qS 1,qC 2 (.im (.int .i64)),qT 6 1,qT 7 2])]⟩
def XH:FAnn:=⟨104,0,qa4,qb,[],[],[]⟩
def Mq:FAnn:=⟨92,1,qcf,[qad,qd,qi,qI 0,qI 1],[(14,[qbw,qa,qd,qi,qj,qS 4,qF 7 1,qI 62,qI 63])],[(14,[(.exit 0,[qbw,qa,qd,qi,qj,qS 4,qF 7 1]),(.ret,[qad,qd,qi,qI 2,qI 3])])],[(12,[qad,qd,qi,qj,qS 4,qe])]⟩
def QT:FAnn:=⟨22,0,qab,[qbc,qI 1,qI 2,qB 3],[(4,qcg)],[(4,[(.exit 0,qcg),(.ret,[qC 2 (.im (.sl Yq1)),qI 3,qI 4,qB 5])])],[]⟩
def OG:FAnn:=⟨58,0,qch,qb,[],[],[]⟩
def Aj7:FAnn:=⟨137,0,qf,qk,[(6,[qg,qa,qo,qB 3,qC 4 (.int .u64),qF 5 1])],[(6,[(.exit 0,[qg,qa,qo,qB 3,qF 5 1])])],[(5,[qg,qo,qB 3,qC 4 (.int .u64)])]⟩
def Am9:FAnn:=⟨73,0,qf,qc,[],[],[]⟩
def YB:FAnn:=⟨76,0,qau,qav,[(3,[qx,qF 3 0,qb6,qI 8,qh])],[(3,[(.exit 0,qci)])],[]⟩
def QJ:FAnn:=⟨293,0,qf,qb,[],[],[]⟩
def C3:FAnn:=⟨233,0,qcj,qf,[(2,[qq,.slot 1 (.clo 293),qI 7,qI 8])],[(2,[(.exit 0,[]),(.ret,[qI 4])])],[]⟩
def CE:FAnn:=⟨180,0,qcj,qb,[],[],[]⟩
def VC:FAnn:=⟨265,0,qk,qb,[],[],[]⟩
def TE:FAnn:=⟨278,0,qk,qb,[],[],[]⟩
def DZ:FAnn:=⟨302,0,qck,qf,[(2,[qbe,.slot 1 (.clo 278),qI 7,qI 8])],[(2,[(.exit 0,[]),(.ret,[qI 4])])],[]⟩
def Ds:FAnn:=⟨277,0,qck,qb,[],[],[]⟩
def YV:FAnn:=⟨234,0,[qbe],qb,[],[],[]⟩
def Sp:FAnn:=⟨235,0,qk,qf,[],[],[]⟩
def Oa:FAnn:=⟨284,0,qf,qb,[],[],[]⟩
def Lu:FAnn:=⟨248,0,[qI 0,qI 1],qf,[],[],[]⟩
def L1:FAnn:=⟨195,0,qz,qf,[(4,qcl)],[(4,[(.exit 0,[]),(.ret,[qI 4])])],[]⟩
def A0k:FAnn:=⟨247,0,qaj,qaj,[(2,qcm)],[(2,[(.exit 0,qcm)])],[]⟩
def Sf:FAnn:=⟨283,0,qaw,qaw,[(4,qcn)],[(4,[(.exit 0,qco)])],[]⟩
def B7:FAnn:=⟨246,0,qaj,qag,[],[],[]⟩
def Am7:FAnn:=⟨193,0,qcp,qbl,[],[],[]⟩
def Wn:FAnn:=⟨139,0,qr,qbl,[(3,[qg,qg,qg,qa,qo,qaf,qT 4 2,qF 5 3,qbf,qI 21,qI 22]),(7,[qg,qg,qg,qa,qo,qaf,qT 4 2,qF 5 3,qe,qI 7,qI 8,qbf,qI 21,qI 22,qC 28 (.im (.int .i64)),qI 29,qI 30])],[(3,[(.exit 0,[qg,qg,qg,qa,qo,qaf,qT 4 2,qF 5 3])]),(7,[(.exit 2,[qg,qg,qg,qa,qo,qaf,qT 4 2,qF 5 3,qe,qI 8,qbf,qI 21,qI 22])])],[]⟩
def S1:FAnn:=⟨245,0,qz,qz,[(10,[qa,qa,qq,qe,qh,qv,qae]),(14,[qa,qa,qa,qe,qh,qv,qae,qam,qI 13]),(18,qcq),(23,[qa,qa,qa,qe,qh,qv,qae,qam,qI 13,qI 15,qI 17,qI 153,qI 154]),(37,[qa,qa,qa,qe,qh,qv,qae,qam,qI 13,qI 15,qI 20,qI 208,qI 209])],[(10,[(.exit 0,[qa,qa,qe,qh,qv,qae])]),(14,[(.exit 2,[qa,qa,qe,qh,qv,qF 12 1])]),(18,[(.exit 4,[qa,qa,qa,qe,qh,qv,qae,qam,qI 13,qI 15])]),(23,[(.exit 6,[qa,qa,qa,qe,qh,qv,qae,qam,qI 13,qI 15,qI 17])]),(37,[(.exit 8,[qa,qa,qa,qe,qh,qv,qae,qam,qI 13,qI 15,qI 20])])],[(19,qcq),(30,[qa,qa,qa,qe,qh,qv,qae,qam,qI 13,qI 15,qI 17,qI 18,qI 19,qI 153,qI 154])]⟩
def U0:FAnn:=⟨190,0,qr,qk,[(2,[qg,qT 4 0,qC 5 (.im (.int .i64)),qC 6 (.im (.int .i64))])],[(2,[(.exit 0,[qg,qT 4 0,qC 5 (.im (.int .i64))])])],[]⟩
def Pj:FAnn:=⟨236,0,qr,qf,[],[],[]⟩
def U4:FAnn:=⟨182,0,qc,qb,[],[],[]⟩
def VP:FAnn:=⟨124,0,qbm,qb,[(2,[qC 5 (.im Yq0),qe,qI 7])],[(2,[(.exit 0,[]),(.ret,[qB 2])])],[]⟩
def N7:FAnn:=⟨144,0,[qay,qI 1],qb,[],[],[]⟩
def Ak9:FAnn:=⟨225,0,[qaq,qI 1],qb,[],[],[]⟩
def Pv:FAnn:=⟨224,0,qak,qb,[],[],[]⟩
def D0:FAnn:=⟨267,0,qcr,qf,[(2,[qt,.slot 1 (.clo 224),qI 7,qI 8])],[(2,[(.exit 0,[]),(.ret,[qI 4])])],[]⟩
def Dq:FAnn:=⟨223,0,qcr,qb,[],[],[]⟩
def SL:FAnn:=⟨174,0,qah,qb,[],[],[]⟩
def Oo:FAnn:=⟨264,0,qac,qf,[],[],[]⟩
def Tr:FAnn:=⟨220,0,qac,qb,[],[],[]⟩
def KK:FAnn:=⟨309,0,qbn,qc,[],[],[]⟩
def XQ:FAnn:=⟨308,3,[qal,qal,ql,qaq,qT 1 0,qT 2 1,qT 3 2],[qal,qal,ql,qB 0],[],[],[]⟩
def U2:FAnn:=⟨191,0,qk,qk,[],[],[]⟩
def VQ:FAnn:=⟨197,0,qc,qc,[],[],[]⟩
def Tf:FAnn:=⟨194,0,qz,qag,[(4,qax)],[(4,[(.exit 0,qat)])],[(6,qax),(8,qax),(10,qax)]⟩
def Sw:FAnn:=⟨196,0,qz,qaj,[(4,[qa,qn,qai,qe,qI 11,qI 12])],[(4,[(.exit 0,qat)])],[(9,[qa,qn,qai,qI 7,qI 11,qI 12])]⟩
def VH:FAnn:=⟨140,0,qr,qk,[],[],[]⟩
def Wi:FAnn:=⟨192,0,qr,qr,[],[],[]⟩
def Ab9:FAnn:=⟨138,0,qr,qc,[],[],[(4,[qg,qg,ql,qg,qo,qaf,qT 4 2,qT 5 3])]⟩
def Wl:FAnn:=⟨74,0,qac,qc,[],[],[]⟩
def UZ:FAnn:=⟨142,0,qac,qc,[],[],[]⟩
def VA:FAnn:=⟨198,0,qac,qc,[],[],[]⟩
def V7:FAnn:=⟨141,0,qac,qc,[],[],[]⟩
def AZ1:FAnn:=⟨310,0,qcs,qak,[],[],[]⟩
def AG0:FAnn:=⟨296,0,[qt,qB 1,qB 2,qby],qav,[(4,[qal,ql,qal,qx,qt,qT 5 0,qT 7 1,qb8,qF 10 3,qbt,qI 18,qI 19])],[(4,[(.exit 0,[qx,qv])])],[(10,[qal,ql,qal,qx,.blk (.box 161 qdh),qt,qT 5 0,qT 7 1,qb8,qF 10 3,qT 12 4,qbt,qI 18,qI 19])]⟩
def Ve:FAnn:=⟨269,0,qa7,qav,[],[],[]⟩
def X5:FAnn:=⟨315,0,qc,qc,[],[],[]⟩
def Xo:FAnn:=⟨307,0,qak,qak,[],[],[]⟩
def Vc:FAnn:=⟨295,0,qah,qav,[(3,[qx,qF 3 0,qC 7 (.im (.pair Yq0 Yq0)),qI 8,qh])],[(3,[(.exit 0,qci)])],[]⟩
def Og:FAnn:=⟨268,0,qah,qbo,[],[],[]⟩
def Wg:FAnn:=⟨226,0,qa7,qbo,[],[],[]⟩
def Se:FAnn:=⟨143,0,qc,qc,[],[],[]⟩
def Tl:FAnn:=⟨75,0,qah,qc,[(3,qct)],[(3,[(.exit 0,qcu)])],[]⟩
def O4:FAnn:=⟨77,0,qc,qao,[],[],[]⟩
def Sd:FAnn:=⟨227,0,qah,qao,[],[],[]⟩
def U9:FAnn:=⟨175,0,qcv,qao,[],[],[]⟩
def S9:FAnn:=⟨116,0,qcw,qa8,[(5,qa9),(8,qcx)],[(5,[(.exit 0,qcy),(.ret,qap)]),(8,[(.exit 2,qa9),(.ret,qap)])],[]⟩
def QP:FAnn:=⟨50,0,qan,qa8,[(6,[qu,qaa,qw,qb2,qF 10 1,qI 36,qI 37]),(10,qcz),(16,[qu,qaa,qw,qF 10 1,qb0,qI 45,qI 46,qC 59 (.im Yq0),qI 60,qI 61])],[(6,[(.exit 0,[qu,qaa,qw,qb2,qF 10 1])]),(10,[(.exit 2,qc0),(.ret,qap)]),(16,[(.exit 4,qcz),(.ret,qap)])],[]⟩
def Wh:FAnn:=⟨263,0,qk,qk,[],[],[]⟩
def V0:FAnn:=⟨219,0,qc,qc,[],[],[]⟩
def V4:FAnn:=⟨294,0,qr,qk,[],[],[]⟩
def Mu:FAnn:=⟨266,0,qr,qk,[],[],[]⟩
def QI:FAnn:=⟨222,0,qc,qk,[],[],[]⟩
def Ad3:FAnn:=⟨221,0,qk,qa6,[(5,[qg,qT 1 0,qI 4,qI 5])],[(5,[(.exit 0,[qg,qT 1 0,qI 4])])],[]⟩
def Xf:FAnn:=⟨172,0,qc,qf,[],[],[(4,[ql,qT 1 0])]⟩
def VW:FAnn:=⟨109,0,qbm,qag,[(3,[qa,qF 3 0,qC 7 (.im Yq0),qI 8,qh])],[(3,[(.exit 0,[qa,qF 3 0])])],[]⟩
def Ps:FAnn:=⟨40,0,qan,qbp,[],[],[]⟩
def Tt:FAnn:=⟨95,0,qab,qce,[(4,[qa3,qS 0,qF 3 0,qI 4,qI 5])],[(4,[(.exit 0,[qa3,qS 0,qF 3 0,qI 4])])],[]⟩
def XC:FAnn:=⟨102,0,[qS 0,qI 1],[qI 0,qI 1],[(3,[qS 0,qI 1,qe,qI 7])],[(3,[(.exit 0,[qS 0,qI 1,qe,qI 7])])],[]⟩
def Ox:FAnn:=⟨31,0,qab,qa6,[],[],[(2,[qS 0,qB 4]),(5,[qB 4,qS 5]),(8,[qB 4,qe])]⟩
def Oc:FAnn:=⟨161,1,qc1,[qar,qd,qi,qI 0],[],[],[]⟩
def OP:FAnn:=⟨162,1,[qar,qd,qi,qj,qb9],qc2,[],[],[]⟩
def Mw:FAnn:=⟨96,1,qc1,qc2,[(4,[qbv,qa3,qd,qi,qj,qS 2,qB 3,qB 4,qF 28 1,qI 29,qI 30])],[(4,[(.exit 0,[qar,qd,qi,qj,qS 2,qB 3,qB 4])])],[(16,[qar,qd,qi,qj,qS 2,qB 3]),(21,[qbv,qp,qd,qi,qj,qS 2,qT 7 1])]⟩
def QR:FAnn:=⟨25,0,qab,[qd,qy,qI 1,qI 2,qB 3],[(4,qbq)],[(4,[(.exit 0,qbq)])],[(8,qbq)]⟩
def PC:FAnn:=⟨117,0,qch,qb,[],[],[]⟩
def Af3:FAnn:=⟨188,0,qaj,qag,[(1,qaj)],[(1,[(.exit 0,qaj)])],[]⟩
def X2:FAnn:=⟨133,0,qcp,qbl,[],[],[]⟩
def An1:FAnn:=⟨72,0,qf,qk,[(3,[qg,qa,qI 0,qo,qF 3 1,qI 4])],[(3,[(.exit 0,[qg,qa,qI 0,qo,qF 3 1])])],[]⟩
def Ad6:FAnn:=⟨118,0,qf,qc,[],[],[]⟩
def Ah9:FAnn:=⟨176,0,qa4,qak,[],[],[]⟩
def X0:FAnn:=⟨119,0,qau,qbo,[(5,[qx,qF 4 0,qC 10 (.im Yq1),qI 11,qI 12])],[(5,[(.exit 0,qc3)])],[]⟩
def Vy:FAnn:=⟨216,0,qk,qb,[(2,[qg,qT 1 0,qC 7 (.im (.int .i64)),qI 8,qh])],[(2,[(.exit 0,[qg,qT 1 0]),(.ret,[qB 2])])],[]⟩
def Ag0:FAnn:=⟨217,0,qz,qf,[(6,qcl)],[(6,[(.exit 0,[]),(.ret,[qI 4])])],[]⟩
def Vk:FAnn:=⟨239,0,qaw,qc4,[(4,qcn)],[(4,[(.exit 0,qco)])],[]⟩
def AF9:FAnn:=⟨240,0,qaw,qag,[(3,[qa,qI 1,qai,qC 13 (.im (.int .i64)),qI 14,qI 15])],[(3,[(.exit 0,qat)])],[]⟩
def Wo:FAnn:=⟨241,0,[qq,qn,qI 2],qf,[(5,qc5)],[(5,[(.exit 0,[qh])])],[(6,qc5)]⟩
def YI:FAnn:=⟨276,0,qaw,qf,[],[],[]⟩
def X4:FAnn:=⟨242,1,[qa,qy,qn,qI 2,qI 3],[qa,qI 0],[(3,[qa,qy,qn,qI 2,qI 3,qh,qI 10])],[(3,[(.exit 0,[qa,qh])])],[(10,[qa,qy,qn,qI 2,qI 3,qh,qI 10,qI 11])]⟩
def Xd:FAnn:=⟨243,1,[qa,qy,qn,qI 2],qc6,[(2,[qa,qy,qn,qI 2,qe,qI 7])],[(2,[(.exit 0,qc6)])],[]⟩
def Zs:FAnn:=⟨244,0,qaw,qag,[(3,[qa,qq,qI 1,qai,qI 11,qI 12])],[(3,[(.exit 0,qat)])],[]⟩
def Ok:FAnn:=⟨189,0,qz,qc4,[(7,qc7),(13,[qa,qa,qa,qe,qF 7 0,qF 8 1,qF 9 2,qI 10])],[(7,[(.exit 0,qc7)]),(13,[(.exit 2,[qa,qa,qe,qF 7 0,qF 9 1])])],[]⟩
def Ah0:FAnn:=⟨134,0,qz,qag,[(1,qz)],[(1,[(.exit 0,qaj)])],[]⟩
def Wd:FAnn:=⟨311,0,qc,qb,[],[],[]⟩
def Vp:FAnn:=⟨297,0,qc,qb,[],[],[]⟩
def Sr:FAnn:=⟨270,0,qah,qb,[(2,[qt,qC 5 (.im (.pair Yq0 Yq0)),qe,qI 7])],[(2,[(.exit 0,qah),(.ret,[qB 2])])],[]⟩
def SJ:FAnn:=⟨298,0,qc,qb,[],[],[]⟩
def Ah5:FAnn:=⟨271,0,qak,qb,[],[],[]⟩
def PL:FAnn:=⟨232,0,qz,qag,[(3,qc8),(7,qc9)],[(3,[(.exit 0,qat)]),(7,[(.exit 2,qc8)])],[(9,qc9)]⟩
def Ak2:FAnn:=⟨179,0,qr,qk,[],[],[]⟩
def R3:FAnn:=⟨215,0,qr,qf,[],[],[]⟩
def An6:FAnn:=⟨168,0,qac,qf,[],[],[]⟩
def Ti:FAnn:=⟨316,0,qbn,qc,[],[],[]⟩
def VD:FAnn:=⟨313,0,[qaq,qB 1,qa0,qB 3],qf,[],[],[]⟩
def An2:FAnn:=⟨136,0,qk,qk,[],[],[]⟩
def Ag3:FAnn:=⟨301,0,qc,qc,[],[],[]⟩
def Pl:FAnn:=⟨230,0,qz,qag,[(4,qax)],[(4,[(.exit 0,qat)])],[(6,qax)]⟩
def Pm:FAnn:=⟨231,0,qz,qag,[(4,[qa,qq,qn,qai,qe,qI 10,qI 11])],[(4,[(.exit 0,qat)])],[]⟩
def Al1:FAnn:=⟨178,0,qr,qk,[],[],[]⟩
def An4:FAnn:=⟨135,0,qr,qr,[],[],[]⟩
def XT:FAnn:=⟨71,0,qr,qc,[],[],[]⟩
def Af5:FAnn:=⟨121,0,qac,qc,[],[],[]⟩
def An3:FAnn:=⟨274,0,qac,qc,[],[],[]⟩
def Af0:FAnn:=⟨275,0,qac,qc,[],[],[]⟩
def Ak3:FAnn:=⟨171,0,qac,qc,[],[],[]⟩
def V6:FAnn:=⟨318,0,[qay,qbx,qa0],qc,[],[],[]⟩
def X8:FAnn:=⟨317,0,qcs,qak,[],[],[]⟩
def Xv:FAnn:=⟨314,0,[qaq,qba,qB 2,qby],qak,[],[],[]⟩
def Vb:FAnn:=⟨300,0,[qt,qB 1,qa0,qB 3],qav,[(3,[ql,qx,qt,qB 1,qB 3,qT 6 0,qF 9 1,qC 15 (.im (.pair Yq0 Yq0)),qI 16,qI 17])],[(3,[(.exit 0,[qx,qF 9 0])])],[]⟩
def Yu:FAnn:=⟨273,0,qa7,qav,[],[],[]⟩
def Zt:FAnn:=⟨70,0,qc,qao,[],[],[]⟩
def Wf:FAnn:=⟨312,0,qak,qbn,[],[],[]⟩
def Xb:FAnn:=⟨299,0,qah,qbr,[(3,[qx,qF 4 0,qC 9 (.im (.pair Yq0 Yq0)),qI 10,qI 11])],[(3,[(.exit 0,qc3),(.ret,[qC 2 (.im (.pair Yq0 Yq0)),qB 3])])],[]⟩
def VI:FAnn:=⟨272,0,qah,qbr,[],[],[]⟩
def UY:FAnn:=⟨228,0,qa7,qbr,[],[],[]⟩
def Wa:FAnn:=⟨229,0,qah,qc,[(3,qct)],[(3,[(.exit 0,qcu)])],[]⟩
def Tc:FAnn:=⟨177,0,qcv,qao,[],[],[]⟩
def SG:FAnn:=⟨120,0,qcw,qa8,[(5,qa9),(8,qcx)],[(5,[(.exit 0,qcy),(.ret,qap)]),(8,[(.exit 2,qa9),(.ret,qap)])],[]⟩
def QQ:FAnn:=⟨51,0,qan,qa8,[(6,[qu,qd,qaa,qw,qF 6 1,qF 10 2,qI 11]),(10,qda),(17,[qu,qaa,qd,qw,qF 10 1,qF 49 2,qI 50,qI 51,qC 68 (.im Yq0),qI 69,qI 70])],[(6,[(.exit 0,[qu,qd,qaa,qw,qF 6 1,qF 10 2])]),(10,[(.exit 2,qc0),(.ret,qap)]),(17,[(.exit 4,qda),(.ret,qap)])],[]⟩
def Aj5:FAnn:=⟨167,0,qc,qc,[],[],[]⟩
def An8:FAnn:=⟨218,0,qr,qk,[],[],[]⟩
def Vs:FAnn:=⟨170,0,qc,qk,[],[],[]⟩
def Ai7:FAnn:=⟨169,0,qk,qa6,[(8,[qg,qT 1 0,qI 5,qe])],[(8,[(.exit 0,[qg,qT 1 0,qI 5])])],[]⟩
def V5:FAnn:=⟨108,0,qc,qf,[],[],[]⟩
def OU:FAnn:=⟨38,0,qan,qbp,[(6,[qa,qF 8 0,qC 19 (.im Yq0),qI 20,qI 21])],[(6,[(.exit 0,[qa,qF 8 0])])],[]⟩
def OO:FAnn:=⟨52,0,qan,[qB 0,qB 1],[(5,qdb),(8,[qu,qw,qb1,qI 29,qI 30,qC 34 (.im Yq1),qI 35,qI 36])],[(5,[(.exit 0,[]),(.ret,[qB 4,qB 5])]),(8,[(.exit 2,qdb),(.ret,[qB 4,qB 5])])],[]⟩
def Ah6:FAnn:=⟨122,0,qau,[qa2,qb9],[(4,[qp,qp,qp,qp,qo,qaf,qT 4 2,qT 5 3,qb4,qI 15,qI 16])],[(4,[(.exit 0,[qp,qp,qp,qp,qo,qaf,qT 4 2,qT 5 3])])],[(8,qbs),(10,qbs),(12,qbs)]⟩
def OI:FAnn:=⟨53,0,qan,[qB 0,qB 1],[(5,[qu,qd,qw,qF 28 1,qI 29,qI 30])],[(5,[(.exit 0,[]),(.ret,[qB 4,qB 5])])],[]⟩
def Af7:FAnn:=⟨13,0,qab,qao,[(6,[ql,ql,qo,qT 8 1,qC 22 (.im (.sl Yq1)),qI 23,qI 24])],[(6,[(.exit 0,[ql,ql,qo,qT 8 1])])],[]⟩
def Yl:FAnn:=⟨132,0,[qbd,qI 1],qa4,[],[],[]⟩
def Xw:FAnn:=⟨69,0,qau,qf,[(3,[qbd,qI 3,qb6,qI 8,qh])],[(3,[(.exit 0,[qI 3])])],[]⟩
def Ac5:FAnn:=⟨12,0,qab,qao,[(6,[ql,qd,qo,qI 8,qF 21 1,qI 22,qI 23])],[(6,[(.exit 0,[ql,qo,qI 8])])],[]⟩
def Sg:FAnn:=⟨54,0,qz,qb,[(4,[qq,qn,qI 12,qI 13])],[(4,[(.exit 0,[]),(.ret,[qB 4])])],[]⟩
def V3:FAnn:=⟨107,0,qr,qb,[],[],[]⟩
def VN:FAnn:=⟨37,0,qac,qb,[],[],[]⟩
def R4:FAnn:=⟨55,0,[qaz,qbu],qb,[(4,[qaz,qbu,qI 12,qI 13])],[(4,[(.exit 0,[]),(.ret,[qB 4])])],[]⟩
def R5:FAnn:=⟨56,0,qbk,qf,[(3,[qI 3,qC 6 (.im (.int .u8)),qI 7,qI 8])],[(3,[(.exit 0,[qI 3])])],[]⟩
def Ol:FAnn:=⟨181,0,qf,qb,[],[],[]⟩
def CQ:FAnn:=⟨233,0,qdc,qf,[(2,[qq,.slot 1 (.clo 181),qI 7,qI 8])],[(2,[(.exit 0,[]),(.ret,[qI 4])])],[]⟩
def Ca:FAnn:=⟨180,0,qdc,qb,[],[],[]⟩
def Su:FAnn:=⟨123,0,qaj,qb,[],[],[]⟩
def Zy:FAnn:=⟨57,0,[qbb,qn,qA 2 qdd],qbp,[(8,[qu,qu,qa,qn,qw,qT 5 1,qI 8,qh,qF 10 2,qI 72,qI 73])],[(8,[(.exit 0,[qa,qv])])],[]⟩
def Ae6:FAnn:=⟨59,0,qbm,qao,[(5,[ql,ql,qo,qT 4 1,qC 17 (.im Yq0),qI 18,qI 19])],[(5,[(.exit 0,[ql,ql,qo,qT 4 1])])],[]⟩
def Kd:FAnn:=⟨8,0,[qC 0 (.im (.int .u8)),qC 1 (.im (.int .u8))],qb,[],[],[(23,[ql,qC 11 (.im Yq0),qB 12,qB 15,qB 16,qT 19 0])]⟩
def A4y:List FAnn:=[O2,O8,QH,N6,MD,SR,QL,OH,AA9,ZD,Ad7,Aj4,TC,Qx,Y5,Tx,QO,SM,L0,OY,Ln,Kt,Y8,N5,Em,DD,OW,KA,PA,Sy,OJ,Pa,Od,QN,XH,Mq,QT,OG,Aj7,Am9,YB,QJ,C3,CE,VC,TE,DZ,Ds,YV,Sp,Oa,Lu,L1,A0k,Sf,B7,Am7,Wn,S1,U0,Pj,U4,VP,N7,Ak9,Pv,D0,Dq,SL,Oo,Tr,KK,XQ,U2,VQ,Tf,Sw,VH,Wi,Ab9,Wl,UZ,VA,V7,AZ1,AG0,Ve,X5,Xo,Vc,Og,Wg,Se,Tl,O4,Sd,U9,S9,QP,Wh,V0,V4,Mu,QI,Ad3,Xf,VW,Ps,Tt,XC,Ox,Oc,OP,Mw,QR,PC,Af3,X2,An1,Ad6,Ah9,X0,Vy,Ag0,Vk,AF9,Wo,YI,X4,Xd,Zs,Ok,Ah0,Wd,Vp,Sr,SJ,Ah5,PL,Ak2,R3,An6,Ti,VD,An2,Ag3,Pl,Pm,Al1,An4,XT,Af5,An3,Af0,Ak3,V6,X8,Xv,Vb,Yu,Zt,Wf,Xb,VI,UY,Wa,Tc,SG,QQ,Aj5,An8,Vs,Ai7,V5,OU,OO,Ah6,OI,Af7,Yl,Xw,Ac5,Sg,V3,VN,R4,R5,Ol,CQ,Ca,Su,Zy,Ae6,Kd]
def A7N:Rel:=fun _ _ _ _ _=>False
def cfC:Cfg:=Oh [B7] fun _=>false
def XX:List (FuncId×TypeId×Nat×Bool):=[(246,3,Ty.size (.int .i64),true)]
theorem LK:CloneOK Tryz.prog (246,3,Ty.size (.int .i64),true):=⟨Tryz.f246,22,4,A3W,A78,Tryz.func246,by kernel_rfl,by kernel_rfl,rfl,A9B,rfl,ty3,by kernel_rfl,rfl,rfl⟩
theorem A1w:∀x∈XX,CloneOK Tryz.prog x:=by
 intro x hx;simp only[XX,zc6,zf3,or_false]at hx;rcases hx with rfl
 exact LK
def A8F:Rel:=fun g args blks r blks'=>YW (Ht Tryz.prog cfC A7N) XX g args blks r blks'\/XK 91 9 g args blks r blks'\/O1 155 g args blks r blks'\/Au9 101 g args blks r blks'\/Ap4 82 g args blks r blks'
theorem A2M:Ab0 Tryz.prog 91:=⟨Tryz.f91,Tryz.func91,by kernel_rfl,by kernel_rfl⟩
theorem Ao4:Ab0 Tryz.prog 155:=⟨Tryz.f155,Tryz.func155,by kernel_rfl,by kernel_rfl⟩
theorem A3y:Ab0 Tryz.prog 101:=⟨Tryz.f101,Tryz.func101,by kernel_rfl,by kernel_rfl⟩
theorem A4W:Ab0 Tryz.prog 82:=⟨Tryz.f82,Tryz.func82,by kernel_rfl,by kernel_rfl⟩
structure LibJ (J:KQ):Prop where
 tab:A8e Tryz.prog J "internal/strconv.uint64pow10" .u64 Lib.pow10Tab
 max:A50 J 2
 syn:A5d Tryz.prog J "strconv.ErrSyntax"
 rng:A5d Tryz.prog J "strconv.ErrRange"
theorem A4d{J:KQ}(hJ:LibJ J):∀g args blks r blks',A8F g args blks r blks'->CSpec Tryz.prog J g args blks r blks':=by
 intro g args blks r blks' h;rcases h with h|h|h|h|h
 ·exact ZZ (by kernel_rfl) A1w _ _ _ _ _ h
 ·exact AW0 A2M Tryz.strings_Split hJ.max _ _ _ _ _ h
 ·exact Aa0 Ao4 Tryz.strings_Contains hJ.max _ _ _ _ _ h
 ·exact A2O A3y Tryz.strconv_Atoi_ok Tryz.strconv_Atoi_syntax_var Tryz.strconv_Atoi_range_var hJ.syn hJ.rng _ _ _ _ _ h
 ·exact A1S A4W Tryz.strconv_Itoa hJ.tab _ _ _ _ _ h
def cf0:Cfg:=Oh A4y fun g=>([246,91,155,101,82]:List Nat).contains g
abbrev RR:Rel:=Ht Tryz.prog cf0 A8F
structure OKE where
 E:Ent
 k:Eh RR E
 r:cf0.byref E.a.g=(F6 E.a.params).map YQ
theorem A9u:∀l:List OKE,AP7 RR cf0 (l.map (·.E))
 |[]=>trivial
 |x::l=>⟨⟨x.k,x.r⟩,A9u l⟩
def fq(a:FAnn)(F:De a.params->Option (De a.res))(l:List OKE){fn:Func}(h0:Tryz.prog.funcs[a.g]? =some fn)(h1:fn.body.isSome=true:=by rfl)(h2:Rz fn (fn.body.get h1) (HM a.params).length=true:=by kernel_rfl)(h3:cf0.isExt a.g=false:=by rfl)(h:Pd A4y a.g=some a:=by kernel_rfl)(hF:∀x,wtF ⟨Tk,Rn,[],[4],l.map (·.E),a⟩ fn x=F x:=by intro _;kernel_rfl)(hr:cf0.byref a.g=(F6 a.params).map YQ:=by rfl):OKE:=
 ⟨⟨a,F⟩,P0 (X:=⟨Tk,Rn,[],[4],l.map (·.E),a⟩) ⟨A2u,T0,A2r⟩ (Sb (A9u l)) (A0Y h) ⟨h0,(Option.some_get h1).symm,h2,h3⟩ hF,hr⟩
def AQ0{α:Type}:List (Ex×α)->Ex->Option α
 |[],_=>none
 |(e,x)::l,i=>cond (TQ e i) (some x) (AQ0 l i)
theorem L9{α β:Type}(f:α->β):∀(l:List (Nat×α))(r:Nat),EQ (l.map fun p=>(p.1,f p.2)) r=(EQ l r).map f
 |[],_=>rfl
 |(n,a)::l,r=>by
  show cond (Nat.beq n r) (some (f a)) (EQ (l.map fun p=>(p.1,f p.2)) r)=Option.map f (cond (Nat.beq n r) (some a) (EQ l r));rw[L9 f l r];cases Nat.beq n r<;>rfl
theorem Uv:∀(l:List (Ex×List Item))(i:Ex),(QF l i).map Cw=AQ0 (l.map fun q=>(q.1,Cw q.2)) i
 |[],_=>rfl
 |(e,x)::l,i=>by
  show Option.map Cw (cond (TQ e i) (some x) (QF l i))=cond (TQ e i) (some (Cw x)) (AQ0 (l.map fun q=>(q.1,Cw q.2)) i);rw[<-Uv l i];cases TQ e i<;>rfl
theorem A3h{tab:List FAnn}{ext:FuncId->Bool}{X:TX}(a:FAnn)(h:Pd tab X.ann.g=some a)(e1:(a.heads.map fun p=>(p.1,Cw p.2))=X.ann.heads.map fun p=>(p.1,Cw p.2))
  (e2:(a.outs.map fun p=>(p.1,p.2.map fun q=>(q.1,Cw q.2)))=X.ann.outs.map fun p=>(p.1,p.2.map fun q=>(q.1,Cw q.2))) (e3:(a.joins.map fun p=>(p.1,Cw p.2))=X.ann.joins.map fun p=>(p.1,Cw p.2))
  (e4:Cw a.res=Cw X.ann.res) (e5:Cw a.params=Cw X.ann.params) (e6:F9 (Wz (Da a.res) a.e 0 (Da a.res))=F9 (Wz (Da X.ann.res) X.ann.e 0 (Da X.ann.res))):CfOK (Oh tab ext) X.ann.g X where
 live r an hr:=by
  have k:=congrArg (fun l=>EQ l r) e1;simp only[L9,hr,zd4]at k;cases hf:EQ a.heads r with
  |none=>rw[hf]at k;cases k
  |some l=>
   rw[hf]at k;simp only[Oh,h,za0,hf];exact zv k
 out r outs ex an hr he:=by
  have k:=congrArg (fun l=>EQ l r) e2;simp only[L9 (fun q:List (Ex×List Item)=>q.map fun q=>(q.1,Cw q.2)),hr,zd4]at k;cases hf:EQ a.outs r with
  |none=>rw[hf]at k;cases k
  |some l=>
   rw[hf]at k;have k3:(l.map fun q=>(q.1,Cw q.2))=outs.map fun q=>(q.1,Cw q.2):=zv k
   have k2:(QF l ex).map Cw=(QF outs ex).map Cw:=by rw[Uv,Uv,k3]
   rw[he]at k2;simp only[Oh,h,za0,hf];cases hg:QF l ex with
   |none=>rw[hg]at k2;cases k2
   |some q=>rw[hg]at k2;exact zv k2
 join r an hr:=by
  have k:=congrArg (fun l=>EQ l r) e3;simp only[L9,hr,zd4]at k;cases hf:EQ a.joins r with
  |none=>rw[hf]at k;cases k
  |some l=>
   rw[hf]at k;simp only[Oh,h,za0,hf];exact congrArg some (zv k)
 nojoin r hr:=by
  have k:=congrArg (fun l=>EQ l r) e3;simp only[L9,hr,Option.map_none]at k;cases hf:EQ a.joins r with
  |none=>simp only[Oh,h,za0,hf]
  |some l=>rw[hf]at k;cases k
 res:=by simp only[Oh,h];rw[e4]
 par:=by simp only[Oh,h];rw[e5]
 rts:=by simp only[Oh,h];rw[e6]
def FF (a0:Tq9):Option (Tq13×Int):=(bif decide (a0.2.1<(a0.1.length:Int))then(AD a0.1 a0.2.1).bind fun x0=>some (Sum.inr ((a0.1,a0.2.1,a0.2.2),(zi zj x0)))else some (Sum.inr ((a0.1,a0.2.1,a0.2.2),(0:Int)))).bind fun x1=>Sum.elim (fun x2=>some x2) (fun x3=>bif decide ((zi zj (x3.1.2.1+1))<=(x3.1.1.length:Int))then some ((x3.1.1,(zi zj (x3.1.2.1+1)),(zi zk ((zi zk ((zi zk (x3.1.2.2*6364136223846793005))+(zi zk x3.2)))+1442695040888963407))),x3.2)else some ((x3.1.1,(zi zj (x3.1.2.1+1)),(zi zk ((zi zk ((zi zk (x3.1.2.2*6364136223846793005))+(zi zk x3.2)))+1442695040888963407))),(zi zj (A4Q Go.IntKind.u64 (AR8 Go.IntKind.u64 (zi zk ((zi zk ((zi zk (x3.1.2.2*6364136223846793005))+(zi zk x3.2)))+1442695040888963407)) (40:Int)) (255:Int))))) x1
def ZP:OKE:=fq O2 (fun x=>FF x) [] Tryz.func209
def Ah (a0:Tq9) (a1:Int):Option (Tq13×Int):=bif decide (a1<=1)then some ((a0.1,a0.2.1,a0.2.2),(0:Int))else(FF (a0.1,a0.2.1,a0.2.2)).bind fun x0=>bif decide (a1>200)then(FF (x0.1.1,x0.1.2.1,x0.1.2.2)).bind fun x1=>bif(a1==0)then none else some ((x1.1.1,x1.1.2.1,x1.1.2.2),(Int.tmod (zi zj ((zi zj (x0.2*256))+x1.2)) a1))else bif(a1==0)then none else some ((x0.1.1,x0.1.2.1,x0.1.2.2),(Int.tmod x0.2 a1))
def Cc:OKE:=fq O8 (fun x=>Ah x.1 x.2) [ZP] Tryz.func159
def AR (a0:Tq9) (a1:Int):Option (Tq13×Bool):=(Ah (a0.1,a0.2.1,a0.2.2) a1).bind fun x0=>some ((x0.1.1,x0.1.2.1,x0.1.2.2),(x0.2==0))
def ES:OKE:=fq QH (fun x=>AR x.1 x.2) [Cc] Tryz.func158
def DA (a0:Tq9) (a1:List Int):Option (Tq13×Int):=(Ah (a0.1,a0.2.1,a0.2.2) (a1.length:Int)).bind fun x0=>(AD a1 x0.2).bind fun x1=>some ((x0.1.1,x0.1.2.1,x0.1.2.2),x1)
def N9:OKE:=fq N6 (fun x=>DA x.1 x.2) [Cc] Tryz.func97
def F3 (a0:Tq9):Option (Tq13×Int×Int×Int×Int):=(Ah (a0.1,a0.2.1,a0.2.2) 7).bind fun x0=>(Ah (x0.1.1,x0.1.2.1,x0.1.2.2) 7).bind fun x1=>(Ah (x1.1.1,x1.1.2.1,x1.1.2.2) 4).bind fun x2=>(Ah (x2.1.1,x2.1.2.1,x2.1.2.2) 4).bind fun x3=>(AR (x3.1.1,x3.1.2.1,x3.1.2.2) 20).bind fun x4=>bif x4.2 then(DA (x4.1.1,x4.1.2.1,x4.1.2.2) ([(-(20:Int)),20,21]:List Int)).bind fun x5=>(Ah (x5.1.1,x5.1.2.1,x5.1.2.2) 3).bind fun x6=>(DA (x6.1.1,x6.1.2.1,x6.1.2.2) ([0,8,9]:List Int)).bind fun x7=>some ((x7.1.1,x7.1.2.1,x7.1.2.2),x5.2,x6.2,x7.2,(1:Int))else some ((x4.1.1,x4.1.2.1,x4.1.2.2),(zi zj (x0.2-3)),(zi zj (x1.2-3)),(zi zj ((1:Int)+x2.2)),(zi zj ((1:Int)+x3.2)))
def UI:OKE:=fq MD (fun x=>F3 x) [Cc,ES,N9] Tryz.func173
def Hg (a0:Tq9):Option (Tq13×Int×Int):=(AR (a0.1,a0.2.1,a0.2.2) 40).bind fun x0=>bif x0.2 then(DA (x0.1.1,x0.1.2.1,x0.1.2.2) ([(-(1000:Int)),1000,1001]:List Int)).bind fun x1=>(Ah (x1.1.1,x1.1.2.1,x1.1.2.2) 5).bind fun x2=>some ((x2.1.1,x2.1.2.1,x2.1.2.2),x1.2,x2.2)else(Ah (x0.1.1,x0.1.2.1,x0.1.2.2) 9).bind fun x3=>(Ah (x3.1.1,x3.1.2.1,x3.1.2.2) 9).bind fun x4=>some ((x4.1.1,x4.1.2.1,x4.1.2.2),(zi zj (x3.2-2)),(zi zj (x4.2-2)))
def Av6:OKE:=fq SR (fun x=>Hg x) [ES,N9,Cc] Tryz.func103
def Gq (s0:Tq9) (s1:Tq3) (s2:Int):Option (Tq9×Tq3×Int⊕Tq9×Tq3):=bif decide (s2>0)then(Hg (s0.1,s0.2.1,s0.2.2)).bind fun x0=>(CZ 16 2 s1 ([(x0.2.1,x0.2.2)]:List (Int×Int))).bind fun x1=>some (Sum.inl ((x0.1.1,x0.1.2.1,x0.1.2.2),x1,(zi zj (s2-1))))else some (Sum.inr ((s0.1,s0.2.1,s0.2.2),s1))
def Je (s0:Tq9) (s1:Tq3):Option (Tq9×Tq3⊕Tq9×Tq3):=(Ah (s0.1,s0.2.1,s0.2.2) 2).bind fun x0=>bif decide ((s1.length:Int)<(zi zj ((12:Int)+x0.2)))then(Hg (x0.1.1,x0.1.2.1,x0.1.2.2)).bind fun x1=>(CZ 16 2 s1 ([(x1.2.1,x1.2.2)]:List (Int×Int))).bind fun x2=>some (Sum.inl ((x1.1.1,x1.1.2.1,x1.1.2.2),x2))else some (Sum.inr ((x0.1.1,x0.1.2.1,x0.1.2.2),s1))
def IG (a0:Tq9):Option (Tq13×List (Int×Int)):=(Ah (a0.1,a0.2.1,a0.2.2) 4).bind fun x0=>bif(x0.2==0)then(Ah (x0.1.1,x0.1.2.1,x0.1.2.2) 6).bind fun x1=>(Ah (x1.1.1,x1.1.2.1,x1.1.2.2) 2).bind fun x2=>(Ah (x2.1.1,x2.1.2.1,x2.1.2.2) 3).bind fun x3=>(Ah (x3.1.1,x3.1.2.1,x3.1.2.2) 5).bind fun x4=>(Ah (x4.1.1,x4.1.2.1,x4.1.2.2) 2).bind fun x5=>(Ah (x5.1.1,x5.1.2.1,x5.1.2.2) 5).bind fun x6=>some ((x6.1.1,x6.1.2.1,x6.1.2.2),([((0:Int),(0:Int)),((zi zj ((2:Int)+x1.2)),x2.2),((zi zj ((3:Int)+x3.2)),(zi zj ((3:Int)+x4.2))),(x5.2,(zi zj ((2:Int)+x6.2)))]:List (Int×Int)))else bif(x0.2==1)then(Ah (x0.1.1,x0.1.2.1,x0.1.2.2) 4).bind fun x7=>(Ah (x7.1.1,x7.1.2.1,x7.1.2.2) 4).bind fun x8=>some ((x8.1.1,x8.1.2.1,x8.1.2.2),([((0:Int),(0:Int)),((6:Int),(0:Int)),((6:Int),(6:Int)),((4:Int),(6:Int)),((4:Int),(zi zj ((1:Int)+x7.2))),((2:Int),(zi zj ((1:Int)+x8.2))),((2:Int),(6:Int)),((0:Int),(6:Int))]:List (Int×Int)))else(Ah (x0.1.1,x0.1.2.1,x0.1.2.2) 4).bind fun x9=>(Ad (fun(s:Tq9×Tq3×Int)=>Gq s.1 s.2.1 s.2.2) ((x9.1.1,x9.1.2.1,x9.1.2.2),([]:List (Int×Int)),(zi zj ((3:Int)+x9.2)))).bind fun x10=>(AR (x10.1.1,x10.1.2.1,x10.1.2.2) 20).bind fun x11=>bif x11.2 then(Ad (fun(s:Tq9×Tq3)=>Je s.1 s.2) ((x11.1.1,x11.1.2.1,x11.1.2.2),x10.2)).bind fun x12=>some ((x12.1.1,x12.1.2.1,x12.1.2.2),x12.2)else some ((x11.1.1,x11.1.2.1,x11.1.2.2),x10.2)
def Z4:OKE:=fq QL (fun x=>IG x) [Cc,Av6,ES] Tryz.func199
def B2 (s0:Tq9) (s1:List Tq3) (s2:Int):Option (Tq9×(List Tq3)×Int⊕Tq9×(List Tq3)):=bif decide (s2>0)then(IG (s0.1,s0.2.1,s0.2.2)).bind fun x0=>(CZ 24 1 s1 ([x0.2]:List Tq3)).bind fun x1=>some (Sum.inl ((x0.1.1,x0.1.2.1,x0.1.2.2),x1,(zi zj (s2-1))))else some (Sum.inr ((s0.1,s0.2.1,s0.2.2),s1))
def HO (a0:Tq9):Option (Tq13×List Tq3):=(Ah (a0.1,a0.2.1,a0.2.2) 2).bind fun x0=>((AR (x0.1.1,x0.1.2.1,x0.1.2.2) 20).bind fun x1=>bif x1.2 then(Ah (x1.1.1,x1.1.2.1,x1.1.2.2) 6).bind fun x2=>some (Sum.inr ((x2.1.1,x2.1.2.1,x2.1.2.2),([]:List Tq3),x2.2))else some (Sum.inr ((x1.1.1,x1.1.2.1,x1.1.2.2),([]:List Tq3),(zi zj ((1:Int)+x0.2))))).bind fun x3=>Sum.elim (fun x4=>some x4) (fun x5=>(Ad (fun(s:(Tq9×(List Tq3)×Int))=>B2 s.1 s.2.1 s.2.2) ((x5.1.1,x5.1.2.1,x5.1.2.2),x5.2.1,x5.2.2)).bind fun x6=>some ((x6.1.1,x6.1.2.1,x6.1.2.2),x6.2)) x3
def XI:OKE:=fq OH (fun x=>HO x) [Cc,ES,Z4] Tryz.func145
def Dy (a0 a1 a2:Int):Option Bool:=bif decide (a0>=a1)then some (decide (a0<=a2))else some false
def OF:OKE:=fq AA9 (fun x=>Dy x.1 x.2.1 x.2.2) [] Tryz.func90
def Gu (a0:Int×Int):Option Bool:=(Dy a0.1 (-(1000:Int)) 1000).bind fun x0=>bif x0 then(Dy a0.2 (-(1000:Int)) 1000).bind fun x1=>some x1 else some false
def XM:OKE:=fq ZD (fun x=>Gu x) [OF] Tryz.func166
def IM (s0:Tq3) (s1 s2:Int):Option (Tq3×Int×Int⊕(Unit⊕Bool)):=bif decide (s2<s1)then(AD s0 s2).bind fun x0=>(Gu (x0.1,x0.2)).bind fun x1=>bif(!x1)then some (Sum.inr (Sum.inr false))else some (Sum.inl (s0,s1,(zi zj (s2+1))))else some (Sum.inr (Sum.inl ()))
def PU (a0:Tq3):Option Bool:=(Ad (fun(s:Tq3×Int×Int)=>IM s.1 s.2.1 s.2.2) (a0,(a0.length:Int),(0:Int))).bind fun x0=>Sum.elim (fun x1=>some true) (fun x2=>some x2) x0
def A1Y:OKE:=fq Ad7 (fun x=>PU x) [XM] Tryz.func152
def Mo (a0:Tq3):Option Bool:=(Dy (a0.length:Int) 3 12).bind fun x0=>bif x0 then(PU a0).bind fun x1=>some x1 else some false
def Ah4:OKE:=fq Aj4 (fun x=>Mo x) [OF,A1Y] Tryz.func89
def FC (s0 s1:List Tq3) (s2 s3:Int):Option ((List Tq3)×(List Tq3)×Int×Int⊕((List Tq3)⊕Bool)):=bif decide (s3<s2)then(AD s1 s3).bind fun x0=>(Mo x0).bind fun x1=>bif(!x1)then some (Sum.inr (Sum.inr false))else some (Sum.inl (s0,s1,s2,(zi zj (s3+1))))else some (Sum.inr (Sum.inl s0))
def Jv (a0:List Tq3):Option Bool:=(Ad (fun(s:((List Tq3)×(List Tq3)×Int×Int))=>FC s.1 s.2.1 s.2.2.1 s.2.2.2) (a0,a0,(a0.length:Int),(0:Int))).bind fun x0=>Sum.elim (fun x1=>(Dy (x1.length:Int) 1 4).bind fun x2=>some x2) (fun x3=>some x3) x0
def Ar2:OKE:=fq TC (fun x=>Jv x) [Ah4,OF] Tryz.func21
def T3 (self:Int->Option (List UInt8)) (a0:Int):Option (List UInt8):=bif decide (a0<10)then some (KX ([(zi .u8 (zi zj ((48:Int)+a0)))]:List Int))else(self (zi zj (Int.tdiv a0 10))).bind fun x0=>(F7 x0 (KX ([(zi .u8 (zi zj ((48:Int)+(Int.tmod a0 10))))]:List Int))).bind fun x1=>some x1
def H9:Nat->Int->Option (List UInt8)
 |0=>fun _=>none
 |n+1=>T3 (H9 n)
def X3 (self:Int->Option (List UInt8)):Ent:=⟨Qx,fun x=>self x⟩
def Ah2 (self:Int->Option (List UInt8)):TX:=⟨Tk,Rn,[],[4],[X3 self],Qx⟩
theorem A23(self:(Int)->Option (List UInt8))(a0:Int):wtF (Ah2 self) Tryz.f163 (a0)=T3 self a0:=by kernel_rfl
theorem VR:∀n,Eh RR (X3 (H9 n))
 |0=>fun x y _ _ _ h=>by cases h
 |n+1=>P0 (X:=Ah2 (H9 n)) ⟨A2u,T0,A2r⟩ (Sb (by exact⟨⟨VR n,rfl⟩,trivial⟩)) (A0Y (by kernel_rfl)) ⟨Tryz.func163,rfl,by kernel_rfl,rfl⟩ (fun x=>by exact A23 (H9 n) x)
def Mi (a0:Int):Option (List UInt8):=H9 (a0.toNat+1) a0
def Ab4:Ent:=⟨Qx,fun x=>Mi x⟩
theorem AT9:Eh RR Ab4:=fun x=>VR _ x
def A2S:OKE:=⟨Ab4,AT9,rfl⟩
def Es (a0:Int):Option (List UInt8):=bif decide (a0<0)then(Mi (zi zj ((0:Int)-a0))).bind fun x0=>(F7 ([45]:List UInt8) x0).bind fun x1=>some x1 else(Mi a0).bind fun x2=>some x2
def Xm:OKE:=fq Y5 (fun x=>Es x) [A2S] Tryz.func99
def Fn (s0:List UInt8) (s1:List Tq3) (s2 s3:Int) (s4:Tq3) (s5 s6:Int):Option ((List UInt8)×(List Tq3)×Int×Int×Tq3×Int×Int⊕(List UInt8)×(List Tq3)×Int×Int):=bif decide (s6<s5)then(AD s4 s6).bind fun x0=>(bif(s6==0)then(F7 s0 ([77,32]:List UInt8)).bind fun x1=>some (Sum.inr ((x0.1,x0.2),x1,s1,s2,s3,s4,s5,s6))else(F7 s0 ([76,32]:List UInt8)).bind fun x2=>some (Sum.inr ((x0.1,x0.2),x2,s1,s2,s3,s4,s5,s6))).bind fun x3=>Sum.elim (fun x4=>some x4) (fun x5=>(Es x5.1.1).bind fun x6=>(F7 x6 ([32]:List UInt8)).bind fun x7=>(Es x5.1.2).bind fun x8=>(F7 x7 x8).bind fun x9=>(F7 x9 ([32]:List UInt8)).bind fun x10=>(F7 x5.2.1 x10).bind fun x11=>some (Sum.inl (x11,x5.2.2.1,x5.2.2.2.1,x5.2.2.2.2.1,x5.2.2.2.2.2.1,x5.2.2.2.2.2.2.1,(zi zj (x5.2.2.2.2.2.2.2+1))))) x3 else some (Sum.inr (s0,s1,s2,s3))
def FK (s0:List UInt8) (s1:List Tq3) (s2 s3:Int):Option ((List UInt8)×(List Tq3)×Int×Int⊕(List UInt8)):=bif decide (s3<s2)then(AD s1 s3).bind fun x0=>(bif decide (s3>0)then(F7 s0 ([32]:List UInt8)).bind fun x1=>some (Sum.inr (x1,x0,s1,s2,s3))else some (Sum.inr (s0,x0,s1,s2,s3))).bind fun x2=>Sum.elim (fun x3=>some x3) (fun x4=>(Ad (fun(s:((List UInt8)×(List Tq3)×Int×Int×Tq3×Int×Int))=>Fn s.1 s.2.1 s.2.2.1 s.2.2.2.1 s.2.2.2.2.1 s.2.2.2.2.2.1 s.2.2.2.2.2.2) (x4.1,x4.2.2.1,x4.2.2.2.1,x4.2.2.2.2,x4.2.1,(x4.2.1.length:Int),(0:Int))).bind fun x5=>(F7 x5.1 ([90]:List UInt8)).bind fun x6=>some (Sum.inl (x6,x5.2.1,x5.2.2.1,(zi zj (x5.2.2.2+1))))) x2 else some (Sum.inr s0)
def JA (a0:List Tq3):Option (List UInt8):=(Ad (fun(s:((List UInt8)×(List Tq3)×Int×Int))=>FK s.1 s.2.1 s.2.2.1 s.2.2.2) (([]:List UInt8),a0,(a0.length:Int),(0:Int))).bind fun x0=>some x0
def Ao0:OKE:=fq Tx (fun x=>JA x) [Xm] Tryz.func84
def ID (a0:List Tq3):Option (List UInt8×Bool):=(Jv a0).bind fun x0=>bif(!x0)then some (([]:List UInt8),false)else(JA a0).bind fun x1=>bif decide ((x1.length:Int)>400)then some (([]:List UInt8),false)else some (x1,true)
def Aa3:OKE:=fq QO (fun x=>ID x) [Ar2,Ao0] Tryz.func19
def F4 (a0:Tq9) (a1:Tq10):Option (Tq13×List UInt8):=(Ah (a0.1,a0.2.1,a0.2.2) (a1.length:Int)).bind fun x0=>(AD a1 x0.2).bind fun x1=>some ((x0.1.1,x0.1.2.1,x0.1.2.2),x1)
def As3:OKE:=fq SM (fun x=>F4 x.1 x.2) [Cc] Tryz.func100
def Ey (s0:Tq9) (s1 s2:List UInt8) (s3:Int):Option (Tq9×(List UInt8)×(List UInt8)×Int⊕Tq9×(List UInt8)):=bif decide (s3>0)then bif decide ((s1.length:Int)>0)then(Ah (s0.1,s0.2.1,s0.2.2) (s1.length:Int)).bind fun x0=>(Ah (x0.1.1,x0.1.2.1,x0.1.2.2) (s2.length:Int)).bind fun x1=>(AD s2 x1.2).bind fun x2=>(Ah (x1.1.1,x1.1.2.1,x1.1.2.2) 3).bind fun x3=>bif(x3.2==0)then(FT (0:Int) x0.2 (List.length s1)).bind fun x4=>(F7 (List.drop x4.1 (List.take x4.2 s1)) (KX ([(((UInt8.toNat x2):Nat):Int)]:List Int))).bind fun x5=>(FT x0.2 (s1.length:Int) (List.length s1)).bind fun x6=>(F7 x5 (List.drop x6.1 (List.take x6.2 s1))).bind fun x7=>some (Sum.inl ((x3.1.1,x3.1.2.1,x3.1.2.2),x7,s2,(zi zj (s3-1))))else bif(x3.2==1)then(FT (0:Int) x0.2 (List.length s1)).bind fun x8=>(F7 (List.drop x8.1 (List.take x8.2 s1)) (KX ([(((UInt8.toNat x2):Nat):Int)]:List Int))).bind fun x9=>(FT (zi zj (x0.2+1)) (s1.length:Int) (List.length s1)).bind fun x10=>(F7 x9 (List.drop x10.1 (List.take x10.2 s1))).bind fun x11=>some (Sum.inl ((x3.1.1,x3.1.2.1,x3.1.2.2),x11,s2,(zi zj (s3-1))))else(FT (0:Int) x0.2 (List.length s1)).bind fun x12=>(FT (zi zj (x0.2+1)) (s1.length:Int) (List.length s1)).bind fun x13=>(F7 (List.drop x12.1 (List.take x12.2 s1)) (List.drop x13.1 (List.take x13.2 s1))).bind fun x14=>some (Sum.inl ((x3.1.1,x3.1.2.1,x3.1.2.2),x14,s2,(zi zj (s3-1))))else some (Sum.inr ((s0.1,s0.2.1,s0.2.2),s1))else some (Sum.inr ((s0.1,s0.2.1,s0.2.2),s1))
def Dj (a0:Tq9) (a1 a2:List UInt8):Option (Tq13×List UInt8):=(Ah (a0.1,a0.2.1,a0.2.2) 3).bind fun x0=>(Ad (fun(s:(Tq9×(List UInt8)×(List UInt8)×Int))=>Ey s.1 s.2.1 s.2.2.1 s.2.2.2) ((x0.1.1,x0.1.2.1,x0.1.2.2),a1,a2,x0.2)).bind fun x1=>some ((x1.1.1,x1.1.2.1,x1.1.2.2),x1.2)
def TO:OKE:=fq L0 (fun x=>Dj x.1 x.2.1 x.2.2) [Cc] Tryz.func160
def BZ (s0:Tq9) (s1:List UInt8) (s2:Int):Option (Tq9×(List UInt8)×Int⊕Tq9×(List UInt8)):=bif decide (s2>0)then(F4 (s0.1,s0.2.1,s0.2.2) ([([32,76,32,52,32,49]:List UInt8),([32,108,32,50,32,51]:List UInt8),([32,108,32,45,49,32,50]:List UInt8),([32,72,32,53]:List UInt8),([32,104,32,45,50]:List UInt8),([32,86,32,51]:List UInt8),([32,118,32,50]:List UInt8),([32,76,32,48,32,48]:List UInt8),([32,104,32,49]:List UInt8)]:List (List UInt8))).bind fun x0=>(F7 s1 x0.2).bind fun x1=>some (Sum.inl ((x0.1.1,x0.1.2.1,x0.1.2.2),x1,(zi zj (s2-1))))else some (Sum.inr ((s0.1,s0.2.1,s0.2.2),s1))
def FG (a0:Tq9):Option (Tq13×List UInt8):=((AR (a0.1,a0.2.1,a0.2.2) 3).bind fun x0=>bif x0.2 then(HO (x0.1.1,x0.1.2.1,x0.1.2.2)).bind fun x1=>(ID x1.2).bind fun x2=>bif x2.2 then some (Sum.inl ((x1.1.1,x1.1.2.1,x1.1.2.2),x2.1))else some (Sum.inr (x1.1.1,x1.1.2.1,x1.1.2.2))else some (Sum.inr (x0.1.1,x0.1.2.1,x0.1.2.2))).bind fun x3=>Sum.elim (fun x4=>some x4) (fun x5=>(Ah (x5.1,x5.2.1,x5.2.2) 5).bind fun x6=>(Es x6.2).bind fun x7=>(F7 ([77,32]:List UInt8) x7).bind fun x8=>(F7 x8 ([32]:List UInt8)).bind fun x9=>(Ah (x6.1.1,x6.1.2.1,x6.1.2.2) 5).bind fun x10=>(Es x10.2).bind fun x11=>(F7 x9 x11).bind fun x12=>(Ah (x10.1.1,x10.1.2.1,x10.1.2.2) 4).bind fun x13=>(Ad (fun(s:(Tq9×(List UInt8)×Int))=>BZ s.1 s.2.1 s.2.2) ((x13.1.1,x13.1.2.1,x13.1.2.2),x12,(zi zj ((2:Int)+x13.2)))).bind fun x14=>(F7 x14.2 ([32,90]:List UInt8)).bind fun x15=>((AR (x14.1.1,x14.1.2.1,x14.1.2.2) 4).bind fun x16=>bif x16.2 then(F7 x15 ([32,77,32,48,32,48,32,72,32,51,32,118,32,50,32,90]:List UInt8)).bind fun x17=>some (Sum.inr ((x16.1.1,x16.1.2.1,x16.1.2.2),x17))else some (Sum.inr ((x16.1.1,x16.1.2.1,x16.1.2.2),x15))).bind fun x18=>Sum.elim (fun x19=>some x19) (fun x20=>((AR (x20.1.1,x20.1.2.1,x20.1.2.2) 8).bind fun x21=>bif x21.2 then(Dj (x21.1.1,x21.1.2.1,x21.1.2.2) x20.2 ([77,76,90,32,48,45,57]:List UInt8)).bind fun x22=>some (Sum.inr ((x22.1.1,x22.1.2.1,x22.1.2.2),x22.2))else some (Sum.inr ((x21.1.1,x21.1.2.1,x21.1.2.2),x20.2))).bind fun x23=>Sum.elim (fun x24=>some x24) (fun x25=>(AR (x25.1.1,x25.1.2.1,x25.1.2.2) 12).bind fun x26=>bif x26.2 then(F4 (x26.1.1,x26.1.2.1,x26.1.2.2) ([([32,77,32,49,32,49]:List UInt8),([32,76,32,49,32,49]:List UInt8),([32,81]:List UInt8),([32,77,32,49]:List UInt8),([32,77,32,57,57,57,57,32,48]:List UInt8),([]:List UInt8)]:List (List UInt8))).bind fun x27=>(F7 x25.2 x27.2).bind fun x28=>some ((x27.1.1,x27.1.2.1,x27.1.2.2),x28)else some ((x26.1.1,x26.1.2.1,x26.1.2.2),x25.2)) x23) x18) x3
def Y4:OKE:=fq OY (fun x=>FG x) [ES,XI,Aa3,Cc,Xm,As3,TO] Tryz.func94
def Hr (a0:List Int):Option (List UInt8×Int×Int×Int×Int):=(F3 (a0,(0:Int),(0:Int))).bind fun x0=>(AR (x0.1.1,x0.1.2.1,x0.1.2.2) 4).bind fun x1=>bif x1.2 then(FG (x1.1.1,x1.1.2.1,x1.1.2.2)).bind fun x2=>some (x2.2,(-(2:Int)),(-(2:Int)),(8:Int),(8:Int))else(FG (x1.1.1,x1.1.2.1,x1.1.2.2)).bind fun x3=>some (x3.2,x0.2.1,x0.2.2.1,x0.2.2.2.1,x0.2.2.2.2)
def Sx:OKE:=fq Ln (fun x=>Hr x) [UI,ES,Y4] Tryz.func115
def Ew (a0:List Int):Option (List UInt8×Int×Int×Int×Int):=(Hr a0).bind fun x0=>some (x0.1,x0.2.1,x0.2.2.1,x0.2.2.2.1,x0.2.2.2.2)
def Ki:OKE:=fq Kt (fun x=>Ew x) [Sx] Tryz.func49
def AV (a0 a1 a2:Int):Option Bool:=bif decide (a0>=a1)then some (decide (a0<=a2))else some false
def Gz:OKE:=fq Y8 (fun x=>AV x.1 x.2.1 x.2.2) [] Tryz.func85
def Jd (a0 a1:List UInt8):Option Tq10:=Qp a0 a1
def Ob:Ent:=⟨N5,fun x=>Jd x.1 x.2⟩
theorem TY:Eh RR Ob:=A2T fun _ _ _ _ _ h=>Or.inr (Or.inl h)
def Ww:OKE:=⟨Ob,TY,rfl⟩
def A5 (s0:Tq10) (s1:List UInt8) (s2 s3:Int):Option (Tq10×(List UInt8)×Int×Int⊕(Unit⊕Int)):=bif decide (s3<s2)then(AD s0 s3).bind fun x0=>bif(s1==x0)then some (Sum.inr (Sum.inr s3))else some (Sum.inl (s0,s1,s2,(zi zj (s3+1))))else some (Sum.inr (Sum.inl ()))
def CP (a0:Tq10) (a1:List UInt8):Option Int:=(Ad (fun(s:(Tq10×(List UInt8)×Int×Int))=>A5 s.1 s.2.1 s.2.2.1 s.2.2.2) (a0,a1,(a0.length:Int),(0:Int))).bind fun x0=>Sum.elim (fun x1=>some (-(1:Int))) (fun x2=>some x2) x0
def IS:OKE:=fq Em (fun x=>CP x.1 x.2) [] Tryz.func259
def Bs (a0:Tq10) (a1:List UInt8):Option Bool:=(CP a0 a1).bind fun x0=>some (decide (x0>=0))
def Hs:OKE:=fq DD (fun x=>Bs x.1 x.2) [IS] Tryz.func208
def BB (a0:Tq15) (a1:List Tq3) (a2:Tq3) (a3:List UInt8):Option ((List (List UInt8)×Int×Bool)×List Tq3×List (Int×Int)×Int):=(Bs ([([77]:List UInt8),([76]:List UInt8),([108]:List UInt8),([72]:List UInt8),([86]:List UInt8),([104]:List UInt8),([118]:List UInt8),([90]:List UInt8)]:List (List UInt8)) a3).bind fun x0=>bif(!x0)then some ((a0.1,a0.2.1,a0.2.2),a1,a2,(2:Int))else bif((a3==([77]:List UInt8))==a0.2.2)then some ((a0.1,a0.2.1,a0.2.2),a1,a2,(4:Int))else bif(a3==([77]:List UInt8))then bif((a1.length:Int)==4)then bif((a1.length:Int)==4)then some ((a0.1,a0.2.1,a0.2.2),a1,a2,(5:Int))else some ((a0.1,a0.2.1,a0.2.2),a1,a2,(0:Int))else bif(a3==([90]:List UInt8))then bif decide ((a2.length:Int)<3)then bif decide ((a2.length:Int)<3)then some ((a0.1,a0.2.1,a0.2.2),a1,a2,(5:Int))else some ((a0.1,a0.2.1,a0.2.2),a1,a2,(0:Int))else bif(!(a3==([77]:List UInt8)))then bif(!(a3==([90]:List UInt8)))then bif((a2.length:Int)==12)then some ((a0.1,a0.2.1,a0.2.2),a1,a2,(5:Int))else some ((a0.1,a0.2.1,a0.2.2),a1,a2,(0:Int))else some ((a0.1,a0.2.1,a0.2.2),a1,a2,(0:Int))else some ((a0.1,a0.2.1,a0.2.2),a1,a2,(0:Int))else bif(!(a3==([77]:List UInt8)))then bif(!(a3==([90]:List UInt8)))then bif((a2.length:Int)==12)then some ((a0.1,a0.2.1,a0.2.2),a1,a2,(5:Int))else some ((a0.1,a0.2.1,a0.2.2),a1,a2,(0:Int))else some ((a0.1,a0.2.1,a0.2.2),a1,a2,(0:Int))else some ((a0.1,a0.2.1,a0.2.2),a1,a2,(0:Int))else bif(a3==([90]:List UInt8))then bif decide ((a2.length:Int)<3)then bif decide ((a2.length:Int)<3)then some ((a0.1,a0.2.1,a0.2.2),a1,a2,(5:Int))else some ((a0.1,a0.2.1,a0.2.2),a1,a2,(0:Int))else bif(!(a3==([77]:List UInt8)))then bif(!(a3==([90]:List UInt8)))then bif((a2.length:Int)==12)then some ((a0.1,a0.2.1,a0.2.2),a1,a2,(5:Int))else some ((a0.1,a0.2.1,a0.2.2),a1,a2,(0:Int))else some ((a0.1,a0.2.1,a0.2.2),a1,a2,(0:Int))else some ((a0.1,a0.2.1,a0.2.2),a1,a2,(0:Int))else bif(!(a3==([77]:List UInt8)))then bif(!(a3==([90]:List UInt8)))then bif((a2.length:Int)==12)then some ((a0.1,a0.2.1,a0.2.2),a1,a2,(5:Int))else some ((a0.1,a0.2.1,a0.2.2),a1,a2,(0:Int))else some ((a0.1,a0.2.1,a0.2.2),a1,a2,(0:Int))else some ((a0.1,a0.2.1,a0.2.2),a1,a2,(0:Int))
def XG:OKE:=fq OW (fun x=>BB x.1 x.2.1 x.2.2.1 x.2.2.2) [Hs] Tryz.func154
def EC (a0 a1:List UInt8):Option Bool:=Kn a0 a1
def K1:Ent:=⟨KA,fun x=>EC x.1 x.2⟩
theorem QA:Eh RR K1:=Ap0 fun _ _ _ _ _ h=>Or.inr (Or.inr (Or.inl h))
def Rl:OKE:=⟨K1,QA,rfl⟩
def Kk (a0:List UInt8):Option (Int×Bool):=Xz a0
def OE:Ent:=⟨PA,fun x=>Kk x⟩
theorem WG:Eh RR OE:=A47 fun _ _ _ _ _ h=>Or.inr (Or.inr (Or.inr (Or.inl h)))
def Ya:OKE:=⟨OE,WG,rfl⟩
def JL (a0:Int):Option Bool:=(AV a0 (-(9999:Int)) 9999).bind fun x0=>some x0
def Aq4:OKE:=fq Sy (fun x=>JL x) [Gz] Tryz.func98
def Hd (a0:Int):Option (List UInt8):=Yd a0
def PJ:Ent:=⟨OJ,fun x=>Hd x⟩
theorem WC:Eh RR PJ:=A4f fun _ _ _ _ _ h=>Or.inr (Or.inr (Or.inr (Or.inr (h))))
def Xg:OKE:=⟨PJ,WC,rfl⟩
def Ho (a0:List UInt8):Option (Int×Bool):=(Kk a0).bind fun x0=>bif x0.2 then some ((0:Int),false)else(JL x0.1).bind fun x1=>bif(!x1)then some ((0:Int),false)else(Hd x0.1).bind fun x2=>bif(!(x2==a0))then some ((0:Int),false)else some (x0.1,true)
def XO:OKE:=fq Pa (fun x=>Ho x) [Ya,Aq4,Xg] Tryz.func30
def Gp (a0:Tq15) (a1:List Tq3) (a2:Tq3):Option ((List (List UInt8)×Int×Bool)×List Tq3×List (Int×Int)×Int×Bool):=bif(a0.2.1==(a0.1.length:Int))then some ((a0.1,a0.2.1,a0.2.2),a1,a2,(0:Int),false)else(AD a0.1 a0.2.1).bind fun x0=>(Ho x0).bind fun x1=>bif x1.2 then some ((a0.1,(zi zj (a0.2.1+1)),a0.2.2),a1,a2,x1.1,x1.2)else some ((a0.1,a0.2.1,a0.2.2),a1,a2,x1.1,x1.2)
def Wr:OKE:=fq Od (fun x=>Gp x.1 x.2.1 x.2.2) [XO] Tryz.func156
def Bo (a0:Tq15) (a1:List Tq3) (a2:Tq3) (a3:List UInt8) (a4:List Int):Option ((List (List UInt8)×Int×Bool)×List Tq3×List (Int×Int)×Int×Int):=(bif decide ((a2.length:Int)>0)then(A2 (zi zj ((a2.length:Int)-1)) (List.length a2)).bind fun x0=>(AY a2 x0).bind fun x1=>some (Sum.inr ((a0.1,a0.2.1,a0.2.2),((0:Int),(0:Int)),(x1.1,x1.2),a1,a2,a3,a4))else some (Sum.inr ((a0.1,a0.2.1,a0.2.2),((0:Int),(0:Int)),((0:Int),(0:Int)),a1,a2,a3,a4))).bind fun x2=>Sum.elim (fun x3=>some x3) (fun x4=>bif(x4.2.2.2.2.2.1==([108]:List UInt8))then(AD x4.2.2.2.2.2.2 0).bind fun x5=>(AD x4.2.2.2.2.2.2 1).bind fun x6=>some ((x4.1.1,x4.1.2.1,x4.1.2.2),x4.2.2.2.1,x4.2.2.2.2.1,(zi zj (x4.2.2.1.1+x5)),(zi zj (x4.2.2.1.2+x6)))else bif(x4.2.2.2.2.2.1==([72]:List UInt8))then(AD x4.2.2.2.2.2.2 0).bind fun x7=>some ((x4.1.1,x4.1.2.1,x4.1.2.2),x4.2.2.2.1,x4.2.2.2.2.1,x7,x4.2.2.1.2)else bif(x4.2.2.2.2.2.1==([86]:List UInt8))then(AD x4.2.2.2.2.2.2 0).bind fun x8=>some ((x4.1.1,x4.1.2.1,x4.1.2.2),x4.2.2.2.1,x4.2.2.2.2.1,x4.2.2.1.1,x8)else bif(x4.2.2.2.2.2.1==([104]:List UInt8))then(AD x4.2.2.2.2.2.2 0).bind fun x9=>some ((x4.1.1,x4.1.2.1,x4.1.2.2),x4.2.2.2.1,x4.2.2.2.2.1,(zi zj (x4.2.2.1.1+x9)),x4.2.2.1.2)else bif(x4.2.2.2.2.2.1==([118]:List UInt8))then(AD x4.2.2.2.2.2.2 0).bind fun x10=>some ((x4.1.1,x4.1.2.1,x4.1.2.2),x4.2.2.2.1,x4.2.2.2.2.1,x4.2.2.1.1,(zi zj (x4.2.2.1.2+x10)))else(AD x4.2.2.2.2.2.2 0).bind fun x11=>(AD x4.2.2.2.2.2.2 1).bind fun x12=>some ((x4.1.1,x4.1.2.1,x4.1.2.2),x4.2.2.2.1,x4.2.2.2.2.1,x11,x12)) x2
def ZX:OKE:=fq QN (fun x=>Bo x.1 x.2.1 x.2.2.1 x.2.2.2.1 x.2.2.2.2) [] Tryz.func157
def Ku (a0:Int×Int):Option Bool:=(AV a0.1 (-(1000:Int)) 1000).bind fun x0=>bif x0 then(AV a0.2 (-(1000:Int)) 1000).bind fun x1=>some x1 else some false
def AN5:OKE:=fq XH (fun x=>Ku x) [Gz] Tryz.func104
def ED (s0:Tq15) (s1:List Int) (s2:List Tq3) (s3:Tq3) (s4:List UInt8) (s5 s6:Int):Option (Tq15×(List Int)×(List Tq3)×Tq3×(List UInt8)×Int×Int⊕(Tq15×(List Int)×(List Tq3)×Tq3×(List UInt8)⊕Tq15×(List Tq3)×Tq3×Int×Int)):=bif decide (s6<s5)then(Gp (s0.1,s0.2.1,s0.2.2) s2 s3).bind fun x0=>bif(!x0.2.2.2.2)then some (Sum.inr (Sum.inr ((x0.1.1,x0.1.2.1,x0.1.2.2),x0.2.1,x0.2.2.1,(3:Int),x0.1.2.1)))else(CZ 8 1 s1 ([x0.2.2.2.1]:List Int)).bind fun x1=>some (Sum.inl ((x0.1.1,x0.1.2.1,x0.1.2.2),x1,x0.2.1,x0.2.2.1,s4,s5,(zi zj (s6+1))))else some (Sum.inr (Sum.inl ((s0.1,s0.2.1,s0.2.2),s1,s2,s3,s4)))
def Au (a0:Tq15) (a1:List Tq3) (a2:Tq3):Option ((List (List UInt8)×Int×Bool)×List Tq3×List (Int×Int)×Int×Int):=(AD a0.1 a0.2.1).bind fun x0=>(BB (a0.1,a0.2.1,a0.2.2) a1 a2 x0).bind fun x1=>bif(x1.2.2.2 != (0:Int))then some ((x1.1.1,x1.1.2.1,x1.1.2.2),x1.2.1,x1.2.2.1,x1.2.2.2,x1.1.2.1)else bif(x0==([90]:List UInt8))then(CZ 24 1 x1.2.1 ([x1.2.2.1]:List Tq3)).bind fun x2=>some ((x1.1.1,(zi zj (x1.1.2.1+1)),false),x2,([]:List (Int×Int)),(0:Int),(0:Int))else((EC ([72,86,104,118]:List UInt8) x0).bind fun x3=>bif x3 then some (Sum.inr ((x1.1.1,(zi zj (x1.1.2.1+1)),x1.1.2.2),x1.2.1,x1.2.2.1,x0,(1:Int)))else some (Sum.inr ((x1.1.1,(zi zj (x1.1.2.1+1)),x1.1.2.2),x1.2.1,x1.2.2.1,x0,(2:Int)))).bind fun x4=>Sum.elim (fun x5=>some x5) (fun x6=>(Ad (fun(s:(Tq15×(List Int)×(List Tq3)×Tq3×(List UInt8)×Int×Int))=>ED s.1 s.2.1 s.2.2.1 s.2.2.2.1 s.2.2.2.2.1 s.2.2.2.2.2.1 s.2.2.2.2.2.2) ((x6.1.1,x6.1.2.1,x6.1.2.2),([]:List Int),x6.2.1,x6.2.2.1,x6.2.2.2.1,x6.2.2.2.2,(0:Int))).bind fun x7=>Sum.elim (fun x8=>(Bo (x8.1.1,x8.1.2.1,x8.1.2.2) x8.2.2.1 x8.2.2.2.1 x8.2.2.2.2 x8.2.1).bind fun x9=>(Ku (x9.2.2.2.1,x9.2.2.2.2)).bind fun x10=>bif(!x10)then some ((x9.1.1,x9.1.2.1,x9.1.2.2),x9.2.1,x9.2.2.1,(6:Int),(zi zj (x9.1.2.1-1)))else(CZ 16 2 x9.2.2.1 ([(x9.2.2.2.1,x9.2.2.2.2)]:List (Int×Int))).bind fun x11=>some ((x9.1.1,x9.1.2.1,true),x9.2.1,x11,(0:Int),(0:Int))) (fun x12=>some ((x12.1.1,x12.1.2.1,x12.1.2.2),x12.2.1,x12.2.2.1,x12.2.2.2.1,x12.2.2.2.2)) x7) x4
def TI:OKE:=fq Mq (fun x=>Au x.1 x.2.1 x.2.2) [XG,Rl,Wr,ZX,AN5] Tryz.func92
def EL (s0:Tq15) (s1:List Tq3) (s2:Tq3):Option (Tq15×(List Tq3)×Tq3⊕(Tq15×(List Tq3)×Tq3⊕(List Tq3)×Int×Int×Bool)):=bif decide (s0.2.1<(s0.1.length:Int))then(Au (s0.1,s0.2.1,s0.2.2) s1 s2).bind fun x0=>bif(x0.2.2.2.1 != (0:Int))then some (Sum.inr (Sum.inr (([]:List Tq3),x0.2.2.2.1,x0.2.2.2.2,false)))else some (Sum.inl ((x0.1.1,x0.1.2.1,x0.1.2.2),x0.2.1,x0.2.2.1))else some (Sum.inr (Sum.inl ((s0.1,s0.2.1,s0.2.2),s1,s2)))
def EZ (a0:List UInt8):Option (List Tq3×Int×Int×Bool):=(AV (a0.length:Int) 1 400).bind fun x0=>bif(!x0)then some (([]:List Tq3),(1:Int),(0:Int),false)else(Jd a0 ([32]:List UInt8)).bind fun x1=>(Ad (fun(s:(Tq15×(List Tq3)×Tq3))=>EL s.1 s.2.1 s.2.2) ((x1,(0:Int),false),([]:List Tq3),([]:List (Int×Int)))).bind fun x2=>Sum.elim (fun x3=>bif x3.1.2.2 then some (([]:List Tq3),(7:Int),(x3.1.1.length:Int),false)else some (x3.2.1,(0:Int),(0:Int),true)) (fun x4=>some (x4.1,x4.2.1,x4.2.2.1,x4.2.2.2)) x2
def LQ:OKE:=fq QT (fun x=>EZ x) [Gz,Ww,TI] Tryz.func22
def AQ (a0:Tq6):Option Bool:=(AV a0.1 (-(20:Int)) 20).bind fun x0=>bif x0 then(AV a0.2.1 (-(20:Int)) 20).bind fun x1=>bif x1 then(AV a0.2.2.1 1 8).bind fun x2=>bif x2 then(AV a0.2.2.2 1 8).bind fun x3=>some x3 else some false else some false else some false
def D7:OKE:=fq OG (fun x=>AQ x) [Gz] Tryz.func58
def Lb (s0:Tq5) (s1:List Int) (s2:Bool) (s3:Int):Option (Tq5×(List Int)×Bool×Int⊕Tq5×(List Int)×Bool):=bif decide (s3>0)then(CZ 8 1 s1 ([(zi zj (Int.tmod s3 65536))]:List Int)).bind fun x0=>some (Sum.inl ((s0.1,s0.2),x0,s2,(zi zk (Int.tdiv s3 65536))))else some (Sum.inr ((s0.1,s0.2),s1,s2))
def Ec (a0:Int):Option Tq12:=(bif decide (a0<0)then some (Sum.inr ((false,([]:List Int)),decide (a0<0),(zi zk ((0:Int)-(zi zk a0)))))else some (Sum.inr ((false,([]:List Int)),decide (a0<0),(zi zk a0)))).bind fun x0=>Sum.elim (fun x1=>some x1) (fun x2=>(Ad (fun(s:(Tq5×(List Int)×Bool×Int))=>Lb s.1 s.2.1 s.2.2.1 s.2.2.2) ((x2.1.1,x2.1.2),([]:List Int),x2.2.1,x2.2.2)).bind fun x3=>some (x3.2.2,x3.2.1)) x0
def Mh:OKE:=fq Aj7 (fun x=>Ec x) [] Tryz.func137
def A4 (a0:Int):Option Tq7:=(Ec a0).bind fun x0=>(Ec 1).bind fun x1=>some (x0.1,x0.2,x1.1,x1.2)
def F1:OKE:=fq Am9 (fun x=>A4 x) [Mh] Tryz.func73
def DR (s0:List Tq0) (s1:Tq3) (s2 s3:Int):Option ((List Tq0)×Tq3×Int×Int⊕(List Tq0)):=bif decide (s3<s2)then(AD s1 s3).bind fun x0=>(A4 x0.1).bind fun x1=>(A4 x0.2).bind fun x2=>(CZ 128 8 s0 ([(((x1.1,x1.2.1),x1.2.2.1,x1.2.2.2),(x2.1,x2.2.1),x2.2.2.1,x2.2.2.2)]:List Tq0)).bind fun x3=>some (Sum.inl (x3,s1,s2,(zi zj (s3+1))))else some (Sum.inr s0)
def J7 (a0:Tq3):Option (List Tq8):=(Ad (fun(s:((List Tq0)×Tq3×Int×Int))=>DR s.1 s.2.1 s.2.2.1 s.2.2.2) (([]:List Tq0),a0,(a0.length:Int),(0:Int))).bind fun x0=>some x0
def Ym:OKE:=fq YB (fun x=>J7 x) [F1] Tryz.func76
def II (a0:Int):Option Bool:=(AV a0 0 65535).bind fun x0=>some (!x0)
def Aa9:OKE:=fq QJ (fun x=>II x) [Gz] Tryz.func293
def Bc (s0:List Int) (s1 s2:Int):Option ((List Int)×Int×Int⊕(Unit⊕Int)):=bif decide (s2<s1)then(AD s0 s2).bind fun x0=>(II x0).bind fun x1=>bif x1 then some (Sum.inr (Sum.inr s2))else some (Sum.inl (s0,s1,(zi zj (s2+1))))else some (Sum.inr (Sum.inl ()))
def C4 (a0:List Int):Option Int:=(Ad (fun(s:Tq9)=>Bc s.1 s.2.1 s.2.2) (a0,(a0.length:Int),(0:Int))).bind fun x0=>Sum.elim (fun x1=>some (-(1:Int))) (fun x2=>some x2) x0
def Js:OKE:=fq C3 (fun x=>C4 x) [Aa9] Tryz.func233
def AL (a0:List Int):Option Bool:=(C4 a0).bind fun x0=>some (decide (x0>=0))
def Il:OKE:=fq CE (fun x=>AL x) [Js] Tryz.func180
def I1 (a0:Tq5):Option Bool:=bif decide ((a0.2.length:Int)>40)then some false else bif((a0.2.length:Int)==0)then bif a0.1 then some false else bif decide ((a0.2.length:Int)>0)then(AD a0.2 (zi zj ((a0.2.length:Int)-1))).bind fun x0=>bif(x0==0)then some false else(AL a0.2).bind fun x1=>some (!x1)else(AL a0.2).bind fun x2=>some (!x2)else bif decide ((a0.2.length:Int)>0)then(AD a0.2 (zi zj ((a0.2.length:Int)-1))).bind fun x3=>bif(x3==0)then some false else(AL a0.2).bind fun x4=>some (!x4)else(AL a0.2).bind fun x5=>some (!x5)
def UX:OKE:=fq VC (fun x=>I1 x) [Il] Tryz.func265
def JD (a0:Tq5):Option Bool:=(I1 (a0.1,a0.2)).bind fun x0=>some (!x0)
def Av5:OKE:=fq TE (fun x=>JD x) [UX] Tryz.func278
def AZ (s0:List Tq5) (s1 s2:Int):Option ((List Tq5)×Int×Int⊕(Unit⊕Int)):=bif decide (s2<s1)then(AD s0 s2).bind fun x0=>(JD (x0.1,x0.2)).bind fun x1=>bif x1 then some (Sum.inr (Sum.inr s2))else some (Sum.inl (s0,s1,(zi zj (s2+1))))else some (Sum.inr (Sum.inl ()))
def Cs (a0:List Tq5):Option Int:=(Ad (fun(s:((List Tq5)×Int×Int))=>AZ s.1 s.2.1 s.2.2) (a0,(a0.length:Int),(0:Int))).bind fun x0=>Sum.elim (fun x1=>some (-(1:Int))) (fun x2=>some x2) x0
def H0:OKE:=fq DZ (fun x=>Cs x) [Av5] Tryz.func302
def BY (a0:List Tq5):Option Bool:=(Cs a0).bind fun x0=>some (decide (x0>=0))
def Gw:OKE:=fq Ds (fun x=>BY x) [H0] Tryz.func277
def KN (a0:List Tq5):Option Bool:=(BY a0).bind fun x0=>some (!x0)
def AX5:OKE:=fq YV (fun x=>KN x) [Gw] Tryz.func234
def BT (a0:Tq5):Option Int:=bif((a0.2.length:Int)==0)then some (0:Int)else bif a0.1 then some (-(1:Int))else some (1:Int)
def ND:OKE:=fq Sp (fun x=>BT x) [] Tryz.func235
def Gm (a0:Int):Option Bool:=some (a0 != a0)
def Wu:OKE:=fq Oa (fun x=>Gm x) [] Tryz.func284
def CS (a0 a1:Int):Option Int:=(Gm a0).bind fun x0=>(Gm a1).bind fun x1=>bif x0 then bif x1 then some (0:Int)else some (-(1:Int))else bif x1 then some (1:Int)else bif decide (a0<a1)then some (-(1:Int))else bif decide (a0>a1)then some (1:Int)else some (0:Int)
def Lf:OKE:=fq Lu (fun x=>CS x.1 x.2) [Wu] Tryz.func248
def Bf (s0 s1:List Int) (s2:Int):Option ((List Int)×(List Int)×Int⊕(Unit⊕Int)):=bif decide (s2>=0)then(AD s0 s2).bind fun x0=>(AD s1 s2).bind fun x1=>bif(x0 != x1)then(AD s0 s2).bind fun x2=>(AD s1 s2).bind fun x3=>(CS x2 x3).bind fun x4=>some (Sum.inr (Sum.inr x4))else some (Sum.inl (s0,s1,(zi zj (s2-1))))else some (Sum.inr (Sum.inl ()))
def B3 (a0 a1:List Int):Option Int:=bif((a0.length:Int) != (a1.length:Int))then(CS (a0.length:Int) (a1.length:Int)).bind fun x0=>some x0 else(Ad (fun(s:((List Int)×(List Int)×Int))=>Bf s.1 s.2.1 s.2.2) (a0,a1,(zi zj ((a0.length:Int)-1)))).bind fun x1=>Sum.elim (fun x2=>some (0:Int)) (fun x3=>some x3) x1
def FZ:OKE:=fq L1 (fun x=>B3 x.1 x.2) [Lf] Tryz.func195
def Qb (s0:List Int) (s1:Int):Option ((List Int)×Int⊕(List Int)×Int):=bif decide (s1>0)then(AD s0 (zi zj (s1-1))).bind fun x0=>bif(x0==0)then some (Sum.inl (s0,(zi zj (s1-1))))else some (Sum.inr (s0,s1))else some (Sum.inr (s0,s1))
def Jt (a0:List Int):Option (List Int):=(Ad (fun(s:((List Int)×Int))=>Qb s.1 s.2) (a0,(a0.length:Int))).bind fun x0=>(FT (0:Int) x0.2 (List.length x0.1)).bind fun x1=>some (List.drop x1.1 (List.take x1.2 x0.1))
def WP:OKE:=fq A0k (fun x=>Jt x) [] Tryz.func247
def Fk (s0 s1:List Int) (s2 s3 s4:Int):Option ((List Int)×(List Int)×Int×Int×Int⊕(List Int)×Int):=bif decide (s4>=0)then(AD s1 s4).bind fun x0=>bif(s2==0)then none else(A2 s4 (List.length s0)).bind fun x1=>(AY s0 x1).bind fun x2=>bif(s2==0)then none else some (Sum.inl ((List.set s0 x1 (zi zj (Int.tdiv (zi zj ((zi zj (s3*65536))+x0)) s2))),s1,s2,(Int.tmod (zi zj ((zi zj (s3*65536))+x0)) s2),(zi zj (s4-1))))else some (Sum.inr (s0,s3))
def HJ (a0:List Int) (a1:Int):Option (List Int×Int):=(QB (a0.length:Int) 8 1).bind fun x0=>(Ad (fun(s:Tq16)=>Fk s.1 s.2.1 s.2.2.1 s.2.2.2.1 s.2.2.2.2) ((List.replicate x0 (0:Int)),a0,a1,(0:Int),(zi zj ((a0.length:Int)-1)))).bind fun x1=>(Jt x1.1).bind fun x2=>some (x2,x1.2)
def At5:OKE:=fq Sf (fun x=>HJ x.1 x.2) [WP] Tryz.func283
def Cf (a0:List Int):Option (List Int):=(neL a0).bind fun x0=>bif(Al3 (List.length a0) 8 1)then some a0 else none
def J4:Ent:=⟨B7,fun x=>Cf x⟩
def G4:TX:=⟨Tk,Rn,[],[4],[],B7⟩
theorem Mt(a0:List (Int)):wtF G4 Tryz.f246 a0=Cf a0:=by kernel_rfl
theorem K4:Eh (Ht Tryz.prog cfC A7N) J4:=P0 (X:=G4) ⟨A2u,T0,A2r⟩ (A5O rfl) (A0Y (by kernel_rfl)) ⟨Tryz.func246,rfl,by kernel_rfl,rfl⟩ (fun x=>by exact Mt x)
def B0 (a0:List Int):Option (List Int):=A3E Cf a0
def GL:Ent:=⟨B7,fun x=>B0 x⟩
theorem LM:Eh RR GL:=AV4 K4 (.head _) fun _ _ _ _ _ h=>Or.inl h
def G6:OKE:=⟨GL,LM,rfl⟩
def Bm (a0:Bool) (a1:List Int):Option (List Int×Bool):=(Jt a1).bind fun x0=>(B0 x0).bind fun x1=>bif a0 then some (x1,decide ((x1.length:Int)>0))else some (x1,false)
def EW:OKE:=fq Am7 (fun x=>Bm x.1 x.2) [WP,G6] Tryz.func193
def Gh (s0 s1 s2:Tq5) (s3:List Int) (s4 s5 s6:Int) (s7:List Int) (s8 s9:Int) (s10:List Int) (s11 s12:Int):Option (Tq5×Tq5×Tq5×(List Int)×Int×Int×Int×(List Int)×Int×Int×(List Int)×Int×Int⊕Tq5×Tq5×Tq5×(List Int)×Int×Int×(List Int)×Int×Int):=bif decide (s12<s11)then(AD s10 s12).bind fun x0=>(A2 (zi zj (s4+s12)) (List.length s3)).bind fun x1=>(AY s3 x1).bind fun x2=>(A2 (zi zj (s4+s12)) (List.length s3)).bind fun x3=>(AY s3 x3).bind fun x4=>some (Sum.inl ((s0.1,s0.2),(s1.1,s1.2),(s2.1,s2.2),(List.set s3 x3 (Int.tmod (zi zj (s6+(zi zj (x2+(zi zj (s5*x0)))))) 65536)),s4,s5,(zi zj (Int.tdiv (zi zj (s6+(zi zj (x2+(zi zj (s5*x0)))))) 65536)),s7,s8,s9,s10,s11,(zi zj (s12+1))))else some (Sum.inr ((s0.1,s0.2),(s1.1,s1.2),(s2.1,s2.2),s3,s4,s6,s7,s8,s9))
def Iy (s0 s1 s2:Tq5) (s3 s4:List Int) (s5 s6:Int):Option (Tq5×Tq5×Tq5×(List Int)×(List Int)×Int×Int⊕Tq5×Tq5×Tq5×(List Int)):=bif decide (s6<s5)then(AD s4 s6).bind fun x0=>(Ad (fun(s:(Tq5×Tq5×Tq5×(List Int)×Int×Int×Int×(List Int)×Int×Int×(List Int)×Int×Int))=>Gh s.1 s.2.1 s.2.2.1 s.2.2.2.1 s.2.2.2.2.1 s.2.2.2.2.2.1 s.2.2.2.2.2.2.1 s.2.2.2.2.2.2.2.1 s.2.2.2.2.2.2.2.2.1 s.2.2.2.2.2.2.2.2.2.1 s.2.2.2.2.2.2.2.2.2.2.1 s.2.2.2.2.2.2.2.2.2.2.2.1 s.2.2.2.2.2.2.2.2.2.2.2.2) ((s0.1,s0.2),(s1.1,s1.2),(s2.1,s2.2),s3,s6,x0,(0:Int),s4,s5,s6,s1.2,(s1.2.length:Int),(0:Int))).bind fun x1=>(A2 (zi zj (x1.2.2.2.2.1+(x1.2.1.2.length:Int))) (List.length x1.2.2.2.1)).bind fun x2=>(AY x1.2.2.2.1 x2).bind fun x3=>(A2 (zi zj (x1.2.2.2.2.1+(x1.2.1.2.length:Int))) (List.length x1.2.2.2.1)).bind fun x4=>(AY x1.2.2.2.1 x4).bind fun x5=>some (Sum.inl ((x1.1.1,x1.1.2),(x1.2.1.1,x1.2.1.2),(x1.2.2.1.1,x1.2.2.1.2),(List.set x1.2.2.2.1 x4 (zi zj (x3+x1.2.2.2.2.2.1))),x1.2.2.2.2.2.2.1,x1.2.2.2.2.2.2.2.1,(zi zj (x1.2.2.2.2.2.2.2.2+1))))else some (Sum.inr ((s0.1,s0.2),(s1.1,s1.2),(s2.1,s2.2),s3))
def BK (a0 a1:Tq5):Option (List Int×Bool):=(QB (zi zj ((a0.2.length:Int)+(a1.2.length:Int))) 8 1).bind fun x0=>(Ad (fun(s:(Tq5×Tq5×Tq5×(List Int)×(List Int)×Int×Int))=>Iy s.1 s.2.1 s.2.2.1 s.2.2.2.1 s.2.2.2.2.1 s.2.2.2.2.2.1 s.2.2.2.2.2.2) ((a0.1,a0.2),(a1.1,a1.2),(false,([]:List Int)),(List.replicate x0 (0:Int)),a0.2,(a0.2.length:Int),(0:Int))).bind fun x1=>(Bm (!(x1.1.1==x1.2.1.1)) x1.2.2.2).bind fun x2=>some (x2.1,x2.2)
def Ja:OKE:=fq Wn (fun x=>BK x.1 x.2) [EW] Tryz.func139
def PM (s0 s1 s2:List Int) (s3 s4:Int):Option ((List Int)×(List Int)×(List Int)×Int×Int⊕(List Int)×(List Int)×Int×Int):=bif decide ((s0.length:Int)<(zi zj ((s2.length:Int)+1)))then(CZ 8 1 s0 ([0]:List Int)).bind fun x0=>some (Sum.inl (x0,s1,s2,s3,s4))else some (Sum.inr (s0,s1,s3,s4))
def Dk (s0 s1 s2:List Int) (s3 s4:Int) (s5 s6 s7:Int):Option ((List Int)×(List Int)×(List Int)×Int×Int×Int×Int×Int⊕(List Int)×(List Int)×(List Int)×Int×Int×Int×Int):=(bif decide (s6>=65536)then some (Sum.inr (s0,s1,s2,s3,s4,s5,s6,s7))else bif decide (s7<65536)then(A2 (zi zj (s3-2)) (List.length s1)).bind fun x0=>(AY s1 x0).bind fun x1=>(A2 (zi zj ((zi zj (s5+s3))-2)) (List.length s0)).bind fun x2=>(AY s0 x2).bind fun x3=>bif decide ((zi zj (s6*x1))>(zi zj ((zi zj (s7*65536))+x3)))then some (Sum.inr (s0,s1,s2,s3,s4,s5,s6,s7))else some (Sum.inl (Sum.inr (s0,s1,s2,s3,s4,s5,s6)))else some (Sum.inl (Sum.inr (s0,s1,s2,s3,s4,s5,s6)))).bind fun x4=>Sum.elim (fun x5=>some x5) (fun x6=>(A2 (zi zj (x6.2.2.2.1-1)) (List.length x6.2.1)).bind fun x7=>(AY x6.2.1 x7).bind fun x8=>some (Sum.inl (x6.1,x6.2.1,x6.2.2.1,x6.2.2.2.1,x6.2.2.2.2.1,x6.2.2.2.2.2.1,(zi zj (x6.2.2.2.2.2.2.1-1)),(zi zj (x6.2.2.2.2.2.2.2+x8))))) x4
def Fi (s0 s1 s2:List Int) (s3 s4:Int) (s5 s6:Int) (s7 s8 s9:Int):Option Tq17:=bif decide (s9<s8)then(A2 (zi zj (s5+s9)) (List.length s0)).bind fun x0=>(AY s0 x0).bind fun x1=>(A2 s9 (List.length s1)).bind fun x2=>(AY s1 x2).bind fun x3=>(bif decide ((zi zj ((zi zj (x1-(zi zj (s6*x3))))-s7))<0)then some (Sum.inr (s0,s1,s2,s3,s4,s5,s6,(zi zj (Int.tdiv (zi zj ((zi zj ((zi zj ((0:Int)-(zi zj ((zi zj (x1-(zi zj (s6*x3))))-s7))))+65536))-1)) 65536)),s9,(zi zj ((zi zj ((zi zj (x1-(zi zj (s6*x3))))-s7))+(zi zj ((zi zj (Int.tdiv (zi zj ((zi zj ((zi zj ((0:Int)-(zi zj ((zi zj (x1-(zi zj (s6*x3))))-s7))))+65536))-1)) 65536))*65536)))),s8,s9))else some (Sum.inr (s0,s1,s2,s3,s4,s5,s6,(0:Int),s9,(zi zj ((zi zj (x1-(zi zj (s6*x3))))-s7)),s8,s9))).bind fun x4=>Sum.elim (fun x5=>some x5) (fun x6=>(A2 (zi zj (x6.2.2.2.2.2.1+x6.2.2.2.2.2.2.2.2.1)) (List.length x6.1)).bind fun x7=>(AY x6.1 x7).bind fun x8=>some (Sum.inl ((List.set x6.1 x7 x6.2.2.2.2.2.2.2.2.2.1),x6.2.1,x6.2.2.1,x6.2.2.2.1,x6.2.2.2.2.1,x6.2.2.2.2.2.1,x6.2.2.2.2.2.2.1,x6.2.2.2.2.2.2.2.1,x6.2.2.2.2.2.2.2.2.2.2.1,(zi zj (x6.2.2.2.2.2.2.2.2.2.2.2+1))))) x4 else some (Sum.inr (s0,s1,s2,s3,s4,s5,s6,s7))
def FH (s0 s1 s2:List Int) (s3 s4:Int) (s5 s6:Int) (s7 s8 s9:Int):Option Tq17:=bif decide (s9<s8)then(A2 (zi zj (s5+s9)) (List.length s0)).bind fun x0=>(AY s0 x0).bind fun x1=>(A2 s9 (List.length s1)).bind fun x2=>(AY s1 x2).bind fun x3=>(A2 (zi zj (s5+s9)) (List.length s0)).bind fun x4=>(AY s0 x4).bind fun x5=>some (Sum.inl ((List.set s0 x4 (Int.tmod (zi zj (s7+(zi zj (x1+x3)))) 65536)),s1,s2,s3,s4,s5,s6,(zi zj (Int.tdiv (zi zj (s7+(zi zj (x1+x3)))) 65536)),s8,(zi zj (s9+1))))else some (Sum.inr (s0,s1,s2,s3,s4,s5,s6,s7))
def Dp (s0 s1 s2:List Int) (s3 s4 s5:Int):Option ((List Int)×(List Int)×(List Int)×Int×Int×Int⊕(List Int)×(List Int)×Int×Int):=bif decide (s5>=0)then(A2 (zi zj (s5+s3)) (List.length s0)).bind fun x0=>(AY s0 x0).bind fun x1=>(A2 (zi zj ((zi zj (s5+s3))-1)) (List.length s0)).bind fun x2=>(AY s0 x2).bind fun x3=>(A2 (zi zj (s3-1)) (List.length s1)).bind fun x4=>(AY s1 x4).bind fun x5=>bif(x5==0)then none else(A2 (zi zj (s3-1)) (List.length s1)).bind fun x6=>(AY s1 x6).bind fun x7=>bif(x7==0)then none else(Ad (fun(s:((List Int)×(List Int)×(List Int)×Int×Int×Int×Int×Int))=>Dk s.1 s.2.1 s.2.2.1 s.2.2.2.1 s.2.2.2.2.1 s.2.2.2.2.2.1 s.2.2.2.2.2.2.1 s.2.2.2.2.2.2.2) (s0,s1,s2,s3,s4,s5,(zi zj (Int.tdiv (zi zj ((zi zj (x1*65536))+x3)) x5)),(Int.tmod (zi zj ((zi zj (x1*65536))+x3)) x7))).bind fun x8=>(Ad (fun(s:((List Int)×(List Int)×(List Int)×Int×Int×Int×Int×Int×Int×Int))=>Fi s.1 s.2.1 s.2.2.1 s.2.2.2.1 s.2.2.2.2.1 s.2.2.2.2.2.1 s.2.2.2.2.2.2.1 s.2.2.2.2.2.2.2.1 s.2.2.2.2.2.2.2.2.1 s.2.2.2.2.2.2.2.2.2) (x8.1,x8.2.1,x8.2.2.1,x8.2.2.2.1,x8.2.2.2.2.1,x8.2.2.2.2.2.1,x8.2.2.2.2.2.2,(0:Int),x8.2.2.2.1,(0:Int))).bind fun x9=>(A2 (zi zj (x9.2.2.2.2.2.1+x9.2.2.2.1)) (List.length x9.1)).bind fun x10=>(AY x9.1 x10).bind fun x11=>(A2 (zi zj (x9.2.2.2.2.2.1+x9.2.2.2.1)) (List.length x9.1)).bind fun x12=>(AY x9.1 x12).bind fun x13=>(A2 (zi zj (x9.2.2.2.2.2.1+x9.2.2.2.1)) (List.length (List.set x9.1 x12 (zi zj (x11-x9.2.2.2.2.2.2.2))))).bind fun x14=>(AY (List.set x9.1 x12 (zi zj (x11-x9.2.2.2.2.2.2.2))) x14).bind fun x15=>bif decide (x15<0)then(Ad (fun(s:((List Int)×(List Int)×(List Int)×Int×Int×Int×Int×Int×Int×Int))=>FH s.1 s.2.1 s.2.2.1 s.2.2.2.1 s.2.2.2.2.1 s.2.2.2.2.2.1 s.2.2.2.2.2.2.1 s.2.2.2.2.2.2.2.1 s.2.2.2.2.2.2.2.2.1 s.2.2.2.2.2.2.2.2.2) ((List.set x9.1 x12 (zi zj (x11-x9.2.2.2.2.2.2.2))),x9.2.1,x9.2.2.1,x9.2.2.2.1,x9.2.2.2.2.1,x9.2.2.2.2.2.1,(zi zj (x9.2.2.2.2.2.2.1-1)),(0:Int),x9.2.2.2.1,(0:Int))).bind fun x16=>(A2 (zi zj (x16.2.2.2.2.2.1+x16.2.2.2.1)) (List.length x16.1)).bind fun x17=>(AY x16.1 x17).bind fun x18=>(A2 (zi zj (x16.2.2.2.2.2.1+x16.2.2.2.1)) (List.length x16.1)).bind fun x19=>(AY x16.1 x19).bind fun x20=>(A2 x16.2.2.2.2.2.1 (List.length x16.2.2.1)).bind fun x21=>(AY x16.2.2.1 x21).bind fun x22=>some (Sum.inl ((List.set x16.1 x19 (zi zj (x18+x16.2.2.2.2.2.2.2))),x16.2.1,(List.set x16.2.2.1 x21 x16.2.2.2.2.2.2.1),x16.2.2.2.1,x16.2.2.2.2.1,(zi zj (x16.2.2.2.2.2.1-1))))else(A2 x9.2.2.2.2.2.1 (List.length x9.2.2.1)).bind fun x23=>(AY x9.2.2.1 x23).bind fun x24=>some (Sum.inl ((List.set x9.1 x12 (zi zj (x11-x9.2.2.2.2.2.2.2))),x9.2.1,(List.set x9.2.2.1 x23 x9.2.2.2.2.2.2.1),x9.2.2.2.1,x9.2.2.2.2.1,(zi zj (x9.2.2.2.2.2.1-1))))else some (Sum.inr (s0,s2,s3,s4))
def HD (a0 a1:List Int):Option (List Int×List Int):=(B3 a0 a1).bind fun x0=>bif decide (x0<0)then some (([]:List Int),a0)else bif((a1.length:Int)==1)then(AD a1 0).bind fun x1=>(HJ a0 x1).bind fun x2=>(Jt ([x2.2]:List Int)).bind fun x3=>some (x2.1,x3)else(AD a1 (zi zj ((a1.length:Int)-1))).bind fun x4=>bif((zi zj (x4+1))==0)then none else(Bm false a0).bind fun x5=>(Ec (zi zj (Int.tdiv 65536 (zi zj (x4+1))))).bind fun x6=>(BK (x5.2,x5.1) (x6.1,x6.2)).bind fun x7=>(CZ 8 1 x7.1 ([0]:List Int)).bind fun x8=>(Bm false a1).bind fun x9=>(Ec (zi zj (Int.tdiv 65536 (zi zj (x4+1))))).bind fun x10=>(BK (x9.2,x9.1) (x10.1,x10.2)).bind fun x11=>(Ad (fun(s:Tq14)=>PM s.1 s.2.1 s.2.2.1 s.2.2.2.1 s.2.2.2.2) (x8,x11.1,a0,(a1.length:Int),(zi zj (Int.tdiv 65536 (zi zj (x4+1)))))).bind fun x12=>(QB (zi zj ((x12.1.length:Int)-x12.2.2.1)) 8 1).bind fun x13=>(Ad (fun(s:((List Int)×(List Int)×(List Int)×Int×Int×Int))=>Dp s.1 s.2.1 s.2.2.1 s.2.2.2.1 s.2.2.2.2.1 s.2.2.2.2.2) (x12.1,x12.2.1,(List.replicate x13 (0:Int)),x12.2.2.1,x12.2.2.2,(zi zj ((zi zj ((x12.1.length:Int)-x12.2.2.1))-1)))).bind fun x14=>(FT (0:Int) x14.2.2.1 (List.length x14.1)).bind fun x15=>(Jt (List.drop x15.1 (List.take (x15.1+(x15.2-x15.1)) x14.1))).bind fun x16=>(HJ x16 x14.2.2.2).bind fun x17=>(Jt x14.2.1).bind fun x18=>some (x18,x17.1)
def Sj:OKE:=fq S1 (fun x=>HD x.1 x.2) [FZ,At5,WP,EW,Mh,Ja] Tryz.func245
def Ix (s0:Tq5) (s1 s2:List Int):Option (Tq5×(List Int)×(List Int)⊕Tq5×(List Int)):=bif decide ((s2.length:Int)>0)then(HD s1 s2).bind fun x0=>some (Sum.inl ((s0.1,s0.2),s2,x0.2))else some (Sum.inr ((s0.1,s0.2),s1))
def I4 (a0 a1:Tq5):Option Tq12:=(Ad (fun(s:(Tq5×(List Int)×(List Int)))=>Ix s.1 s.2.1 s.2.2) ((false,([]:List Int)),a0.2,a1.2)).bind fun x0=>(Bm false x0.2).bind fun x1=>some (x1.2,x1.1)
def VG:OKE:=fq U0 (fun x=>I4 x.1 x.2) [Sj,EW] Tryz.func190
def Fz (a0 a1:Tq5):Option Int:=(BT (a0.1,a0.2)).bind fun x0=>(BT (a1.1,a1.2)).bind fun x1=>bif(x0 != x1)then(BT (a0.1,a0.2)).bind fun x2=>(BT (a1.1,a1.2)).bind fun x3=>(CS x2 x3).bind fun x4=>some x4 else(BT (a0.1,a0.2)).bind fun x5=>(B3 a0.2 a1.2).bind fun x6=>some (zi zj (x5*x6))
def Pg:OKE:=fq Pj (fun x=>Fz x.1 x.2) [ND,Lf,FZ] Tryz.func236
def Lh (a0:Tq2):Option Bool:=(KN ([(a0.1,a0.2.1),(a0.2.2.1,a0.2.2.2)]:List Tq5)).bind fun x0=>bif x0 then(BT (a0.2.2.1,a0.2.2.2)).bind fun x1=>bif decide (x1>0)then(I4 (a0.1,a0.2.1) (a0.2.2.1,a0.2.2.2)).bind fun x2=>(Ec 1).bind fun x3=>(Fz (x2.1,x2.2) (x3.1,x3.2)).bind fun x4=>some (x4==0)else some false else some false
def AA2:OKE:=fq U4 (fun x=>Lh x) [AX5,ND,VG,Mh,Pg] Tryz.func182
def IH (s0:List Tq1) (s1 s2:Int):Option ((List Tq1)×Int×Int⊕(Unit⊕Bool)):=bif decide (s2<s1)then(AD s0 s2).bind fun x0=>(Lh (x0.1.1,x0.1.2,x0.2.1,x0.2.2)).bind fun x1=>bif(!x1)then some (Sum.inr (Sum.inr false))else some (Sum.inl (s0,s1,(zi zj (s2+1))))else some (Sum.inr (Sum.inl ()))
def FE (a0:List Tq1):Option Bool:=(Ad (fun(s:((List Tq1)×Int×Int))=>IH s.1 s.2.1 s.2.2) (a0,(a0.length:Int),(0:Int))).bind fun x0=>Sum.elim (fun x1=>some true) (fun x2=>some x2) x0
def VV:OKE:=fq VP (fun x=>FE x) [AA2] Tryz.func124
def Cp (a0:Tq2) (a1:Int):Option Bool:=bif decide ((a0.2.1.length:Int)<=a1)then some (decide ((a0.2.2.2.length:Int)<=a1))else some false
def N4:OKE:=fq N7 (fun x=>Cp x.1 x.2) [] Tryz.func144
def GV (a0:Tq4) (a1:Int):Option Bool:=(FE ([((a0.1,a0.2.1),a0.2.2.1,a0.2.2.2.1),((a0.2.2.2.2.1,a0.2.2.2.2.2.1),a0.2.2.2.2.2.2.1,a0.2.2.2.2.2.2.2)]:List Tq1)).bind fun x0=>bif x0 then(Cp (a0.1,a0.2.1,a0.2.2.1,a0.2.2.2.1) a1).bind fun x1=>bif x1 then(Cp (a0.2.2.2.2.1,a0.2.2.2.2.2.1,a0.2.2.2.2.2.2.1,a0.2.2.2.2.2.2.2) a1).bind fun x2=>some x2 else some false else some false
def Ad2:OKE:=fq Ak9 (fun x=>GV x.1 x.2) [VV,N4] Tryz.func225
def He (a0:Tq4):Option Bool:=(GV (a0.1,a0.2.1,a0.2.2.1,a0.2.2.2.1,a0.2.2.2.2.1,a0.2.2.2.2.2.1,a0.2.2.2.2.2.2.1,a0.2.2.2.2.2.2.2) 8).bind fun x0=>some (!x0)
def ZT:OKE:=fq Pv (fun x=>He x) [Ad2] Tryz.func224
def Ay (s0:List Tq0) (s1 s2:Int):Option ((List Tq0)×Int×Int⊕(Unit⊕Int)):=bif decide (s2<s1)then(AD s0 s2).bind fun x0=>(He (x0.1.1.1,x0.1.1.2,x0.1.2.1,x0.1.2.2,x0.2.1.1,x0.2.1.2,x0.2.2.1,x0.2.2.2)).bind fun x1=>bif x1 then some (Sum.inr (Sum.inr s2))else some (Sum.inl (s0,s1,(zi zj (s2+1))))else some (Sum.inr (Sum.inl ()))
def Ct (a0:List Tq0):Option Int:=(Ad (fun(s:((List Tq0)×Int×Int))=>Ay s.1 s.2.1 s.2.2) (a0,(a0.length:Int),(0:Int))).bind fun x0=>Sum.elim (fun x1=>some (-(1:Int))) (fun x2=>some x2) x0
def HZ:OKE:=fq D0 (fun x=>Ct x) [ZT] Tryz.func267
def Bg (a0:List Tq0):Option Bool:=(Ct a0).bind fun x0=>some (decide (x0>=0))
def Gx:OKE:=fq Dq (fun x=>Bg x) [HZ] Tryz.func223
def EB (a0:List Tq0):Option Bool:=bif decide ((a0.length:Int)<=40)then(Bg a0).bind fun x0=>some (!x0)else some false
def JH:OKE:=fq SL (fun x=>EB x) [Gx] Tryz.func174
def HN (a0 a1:Tq2):Option Int:=(BK (a0.1,a0.2.1) (a1.2.2.1,a1.2.2.2)).bind fun x0=>(BK (a1.1,a1.2.1) (a0.2.2.1,a0.2.2.2)).bind fun x1=>(Fz (x0.2,x0.1) (x1.2,x1.1)).bind fun x2=>some x2
def YT:OKE:=fq Oo (fun x=>HN x.1 x.2) [Ja,Pg] Tryz.func264
def DL (a0 a1:Tq2):Option Bool:=(HN (a0.1,a0.2.1,a0.2.2.1,a0.2.2.2) (a1.1,a1.2.1,a1.2.2.1,a1.2.2.2)).bind fun x0=>some (decide (x0<0))
def NA:OKE:=fq Tr (fun x=>DL x.1 x.2) [YT] Tryz.func220
def BX (a0:Tq4) (a1:Bool):Option Tq7:=bif a1 then some (a0.2.2.2.2.1,a0.2.2.2.2.2.1,a0.2.2.2.2.2.2.1,a0.2.2.2.2.2.2.2)else some (a0.1,a0.2.1,a0.2.2.1,a0.2.2.2.1)
def Ko:OKE:=fq KK (fun x=>BX x.1 x.2) [] Tryz.func309
def Ij (a0 a1:Bool) (a2:Tq2) (a3:Tq4):Option (Bool×Bool×Tq7×Bool):=bif a0 then(BX (a3.1,a3.2.1,a3.2.2.1,a3.2.2.2.1,a3.2.2.2.2.1,a3.2.2.2.2.2.1,a3.2.2.2.2.2.2.1,a3.2.2.2.2.2.2.2) a1).bind fun x0=>(DL (x0.1,x0.2.1,x0.2.2.1,x0.2.2.2) (a2.1,a2.2.1,a2.2.2.1,a2.2.2.2)).bind fun x1=>some (a0,a1,(a2.1,a2.2.1,a2.2.2.1,a2.2.2.2),(!x1))else(BX (a3.1,a3.2.1,a3.2.2.1,a3.2.2.2.1,a3.2.2.2.2.1,a3.2.2.2.2.2.1,a3.2.2.2.2.2.2.1,a3.2.2.2.2.2.2.2) a1).bind fun x2=>(DL (a2.1,a2.2.1,a2.2.2.1,a2.2.2.2) (x2.1,x2.2.1,x2.2.2.1,x2.2.2.2)).bind fun x3=>some (a0,a1,(a2.1,a2.2.1,a2.2.2.1,a2.2.2.2),(!x3))
def AX8:OKE:=fq XQ (fun x=>Ij x.1 x.2.1 x.2.2.1 x.2.2.2) [Ko,NA] Tryz.func308
def GI (a0:Tq5):Option Tq12:=(Bm (!a0.1) a0.2).bind fun x0=>some (x0.2,x0.1)
def OQ:OKE:=fq U2 (fun x=>GI x) [EW] Tryz.func191
def Lt (a0:Tq2):Option Tq7:=(GI (a0.1,a0.2.1)).bind fun x0=>(Bm false a0.2.2.2).bind fun x1=>some (x0.1,x0.2,x1.2,x1.1)
def AI9:OKE:=fq VQ (fun x=>Lt x) [OQ,EW] Tryz.func197
def FA (s0 s1 s2:List Int) (s3 s4:Int):Option Tq20:=(bif decide (s4<(A5l ([(s1.length:Int),(s2.length:Int)]:List Int)))then some (Sum.inr (s0,s1,s2,s3,s4))else bif decide (s3>0)then some (Sum.inr (s0,s1,s2,s3,s4))else some (Sum.inl (Sum.inr s0))).bind fun x0=>Sum.elim (fun x1=>some x1) (fun x2=>(bif decide (x2.2.2.2.2<(x2.2.1.length:Int))then(AD x2.2.1 x2.2.2.2.2).bind fun x3=>some (Sum.inr (x2.1,x2.2.1,x2.2.2.1,(zi zj (x2.2.2.2.1+x3)),x2.2.2.2.2))else some (Sum.inr (x2.1,x2.2.1,x2.2.2.1,x2.2.2.2.1,x2.2.2.2.2))).bind fun x4=>Sum.elim (fun x5=>some x5) (fun x6=>(bif decide (x6.2.2.2.2<(x6.2.2.1.length:Int))then(AD x6.2.2.1 x6.2.2.2.2).bind fun x7=>some (Sum.inr (x6.1,x6.2.1,x6.2.2.1,(zi zj (x6.2.2.2.1+x7)),x6.2.2.2.2))else some (Sum.inr (x6.1,x6.2.1,x6.2.2.1,x6.2.2.2.1,x6.2.2.2.2))).bind fun x8=>Sum.elim (fun x9=>some x9) (fun x10=>(CZ 8 1 x10.1 ([(Int.tmod x10.2.2.2.1 65536)]:List Int)).bind fun x11=>some (Sum.inl (x11,x10.2.1,x10.2.2.1,(zi zj (Int.tdiv x10.2.2.2.1 65536)),(zi zj (x10.2.2.2.2+1))))) x8) x4) x0
def Jx (a0 a1:List Int):Option (List Int):=(Ad (fun(s:Tq14)=>FA s.1 s.2.1 s.2.2.1 s.2.2.2.1 s.2.2.2.2) (([]:List Int),a0,a1,(0:Int),(0:Int))).bind fun x0=>some x0
def Ao2:OKE:=fq Tf (fun x=>Jx x.1 x.2) [] Tryz.func194
def Hm (s0 s1:List Int) (s2 s3 s4:Int):Option Tq21:=bif decide (s4<s3)then(A2 s4 (List.length s0)).bind fun x0=>(AY s0 x0).bind fun x1=>(A2 s4 (List.length s0)).bind fun x2=>(AY s0 x2).bind fun x3=>(bif decide (s4<(s1.length:Int))then(A2 s4 (List.length (List.set s0 x2 (zi zj (x1-s2))))).bind fun x4=>(AY (List.set s0 x2 (zi zj (x1-s2))) x4).bind fun x5=>(AD s1 s4).bind fun x6=>(A2 s4 (List.length (List.set s0 x2 (zi zj (x1-s2))))).bind fun x7=>(AY (List.set s0 x2 (zi zj (x1-s2))) x7).bind fun x8=>some (Sum.inr ((List.set (List.set s0 x2 (zi zj (x1-s2))) x7 (zi zj (x5-x6))),s1,s4,s3,s4))else some (Sum.inr ((List.set s0 x2 (zi zj (x1-s2))),s1,s4,s3,s4))).bind fun x9=>Sum.elim (fun x10=>some x10) (fun x11=>(A2 x11.2.2.1 (List.length x11.1)).bind fun x12=>(AY x11.1 x12).bind fun x13=>bif decide (x13<0)then(A2 x11.2.2.1 (List.length x11.1)).bind fun x14=>(AY x11.1 x14).bind fun x15=>(A2 x11.2.2.1 (List.length x11.1)).bind fun x16=>(AY x11.1 x16).bind fun x17=>some (Sum.inl ((List.set x11.1 x16 (zi zj (x15+65536))),x11.2.1,(1:Int),x11.2.2.2.1,(zi zj (x11.2.2.2.2+1))))else some (Sum.inl (x11.1,x11.2.1,(0:Int),x11.2.2.2.1,(zi zj (x11.2.2.2.2+1))))) x9 else some (Sum.inr s0)
def Hq (a0 a1:List Int):Option (List Int):=(B0 a0).bind fun x0=>(Ad (fun(s:Tq16)=>Hm s.1 s.2.1 s.2.2.1 s.2.2.2.1 s.2.2.2.2) (x0,a1,(0:Int),(x0.length:Int),(0:Int))).bind fun x1=>(Jt x1).bind fun x2=>some x2
def Ap8:OKE:=fq Sw (fun x=>Hq x.1 x.2) [G6,WP] Tryz.func196
def Jb (a0 a1:Tq5):Option Tq12:=bif(a0.1==a1.1)then(Jx a0.2 a1.2).bind fun x0=>(Bm a0.1 x0).bind fun x1=>some (x1.2,x1.1)else(B3 a0.2 a1.2).bind fun x2=>bif decide (x2>=0)then(Hq a0.2 a1.2).bind fun x3=>(Bm a0.1 x3).bind fun x4=>some (x4.2,x4.1)else(Hq a1.2 a0.2).bind fun x5=>(Bm a1.1 x5).bind fun x6=>some (x6.2,x6.1)
def Wb:OKE:=fq VH (fun x=>Jb x.1 x.2) [Ao2,EW,FZ,Ap8] Tryz.func140
def GO (a0 a1:Tq5):Option Tq22:=(HD a0.2 a1.2).bind fun x0=>(Bm (!(a0.1==a1.1)) x0.1).bind fun x1=>(Bm a0.1 x0.2).bind fun x2=>some ((x1.2,x1.1),x2.2,x2.1)
def V8:OKE:=fq Wi (fun x=>GO x.1 x.2) [Sj,EW] Tryz.func192
def JQ (a0 a1:Tq5):Option Tq7:=(I4 (a0.1,a0.2) (a1.1,a1.2)).bind fun x0=>(bif a1.1 then(GI (x0.1,x0.2)).bind fun x1=>some (Sum.inr ((a0.1,a0.2),(a1.1,a1.2),(false,([]:List Int),false,([]:List Int)),x1.1,x1.2))else some (Sum.inr ((a0.1,a0.2),(a1.1,a1.2),(false,([]:List Int),false,([]:List Int)),x0.1,x0.2))).bind fun x2=>Sum.elim (fun x3=>some x3) (fun x4=>(GO (x4.1.1,x4.1.2) (x4.2.2.2.1,x4.2.2.2.2)).bind fun x5=>(GO (x4.2.1.1,x4.2.1.2) (x4.2.2.2.1,x4.2.2.2.2)).bind fun x6=>some (x5.1.1,x5.1.2,x6.1.1,x6.1.2)) x2
def UO:OKE:=fq Ab9 (fun x=>JQ x.1 x.2) [VG,OQ,V8] Tryz.func138
def Cl (a0 a1:Tq2):Option Tq7:=(BK (a0.1,a0.2.1) (a1.2.2.1,a1.2.2.2)).bind fun x0=>(BK (a1.1,a1.2.1) (a0.2.2.1,a0.2.2.2)).bind fun x1=>(Jb (x0.2,x0.1) (x1.2,x1.1)).bind fun x2=>(BK (a0.2.2.1,a0.2.2.2) (a1.2.2.1,a1.2.2.2)).bind fun x3=>(JQ (x2.1,x2.2) (x3.2,x3.1)).bind fun x4=>some (x4.1,x4.2.1,x4.2.2.1,x4.2.2.2)
def Fw:OKE:=fq Wl (fun x=>Cl x.1 x.2) [Ja,Wb,UO] Tryz.func74
def Fm (a0 a1:Tq2):Option Tq7:=(Lt (a1.1,a1.2.1,a1.2.2.1,a1.2.2.2)).bind fun x0=>(Cl (a0.1,a0.2.1,a0.2.2.1,a0.2.2.2) (x0.1,x0.2.1,x0.2.2.1,x0.2.2.2)).bind fun x1=>some (x1.1,x1.2.1,x1.2.2.1,x1.2.2.2)
def O0:OKE:=fq UZ (fun x=>Fm x.1 x.2) [AI9,Fw] Tryz.func142
def GK (a0 a1:Tq2):Option Tq7:=(BK (a0.1,a0.2.1) (a1.2.2.1,a1.2.2.2)).bind fun x0=>(BK (a0.2.2.1,a0.2.2.2) (a1.1,a1.2.1)).bind fun x1=>(JQ (x0.2,x0.1) (x1.2,x1.1)).bind fun x2=>some (x2.1,x2.2.1,x2.2.2.1,x2.2.2.2)
def VT:OKE:=fq VA (fun x=>GK x.1 x.2) [Ja,UO] Tryz.func198
def CM (a0 a1:Tq2):Option Tq7:=(BK (a0.1,a0.2.1) (a1.1,a1.2.1)).bind fun x0=>(BK (a0.2.2.1,a0.2.2.2) (a1.2.2.1,a1.2.2.2)).bind fun x1=>(JQ (x0.2,x0.1) (x1.2,x1.1)).bind fun x2=>some (x2.1,x2.2.1,x2.2.2.1,x2.2.2.2)
def PN:OKE:=fq V7 (fun x=>CM x.1 x.2) [Ja,UO] Tryz.func141
def WI (a0 a1:Tq4) (a2:Tq2):Option Tq11:=(A4 1).bind fun x0=>(Fm (x0.1,x0.2.1,x0.2.2.1,x0.2.2.2) (a2.1,a2.2.1,a2.2.2.1,a2.2.2.2)).bind fun x1=>(CM (x1.1,x1.2.1,x1.2.2.1,x1.2.2.2) (a0.1,a0.2.1,a0.2.2.1,a0.2.2.2.1)).bind fun x2=>(CM (a2.1,a2.2.1,a2.2.2.1,a2.2.2.2) (a1.1,a1.2.1,a1.2.2.1,a1.2.2.2.1)).bind fun x3=>(Cl (x2.1,x2.2.1,x2.2.2.1,x2.2.2.2) (x3.1,x3.2.1,x3.2.2.1,x3.2.2.2)).bind fun x4=>(CM (x1.1,x1.2.1,x1.2.2.1,x1.2.2.2) (a0.2.2.2.2.1,a0.2.2.2.2.2.1,a0.2.2.2.2.2.2.1,a0.2.2.2.2.2.2.2)).bind fun x5=>(CM (a2.1,a2.2.1,a2.2.2.1,a2.2.2.2) (a1.2.2.2.2.1,a1.2.2.2.2.2.1,a1.2.2.2.2.2.2.1,a1.2.2.2.2.2.2.2)).bind fun x6=>(Cl (x5.1,x5.2.1,x5.2.2.1,x5.2.2.2) (x6.1,x6.2.1,x6.2.2.1,x6.2.2.2)).bind fun x7=>some (x4.1,x4.2.1,x4.2.2.1,x4.2.2.2,x7.1,x7.2.1,x7.2.2.1,x7.2.2.2)
def A61:OKE:=fq AZ1 (fun x=>WI x.1 x.2.1 x.2.2) [F1,O0,PN,Fw] Tryz.func310
def FO (s0:Bool) (s1:Tq2) (s2:Bool) (s3 s4 s5:List Tq0) (s6 s7:Int):Option (Bool×Tq2×Bool×(List Tq0)×(List Tq0)×(List Tq0)×Int×Int⊕(List Tq0)):=bif decide (s7<s6)then(AD s5 s7).bind fun x0=>bif((s4.length:Int)==0)then none else(AD s4 (Int.tmod (zi zj ((zi zj (s7+(s4.length:Int)))-1)) (s4.length:Int))).bind fun x1=>((Ij s2 s0 (s1.1,s1.2.1,s1.2.2.1,s1.2.2.2) (x1.1.1.1,x1.1.1.2,x1.1.2.1,x1.1.2.2,x1.2.1.1,x1.2.1.2,x1.2.2.1,x1.2.2.2)).bind fun x2=>(Ij x2.1 x2.2.1 (x2.2.2.1.1,x2.2.2.1.2.1,x2.2.2.1.2.2.1,x2.2.2.1.2.2.2) (x0.1.1.1,x0.1.1.2,x0.1.2.1,x0.1.2.2,x0.2.1.1,x0.2.1.2,x0.2.2.1,x0.2.2.2)).bind fun x3=>bif(!(x2.2.2.2==x3.2.2.2))then(BX (x1.1.1.1,x1.1.1.2,x1.1.2.1,x1.1.2.2,x1.2.1.1,x1.2.1.2,x1.2.2.1,x1.2.2.2) x3.2.1).bind fun x4=>(Fm (x3.2.2.1.1,x3.2.2.1.2.1,x3.2.2.1.2.2.1,x3.2.2.1.2.2.2) (x4.1,x4.2.1,x4.2.2.1,x4.2.2.2)).bind fun x5=>(BX (x0.1.1.1,x0.1.1.2,x0.1.2.1,x0.1.2.2,x0.2.1.1,x0.2.1.2,x0.2.2.1,x0.2.2.2) x3.2.1).bind fun x6=>(BX (x1.1.1.1,x1.1.1.2,x1.1.2.1,x1.1.2.2,x1.2.1.1,x1.2.1.2,x1.2.2.1,x1.2.2.2) x3.2.1).bind fun x7=>(Fm (x6.1,x6.2.1,x6.2.2.1,x6.2.2.2) (x7.1,x7.2.1,x7.2.2.1,x7.2.2.2)).bind fun x8=>(GK (x5.1,x5.2.1,x5.2.2.1,x5.2.2.2) (x8.1,x8.2.1,x8.2.2.1,x8.2.2.2)).bind fun x9=>(WI (x1.1.1.1,x1.1.1.2,x1.1.2.1,x1.1.2.2,x1.2.1.1,x1.2.1.2,x1.2.2.1,x1.2.2.2) (x0.1.1.1,x0.1.1.2,x0.1.2.1,x0.1.2.2,x0.2.1.1,x0.2.1.2,x0.2.2.1,x0.2.2.2) (x9.1,x9.2.1,x9.2.2.1,x9.2.2.2)).bind fun x10=>(CZ 128 8 s3 ([(((x10.1,x10.2.1),x10.2.2.1,x10.2.2.2.1),(x10.2.2.2.2.1,x10.2.2.2.2.2.1),x10.2.2.2.2.2.2.1,x10.2.2.2.2.2.2.2)]:List Tq0)).bind fun x11=>some (Sum.inr (x3.2.1,(x3.2.2.1.1,x3.2.2.1.2.1,x3.2.2.1.2.2.1,x3.2.2.1.2.2.2),x3.1,x11,(x0.1.1.1,x0.1.1.2,x0.1.2.1,x0.1.2.2,x0.2.1.1,x0.2.1.2,x0.2.2.1,x0.2.2.2),s4,s5,s6,s7))else some (Sum.inr (x3.2.1,(x3.2.2.1.1,x3.2.2.1.2.1,x3.2.2.1.2.2.1,x3.2.2.1.2.2.2),x3.1,s3,(x0.1.1.1,x0.1.1.2,x0.1.2.1,x0.1.2.2,x0.2.1.1,x0.2.1.2,x0.2.2.1,x0.2.2.2),s4,s5,s6,s7))).bind fun x12=>Sum.elim (fun x13=>some x13) (fun x14=>(Ij x14.2.2.1 x14.1 (x14.2.1.1,x14.2.1.2.1,x14.2.1.2.2.1,x14.2.1.2.2.2) (x14.2.2.2.2.1.1,x14.2.2.2.2.1.2.1,x14.2.2.2.2.1.2.2.1,x14.2.2.2.2.1.2.2.2.1,x14.2.2.2.2.1.2.2.2.2.1,x14.2.2.2.2.1.2.2.2.2.2.1,x14.2.2.2.2.1.2.2.2.2.2.2.1,x14.2.2.2.2.1.2.2.2.2.2.2.2)).bind fun x15=>bif x15.2.2.2 then(CZ 128 8 x14.2.2.2.1 ([(((x14.2.2.2.2.1.1,x14.2.2.2.2.1.2.1),x14.2.2.2.2.1.2.2.1,x14.2.2.2.2.1.2.2.2.1),(x14.2.2.2.2.1.2.2.2.2.1,x14.2.2.2.2.1.2.2.2.2.2.1),x14.2.2.2.2.1.2.2.2.2.2.2.1,x14.2.2.2.2.1.2.2.2.2.2.2.2)]:List Tq0)).bind fun x16=>some (Sum.inl (x15.2.1,(x15.2.2.1.1,x15.2.2.1.2.1,x15.2.2.1.2.2.1,x15.2.2.1.2.2.2),x15.1,x16,x14.2.2.2.2.2.1,x14.2.2.2.2.2.2.1,x14.2.2.2.2.2.2.2.1,(zi zj (x14.2.2.2.2.2.2.2.2+1))))else some (Sum.inl (x15.2.1,(x15.2.2.1.1,x15.2.2.1.2.1,x15.2.2.1.2.2.1,x15.2.2.1.2.2.2),x15.1,x14.2.2.2.1,x14.2.2.2.2.2.1,x14.2.2.2.2.2.2.1,x14.2.2.2.2.2.2.2.1,(zi zj (x14.2.2.2.2.2.2.2.2+1))))) x12 else some (Sum.inr s3)
def K0 (a0:List Tq0) (a1 a2:Bool) (a3:Tq2):Option (List Tq8):=(Ad (fun(s:(Bool×Tq2×Bool×(List Tq0)×(List Tq0)×(List Tq0)×Int×Int))=>FO s.1 s.2.1 s.2.2.1 s.2.2.2.1 s.2.2.2.2.1 s.2.2.2.2.2.1 s.2.2.2.2.2.2.1 s.2.2.2.2.2.2.2) (a1,(a3.1,a3.2.1,a3.2.2.1,a3.2.2.2),a2,([]:List Tq0),a0,a0,(a0.length:Int),(0:Int))).bind fun x0=>some x0
def A5X:OKE:=fq AG0 (fun x=>K0 x.1 x.2.1 x.2.2.1 x.2.2.2) [AX8,Ko,O0,VT,A61] Tryz.func296
def Lg (a0:List Tq0) (a1 a2:Tq4):Option (List Tq8):=(K0 a0 false true (a1.1,a1.2.1,a1.2.2.1,a1.2.2.2.1)).bind fun x0=>(K0 x0 false false (a2.1,a2.2.1,a2.2.2.1,a2.2.2.2.1)).bind fun x1=>(K0 x1 true true (a1.2.2.2.2.1,a1.2.2.2.2.2.1,a1.2.2.2.2.2.2.1,a1.2.2.2.2.2.2.2)).bind fun x2=>(K0 x2 true false (a2.2.2.2.2.1,a2.2.2.2.2.2.1,a2.2.2.2.2.2.2.1,a2.2.2.2.2.2.2.2)).bind fun x3=>some x3
def AB6:OKE:=fq Ve (fun x=>Lg x.1 x.2.1 x.2.2) [A5X] Tryz.func269
def J6 (a0:Tq2):Option Tq7:=(Bm a0.1 a0.2.1).bind fun x0=>(Bm false a0.2.2.2).bind fun x1=>some (x0.2,x0.1,x1.2,x1.1)
def AS5:OKE:=fq X5 (fun x=>J6 x) [EW] Tryz.func315
def Nn (a0:Tq4):Option Tq11:=(J6 (a0.1,a0.2.1,a0.2.2.1,a0.2.2.2.1)).bind fun x0=>(J6 (a0.2.2.2.2.1,a0.2.2.2.2.2.1,a0.2.2.2.2.2.2.1,a0.2.2.2.2.2.2.2)).bind fun x1=>some (x0.1,x0.2.1,x0.2.2.1,x0.2.2.2,x1.1,x1.2.1,x1.2.2.1,x1.2.2.2)
def AV7:OKE:=fq Xo (fun x=>Nn x) [AS5] Tryz.func307
def DU (s0 s1:List Tq0) (s2 s3:Int):Option ((List Tq0)×(List Tq0)×Int×Int⊕(List Tq0)):=bif decide (s3<s2)then(AD s1 s3).bind fun x0=>(Nn (x0.1.1.1,x0.1.1.2,x0.1.2.1,x0.1.2.2,x0.2.1.1,x0.2.1.2,x0.2.2.1,x0.2.2.2)).bind fun x1=>(CZ 128 8 s0 ([(((x1.1,x1.2.1),x1.2.2.1,x1.2.2.2.1),(x1.2.2.2.2.1,x1.2.2.2.2.2.1),x1.2.2.2.2.2.2.1,x1.2.2.2.2.2.2.2)]:List Tq0)).bind fun x2=>some (Sum.inl (x2,s1,s2,(zi zj (s3+1))))else some (Sum.inr s0)
def Lj (a0:List Tq0):Option (List Tq8):=(Ad (fun(s:((List Tq0)×(List Tq0)×Int×Int))=>DU s.1 s.2.1 s.2.2.1 s.2.2.2) (([]:List Tq0),a0,(a0.length:Int),(0:Int))).bind fun x0=>some x0
def AG6:OKE:=fq Vc (fun x=>Lj x) [AV7] Tryz.func295
def Gs (a0:List Tq0):Option (List Tq8×Bool):=(EB a0).bind fun x0=>bif(!x0)then some (([]:List Tq0),false)else(Lj a0).bind fun x1=>some (x1,true)
def WE:OKE:=fq Og (fun x=>Gs x) [JH,AG6] Tryz.func268
def Cn (a0:List Tq0) (a1 a2:Tq4):Option (List Tq8×Bool):=(EB a0).bind fun x0=>bif(!x0)then some (([]:List Tq0),false)else(GV (a1.1,a1.2.1,a1.2.2.1,a1.2.2.2.1,a1.2.2.2.2.1,a1.2.2.2.2.2.1,a1.2.2.2.2.2.2.1,a1.2.2.2.2.2.2.2) 2).bind fun x1=>bif(!x1)then some (([]:List Tq0),false)else(GV (a2.1,a2.2.1,a2.2.2.1,a2.2.2.2.1,a2.2.2.2.2.1,a2.2.2.2.2.2.1,a2.2.2.2.2.2.2.1,a2.2.2.2.2.2.2.2) 2).bind fun x2=>bif(!x2)then some (([]:List Tq0),false)else(DL (a2.1,a2.2.1,a2.2.2.1,a2.2.2.2.1) (a1.1,a1.2.1,a1.2.2.1,a1.2.2.2.1)).bind fun x3=>bif x3 then some (([]:List Tq0),false)else(DL (a2.2.2.2.2.1,a2.2.2.2.2.2.1,a2.2.2.2.2.2.2.1,a2.2.2.2.2.2.2.2) (a1.2.2.2.2.1,a1.2.2.2.2.2.1,a1.2.2.2.2.2.2.1,a1.2.2.2.2.2.2.2)).bind fun x4=>bif x4 then some (([]:List Tq0),false)else(Lg a0 (a1.1,a1.2.1,a1.2.2.1,a1.2.2.2.1,a1.2.2.2.2.1,a1.2.2.2.2.2.1,a1.2.2.2.2.2.2.1,a1.2.2.2.2.2.2.2) (a2.1,a2.2.1,a2.2.2.1,a2.2.2.2.1,a2.2.2.2.2.1,a2.2.2.2.2.2.1,a2.2.2.2.2.2.2.1,a2.2.2.2.2.2.2.2)).bind fun x5=>(Gs x5).bind fun x6=>some (x6.1,x6.2)
def AB9:OKE:=fq Wg (fun x=>Cn x.1 x.2.1 x.2.2) [JH,Ad2,NA,AB6,WE] Tryz.func226
def DK (a0:Tq2):Option Tq7:=(A4 2).bind fun x0=>(GK (a0.1,a0.2.1,a0.2.2.1,a0.2.2.2) (x0.1,x0.2.1,x0.2.2.1,x0.2.2.2)).bind fun x1=>some (x1.1,x1.2.1,x1.2.2.1,x1.2.2.2)
def SE:OKE:=fq Se (fun x=>DK x) [F1,VT] Tryz.func143
def Bx (s0 s1:Tq2) (s2 s3:List Tq0) (s4 s5:Int):Option Tq24:=bif decide (s5<s4)then(AD s3 s5).bind fun x0=>bif((s2.length:Int)==0)then none else(AD s2 (Int.tmod (zi zj (s5+1)) (s2.length:Int))).bind fun x1=>(CM (x0.1.1.1,x0.1.1.2,x0.1.2.1,x0.1.2.2) (x1.2.1.1,x1.2.1.2,x1.2.2.1,x1.2.2.2)).bind fun x2=>(CM (x1.1.1.1,x1.1.1.2,x1.1.2.1,x1.1.2.2) (x0.2.1.1,x0.2.1.2,x0.2.2.1,x0.2.2.2)).bind fun x3=>(Fm (x2.1,x2.2.1,x2.2.2.1,x2.2.2.2) (x3.1,x3.2.1,x3.2.2.1,x3.2.2.2)).bind fun x4=>(Cl (s1.1,s1.2.1,s1.2.2.1,s1.2.2.2) (x4.1,x4.2.1,x4.2.2.1,x4.2.2.2)).bind fun x5=>some (Sum.inl ((s0.1,s0.2.1,s0.2.2.1,s0.2.2.2),(x5.1,x5.2.1,x5.2.2.1,x5.2.2.2),s2,s3,s4,(zi zj (s5+1))))else some (Sum.inr ((s0.1,s0.2.1,s0.2.2.1,s0.2.2.2),s1.1,s1.2.1,s1.2.2.1,s1.2.2.2))
def Hu (a0:List Tq0):Option Tq7:=(A4 0).bind fun x0=>(Ad (fun(s:(Tq2×Tq2×(List Tq0)×(List Tq0)×Int×Int))=>Bx s.1 s.2.1 s.2.2.1 s.2.2.2.1 s.2.2.2.2.1 s.2.2.2.2.2) ((false,([]:List Int),false,([]:List Int)),(x0.1,x0.2.1,x0.2.2.1,x0.2.2.2),a0,a0,(a0.length:Int),(0:Int))).bind fun x1=>(DK (x1.2.1,x1.2.2.1,x1.2.2.2.1,x1.2.2.2.2)).bind fun x2=>some (x2.1,x2.2.1,x2.2.2.1,x2.2.2.2)
def SO:OKE:=fq Tl (fun x=>Hu x) [F1,PN,O0,Fw,SE] Tryz.func75
def Du (a0:Tq2):Option (Tq7×Bool):=(Cp (a0.1,a0.2.1,a0.2.2.1,a0.2.2.2) 40).bind fun x0=>bif(!x0)then some ((false,([]:List Int),false,([]:List Int)),false)else some ((a0.1,a0.2.1,a0.2.2.1,a0.2.2.2),true)
def HR:OKE:=fq O4 (fun x=>Du x) [N4] Tryz.func77
def HE (a0:List Tq0):Option (Tq7×Bool):=(EB a0).bind fun x0=>bif(!x0)then some ((false,([]:List Int),false,([]:List Int)),false)else(Hu a0).bind fun x1=>(Du (x1.1,x1.2.1,x1.2.2.1,x1.2.2.2)).bind fun x2=>some ((x2.1.1,x2.1.2.1,x2.1.2.2.1,x2.1.2.2.2),x2.2)
def Aq0:OKE:=fq Sd (fun x=>HE x) [JH,SO,HR] Tryz.func227
def Ff (a0:List Tq0) (a1 a2:Int):Option (Tq7×Bool):=(A4 a1).bind fun x0=>(A4 a2).bind fun x1=>(A4 (zi zj (a1+1))).bind fun x2=>(A4 (zi zj (a2+1))).bind fun x3=>(Cn a0 (x0.1,x0.2.1,x0.2.2.1,x0.2.2.2,x1.1,x1.2.1,x1.2.2.1,x1.2.2.2) (x2.1,x2.2.1,x2.2.2.1,x2.2.2.2,x3.1,x3.2.1,x3.2.2.1,x3.2.2.2)).bind fun x4=>bif(!x4.2)then some ((false,([]:List Int),false,([]:List Int)),false)else(HE x4.1).bind fun x5=>some ((x5.1.1,x5.1.2.1,x5.1.2.2.1,x5.1.2.2.2),x5.2)
def AK1:OKE:=fq U9 (fun x=>Ff x.1 x.2.1 x.2.2) [F1,AB9,Aq0] Tryz.func175
def Cb (s0:Tq6) (s1:List Tq1) (s2:List Tq0) (s3 s4:Int):Option Tq23:=bif decide (s4<(zi zj (s0.1+s0.2.2.1)))then(Ff s2 s4 s3).bind fun x0=>bif(!x0.2)then some (Sum.inr (Sum.inr (([]:List Tq1),false)))else(CZ 64 4 s1 ([((x0.1.1,x0.1.2.1),x0.1.2.2.1,x0.1.2.2.2)]:List Tq1)).bind fun x1=>some (Sum.inl ((s0.1,s0.2.1,s0.2.2.1,s0.2.2.2),x1,s2,s3,(zi zj (s4+1))))else some (Sum.inr (Sum.inl ((s0.1,s0.2.1,s0.2.2.1,s0.2.2.2),s1,s2,s3)))
def Bz (s0:Tq6) (s1:List Tq1) (s2:List Tq0) (s3:Int):Option (Tq6×(List Tq1)×(List Tq0)×Int⊕((List Tq1)⊕(List Tq1)×Bool)):=bif decide (s3<(zi zj (s0.2.1+s0.2.2.2)))then(Ad (fun(s:(Tq6×(List Tq1)×(List Tq0)×Int×Int))=>Cb s.1 s.2.1 s.2.2.1 s.2.2.2.1 s.2.2.2.2) ((s0.1,s0.2.1,s0.2.2.1,s0.2.2.2),s1,s2,s3,s0.1)).bind fun x0=>Sum.elim (fun x1=>some (Sum.inl ((x1.1.1,x1.1.2.1,x1.1.2.2.1,x1.1.2.2.2),x1.2.1,x1.2.2.1,(zi zj (x1.2.2.2+1))))) (fun x2=>some (Sum.inr (Sum.inr (x2.1,x2.2)))) x0 else some (Sum.inr (Sum.inl s1))
def BR (a0:List Tq0) (a1:Tq6):Option (List Tq22×Bool):=(EB a0).bind fun x0=>bif(!x0)then some (([]:List Tq1),false)else(AQ (a1.1,a1.2.1,a1.2.2.1,a1.2.2.2)).bind fun x1=>bif(!x1)then some (([]:List Tq1),false)else(Ad (fun(s:(Tq6×(List Tq1)×(List Tq0)×Int))=>Bz s.1 s.2.1 s.2.2.1 s.2.2.2) ((a1.1,a1.2.1,a1.2.2.1,a1.2.2.2),([]:List Tq1),a0,a1.2.1)).bind fun x2=>Sum.elim (fun x3=>some (x3,true)) (fun x4=>some (x4.1,x4.2)) x2
def Ap5:OKE:=fq S9 (fun x=>BR x.1 x.2) [JH,D7,AK1] Tryz.func116
def Cr (s0:Tq6) (s1:List Tq1) (s2:List Tq3) (s3 s4:Int):Option (Tq6×(List Tq1)×(List Tq3)×Int×Int⊕Tq6×(List Tq1)×(List Tq3)):=bif decide (s4<s3)then(A4 0).bind fun x0=>(CZ 64 4 s1 ([((x0.1,x0.2.1),x0.2.2.1,x0.2.2.2)]:List Tq1)).bind fun x1=>some (Sum.inl ((s0.1,s0.2.1,s0.2.2.1,s0.2.2.2),x1,s2,s3,(zi zj (s4+1))))else some (Sum.inr ((s0.1,s0.2.1,s0.2.2.1,s0.2.2.2),s1,s2))
def BS (s0:Tq6) (s1:List Tq1) (s2:List Tq3) (s3 s4:Int) (s5:List Tq1) (s6 s7:Int):Option Tq19:=bif decide (s7<s6)then(AD s5 s7).bind fun x0=>(A2 s7 (List.length s1)).bind fun x1=>(AY s1 x1).bind fun x2=>(Cl (x2.1.1,x2.1.2,x2.2.1,x2.2.2) (x0.1.1,x0.1.2,x0.2.1,x0.2.2)).bind fun x3=>(Du (x3.1,x3.2.1,x3.2.2.1,x3.2.2.2)).bind fun x4=>(A2 s7 (List.length s1)).bind fun x5=>(AY s1 x5).bind fun x6=>bif(!x4.2)then some (Sum.inr (Sum.inr (([]:List Tq1),false)))else some (Sum.inl ((s0.1,s0.2.1,s0.2.2.1,s0.2.2.2),(List.set s1 x5 ((x4.1.1,x4.1.2.1),x4.1.2.2.1,x4.1.2.2.2)),s2,s3,s4,s5,s6,(zi zj (s7+1))))else some (Sum.inr (Sum.inl ((s0.1,s0.2.1,s0.2.2.1,s0.2.2.2),s1,s2,s3,s4)))
def Bj (s0:Tq6) (s1:List Tq1) (s2:List Tq3) (s3 s4:Int):Option (Tq6×(List Tq1)×(List Tq3)×Int×Int⊕((List Tq1)⊕(List Tq1)×Bool)):=bif decide (s4<s3)then(AD s2 s4).bind fun x0=>(J7 x0).bind fun x1=>(BR x1 (s0.1,s0.2.1,s0.2.2.1,s0.2.2.2)).bind fun x2=>bif(!x2.2)then some (Sum.inr (Sum.inr (([]:List Tq1),false)))else(Ad (fun(s:(Tq6×(List Tq1)×(List Tq3)×Int×Int×(List Tq1)×Int×Int))=>BS s.1 s.2.1 s.2.2.1 s.2.2.2.1 s.2.2.2.2.1 s.2.2.2.2.2.1 s.2.2.2.2.2.2.1 s.2.2.2.2.2.2.2) ((s0.1,s0.2.1,s0.2.2.1,s0.2.2.2),s1,s2,s3,s4,x2.1,(x2.1.length:Int),(0:Int))).bind fun x3=>Sum.elim (fun x4=>some (Sum.inl ((x4.1.1,x4.1.2.1,x4.1.2.2.1,x4.1.2.2.2),x4.2.1,x4.2.2.1,x4.2.2.2.1,(zi zj (x4.2.2.2.2+1))))) (fun x5=>some (Sum.inr (Sum.inr (x5.1,x5.2)))) x3 else some (Sum.inr (Sum.inl s1))
def EY (a0:List UInt8) (a1:Tq6):Option (List Tq22×Bool):=(EZ a0).bind fun x0=>bif(!x0.2.2.2)then some (([]:List Tq1),false)else(AQ (a1.1,a1.2.1,a1.2.2.1,a1.2.2.2)).bind fun x1=>bif(!x1)then some (([]:List Tq1),false)else(Ad (fun(s:(Tq6×(List Tq1)×(List Tq3)×Int×Int))=>Cr s.1 s.2.1 s.2.2.1 s.2.2.2.1 s.2.2.2.2) ((a1.1,a1.2.1,a1.2.2.1,a1.2.2.2),([]:List Tq1),x0.1,(zi zj (a1.2.2.1*a1.2.2.2)),(0:Int))).bind fun x2=>(Ad (fun(s:(Tq6×(List Tq1)×(List Tq3)×Int×Int))=>Bj s.1 s.2.1 s.2.2.1 s.2.2.2.1 s.2.2.2.2) ((x2.1.1,x2.1.2.1,x2.1.2.2.1,x2.1.2.2.2),x2.2.1,x2.2.2,(x2.2.2.length:Int),(0:Int))).bind fun x3=>Sum.elim (fun x4=>some (x4,true)) (fun x5=>some (x5.1,x5.2)) x3
def LS:OKE:=fq QP (fun x=>EY x.1 x.2) [LQ,D7,F1,Ym,Ap5,Fw,HR] Tryz.func50
def Ov (a0:Tq5):Option Tq12:=(Bm false a0.2).bind fun x0=>some (x0.2,x0.1)
def AJ5:OKE:=fq Wh (fun x=>Ov x) [EW] Tryz.func263
def Le (a0:Tq2):Option Tq7:=(Ov (a0.1,a0.2.1)).bind fun x0=>(Bm false a0.2.2.2).bind fun x1=>some (x0.1,x0.2,x1.2,x1.1)
def AC1:OKE:=fq V0 (fun x=>Le x) [AJ5,EW] Tryz.func219
def Ow (a0 a1:Tq5):Option Tq12:=(GI (a1.1,a1.2)).bind fun x0=>(Jb (a0.1,a0.2) (x0.1,x0.2)).bind fun x1=>some (x1.1,x1.2)
def AM3:OKE:=fq V4 (fun x=>Ow x.1 x.2) [OQ,Wb] Tryz.func294
def Iu (a0 a1:Tq5):Option Tq12:=(GO (a0.1,a0.2) (a1.1,a1.2)).bind fun x0=>(BT (x0.2.1,x0.2.2)).bind fun x1=>bif decide (x1<0)then(Ec 1).bind fun x2=>(Ow (x0.1.1,x0.1.2) (x2.1,x2.2)).bind fun x3=>some (x3.1,x3.2)else some (x0.1.1,x0.1.2)
def TT:OKE:=fq Mu (fun x=>Iu x.1 x.2) [V8,ND,Mh,AM3] Tryz.func266
def Gf (a0:Tq2):Option Tq12:=(Iu (a0.1,a0.2.1) (a0.2.2.1,a0.2.2.2)).bind fun x0=>some (x0.1,x0.2)
def Aa1:OKE:=fq QI (fun x=>Gf x) [TT] Tryz.func222
def Fy (s0:Tq5) (s1 s2:Int):Option (Tq5×Int×Int⊕Tq5×Int):=bif decide (s2>=0)then(AD s0.2 s2).bind fun x0=>some (Sum.inl ((s0.1,s0.2),(zi zj ((zi zj (s1*65536))+x0)),(zi zj (s2-1))))else some (Sum.inr ((s0.1,s0.2),s1))
def JR (a0:Tq5):Option (Int×Bool):=(I1 (a0.1,a0.2)).bind fun x0=>bif(!x0)then some ((0:Int),false)else(Ec 4611686018427387904).bind fun x1=>(B3 a0.2 x1.2).bind fun x2=>bif decide (x2>0)then some ((0:Int),false)else(Ad (fun(s:Tq5×Int×Int)=>Fy s.1 s.2.1 s.2.2) ((a0.1,a0.2),(0:Int),(zi zj ((a0.2.length:Int)-1)))).bind fun x3=>bif x3.1.1 then some ((zi zj ((0:Int)-x3.2)),true)else some (x3.2,true)
def A2t:OKE:=fq Ad3 (fun x=>JR x) [UX,Mh,FZ] Tryz.func221
def Nm (a0:Tq2):Option Int:=(Le (a0.1,a0.2.1,a0.2.2.1,a0.2.2.2)).bind fun x0=>((A4 1).bind fun x1=>(DL (x1.1,x1.2.1,x1.2.2.1,x1.2.2.2) (x0.1,x0.2.1,x0.2.2.1,x0.2.2.2)).bind fun x2=>bif x2 then(A4 1).bind fun x3=>some (Sum.inr (x3.1,x3.2.1,x3.2.2.1,x3.2.2.2))else some (Sum.inr (x0.1,x0.2.1,x0.2.2.1,x0.2.2.2))).bind fun x4=>Sum.elim (fun x5=>some x5) (fun x6=>(A4 255).bind fun x7=>(CM (x6.1,x6.2.1,x6.2.2.1,x6.2.2.2) (x7.1,x7.2.1,x7.2.2.1,x7.2.2.2)).bind fun x8=>(A4 1).bind fun x9=>(DK (x9.1,x9.2.1,x9.2.2.1,x9.2.2.2)).bind fun x10=>(Cl (x8.1,x8.2.1,x8.2.2.1,x8.2.2.2) (x10.1,x10.2.1,x10.2.2.1,x10.2.2.2)).bind fun x11=>(Gf (x11.1,x11.2.1,x11.2.2.1,x11.2.2.2)).bind fun x12=>(JR (x12.1,x12.2)).bind fun x13=>some x13.1) x4
def AT2:OKE:=fq Xf (fun x=>Nm x) [AC1,F1,NA,PN,SE,Fw,Aa1,A2t] Tryz.func172
def DW (s0:List Int) (s1:List Tq1) (s2 s3:Int):Option ((List Int)×(List Tq1)×Int×Int⊕(List Int)):=bif decide (s3<s2)then(AD s1 s3).bind fun x0=>(Nm (x0.1.1,x0.1.2,x0.2.1,x0.2.2)).bind fun x1=>(CZ 8 1 s0 ([x1]:List Int)).bind fun x2=>some (Sum.inl (x2,s1,s2,(zi zj (s3+1))))else some (Sum.inr s0)
def I9 (a0:List Tq1):Option (List Int):=(Ad (fun(s:((List Int)×(List Tq1)×Int×Int))=>DW s.1 s.2.1 s.2.2.1 s.2.2.2) (([]:List Int),a0,(a0.length:Int),(0:Int))).bind fun x0=>some x0
def AH6:OKE:=fq VW (fun x=>I9 x) [AT2] Tryz.func109
def D3 (a0:List UInt8) (a1:Tq6):Option (List Int×Bool):=(EY a0 (a1.1,a1.2.1,a1.2.2.1,a1.2.2.2)).bind fun x0=>bif(!x0.2)then some (([]:List Int),false)else(I9 x0.1).bind fun x1=>some (x1,true)
def OK:OKE:=fq Ps (fun x=>D3 x.1 x.2) [LS,AH6] Tryz.func40
def FJ (s0:Tq10) (s1:List UInt8) (s2 s3:Int):Option (Tq10×(List UInt8)×Int×Int⊕Tq10×(List UInt8)×Int):=bif decide (s3<(s1.length:Int))then(AD s1 s3).bind fun x0=>bif((((UInt8.toNat x0):Nat):Int)==32)then(FT s2 s3 (List.length s1)).bind fun x1=>(CZ 16 1 s0 ([(List.drop x1.1 (List.take x1.2 s1))]:List (List UInt8))).bind fun x2=>some (Sum.inl (x2,s1,(zi zj (s3+1)),(zi zj (s3+1))))else some (Sum.inl (s0,s1,s2,(zi zj (s3+1))))else some (Sum.inr (s0,s1,s2))
def JF (a0:List UInt8):Option Tq10:=(Ad (fun(s:(Tq10×(List UInt8)×Int×Int))=>FJ s.1 s.2.1 s.2.2.1 s.2.2.2) (([]:List (List UInt8)),a0,(0:Int),(0:Int))).bind fun x0=>(FT x0.2.2 (x0.2.1.length:Int) (List.length x0.2.1)).bind fun x1=>(CZ 16 1 x0.1 ([(List.drop x1.1 (List.take x1.2 x0.2.1))]:List (List UInt8))).bind fun x2=>some x2
def Aq3:OKE:=fq Tt (fun x=>JF x) [] Tryz.func95
def DP (s0:List UInt8) (s1 s2 s3:Int):Option ((List UInt8)×Int×Int×Int⊕(List UInt8)×Int×Int×Int):=bif decide (s3<(s0.length:Int))then bif decide (s3<(zi zj (s1+4)))then(AD s0 s3).bind fun x0=>bif decide ((((UInt8.toNat x0):Nat):Int)>=48)then(AD s0 s3).bind fun x1=>bif decide ((((UInt8.toNat x1):Nat):Int)<=57)then(AD s0 s3).bind fun x2=>some (Sum.inl (s0,s1,(zi zj ((zi zj ((10:Int)*s2))+(zi zj (zi .u8 ((((UInt8.toNat x2):Nat):Int)-48))))),(zi zj (s3+1))))else some (Sum.inr (s0,s1,s2,s3))else some (Sum.inr (s0,s1,s2,s3))else some (Sum.inr (s0,s1,s2,s3))else some (Sum.inr (s0,s1,s2,s3))
def MJ (a0:List UInt8) (a1:Int):Option (Int×Int):=(Ad (fun(s:((List UInt8)×Int×Int×Int))=>DP s.1 s.2.1 s.2.2.1 s.2.2.2) (a0,a1,(0:Int),a1)).bind fun x0=>bif(x0.2.2.2==x0.2.1)then some ((-(1:Int)),x0.2.1)else(AD x0.1 x0.2.1).bind fun x1=>bif((((UInt8.toNat x1):Nat):Int)==48)then bif decide (x0.2.2.2>(zi zj (x0.2.1+1)))then some ((-(1:Int)),x0.2.1)else some (x0.2.2.1,x0.2.2.2)else some (x0.2.2.1,x0.2.2.2)
def AP9:OKE:=fq XC (fun x=>MJ x.1 x.2) [] Tryz.func102
def Hh (a0:List UInt8):Option (Int×Bool):=(bif decide ((a0.length:Int)>0)then(AD a0 0).bind fun x0=>some (Sum.inr (a0,((((UInt8.toNat x0):Nat):Int)==45)))else some (Sum.inr (a0,false))).bind fun x1=>Sum.elim (fun x2=>some x2) (fun x3=>(bif x3.2 then(FT (1:Int) (x3.1.length:Int) (List.length x3.1)).bind fun x4=>some (Sum.inr (x3.2,(List.drop x4.1 (List.take x4.2 x3.1))))else some (Sum.inr (x3.2,x3.1))).bind fun x5=>Sum.elim (fun x6=>some x6) (fun x7=>(MJ x7.2 0).bind fun x8=>(bif decide (x8.1<0)then some (Sum.inl ((0:Int),false))else bif decide (x8.2<(x7.2.length:Int))then some (Sum.inl ((0:Int),false))else bif x7.1 then bif(x8.1==0)then some (Sum.inl ((0:Int),false))else some (Sum.inr (x7.1,x8.1))else some (Sum.inr (x7.1,x8.1))).bind fun x9=>Sum.elim (fun x10=>some x10) (fun x11=>bif x11.1 then some ((zi zj ((0:Int)-x11.2)),true)else some (x11.2,true)) x9) x5) x1
def W7:OKE:=fq Ox (fun x=>Hh x) [AP9] Tryz.func31
def Aq (a0:Tq18) (a1:List Tq3) (a2:Tq3):Option ((List (List UInt8)×Int×Int)×List Tq3×List (Int×Int)×Int):=bif(a0.2.2 != (0:Int))then some ((a0.1,a0.2.1,a0.2.2),a1,a2,(0:Int))else bif(a0.2.1==(a0.1.length:Int))then some ((a0.1,a0.2.1,(3:Int)),a1,a2,(0:Int))else(AD a0.1 a0.2.1).bind fun x0=>(Hh x0).bind fun x1=>bif(!x1.2)then some ((a0.1,a0.2.1,(3:Int)),a1,a2,(0:Int))else some ((a0.1,(zi zj (a0.2.1+1)),a0.2.2),a1,a2,x1.1)
def WB:OKE:=fq Oc (fun x=>Aq x.1 x.2.1 x.2.2) [W7] Tryz.func161
def AE (a0:Tq18) (a1:List Tq3) (a2:Tq3) (a3:Int×Int):Option ((List (List UInt8)×Int×Int)×List Tq3×List (Int×Int)):=bif(a0.2.2 != (0:Int))then some ((a0.1,a0.2.1,a0.2.2),a1,a2)else(Gu (a3.1,a3.2)).bind fun x0=>bif(!x0)then some ((a0.1,(zi zj (a0.2.1-1)),(6:Int)),a1,a2)else(CZ 16 2 a2 ([(a3.1,a3.2)]:List (Int×Int))).bind fun x1=>some ((a0.1,a0.2.1,a0.2.2),a1,x1)
def XJ:OKE:=fq OP (fun x=>AE x.1 x.2.1 x.2.2.1 x.2.2.2) [XM] Tryz.func162
def Dv (s0:Tq18) (s1:Tq10) (s2:List Tq3) (s3:Tq3) (s4:List UInt8) (s5 s6:Bool) (s7 s8:Int):Option (Tq18×Tq10×(List Tq3)×Tq3×(List UInt8)×Bool×Bool×Int×Int⊕Tq18×(List Tq3)×Tq3×(List UInt8)×Bool×Bool):=bif decide (s8<s7)then(A2 s8 (List.length s1)).bind fun x0=>(AY s1 x0).bind fun x1=>bif s6 then some (Sum.inl ((s0.1,s0.2.1,s0.2.2),s1,s2,s3,s4,s5,true,s7,(zi zj (s8+1))))else some (Sum.inl ((s0.1,s0.2.1,s0.2.2),s1,s2,s3,s4,s5,(x1==s4),s7,(zi zj (s8+1))))else some (Sum.inr ((s0.1,s0.2.1,s0.2.2),s2,s3,s4,s5,s6))
def As (a0:Tq18) (a1:List Tq3) (a2:Tq3):Option ((List (List UInt8)×Int×Int)×List Tq3×List (Int×Int)):=(AD a0.1 a0.2.1).bind fun x0=>(Ad (fun(s:(Tq18×Tq10×(List Tq3)×Tq3×(List UInt8)×Bool×Bool×Int×Int))=>Dv s.1 s.2.1 s.2.2.1 s.2.2.2.1 s.2.2.2.2.1 s.2.2.2.2.2.1 s.2.2.2.2.2.2.1 s.2.2.2.2.2.2.2.1 s.2.2.2.2.2.2.2.2) ((a0.1,a0.2.1,a0.2.2),([([77]:List UInt8),([76]:List UInt8),([108]:List UInt8),([72]:List UInt8),([104]:List UInt8),([86]:List UInt8),([118]:List UInt8),([90]:List UInt8)]:List (List UInt8)),a1,a2,x0,decide ((a2.length:Int)>0),false,((8:Nat):Int),(0:Int))).bind fun x1=>(bif(!x1.2.2.2.2.2)then some (Sum.inr ((x1.1.1,x1.1.2.1,(2:Int)),x1.2.1,x1.2.2.1,x1.2.2.2.1,x1.2.2.2.2.1))else bif(x1.2.2.2.2.1==(x1.2.2.2.1==([77]:List UInt8)))then some (Sum.inr ((x1.1.1,x1.1.2.1,(4:Int)),x1.2.1,x1.2.2.1,x1.2.2.2.1,x1.2.2.2.2.1))else bif(x1.2.2.2.1==([77]:List UInt8))then bif((x1.2.1.length:Int)==4)then bif((x1.2.1.length:Int)==4)then some (Sum.inr ((x1.1.1,x1.1.2.1,(5:Int)),x1.2.1,x1.2.2.1,x1.2.2.2.1,x1.2.2.2.2.1))else some (Sum.inr ((x1.1.1,x1.1.2.1,x1.1.2.2),x1.2.1,x1.2.2.1,x1.2.2.2.1,x1.2.2.2.2.1))else bif(x1.2.2.2.1==([90]:List UInt8))then bif decide ((x1.2.2.1.length:Int)<3)then bif decide ((x1.2.2.1.length:Int)<3)then some (Sum.inr ((x1.1.1,x1.1.2.1,(5:Int)),x1.2.1,x1.2.2.1,x1.2.2.2.1,x1.2.2.2.2.1))else some (Sum.inr ((x1.1.1,x1.1.2.1,x1.1.2.2),x1.2.1,x1.2.2.1,x1.2.2.2.1,x1.2.2.2.2.1))else bif(!(x1.2.2.2.1==([90]:List UInt8)))then bif((x1.2.2.1.length:Int)==12)then some (Sum.inr ((x1.1.1,x1.1.2.1,(5:Int)),x1.2.1,x1.2.2.1,x1.2.2.2.1,x1.2.2.2.2.1))else some (Sum.inr ((x1.1.1,x1.1.2.1,x1.1.2.2),x1.2.1,x1.2.2.1,x1.2.2.2.1,x1.2.2.2.2.1))else some (Sum.inr ((x1.1.1,x1.1.2.1,x1.1.2.2),x1.2.1,x1.2.2.1,x1.2.2.2.1,x1.2.2.2.2.1))else bif(!(x1.2.2.2.1==([90]:List UInt8)))then bif((x1.2.2.1.length:Int)==12)then some (Sum.inr ((x1.1.1,x1.1.2.1,(5:Int)),x1.2.1,x1.2.2.1,x1.2.2.2.1,x1.2.2.2.2.1))else some (Sum.inr ((x1.1.1,x1.1.2.1,x1.1.2.2),x1.2.1,x1.2.2.1,x1.2.2.2.1,x1.2.2.2.2.1))else some (Sum.inr ((x1.1.1,x1.1.2.1,x1.1.2.2),x1.2.1,x1.2.2.1,x1.2.2.2.1,x1.2.2.2.2.1))else bif(x1.2.2.2.1==([90]:List UInt8))then bif decide ((x1.2.2.1.length:Int)<3)then bif decide ((x1.2.2.1.length:Int)<3)then some (Sum.inr ((x1.1.1,x1.1.2.1,(5:Int)),x1.2.1,x1.2.2.1,x1.2.2.2.1,x1.2.2.2.2.1))else some (Sum.inr ((x1.1.1,x1.1.2.1,x1.1.2.2),x1.2.1,x1.2.2.1,x1.2.2.2.1,x1.2.2.2.2.1))else bif(!(x1.2.2.2.1==([90]:List UInt8)))then bif((x1.2.2.1.length:Int)==12)then some (Sum.inr ((x1.1.1,x1.1.2.1,(5:Int)),x1.2.1,x1.2.2.1,x1.2.2.2.1,x1.2.2.2.2.1))else some (Sum.inr ((x1.1.1,x1.1.2.1,x1.1.2.2),x1.2.1,x1.2.2.1,x1.2.2.2.1,x1.2.2.2.2.1))else some (Sum.inr ((x1.1.1,x1.1.2.1,x1.1.2.2),x1.2.1,x1.2.2.1,x1.2.2.2.1,x1.2.2.2.2.1))else bif(!(x1.2.2.2.1==([90]:List UInt8)))then bif((x1.2.2.1.length:Int)==12)then some (Sum.inr ((x1.1.1,x1.1.2.1,(5:Int)),x1.2.1,x1.2.2.1,x1.2.2.2.1,x1.2.2.2.2.1))else some (Sum.inr ((x1.1.1,x1.1.2.1,x1.1.2.2),x1.2.1,x1.2.2.1,x1.2.2.2.1,x1.2.2.2.2.1))else some (Sum.inr ((x1.1.1,x1.1.2.1,x1.1.2.2),x1.2.1,x1.2.2.1,x1.2.2.2.1,x1.2.2.2.2.1))).bind fun x2=>Sum.elim (fun x3=>some x3) (fun x4=>bif(x4.1.2.2 != (0:Int))then some ((x4.1.1,x4.1.2.1,x4.1.2.2),x4.2.1,x4.2.2.1)else(bif x4.2.2.2.2 then(A2 (zi zj ((x4.2.2.1.length:Int)-1)) (List.length x4.2.2.1)).bind fun x5=>(AY x4.2.2.1 x5).bind fun x6=>some (Sum.inr ((x4.1.1,(zi zj (x4.1.2.1+1)),x4.1.2.2),(x6.1,x6.2),x4.2.1,x4.2.2.1,x4.2.2.2.1))else some (Sum.inr ((x4.1.1,(zi zj (x4.1.2.1+1)),x4.1.2.2),((0:Int),(0:Int)),x4.2.1,x4.2.2.1,x4.2.2.2.1))).bind fun x7=>Sum.elim (fun x8=>some x8) (fun x9=>bif(x9.2.2.2.2==([77]:List UInt8))then bif(x9.2.2.2.2==([77]:List UInt8))then(Aq (x9.1.1,x9.1.2.1,x9.1.2.2) x9.2.2.1 x9.2.2.2.1).bind fun x10=>(Aq (x10.1.1,x10.1.2.1,x10.1.2.2) x10.2.1 x10.2.2.1).bind fun x11=>(AE (x11.1.1,x11.1.2.1,x11.1.2.2) x11.2.1 x11.2.2.1 (x10.2.2.2,x11.2.2.2)).bind fun x12=>some ((x12.1.1,x12.1.2.1,x12.1.2.2),x12.2.1,x12.2.2)else bif(x9.2.2.2.2==([108]:List UInt8))then(Aq (x9.1.1,x9.1.2.1,x9.1.2.2) x9.2.2.1 x9.2.2.2.1).bind fun x13=>(Aq (x13.1.1,x13.1.2.1,x13.1.2.2) x13.2.1 x13.2.2.1).bind fun x14=>(AE (x14.1.1,x14.1.2.1,x14.1.2.2) x14.2.1 x14.2.2.1 ((zi zj (x9.2.1.1+x13.2.2.2)),(zi zj (x9.2.1.2+x14.2.2.2)))).bind fun x15=>some ((x15.1.1,x15.1.2.1,x15.1.2.2),x15.2.1,x15.2.2)else bif(x9.2.2.2.2==([72]:List UInt8))then(Aq (x9.1.1,x9.1.2.1,x9.1.2.2) x9.2.2.1 x9.2.2.2.1).bind fun x16=>(AE (x16.1.1,x16.1.2.1,x16.1.2.2) x16.2.1 x16.2.2.1 (x16.2.2.2,x9.2.1.2)).bind fun x17=>some ((x17.1.1,x17.1.2.1,x17.1.2.2),x17.2.1,x17.2.2)else bif(x9.2.2.2.2==([104]:List UInt8))then(Aq (x9.1.1,x9.1.2.1,x9.1.2.2) x9.2.2.1 x9.2.2.2.1).bind fun x18=>(AE (x18.1.1,x18.1.2.1,x18.1.2.2) x18.2.1 x18.2.2.1 ((zi zj (x9.2.1.1+x18.2.2.2)),x9.2.1.2)).bind fun x19=>some ((x19.1.1,x19.1.2.1,x19.1.2.2),x19.2.1,x19.2.2)else bif(x9.2.2.2.2==([86]:List UInt8))then(Aq (x9.1.1,x9.1.2.1,x9.1.2.2) x9.2.2.1 x9.2.2.2.1).bind fun x20=>(AE (x20.1.1,x20.1.2.1,x20.1.2.2) x20.2.1 x20.2.2.1 (x9.2.1.1,x20.2.2.2)).bind fun x21=>some ((x21.1.1,x21.1.2.1,x21.1.2.2),x21.2.1,x21.2.2)else bif(x9.2.2.2.2==([118]:List UInt8))then(Aq (x9.1.1,x9.1.2.1,x9.1.2.2) x9.2.2.1 x9.2.2.2.1).bind fun x22=>(AE (x22.1.1,x22.1.2.1,x22.1.2.2) x22.2.1 x22.2.2.1 (x9.2.1.1,(zi zj (x9.2.1.2+x22.2.2.2)))).bind fun x23=>some ((x23.1.1,x23.1.2.1,x23.1.2.2),x23.2.1,x23.2.2)else(CZ 24 1 x9.2.2.1 ([x9.2.2.2.1]:List Tq3)).bind fun x24=>some ((x9.1.1,x9.1.2.1,x9.1.2.2),x24,([]:List (Int×Int)))else bif(x9.2.2.2.2==([76]:List UInt8))then(Aq (x9.1.1,x9.1.2.1,x9.1.2.2) x9.2.2.1 x9.2.2.2.1).bind fun x25=>(Aq (x25.1.1,x25.1.2.1,x25.1.2.2) x25.2.1 x25.2.2.1).bind fun x26=>(AE (x26.1.1,x26.1.2.1,x26.1.2.2) x26.2.1 x26.2.2.1 (x25.2.2.2,x26.2.2.2)).bind fun x27=>some ((x27.1.1,x27.1.2.1,x27.1.2.2),x27.2.1,x27.2.2)else bif(x9.2.2.2.2==([108]:List UInt8))then(Aq (x9.1.1,x9.1.2.1,x9.1.2.2) x9.2.2.1 x9.2.2.2.1).bind fun x28=>(Aq (x28.1.1,x28.1.2.1,x28.1.2.2) x28.2.1 x28.2.2.1).bind fun x29=>(AE (x29.1.1,x29.1.2.1,x29.1.2.2) x29.2.1 x29.2.2.1 ((zi zj (x9.2.1.1+x28.2.2.2)),(zi zj (x9.2.1.2+x29.2.2.2)))).bind fun x30=>some ((x30.1.1,x30.1.2.1,x30.1.2.2),x30.2.1,x30.2.2)else bif(x9.2.2.2.2==([72]:List UInt8))then(Aq (x9.1.1,x9.1.2.1,x9.1.2.2) x9.2.2.1 x9.2.2.2.1).bind fun x31=>(AE (x31.1.1,x31.1.2.1,x31.1.2.2) x31.2.1 x31.2.2.1 (x31.2.2.2,x9.2.1.2)).bind fun x32=>some ((x32.1.1,x32.1.2.1,x32.1.2.2),x32.2.1,x32.2.2)else bif(x9.2.2.2.2==([104]:List UInt8))then(Aq (x9.1.1,x9.1.2.1,x9.1.2.2) x9.2.2.1 x9.2.2.2.1).bind fun x33=>(AE (x33.1.1,x33.1.2.1,x33.1.2.2) x33.2.1 x33.2.2.1 ((zi zj (x9.2.1.1+x33.2.2.2)),x9.2.1.2)).bind fun x34=>some ((x34.1.1,x34.1.2.1,x34.1.2.2),x34.2.1,x34.2.2)else bif(x9.2.2.2.2==([86]:List UInt8))then(Aq (x9.1.1,x9.1.2.1,x9.1.2.2) x9.2.2.1 x9.2.2.2.1).bind fun x35=>(AE (x35.1.1,x35.1.2.1,x35.1.2.2) x35.2.1 x35.2.2.1 (x9.2.1.1,x35.2.2.2)).bind fun x36=>some ((x36.1.1,x36.1.2.1,x36.1.2.2),x36.2.1,x36.2.2)else bif(x9.2.2.2.2==([118]:List UInt8))then(Aq (x9.1.1,x9.1.2.1,x9.1.2.2) x9.2.2.1 x9.2.2.2.1).bind fun x37=>(AE (x37.1.1,x37.1.2.1,x37.1.2.2) x37.2.1 x37.2.2.1 (x9.2.1.1,(zi zj (x9.2.1.2+x37.2.2.2)))).bind fun x38=>some ((x38.1.1,x38.1.2.1,x38.1.2.2),x38.2.1,x38.2.2)else(CZ 24 1 x9.2.2.1 ([x9.2.2.2.1]:List Tq3)).bind fun x39=>some ((x9.1.1,x9.1.2.1,x9.1.2.2),x39,([]:List (Int×Int)))) x7) x2
def Ux:OKE:=fq Mw (fun x=>As x.1 x.2.1 x.2.2) [WB,XJ] Tryz.func96
def Dz (s0:Tq18) (s1:List Tq3) (s2:Tq3):Option (Tq18×(List Tq3)×Tq3⊕Tq18×(List Tq3)×Tq3):=bif decide (s0.2.1<(s0.1.length:Int))then bif(s0.2.2==0)then(As (s0.1,s0.2.1,s0.2.2) s1 s2).bind fun x0=>some (Sum.inl ((x0.1.1,x0.1.2.1,x0.1.2.2),x0.2.1,x0.2.2))else some (Sum.inr ((s0.1,s0.2.1,s0.2.2),s1,s2))else some (Sum.inr ((s0.1,s0.2.1,s0.2.2),s1,s2))
def EV (a0:List UInt8):Option (List Tq3×Int×Int×Bool):=bif((a0.length:Int)==0)then some (([]:List Tq3),(1:Int),(0:Int),false)else bif decide ((a0.length:Int)>400)then some (([]:List Tq3),(1:Int),(0:Int),false)else(JF a0).bind fun x0=>(Ad (fun(s:(Tq18×(List Tq3)×Tq3))=>Dz s.1 s.2.1 s.2.2) ((x0,(0:Int),(0:Int)),([]:List Tq3),([]:List (Int×Int)))).bind fun x1=>(bif(x1.1.2.2==0)then bif decide ((x1.2.2.length:Int)>0)then some (Sum.inr ((x1.1.1,x1.1.2.1,(7:Int)),x1.2.1,x1.2.2))else some (Sum.inr ((x1.1.1,x1.1.2.1,x1.1.2.2),x1.2.1,x1.2.2))else some (Sum.inr ((x1.1.1,x1.1.2.1,x1.1.2.2),x1.2.1,x1.2.2))).bind fun x2=>Sum.elim (fun x3=>some x3) (fun x4=>bif(x4.1.2.2 != (0:Int))then some (([]:List Tq3),x4.1.2.2,x4.1.2.1,false)else some (x4.2.1,(0:Int),(0:Int),true)) x2
def LG:OKE:=fq QR (fun x=>EV x) [Aq3,Ux] Tryz.func25
def BP (a0:Tq6):Option Bool:=(Dy a0.1 (-(20:Int)) 20).bind fun x0=>bif x0 then(Dy a0.2.1 (-(20:Int)) 20).bind fun x1=>bif x1 then(Dy a0.2.2.1 1 8).bind fun x2=>bif x2 then(Dy a0.2.2.2 1 8).bind fun x3=>some x3 else some false else some false else some false
def Ke:OKE:=fq PC (fun x=>BP x) [OF] Tryz.func117
def K9 (s0:List Int):Option ((List Int)⊕(List Int)):=bif decide ((s0.length:Int)>0)then(AD s0 (zi zj ((s0.length:Int)-1))).bind fun x0=>bif(x0==0)then(FT (0:Int) (zi zj ((s0.length:Int)-1)) (List.length s0)).bind fun x1=>some (Sum.inl (List.drop x1.1 (List.take x1.2 s0)))else some (Sum.inr s0)else some (Sum.inr s0)
def CT (a0:List Int):Option (List Int):=(Ad (fun(s:List Int)=>K9 s) a0).bind fun x0=>bif(Al3 (List.length x0) 8 1)then some x0 else none
def H5:OKE:=fq Af3 (fun x=>CT x) [] Tryz.func188
def BA (a0:Bool) (a1:List Int):Option (List Int×Bool):=(CT a1).bind fun x0=>bif a0 then some (x0,decide ((x0.length:Int)>0))else some (x0,false)
def Ft:OKE:=fq X2 (fun x=>BA x.1 x.2) [H5] Tryz.func133
def Lm (s0:Tq5) (s1:List Int) (s2 s3:Int):Option (Tq5×(List Int)×Int×Int⊕Tq5×(List Int)×Int):=bif(s3 != (0:Int))then bif decide ((Int.tmod s3 65536)<0)then(CZ 8 1 s1 ([(zi zj ((0:Int)-(Int.tmod s3 65536)))]:List Int)).bind fun x0=>some (Sum.inl ((s0.1,s0.2),x0,s2,(zi zj (Int.tdiv s3 65536))))else(CZ 8 1 s1 ([(Int.tmod s3 65536)]:List Int)).bind fun x1=>some (Sum.inl ((s0.1,s0.2),x1,s2,(zi zj (Int.tdiv s3 65536))))else some (Sum.inr ((s0.1,s0.2),s1,s2))
def DC (a0:Int):Option Tq12:=(Ad (fun(s:(Tq5×(List Int)×Int×Int))=>Lm s.1 s.2.1 s.2.2.1 s.2.2.2) ((false,([]:List Int)),([]:List Int),a0,a0)).bind fun x0=>(BA (decide (x0.2.2<0)) x0.2.1).bind fun x1=>some (x1.2,x1.1)
def L6:OKE:=fq An1 (fun x=>DC x) [Ft] Tryz.func72
def CU (a0:Int):Option Tq7:=(DC a0).bind fun x0=>(DC 1).bind fun x1=>some (x0.1,x0.2,x1.1,x1.2)
def PZ:OKE:=fq Ad6 (fun x=>CU x) [L6] Tryz.func118
def J0 (a0:Int×Int):Option Tq11:=(CU a0.1).bind fun x0=>(CU a0.2).bind fun x1=>some (x0.1,x0.2.1,x0.2.2.1,x0.2.2.2,x1.1,x1.2.1,x1.2.2.1,x1.2.2.2)
def Aj8:OKE:=fq Ah9 (fun x=>J0 x) [PZ] Tryz.func176
def DJ (s0:List Tq0) (s1:Tq3) (s2 s3:Int):Option ((List Tq0)×Tq3×Int×Int⊕(List Tq0)):=bif decide (s3<s2)then(AD s1 s3).bind fun x0=>(J0 (x0.1,x0.2)).bind fun x1=>(CZ 128 8 s0 ([(((x1.1,x1.2.1),x1.2.2.1,x1.2.2.2.1),(x1.2.2.2.2.1,x1.2.2.2.2.2.1),x1.2.2.2.2.2.2.1,x1.2.2.2.2.2.2.2)]:List Tq0)).bind fun x2=>some (Sum.inl (x2,s1,s2,(zi zj (s3+1))))else some (Sum.inr s0)
def NU (a0:Tq3):Option (List Tq8×Bool):=(Mo a0).bind fun x0=>bif(!x0)then some (([]:List Tq0),false)else(Ad (fun(s:((List Tq0)×Tq3×Int×Int))=>DJ s.1 s.2.1 s.2.2.1 s.2.2.2) (([]:List Tq0),a0,(a0.length:Int),(0:Int))).bind fun x1=>some (x1,true)
def AV6:OKE:=fq X0 (fun x=>NU x) [Ah4,Aj8] Tryz.func119
def Ge (s0:Tq5) (s1:List Int) (s2 s3:Int):Option (Tq5×(List Int)×Int×Int⊕(Bool×(List Int)⊕Bool)):=bif decide (s3<s2)then(AD s1 s3).bind fun x0=>(Dy x0 0 65535).bind fun x1=>bif(!x1)then some (Sum.inr (Sum.inr false))else some (Sum.inl ((s0.1,s0.2),s1,s2,(zi zj (s3+1))))else some (Sum.inr (Sum.inl (s0.1,s0.2)))
def G5 (a0:Tq5):Option Bool:=(Ad (fun(s:(Tq5×(List Int)×Int×Int))=>Ge s.1 s.2.1 s.2.2.1 s.2.2.2) ((a0.1,a0.2),a0.2,(a0.2.length:Int),(0:Int))).bind fun x0=>Sum.elim (fun x1=>bif((x1.2.length:Int)==0)then some (!x1.1)else bif decide ((x1.2.length:Int)<=40)then(AD x1.2 (zi zj ((x1.2.length:Int)-1))).bind fun x2=>some (x2 != (0:Int))else some false) (fun x3=>some x3) x0
def U3:OKE:=fq Vy (fun x=>G5 x) [OF] Tryz.func216
def DG (s0 s1:List Int) (s2:Int):Option ((List Int)×(List Int)×Int⊕(Unit⊕Int)):=bif decide (s2>=0)then(AD s0 s2).bind fun x0=>(AD s1 s2).bind fun x1=>bif decide (x0<x1)then some (Sum.inr (Sum.inr (-(1:Int))))else(AD s0 s2).bind fun x2=>(AD s1 s2).bind fun x3=>bif decide (x2>x3)then some (Sum.inr (Sum.inr (1:Int)))else some (Sum.inl (s0,s1,(zi zj (s2-1))))else some (Sum.inr (Sum.inl ()))
def CA (a0 a1:List Int):Option Int:=bif((a0.length:Int) != (a1.length:Int))then bif decide ((a0.length:Int)<(a1.length:Int))then some (-(1:Int))else some (1:Int)else(Ad (fun(s:((List Int)×(List Int)×Int))=>DG s.1 s.2.1 s.2.2) (a0,a1,(zi zj ((a0.length:Int)-1)))).bind fun x0=>Sum.elim (fun x1=>some (0:Int)) (fun x2=>some x2) x0
def LU:OKE:=fq Ag0 (fun x=>CA x.1 x.2) [] Tryz.func217
def Gb (s0 s1:List Int) (s2 s3 s4:Int):Option ((List Int)×(List Int)×Int×Int×Int⊕(List Int)×Int):=bif decide (s4>=0)then(AD s1 s4).bind fun x0=>bif(s2==0)then none else(A2 s4 (List.length s0)).bind fun x1=>(AY s0 x1).bind fun x2=>bif(s2==0)then none else some (Sum.inl ((List.set s0 x1 (zi zj (Int.tdiv (zi zj ((zi zj (s3*65536))+x0)) s2))),s1,s2,(Int.tmod (zi zj ((zi zj (s3*65536))+x0)) s2),(zi zj (s4-1))))else some (Sum.inr (s0,s3))
def K7 (a0:List Int) (a1:Int):Option (List Int×List Int):=(QB (a0.length:Int) 8 1).bind fun x0=>(Ad (fun(s:Tq16)=>Gb s.1 s.2.1 s.2.2.1 s.2.2.2.1 s.2.2.2.2) ((List.replicate x0 (0:Int)),a0,a1,(0:Int),(zi zj ((a0.length:Int)-1)))).bind fun x1=>(CT x1.1).bind fun x2=>(CT ([x1.2]:List Int)).bind fun x3=>some (x2,x3)
def AK4:OKE:=fq Vk (fun x=>K7 x.1 x.2) [H5] Tryz.func239
def MX (s0:List Int) (s1:Int) (s2:List Int) (s3 s4:Int):Option ((List Int)×Int×(List Int)×Int×Int⊕(List Int)):=bif decide (s4<s3)then(AD s2 s4).bind fun x0=>bif decide ((zi zk s1)<0)then none else(A2 s4 (List.length s0)).bind fun x1=>(AY s0 x1).bind fun x2=>(A2 s4 (List.length s0)).bind fun x3=>(AY s0 x3).bind fun x4=>(A2 (zi zj (s4+1)) (List.length (List.set s0 x3 (orI Go.IntKind.i64 x2 (Int.tmod (TZ Go.IntKind.i64 x0 (zi zk s1)) 65536))))).bind fun x5=>(AY (List.set s0 x3 (orI Go.IntKind.i64 x2 (Int.tmod (TZ Go.IntKind.i64 x0 (zi zk s1)) 65536))) x5).bind fun x6=>some (Sum.inl ((List.set (List.set s0 x3 (orI Go.IntKind.i64 x2 (Int.tmod (TZ Go.IntKind.i64 x0 (zi zk s1)) 65536))) x5 (zi zj (Int.tdiv (TZ Go.IntKind.i64 x0 (zi zk s1)) 65536))),s1,s2,s3,(zi zj (s4+1))))else some (Sum.inr s0)
def Pb (a0:List Int) (a1:Int):Option (List Int):=(QB (zi zj ((a0.length:Int)+1)) 8 1).bind fun x0=>(Ad (fun(s:((List Int)×Int×(List Int)×Int×Int))=>MX s.1 s.2.1 s.2.2.1 s.2.2.2.1 s.2.2.2.2) ((List.replicate x0 (0:Int)),a1,a0,(a0.length:Int),(0:Int))).bind fun x1=>some x1
def A5e:OKE:=fq AF9 (fun x=>Pb x.1 x.2) [] Tryz.func240
def ET (s0 s1:List Int) (s2 s3:Int) (s4 s5:Int):Option ((List Int)×(List Int)×Int×Int×Int×Int⊕Int):=(bif decide (s5<65536)then bif decide (s4>=65536)then some (Sum.inr (s0,s1,s2,s3,s4,s5))else(AD s1 (zi zj (s3-2))).bind fun x0=>(AD s0 (zi zj ((zi zj (s2+s3))-2))).bind fun x1=>bif decide ((zi zj (s4*x0))>(zi zj ((zi zj (s5*65536))+x1)))then some (Sum.inr (s0,s1,s2,s3,s4,s5))else some (Sum.inl (Sum.inr s4))else some (Sum.inl (Sum.inr s4))).bind fun x2=>Sum.elim (fun x3=>some x3) (fun x4=>(AD x4.2.1 (zi zj (x4.2.2.2.1-1))).bind fun x5=>some (Sum.inl (x4.1,x4.2.1,x4.2.2.1,x4.2.2.2.1,(zi zj (x4.2.2.2.2.1-1)),(zi zj (x4.2.2.2.2.2+x5))))) x2
def K5 (a0 a1:List Int) (a2:Int):Option Int:=(AD a0 (zi zj (a2+(a1.length:Int)))).bind fun x0=>(AD a0 (zi zj ((zi zj (a2+(a1.length:Int)))-1))).bind fun x1=>(AD a1 (zi zj ((a1.length:Int)-1))).bind fun x2=>bif(x2==0)then none else(AD a1 (zi zj ((a1.length:Int)-1))).bind fun x3=>bif(x3==0)then none else(Ad (fun(s:((List Int)×(List Int)×Int×Int×Int×Int))=>ET s.1 s.2.1 s.2.2.1 s.2.2.2.1 s.2.2.2.2.1 s.2.2.2.2.2) (a0,a1,a2,(a1.length:Int),(zi zj (Int.tdiv (zi zj ((zi zj (x0*65536))+x1)) x2)),(Int.tmod (zi zj ((zi zj (x0*65536))+x1)) x3))).bind fun x4=>some x4
def AG2:OKE:=fq Wo (fun x=>K5 x.1 x.2.1 x.2.2) [] Tryz.func241
def DX (a0:List Int) (a1:Int):Option Int:=bif decide (a1<(a0.length:Int))then(AD a0 a1).bind fun x0=>some x0 else some (0:Int)
def Ie:OKE:=fq YI (fun x=>DX x.1 x.2) [] Tryz.func276
def Jw (s0 s1:List Int) (s2 s3:Int) (s4 s5:Int):Option ((List Int)×(List Int)×Int×Int×Int×Int⊕(List Int)×Int):=bif decide (s5<=(s1.length:Int))then(A2 (zi zj (s2+s5)) (List.length s0)).bind fun x0=>(AY s0 x0).bind fun x1=>(DX s1 s5).bind fun x2=>(bif decide ((zi zj ((zi zj (x1-(zi zj (s3*x2))))-s4))<0)then some (Sum.inr (s0,s1,s2,s3,(zi zj (Int.tdiv (zi zj ((zi zj ((zi zj ((0:Int)-(zi zj ((zi zj (x1-(zi zj (s3*x2))))-s4))))+65536))-1)) 65536)),s5,(zi zj ((zi zj ((zi zj (x1-(zi zj (s3*x2))))-s4))+(zi zj ((zi zj (Int.tdiv (zi zj ((zi zj ((zi zj ((0:Int)-(zi zj ((zi zj (x1-(zi zj (s3*x2))))-s4))))+65536))-1)) 65536))*65536))))))else some (Sum.inr (s0,s1,s2,s3,(0:Int),s5,(zi zj ((zi zj (x1-(zi zj (s3*x2))))-s4))))).bind fun x3=>Sum.elim (fun x4=>some x4) (fun x5=>(A2 (zi zj (x5.2.2.1+x5.2.2.2.2.2.1)) (List.length x5.1)).bind fun x6=>(AY x5.1 x6).bind fun x7=>some (Sum.inl ((List.set x5.1 x6 x5.2.2.2.2.2.2),x5.2.1,x5.2.2.1,x5.2.2.2.1,x5.2.2.2.2.1,(zi zj (x5.2.2.2.2.2.1+1))))) x3 else some (Sum.inr (s0,s4))
def Np (a0 a1:List Int) (a2 a3:Int):Option (List Int×Int):=(Ad (fun(s:((List Int)×(List Int)×Int×Int×Int×Int))=>Jw s.1 s.2.1 s.2.2.1 s.2.2.2.1 s.2.2.2.2.1 s.2.2.2.2.2) (a0,a1,a2,a3,(0:Int),(0:Int))).bind fun x0=>some (x0.1,x0.2)
def AQ1:OKE:=fq X4 (fun x=>Np x.1 x.2.1 x.2.2.1 x.2.2.2) [Ie] Tryz.func242
def JC (s0 s1:List Int) (s2 s3 s4:Int):Option Tq21:=bif decide (s4<=(s1.length:Int))then(A2 (zi zj (s2+s4)) (List.length s0)).bind fun x0=>(AY s0 x0).bind fun x1=>(DX s1 s4).bind fun x2=>(A2 (zi zj (s2+s4)) (List.length s0)).bind fun x3=>(AY s0 x3).bind fun x4=>some (Sum.inl ((List.set s0 x3 (Int.tmod (zi zj ((zi zj (x1+x2))+s3)) 65536)),s1,s2,(zi zj (Int.tdiv (zi zj ((zi zj (x1+x2))+s3)) 65536)),(zi zj (s4+1))))else some (Sum.inr s0)
def NC (a0 a1:List Int) (a2:Int):Option (List Int):=(Ad (fun(s:Tq16)=>JC s.1 s.2.1 s.2.2.1 s.2.2.2.1 s.2.2.2.2) (a0,a1,a2,(0:Int),(0:Int))).bind fun x0=>some x0
def AT5:OKE:=fq Xd (fun x=>NC x.1 x.2.1 x.2.2) [Ie] Tryz.func243
def JB (s0 s1:List Int) (s2 s3 s4:Int):Option Tq21:=bif decide (s4<s3)then(AD s1 s4).bind fun x0=>(DX s1 (zi zj (s4+1))).bind fun x1=>bif decide ((zi zk s2)<0)then none else(A2 s4 (List.length s0)).bind fun x2=>(AY s0 x2).bind fun x3=>some (Sum.inl ((List.set s0 x2 (Int.tmod (AR8 Go.IntKind.i64 (orI Go.IntKind.i64 x0 (TZ Go.IntKind.i64 x1 (16:Int))) (zi zk s2)) 65536)),s1,s2,s3,(zi zj (s4+1))))else some (Sum.inr s0)
def ML (a0:List Int) (a1:Int):Option (List Int):=(QB (a0.length:Int) 8 1).bind fun x0=>(Ad (fun(s:Tq16)=>JB s.1 s.2.1 s.2.2.1 s.2.2.2.1 s.2.2.2.2) ((List.replicate x0 (0:Int)),a0,a1,(a0.length:Int),(0:Int))).bind fun x1=>(CT x1).bind fun x2=>some x2
def AW9:OKE:=fq Zs (fun x=>ML x.1 x.2) [Ie,H5] Tryz.func244
def D6 (s0 s1:List Int) (s2:Int):Option ((List Int)×(List Int)×Int⊕(List Int)×(List Int)×Int):=(AD s1 (zi zj ((s1.length:Int)-1))).bind fun x0=>bif decide ((zi zk s2)<0)then none else bif decide ((TZ Go.IntKind.i64 x0 (zi zk s2))<32768)then some (Sum.inl (s0,s1,(zi zj (s2+1))))else some (Sum.inr (s0,s1,s2))
def CG (s0 s1 s2:List Int) (s3 s4:Int):Option ((List Int)×(List Int)×(List Int)×Int×Int⊕(List Int)×(List Int)×Int):=bif decide (s4>=0)then(K5 s0 s1 s4).bind fun x0=>(Np s0 s1 s4 x0).bind fun x1=>bif decide ((List.length x1.1)=(List.length s0))then bif decide (x1.2>0)then(NC x1.1 s1 s4).bind fun x2=>bif decide ((List.length x2)=(List.length x1.1))then(A2 s4 (List.length s2)).bind fun x3=>(AY s2 x3).bind fun x4=>some (Sum.inl (x2,s1,(List.set s2 x3 (zi zj (x0-1))),s3,(zi zj (s4-1))))else none else(A2 s4 (List.length s2)).bind fun x5=>(AY s2 x5).bind fun x6=>some (Sum.inl (x1.1,s1,(List.set s2 x5 x0),s3,(zi zj (s4-1))))else none else some (Sum.inr (s0,s2,s3))
def FL (a0 a1:List Int):Option (List Int×List Int):=(CT a0).bind fun x0=>(CA x0 a1).bind fun x1=>bif decide (x1<0)then some (([]:List Int),x0)else bif((a1.length:Int)==1)then(AD a1 0).bind fun x2=>(K7 x0 x2).bind fun x3=>some (x3.1,x3.2)else(Ad (fun(s:((List Int)×(List Int)×Int))=>D6 s.1 s.2.1 s.2.2) (x0,a1,(0:Int))).bind fun x4=>(Pb x4.1 x4.2.2).bind fun x5=>(Pb x4.2.1 x4.2.2).bind fun x6=>(CT x6).bind fun x7=>(QB (zi zj ((zi zj ((x4.1.length:Int)-(x4.2.1.length:Int)))+1)) 8 1).bind fun x8=>(Ad (fun(s:Tq14)=>CG s.1 s.2.1 s.2.2.1 s.2.2.2.1 s.2.2.2.2) (x5,x7,(List.replicate x8 (0:Int)),x4.2.2,(zi zj ((x4.1.length:Int)-(x4.2.1.length:Int))))).bind fun x9=>(CT x9.2.1).bind fun x10=>(CT x9.1).bind fun x11=>(ML x11 x9.2.2).bind fun x12=>some (x10,x12)
def Pr:OKE:=fq Ok (fun x=>FL x.1 x.2) [H5,LU,AK4,A5e,AG2,AQ1,AT5,AW9] Tryz.func189
def Lz (s0 s1:List Int):Option ((List Int)×(List Int)⊕(List Int)):=bif decide ((s1.length:Int)>0)then(FL s0 s1).bind fun x0=>some (Sum.inl (s1,x0.2))else some (Sum.inr s0)
def Mm (a0 a1:List Int):Option (List Int):=(Ad (fun(s:((List Int)×(List Int)))=>Lz s.1 s.2) (a0,a1)).bind fun x0=>(CT x0).bind fun x1=>some x1
def Aj1:OKE:=fq Ah0 (fun x=>Mm x.1 x.2) [Pr,H5] Tryz.func134
def I5 (a0:Tq2):Option Bool:=(G5 (a0.1,a0.2.1)).bind fun x0=>bif(!x0)then some false else(G5 (a0.2.2.1,a0.2.2.2)).bind fun x1=>bif(!x1)then some false else bif a0.2.2.1 then some false else bif((a0.2.2.2.length:Int)==0)then some false else(Mm a0.2.1 a0.2.2.2).bind fun x2=>(CA x2 ([1]:List Int)).bind fun x3=>some (x3==0)
def U5:OKE:=fq Wd (fun x=>I5 x) [U3,Aj1,LU] Tryz.func311
def IZ (a0:Tq2):Option Bool:=bif decide ((a0.2.1.length:Int)<=8)then bif decide ((a0.2.2.2.length:Int)<=8)then(I5 (a0.1,a0.2.1,a0.2.2.1,a0.2.2.2)).bind fun x0=>some x0 else some false else some false
def AJ8:OKE:=fq Vp (fun x=>IZ x) [U5] Tryz.func297
def CL (s0 s1:List Tq0) (s2 s3:Int):Option ((List Tq0)×(List Tq0)×Int×Int⊕((List Tq0)⊕Bool)):=bif decide (s3<s2)then(AD s1 s3).bind fun x0=>(IZ (x0.1.1.1,x0.1.1.2,x0.1.2.1,x0.1.2.2)).bind fun x1=>bif(!x1)then some (Sum.inr (Sum.inr false))else(IZ (x0.2.1.1,x0.2.1.2,x0.2.2.1,x0.2.2.2)).bind fun x2=>bif(!x2)then some (Sum.inr (Sum.inr false))else some (Sum.inl (s0,s1,s2,(zi zj (s3+1))))else some (Sum.inr (Sum.inl s0))
def HG (a0:List Tq0):Option Bool:=(Ad (fun(s:((List Tq0)×(List Tq0)×Int×Int))=>CL s.1 s.2.1 s.2.2.1 s.2.2.2) (a0,a0,(a0.length:Int),(0:Int))).bind fun x0=>Sum.elim (fun x1=>some (decide ((x1.length:Int)<=40))) (fun x2=>some x2) x0
def R6:OKE:=fq Sr (fun x=>HG x) [AJ8] Tryz.func270
def HB (a0:Tq2):Option Bool:=bif decide ((a0.2.1.length:Int)<=2)then bif decide ((a0.2.2.2.length:Int)<=2)then(I5 (a0.1,a0.2.1,a0.2.2.1,a0.2.2.2)).bind fun x0=>some x0 else some false else some false
def Ap3:OKE:=fq SJ (fun x=>HB x) [U5] Tryz.func298
def Ml (a0:Tq4):Option Bool:=(HB (a0.1,a0.2.1,a0.2.2.1,a0.2.2.2.1)).bind fun x0=>bif x0 then(HB (a0.2.2.2.2.1,a0.2.2.2.2.2.1,a0.2.2.2.2.2.2.1,a0.2.2.2.2.2.2.2)).bind fun x1=>some x1 else some false
def A1D:OKE:=fq Ah5 (fun x=>Ml x) [Ap3] Tryz.func271
def D4 (s0 s1:List Int) (s2 s3:Int) (s4 s5:Int) (s6:List Int) (s7 s8:Int):Option ((List Int)×(List Int)×Int×Int×Int×Int×(List Int)×Int×Int⊕(List Int)×(List Int)×(List Int)×Int×Int):=(bif decide (s5<(s1.length:Int))then some (Sum.inr (s0,s1,s2,s3,s4,s5,s6,s7,s8))else bif decide (s4>0)then some (Sum.inr (s0,s1,s2,s3,s4,s5,s6,s7,s8))else some (Sum.inl (Sum.inr (s0,s1,s6,s7,s8)))).bind fun x0=>Sum.elim (fun x1=>some x1) (fun x2=>(A2 (zi zj (x2.2.2.1+x2.2.2.2.2.2.1)) (List.length x2.1)).bind fun x3=>(AY x2.1 x3).bind fun x4=>(DX x2.2.1 x2.2.2.2.2.2.1).bind fun x5=>(A2 (zi zj (x2.2.2.1+x2.2.2.2.2.2.1)) (List.length x2.1)).bind fun x6=>(AY x2.1 x6).bind fun x7=>some (Sum.inl ((List.set x2.1 x6 (Int.tmod (zi zj ((zi zj (x4+(zi zj (x2.2.2.2.1*x5))))+x2.2.2.2.2.1)) 65536)),x2.2.1,x2.2.2.1,x2.2.2.2.1,(zi zj (Int.tdiv (zi zj ((zi zj (x4+(zi zj (x2.2.2.2.1*x5))))+x2.2.2.2.2.1)) 65536)),(zi zj (x2.2.2.2.2.2.1+1)),x2.2.2.2.2.2.2.1,x2.2.2.2.2.2.2.2.1,x2.2.2.2.2.2.2.2.2))) x0
def FS (s0 s1 s2:List Int) (s3 s4:Int):Option Tq20:=bif decide (s4<s3)then(AD s2 s4).bind fun x0=>(Ad (fun(s:((List Int)×(List Int)×Int×Int×Int×Int×(List Int)×Int×Int))=>D4 s.1 s.2.1 s.2.2.1 s.2.2.2.1 s.2.2.2.2.1 s.2.2.2.2.2.1 s.2.2.2.2.2.2.1 s.2.2.2.2.2.2.2.1 s.2.2.2.2.2.2.2.2) (s0,s1,s4,x0,(0:Int),(0:Int),s2,s3,s4)).bind fun x1=>some (Sum.inl (x1.1,x1.2.1,x1.2.2.1,x1.2.2.2.1,(zi zj (x1.2.2.2.2+1))))else some (Sum.inr s0)
def Hc (a0 a1:List Int):Option (List Int):=(QB (zi zj ((zi zj ((a0.length:Int)+(a1.length:Int)))+1)) 8 1).bind fun x0=>(Ad (fun(s:Tq14)=>FS s.1 s.2.1 s.2.2.1 s.2.2.2.1 s.2.2.2.2) ((List.replicate x0 (0:Int)),a1,a0,(a0.length:Int),(0:Int))).bind fun x1=>(CT x1).bind fun x2=>some x2
def Zr:OKE:=fq PL (fun x=>Hc x.1 x.2) [Ie,H5] Tryz.func232
def DB (a0 a1:Tq5):Option Tq12:=(Hc a0.2 a1.2).bind fun x0=>(BA (!(a0.1==a1.1)) x0).bind fun x1=>some (x1.2,x1.1)
def Qv:OKE:=fq Ak2 (fun x=>DB x.1 x.2) [Zr,Ft] Tryz.func179
def JP (a0 a1:Tq5):Option Int:=bif a0.1 then bif(!a1.1)then some (-(1:Int))else bif(!a0.1)then bif a1.1 then some (1:Int)else bif a0.1 then(CA a1.2 a0.2).bind fun x0=>some x0 else(CA a0.2 a1.2).bind fun x1=>some x1 else bif a0.1 then(CA a1.2 a0.2).bind fun x2=>some x2 else(CA a0.2 a1.2).bind fun x3=>some x3 else bif(!a0.1)then bif a1.1 then some (1:Int)else bif a0.1 then(CA a1.2 a0.2).bind fun x4=>some x4 else(CA a0.2 a1.2).bind fun x5=>some x5 else bif a0.1 then(CA a1.2 a0.2).bind fun x6=>some x6 else(CA a0.2 a1.2).bind fun x7=>some x7
def Au6:OKE:=fq R3 (fun x=>JP x.1 x.2) [LU] Tryz.func215
def Id (a0 a1:Tq2):Option Int:=(DB (a0.1,a0.2.1) (a1.2.2.1,a1.2.2.2)).bind fun x0=>(DB (a1.1,a1.2.1) (a0.2.2.1,a0.2.2.2)).bind fun x1=>(JP (x0.1,x0.2) (x1.1,x1.2)).bind fun x2=>some x2
def T9:OKE:=fq An6 (fun x=>Id x.1 x.2) [Qv,Au6] Tryz.func168
def HP (a0:Tq4) (a1:Bool):Option Tq7:=bif a1 then some (a0.2.2.2.2.1,a0.2.2.2.2.2.1,a0.2.2.2.2.2.2.1,a0.2.2.2.2.2.2.2)else some (a0.1,a0.2.1,a0.2.2.1,a0.2.2.2.1)
def SA:OKE:=fq Ti (fun x=>HP x.1 x.2) [] Tryz.func316
def I7 (a0:Tq4) (a1:Bool) (a2:Tq2) (a3:Bool):Option Int:=(HP (a0.1,a0.2.1,a0.2.2.1,a0.2.2.2.1,a0.2.2.2.2.1,a0.2.2.2.2.2.1,a0.2.2.2.2.2.2.1,a0.2.2.2.2.2.2.2) a1).bind fun x0=>(Id (x0.1,x0.2.1,x0.2.2.1,x0.2.2.2) (a2.1,a2.2.1,a2.2.2.1,a2.2.2.2)).bind fun x1=>bif a3 then some (zi zj ((0:Int)-x1))else some x1
def Ay0:OKE:=fq VD (fun x=>I7 x.1 x.2.1 x.2.2.1 x.2.2.2) [SA,T9] Tryz.func313
def Im (a0:Tq5):Option Tq12:=(BA (!a0.1) a0.2).bind fun x0=>some (x0.2,x0.1)
def Ui:OKE:=fq An2 (fun x=>Im x) [Ft] Tryz.func136
def PY (a0:Tq2):Option Tq7:=(Im (a0.1,a0.2.1)).bind fun x0=>some (x0.1,x0.2,a0.2.2.1,a0.2.2.2)
def A2m:OKE:=fq Ag3 (fun x=>PY x) [Ui] Tryz.func301
def Ea (s0 s1 s2:List Int) (s3 s4:Int):Option Tq20:=(bif decide (s4<(s1.length:Int))then some (Sum.inr (s0,s1,s2,s3,s4))else bif decide (s4<(s2.length:Int))then some (Sum.inr (s0,s1,s2,s3,s4))else bif decide (s3>0)then some (Sum.inr (s0,s1,s2,s3,s4))else some (Sum.inl (Sum.inr s0))).bind fun x0=>Sum.elim (fun x1=>some x1) (fun x2=>(DX x2.2.1 x2.2.2.2.2).bind fun x3=>(DX x2.2.2.1 x2.2.2.2.2).bind fun x4=>(CZ 8 1 x2.1 ([(Int.tmod (zi zj ((zi zj (x3+x4))+x2.2.2.2.1)) 65536)]:List Int)).bind fun x5=>some (Sum.inl (x5,x2.2.1,x2.2.2.1,(zi zj (Int.tdiv (zi zj ((zi zj (x3+x4))+x2.2.2.2.1)) 65536)),(zi zj (x2.2.2.2.2+1))))) x0
def Hl (a0 a1:List Int):Option (List Int):=(Ad (fun(s:Tq14)=>Ea s.1 s.2.1 s.2.2.1 s.2.2.2.1 s.2.2.2.2) (([]:List Int),a0,a1,(0:Int),(0:Int))).bind fun x0=>some x0
def XY:OKE:=fq Pl (fun x=>Hl x.1 x.2) [Ie] Tryz.func230
def FR (s0 s1 s2:List Int) (s3 s4 s5:Int):Option ((List Int)×(List Int)×(List Int)×Int×Int×Int⊕(List Int)):=bif decide (s5<s4)then(AD s1 s5).bind fun x0=>(DX s2 s5).bind fun x1=>bif decide ((zi zj ((zi zj (x0-x1))-s3))<0)then(CZ 8 1 s0 ([(zi zj ((zi zj ((zi zj (x0-x1))-s3))+65536))]:List Int)).bind fun x2=>some (Sum.inl (x2,s1,s2,(1:Int),s4,(zi zj (s5+1))))else(CZ 8 1 s0 ([(zi zj ((zi zj (x0-x1))-s3))]:List Int)).bind fun x3=>some (Sum.inl (x3,s1,s2,(0:Int),s4,(zi zj (s5+1))))else some (Sum.inr s0)
def FP (a0 a1:List Int):Option (List Int):=(Ad (fun(s:((List Int)×(List Int)×(List Int)×Int×Int×Int))=>FR s.1 s.2.1 s.2.2.1 s.2.2.2.1 s.2.2.2.2.1 s.2.2.2.2.2) (([]:List Int),a0,a1,(0:Int),(a0.length:Int),(0:Int))).bind fun x0=>(CT x0).bind fun x1=>some x1
def Zh:OKE:=fq Pm (fun x=>FP x.1 x.2) [Ie,H5] Tryz.func231
def MF (a0 a1:Tq5):Option Tq12:=bif(a0.1==a1.1)then(Hl a0.2 a1.2).bind fun x0=>(BA a0.1 x0).bind fun x1=>some (x1.2,x1.1)else(CA a0.2 a1.2).bind fun x2=>bif decide (x2>=0)then(FP a0.2 a1.2).bind fun x3=>(BA a0.1 x3).bind fun x4=>some (x4.2,x4.1)else(FP a1.2 a0.2).bind fun x5=>(BA a1.1 x5).bind fun x6=>some (x6.2,x6.1)
def Ae0:OKE:=fq Al1 (fun x=>MF x.1 x.2) [XY,Ft,LU,Zh] Tryz.func178
def JV (a0 a1:Tq5):Option Tq22:=(FL a0.2 a1.2).bind fun x0=>(BA (!(a0.1==a1.1)) x0.1).bind fun x1=>(BA a0.1 x0.2).bind fun x2=>some ((x1.2,x1.1),x2.2,x2.1)
def Aj6:OKE:=fq An4 (fun x=>JV x.1 x.2) [Pr,Ft] Tryz.func135
def Fs (a0 a1:Tq5):Option Tq7:=(Mm a0.2 a1.2).bind fun x0=>(BA false x0).bind fun x1=>(JV (a0.1,a0.2) (x1.2,x1.1)).bind fun x2=>(JV (a1.1,a1.2) (x1.2,x1.1)).bind fun x3=>bif x3.1.1 then(Im (x2.1.1,x2.1.2)).bind fun x4=>(Im (x3.1.1,x3.1.2)).bind fun x5=>some (x4.1,x4.2,x5.1,x5.2)else some (x2.1.1,x2.1.2,x3.1.1,x3.1.2)
def KR:OKE:=fq XT (fun x=>Fs x.1 x.2) [Aj1,Ft,Aj6,Ui] Tryz.func71
def G7 (a0 a1:Tq2):Option Tq7:=(DB (a0.1,a0.2.1) (a1.2.2.1,a1.2.2.2)).bind fun x0=>(DB (a1.1,a1.2.1) (a0.2.2.1,a0.2.2.2)).bind fun x1=>(MF (x0.1,x0.2) (x1.1,x1.2)).bind fun x2=>(DB (a0.2.2.1,a0.2.2.2) (a1.2.2.1,a1.2.2.2)).bind fun x3=>(Fs (x2.1,x2.2) (x3.1,x3.2)).bind fun x4=>some (x4.1,x4.2.1,x4.2.2.1,x4.2.2.2)
def L8:OKE:=fq Af5 (fun x=>G7 x.1 x.2) [Qv,Ae0,KR] Tryz.func121
def H3 (a0 a1:Tq2):Option Tq7:=(PY (a1.1,a1.2.1,a1.2.2.1,a1.2.2.2)).bind fun x0=>(G7 (a0.1,a0.2.1,a0.2.2.1,a0.2.2.2) (x0.1,x0.2.1,x0.2.2.1,x0.2.2.2)).bind fun x1=>some (x1.1,x1.2.1,x1.2.2.1,x1.2.2.2)
def TG:OKE:=fq An3 (fun x=>H3 x.1 x.2) [A2m,L8] Tryz.func274
def Mn (a0 a1:Tq2):Option Tq7:=(DB (a0.1,a0.2.1) (a1.2.2.1,a1.2.2.2)).bind fun x0=>(DB (a0.2.2.1,a0.2.2.2) (a1.1,a1.2.1)).bind fun x1=>(Fs (x0.1,x0.2) (x1.1,x1.2)).bind fun x2=>some (x2.1,x2.2.1,x2.2.2.1,x2.2.2.2)
def Am1:OKE:=fq Af0 (fun x=>Mn x.1 x.2) [Qv,KR] Tryz.func275
def Ic (a0 a1:Tq2):Option Tq7:=(DB (a0.1,a0.2.1) (a1.1,a1.2.1)).bind fun x0=>(DB (a0.2.2.1,a0.2.2.2) (a1.2.2.1,a1.2.2.2)).bind fun x1=>(Fs (x0.1,x0.2) (x1.1,x1.2)).bind fun x2=>some (x2.1,x2.2.1,x2.2.2.1,x2.2.2.2)
def TF:OKE:=fq Ak3 (fun x=>Ic x.1 x.2) [Qv,KR] Tryz.func171
def I2 (a0 a1 a2:Tq2):Option Tq7:=(H3 (a1.1,a1.2.1,a1.2.2.1,a1.2.2.2) (a0.1,a0.2.1,a0.2.2.1,a0.2.2.2)).bind fun x0=>(Ic (a2.1,a2.2.1,a2.2.2.1,a2.2.2.2) (x0.1,x0.2.1,x0.2.2.1,x0.2.2.2)).bind fun x1=>(G7 (a0.1,a0.2.1,a0.2.2.1,a0.2.2.2) (x1.1,x1.2.1,x1.2.2.1,x1.2.2.2)).bind fun x2=>some (x2.1,x2.2.1,x2.2.2.1,x2.2.2.2)
def AJ1:OKE:=fq V6 (fun x=>I2 x.1 x.2.1 x.2.2) [TG,TF,L8] Tryz.func318
def MM (a0 a1:Tq4) (a2:Tq2):Option Tq11:=(I2 (a0.1,a0.2.1,a0.2.2.1,a0.2.2.2.1) (a1.1,a1.2.1,a1.2.2.1,a1.2.2.2.1) (a2.1,a2.2.1,a2.2.2.1,a2.2.2.2)).bind fun x0=>(I2 (a0.2.2.2.2.1,a0.2.2.2.2.2.1,a0.2.2.2.2.2.2.1,a0.2.2.2.2.2.2.2) (a1.2.2.2.2.1,a1.2.2.2.2.2.1,a1.2.2.2.2.2.2.1,a1.2.2.2.2.2.2.2) (a2.1,a2.2.1,a2.2.2.1,a2.2.2.2)).bind fun x1=>some (x0.1,x0.2.1,x0.2.2.1,x0.2.2.2,x1.1,x1.2.1,x1.2.2.1,x1.2.2.2)
def AQ7:OKE:=fq X8 (fun x=>MM x.1 x.2.1 x.2.2) [AJ1] Tryz.func317
def MR (a0 a1:Tq4) (a2:Bool) (a3:Tq2):Option Tq11:=(HP (a0.1,a0.2.1,a0.2.2.1,a0.2.2.2.1,a0.2.2.2.2.1,a0.2.2.2.2.2.1,a0.2.2.2.2.2.2.1,a0.2.2.2.2.2.2.2) a2).bind fun x0=>(H3 (a3.1,a3.2.1,a3.2.2.1,a3.2.2.2) (x0.1,x0.2.1,x0.2.2.1,x0.2.2.2)).bind fun x1=>(HP (a1.1,a1.2.1,a1.2.2.1,a1.2.2.2.1,a1.2.2.2.2.1,a1.2.2.2.2.2.1,a1.2.2.2.2.2.2.1,a1.2.2.2.2.2.2.2) a2).bind fun x2=>(H3 (x2.1,x2.2.1,x2.2.2.1,x2.2.2.2) (x0.1,x0.2.1,x0.2.2.1,x0.2.2.2)).bind fun x3=>(Mn (x1.1,x1.2.1,x1.2.2.1,x1.2.2.2) (x3.1,x3.2.1,x3.2.2.1,x3.2.2.2)).bind fun x4=>(MM (a0.1,a0.2.1,a0.2.2.1,a0.2.2.2.1,a0.2.2.2.2.1,a0.2.2.2.2.2.1,a0.2.2.2.2.2.2.1,a0.2.2.2.2.2.2.2) (a1.1,a1.2.1,a1.2.2.1,a1.2.2.2.1,a1.2.2.2.2.1,a1.2.2.2.2.2.1,a1.2.2.2.2.2.2.1,a1.2.2.2.2.2.2.2) (x4.1,x4.2.1,x4.2.2.1,x4.2.2.2)).bind fun x5=>bif a2 then some (x5.1,x5.2.1,x5.2.2.1,x5.2.2.2.1,a3.1,a3.2.1,a3.2.2.1,a3.2.2.2)else some (a3.1,a3.2.1,a3.2.2.1,a3.2.2.2,x5.2.2.2.2.1,x5.2.2.2.2.2.1,x5.2.2.2.2.2.2.1,x5.2.2.2.2.2.2.2)
def AP4:OKE:=fq Xv (fun x=>MR x.1 x.2.1 x.2.2.1 x.2.2.2) [SA,TG,Am1,AQ7] Tryz.func314
def C9 (s0:Tq2) (s1 s2:List Tq0) (s3 s4:Bool) (s5:List Tq0) (s6 s7:Int):Option (Tq2×(List Tq0)×(List Tq0)×Bool×Bool×(List Tq0)×Int×Int⊕(List Tq0)):=bif decide (s7<s6)then(AD s5 s7).bind fun x0=>bif((s2.length:Int)==0)then none else(AD s2 (Int.tmod (zi zj ((zi zj (s7+(s2.length:Int)))-1)) (s2.length:Int))).bind fun x1=>(I7 (x1.1.1.1,x1.1.1.2,x1.1.2.1,x1.1.2.2,x1.2.1.1,x1.2.1.2,x1.2.2.1,x1.2.2.2) s3 (s0.1,s0.2.1,s0.2.2.1,s0.2.2.2) s4).bind fun x2=>(I7 (x0.1.1.1,x0.1.1.2,x0.1.2.1,x0.1.2.2,x0.2.1.1,x0.2.1.2,x0.2.2.1,x0.2.2.2) s3 (s0.1,s0.2.1,s0.2.2.1,s0.2.2.2) s4).bind fun x3=>bif(!(decide (x2<=0)==decide (x3<=0)))then(MR (x1.1.1.1,x1.1.1.2,x1.1.2.1,x1.1.2.2,x1.2.1.1,x1.2.1.2,x1.2.2.1,x1.2.2.2) (x0.1.1.1,x0.1.1.2,x0.1.2.1,x0.1.2.2,x0.2.1.1,x0.2.1.2,x0.2.2.1,x0.2.2.2) s3 (s0.1,s0.2.1,s0.2.2.1,s0.2.2.2)).bind fun x4=>(CZ 128 8 s1 ([(((x4.1,x4.2.1),x4.2.2.1,x4.2.2.2.1),(x4.2.2.2.2.1,x4.2.2.2.2.2.1),x4.2.2.2.2.2.2.1,x4.2.2.2.2.2.2.2)]:List Tq0)).bind fun x5=>bif decide (x3<=0)then(CZ 128 8 x5 ([(((x0.1.1.1,x0.1.1.2),x0.1.2.1,x0.1.2.2),(x0.2.1.1,x0.2.1.2),x0.2.2.1,x0.2.2.2)]:List Tq0)).bind fun x6=>some (Sum.inl ((s0.1,s0.2.1,s0.2.2.1,s0.2.2.2),x6,s2,s3,s4,s5,s6,(zi zj (s7+1))))else some (Sum.inl ((s0.1,s0.2.1,s0.2.2.1,s0.2.2.2),x5,s2,s3,s4,s5,s6,(zi zj (s7+1))))else bif decide (x3<=0)then(CZ 128 8 s1 ([(((x0.1.1.1,x0.1.1.2),x0.1.2.1,x0.1.2.2),(x0.2.1.1,x0.2.1.2),x0.2.2.1,x0.2.2.2)]:List Tq0)).bind fun x7=>some (Sum.inl ((s0.1,s0.2.1,s0.2.2.1,s0.2.2.2),x7,s2,s3,s4,s5,s6,(zi zj (s7+1))))else some (Sum.inl ((s0.1,s0.2.1,s0.2.2.1,s0.2.2.2),s1,s2,s3,s4,s5,s6,(zi zj (s7+1))))else some (Sum.inr s1)
def Fu (a0:List Tq0) (a1:Bool) (a2:Tq2) (a3:Bool):Option (List Tq8):=(Ad (fun(s:(Tq2×(List Tq0)×(List Tq0)×Bool×Bool×(List Tq0)×Int×Int))=>C9 s.1 s.2.1 s.2.2.1 s.2.2.2.1 s.2.2.2.2.1 s.2.2.2.2.2.1 s.2.2.2.2.2.2.1 s.2.2.2.2.2.2.2) ((a2.1,a2.2.1,a2.2.2.1,a2.2.2.2),([]:List Tq0),a0,a1,a3,a0,(a0.length:Int),(0:Int))).bind fun x0=>some x0
def AC4:OKE:=fq Vb (fun x=>Fu x.1 x.2.1 x.2.2.1 x.2.2.2) [Ay0,AP4] Tryz.func300
def NM (a0:List Tq0) (a1 a2:Tq4):Option (List Tq8):=(Fu a0 false (a1.1,a1.2.1,a1.2.2.1,a1.2.2.2.1) true).bind fun x0=>(Fu x0 false (a2.1,a2.2.1,a2.2.2.1,a2.2.2.2.1) false).bind fun x1=>(Fu x1 true (a1.2.2.2.2.1,a1.2.2.2.2.2.1,a1.2.2.2.2.2.2.1,a1.2.2.2.2.2.2.2) true).bind fun x2=>(Fu x2 true (a2.2.2.2.2.1,a2.2.2.2.2.2.1,a2.2.2.2.2.2.2.1,a2.2.2.2.2.2.2.2) false).bind fun x3=>some x3
def AX2:OKE:=fq Yu (fun x=>NM x.1 x.2.1 x.2.2) [AC4] Tryz.func273
def Eu (a0:Tq2):Option (Tq7×Bool):=bif decide ((a0.2.1.length:Int)>40)then some ((false,([]:List Int),false,([]:List Int)),false)else bif decide ((a0.2.2.2.length:Int)>40)then some ((false,([]:List Int),false,([]:List Int)),false)else(BA a0.1 a0.2.1).bind fun x0=>(BA false a0.2.2.2).bind fun x1=>some ((x0.2,x0.1,x1.2,x1.1),true)
def N1:OKE:=fq Zt (fun x=>Eu x) [Ft] Tryz.func70
def Lq (a0:Tq4):Option (Tq11×Bool):=(Eu (a0.1,a0.2.1,a0.2.2.1,a0.2.2.2.1)).bind fun x0=>(Eu (a0.2.2.2.2.1,a0.2.2.2.2.2.1,a0.2.2.2.2.2.2.1,a0.2.2.2.2.2.2.2)).bind fun x1=>bif(!x0.2)then some ((false,([]:List Int),false,([]:List Int),false,([]:List Int),false,([]:List Int)),false)else bif(!x1.2)then some ((false,([]:List Int),false,([]:List Int),false,([]:List Int),false,([]:List Int)),false)else some ((x0.1.1,x0.1.2.1,x0.1.2.2.1,x0.1.2.2.2,x1.1.1,x1.1.2.1,x1.1.2.2.1,x1.1.2.2.2),true)
def AM4:OKE:=fq Wf (fun x=>Lq x) [N1] Tryz.func312
def Ez (s0 s1:List Tq0) (s2 s3:Int):Option ((List Tq0)×(List Tq0)×Int×Int⊕((List Tq0)⊕(List Tq0)×Bool)):=bif decide (s3<s2)then(AD s1 s3).bind fun x0=>(Lq (x0.1.1.1,x0.1.1.2,x0.1.2.1,x0.1.2.2,x0.2.1.1,x0.2.1.2,x0.2.2.1,x0.2.2.2)).bind fun x1=>bif(!x1.2)then some (Sum.inr (Sum.inr (([]:List Tq0),false)))else(CZ 128 8 s0 ([(((x1.1.1,x1.1.2.1),x1.1.2.2.1,x1.1.2.2.2.1),(x1.1.2.2.2.2.1,x1.1.2.2.2.2.2.1),x1.1.2.2.2.2.2.2.1,x1.1.2.2.2.2.2.2.2)]:List Tq0)).bind fun x2=>some (Sum.inl (x2,s1,s2,(zi zj (s3+1))))else some (Sum.inr (Sum.inl s0))
def Nh (a0:List Tq0):Option (List Tq8×Bool):=(Ad (fun(s:((List Tq0)×(List Tq0)×Int×Int))=>Ez s.1 s.2.1 s.2.2.1 s.2.2.2) (([]:List Tq0),a0,(a0.length:Int),(0:Int))).bind fun x0=>Sum.elim (fun x1=>some (x1,true)) (fun x2=>some (x2.1,x2.2)) x0
def AT7:OKE:=fq Xb (fun x=>Nh x) [AM4] Tryz.func299
def Lx (a0:List Tq0):Option (List Tq8×Bool):=(HG a0).bind fun x0=>bif(!x0)then some (([]:List Tq0),false)else(Nh a0).bind fun x1=>some (x1.1,x1.2)
def AE6:OKE:=fq VI (fun x=>Lx x) [R6,AT7] Tryz.func272
def Co (a0:List Tq0) (a1 a2:Tq4):Option (List Tq8×Bool):=(HG a0).bind fun x0=>bif(!x0)then some (([]:List Tq0),false)else(Ml (a1.1,a1.2.1,a1.2.2.1,a1.2.2.2.1,a1.2.2.2.2.1,a1.2.2.2.2.2.1,a1.2.2.2.2.2.2.1,a1.2.2.2.2.2.2.2)).bind fun x1=>bif(!x1)then some (([]:List Tq0),false)else(Ml (a2.1,a2.2.1,a2.2.2.1,a2.2.2.2.1,a2.2.2.2.2.1,a2.2.2.2.2.2.1,a2.2.2.2.2.2.2.1,a2.2.2.2.2.2.2.2)).bind fun x2=>bif(!x2)then some (([]:List Tq0),false)else(Id (a1.1,a1.2.1,a1.2.2.1,a1.2.2.2.1) (a2.1,a2.2.1,a2.2.2.1,a2.2.2.2.1)).bind fun x3=>bif decide (x3>0)then some (([]:List Tq0),false)else(Id (a1.2.2.2.2.1,a1.2.2.2.2.2.1,a1.2.2.2.2.2.2.1,a1.2.2.2.2.2.2.2) (a2.2.2.2.2.1,a2.2.2.2.2.2.1,a2.2.2.2.2.2.2.1,a2.2.2.2.2.2.2.2)).bind fun x4=>bif decide (x4>0)then some (([]:List Tq0),false)else(NM a0 (a1.1,a1.2.1,a1.2.2.1,a1.2.2.2.1,a1.2.2.2.2.1,a1.2.2.2.2.2.1,a1.2.2.2.2.2.2.1,a1.2.2.2.2.2.2.2) (a2.1,a2.2.1,a2.2.2.1,a2.2.2.2.1,a2.2.2.2.2.1,a2.2.2.2.2.2.1,a2.2.2.2.2.2.2.1,a2.2.2.2.2.2.2.2)).bind fun x5=>(Lx x5).bind fun x6=>some (x6.1,x6.2)
def AC7:OKE:=fq UY (fun x=>Co x.1 x.2.1 x.2.2) [R6,A1D,T9,AX2,AE6] Tryz.func228
def BO (s0 s1:Tq2) (s2 s3:List Tq0) (s4 s5:Int):Option Tq24:=bif decide (s5<s4)then(AD s3 s5).bind fun x0=>bif((s2.length:Int)==0)then none else(AD s2 (Int.tmod (zi zj (s5+1)) (s2.length:Int))).bind fun x1=>(Ic (x0.1.1.1,x0.1.1.2,x0.1.2.1,x0.1.2.2) (x1.2.1.1,x1.2.1.2,x1.2.2.1,x1.2.2.2)).bind fun x2=>(Ic (x1.1.1.1,x1.1.1.2,x1.1.2.1,x1.1.2.2) (x0.2.1.1,x0.2.1.2,x0.2.2.1,x0.2.2.2)).bind fun x3=>(H3 (x2.1,x2.2.1,x2.2.2.1,x2.2.2.2) (x3.1,x3.2.1,x3.2.2.1,x3.2.2.2)).bind fun x4=>(G7 (s1.1,s1.2.1,s1.2.2.1,s1.2.2.2) (x4.1,x4.2.1,x4.2.2.1,x4.2.2.2)).bind fun x5=>some (Sum.inl ((s0.1,s0.2.1,s0.2.2.1,s0.2.2.2),(x5.1,x5.2.1,x5.2.2.1,x5.2.2.2),s2,s3,s4,(zi zj (s5+1))))else some (Sum.inr ((s0.1,s0.2.1,s0.2.2.1,s0.2.2.2),s1.1,s1.2.1,s1.2.2.1,s1.2.2.2))
def IW (a0:List Tq0):Option Tq7:=(CU 0).bind fun x0=>(Ad (fun(s:(Tq2×Tq2×(List Tq0)×(List Tq0)×Int×Int))=>BO s.1 s.2.1 s.2.2.1 s.2.2.2.1 s.2.2.2.2.1 s.2.2.2.2.2) ((false,([]:List Int),false,([]:List Int)),(x0.1,x0.2.1,x0.2.2.1,x0.2.2.2),a0,a0,(a0.length:Int),(0:Int))).bind fun x1=>(CU 2).bind fun x2=>(Mn (x1.2.1,x1.2.2.1,x1.2.2.2.1,x1.2.2.2.2) (x2.1,x2.2.1,x2.2.2.1,x2.2.2.2)).bind fun x3=>some (x3.1,x3.2.1,x3.2.2.1,x3.2.2.2)
def AH8:OKE:=fq Wa (fun x=>IW x) [PZ,TF,TG,L8,Am1] Tryz.func229
end
end Go.Proofs.YtiijheppiboglaaGreatDoor.Ev
