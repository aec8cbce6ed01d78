/- What the theorem of this claim leans on, part 4. -/
import Derived.Test.YtiijheppiboglaaGreatDoorKC
import Derived.WalkKit
import Derived.SizedLaws
import Derived.IntWalk
import Derived.Below
import Derived.Lib.LaidTab
import Derived.Lib.ItoaMem
import Derived.Lib.AppendIntMem
import Derived.Lib.Itoa
import Derived.Lib.Join
import Derived.Lib.Repeat
import Derived.Lib.Split
import Derived.Lib.SplitLaws
import Derived.Lib.IndexMore
import Derived.Lib.Strings
import Derived.Lib.AtoiAll
import Derived.Lib.AtoiErrMem
import Derived.Shelf.Strings.Builder1
import Derived.Shelf.Strings.Builder2
import Derived.Shelf.Strings.OnBuilder
import Derived.Shelf.Small.Wraps
import Derived.Shelf.Strconv.Atoi
import Derived.Shelf.Strconv.Itoa0
import Derived.Shelf.Strconv.Itoa1
import Derived.Shelf.LaysM
import Derived.Shelf.Strconv.Itoa2
import Derived.Shelf.Strconv.Itoa3
import Derived.Shelf.Strconv.AtoiErrFast
import Derived.Shelf.Strconv.ParseIntEmpty
import Derived.Shelf.Strconv.AtoiFail
import Derived.Shelf.Strconv.Clone
import Derived.Shelf.Strconv.SyntaxError
import Derived.Shelf.LaysC
import Derived.Shelf.Strconv.ToError
import Derived.Shelf.Strconv.Lower
import Derived.Shelf.Strconv.ParseUint10
import Derived.Shelf.Strconv.ParseUint10Empty
import Derived.Shelf.Strconv.ParseUint10Any
import Derived.Shelf.Strconv.ParseInt10
import Derived.Shelf.Strconv.AtoiLong
import Derived.Shelf.Strconv.AtoiInnerAll
import Derived.Shelf.Strconv.RangeError
import Derived.Shelf.Strconv.ToErrorRange
import Derived.Shelf.Strconv.AtoiAll
import Derived.Shelf.Strconv.ErrVarAll
import Derived.Shelf.Strings.Search1
import Derived.Shelf.Strings.Search2
import Derived.Shelf.Strings.Search3
import Derived.Shelf.Strings.Cut
import Derived.Shelf.Strings.Count
import Derived.Shelf.Strings.Shaped
import Derived.Shelf.Strings.Prefix
import Derived.Shelf.Strings.Split
import Derived.Test.YtiijheppiboglaaGreatDoorProg
import Derived.BigCall
import Derived.Lib.OthersKept
import Derived.HandedShaped
import Derived.LaidMore
import Derived.Shelf.Vars
import Derived.Stop.LaidErr
import Derived.KernelRfl
set_option maxHeartbeats 2000000
open Option renaming bind_some → za0, map_eq_some_iff → zb5, map_some → zd2, getD_some → zf5
open List renaming getElem?_eq_getElem → za1, getElem?_eq_some_iff → za3, mem_of_getElem? → za4, all_eq_true → za5, drop_eq_getElem_cons → zb0, mem_flatMap → zb1, eq_nil_of_length_eq_zero → zb2, flatMap_cons → zb4, mem_append → zb6, getD_eq_getElem?_getD → zb7, map_cons → zb8, length_cons → zb9, getElem?_take → zc0, take_of_length_le → zc4, mem_cons → zc7, all_cons → zc8, drop_eq_nil_of_le → zc9, getElem?_map → zd0, length_pos_iff → zd1, getElem?_drop → zd3, length_append → zd4, mem_map → zd5, length_map → zd7, getElem?_append_left → ze3, getElem?_append → ze6, getElem?_replicate → ze7, append_nil → ze8, drop_zero → zf0, mem_singleton → zf2, length_nil → zf3
open Bool renaming and_eq_true → za2, false_eq_true → zc3, true_and → ze1, not_eq_true' → zf4, false_and → zf8, not_true → zg0
open Nat renaming eq_of_beq_eq_true → za6, le_refl → za7, lt_or_ge → zd6, mul_le_mul_right → zd8, lt_of_lt_of_le → zd9, zero_add → ze4, le_trans → ze5, add_mul → zf6
open Sum renaming elim_inr → za8
open Int renaming mul_le_mul_of_nonneg_right → za9, mul_le_mul_of_nonneg_left → zb3, toNat_natCast → zc2, tdiv_eq_ediv_of_nonneg → zc5, tmod_eq_emod_of_nonneg → zc6, mul_add → ze0, le_of_lt → ze2, natAbs_natCast → ze9, mul_nonneg → zf1, natCast_mul → zf7, mul_comm → zf9, mul_assoc → zg1
open Array renaming getD_eq_getD_getElem? → zc1
open Go.IntKind renaming wrap → zi, i64 → zj, u64 → zk
open Option.some renaming inj → zv, injEq → zx
noncomputable section
set_option linter.unusedVariables false
set_option linter.unusedSimpArgs false
set_option linter.unusedSectionVars false
namespace Go.Proofs.YtiijheppiboglaaGreatDoor.Ev
section
open Go
section
variable {P:Program} {R:Rel} {cf:Cfg} {X:TX} {g:FuncId}
def KB(R:Rel)(cf:Cfg)(X:TX):Prop:=∀g E,ZF X.ents g=some E->CB R E/\E.a.g=g/\cf.byref g=(Fj E.a.params).map Xe
theorem A2f{α:Type}{op:Op}{b:Nat}{tm:TTm}{m:Tm}{hp hpm:THp}{hvm:Hp}{K:SV->THp->Cls->Option α}{z:α}(hX:XOK P X)(hisr:isR op=true)(hr:RT hp tm m)(hh:RHm hpm hp hvm)(h:BJ X op b tm hpm K=some z):CK P R cf op b m hp hpm hvm K z:=by
 cases op with
 |load t a=>exact A0V hX hr hh h
 |indexAddr t x i=>exact A3N hX hr hh h
 |convert s d x=>exact A0S hX hr hh h
 |slice t x lo hi mx=>
  cases mx with
  |none=>exact AI0 hX hr hh h
  |some m'=>
   cases hi with
   |none=>simp[BJ]at h
   |some h'=>exact Aq4 hX hr h
 |_=>simp[isR]at hisr
theorem A2I{α:Type}{op:Op}{b:Nat}{tm:TTm}{m:Tm}{hp:THp}{hv:Hp}{K:SV->THp->Cls->Option α}{z:α}(hX:XOK P X)(hE:KB R cf X)(hh:RH hp hv)(hr:RT hp tm m)(h:BJ X op b tm hp K=some z):X1 P R cf op b tm m hv K z:=by
 cases op with
 |move x=>exact(A4T hr h).done hh hr
 |assign x=>exact(A1W hr h).done hh hr
 |pick c x y=>exact(A4Q hr h).done hh hr
 |alloc t=>exact A2C hX hh hr h
 |box t x=>exact A5m hX hh hr h
 |build t Ai=>exact(A29 hX hr h).done hh hr
 |buildSlice t len Ai=>exact A3B hX hh hr h
 |load t a=>exact(A0V hX hr hh.toM h).done hh hr
 |store t a x=>exact A3l hX hh hr h
 |nilCheck x=>exact(A5H hr h).done hh hr
 |binOp op t x y yt=>exact(A5q hX hr h).done hh hr
 |unOp u t x=>exact(A6c hr h).done hh hr
 |convert s d x=>exact(A0S hX hr hh.toM h).done hh hr
 |makeSlice t l c=>exact A4N hX hh hr h
 |slice t x lo hi mx=>
  cases mx with
  |none=>exact(AI0 hX hr hh.toM h).done hh hr
  |some m'=>
   cases hi with
   |none=>simp[BJ]at h
   |some h'=>exact(Aq4 hX hr h).done hh hr
 |fieldAddr t x k=>exact(As6 hX hr h).done hh hr
 |field t x k=>exact(A24 hX hr h).done hh hr
 |indexAddr t x i=>exact(A3N hX hr hh.toM h).done hh hr
 |index t x i=>exact(A3C hX hr h).done hh hr
 |extract x k=>exact(AV3 hr h).done hh hr
 |makeFunc fn first caps=>
  cases fn with
  |func f=>exact(A4n hr h).done hh hr
  |_=>simp[BJ]at h
 |call c=>
  obtain⟨callee,args,ts⟩:=c;cases callee with
  |builtin bi=>
   cases bi with
   |append=>exact AX9 hX hh hr h
   |len=>exact(A5y hX hr hh.toM h).done hh hr
   |min=>exact(A51 hr h).done hh hr
   |max=>exact(A5z hr h).done hh hr
   |_=>simp[BJ]at h
  |value f=>
   simp only[BJ]at h
   split at h
   ·rename_i g caps hf;have hc:=A2 hr f;rw[hf]at hc;obtain⟨us,hfv,hcs⟩:=AJ7 hc;obtain⟨x,hp',cls,y,hv',h1,h2,h3,h4,h5⟩:=AM8 hE hh hr (RC.append (JG hr args.toList) (hcs.mono fun _ _ _ h=>h.to1.to2)) h;refine⟨x,hp',cls,y,hv',h1,h2,h3,h4,fun KV hk=> ?_⟩
    show(match AG m f with|.cl g caps=>DZ R cf g (args.toList.map (AG m)++caps) hv b KV|_=>False);rw[hfv];exact h5 KV hk
   ·cases h
  |_=>simp[BJ]at h
 |_=>simp[BJ]at h
theorem A2k{b:Nat}:∀(hp:THp)(id:Nat),AF (Aj0 b hp) id=if id<b then AF hp id else none
 |[],id=>by simp[Aj0,AF]
 |(k,x)::l,id=>by
  have ih:=A2k (b:=b) l id;unfold Aj0 at ih⊢
  rw[List.filter_cons];by_cases hk:k<b
  ·have:Nat.blt k b=true:=Nat.ble_eq_true_of_le hk;simp only[this,if_true];rw[AA,AA];by_cases hi:id=k
   ·subst hi;rw[zr rfl,zr rfl,zr hk]
   ·rw[zw hi,zw hi];exact ih
  ·have:Nat.blt k b=false:=by
    cases hb:Nat.blt k b with
    |false=>rfl
    |true=>exact absurd (Nat.lt_of_succ_le (Nat.le_of_ble_eq_true hb)) hk
   simp only[this,zc3,if_false];rw[AA];by_cases hi:id=k
   ·subst hi;rw[zw hk]at ih⊢;exact ih
   ·rw[zw hi];exact ih
theorem A2R{α:Type}{draw:Bool}{op:Op}{b:Nat}{tm:TTm}{m:Tm}{hp:THp}{hv:Hp}{K:SV->THp->Cls->Option α}{z:α}(hX:XOK P X)(hE:KB R cf X)(hh:RH hp hv)(hr:RT hp tm m)(h:AZ7 X draw op b tm hp K=some z):
  ∃x hp' cls y hv',K x hp' cls=some z/\RV2 hp' x y/\RH hp' hv'/\RT hp' tm m/\∀KV:Cb,KV y hv' cls->GU P R cf draw op b (AG m) hv KV:=by
 unfold AZ7 at h;cases hd:draw&&isR op with
 |true=>
  rw[hd]at h;have hi:isR op=true:=by simp only[za2]at hd;exact hd.2
  obtain⟨x,y,cls,h1,h2,h3⟩:=A2f (R:=R) (cf:=cf) (hp:=hp) (hpm:=Aj0 b hp) (hvm:=A3L b hv) hX hi hr (fun id bb hb=>by
   rw[A2k]at hb
   split at hb
   ·rename_i hlt;obtain⟨k,hk,hrb⟩:=hh id bb hb;exact⟨hb,k,by simp only[A3L,zr hlt,hk],hrb⟩
   ·cases hb) h
  refine⟨x,hp,cls,y,hv,h1,h2,hh,hr,fun KV hk=> ?_⟩
  unfold GU;rw[hd];exact h3 (fun x _ cls=>KV x hv cls) hk
 |false=>
  rw[hd]at h;obtain⟨x,hp',cls,y,hv',h1,h2,h3,h4,h5⟩:=A2I hX hE hh hr h;refine⟨x,hp',cls,y,hv',h1,h2,h3,h4,fun KV hk=> ?_⟩
  unfold GU;rw[hd];exact h5 KV hk
theorem AH1{hp:THp}{tm:TTm}{m:Tm}{x:SV}{y:V}(h:RT hp tm m)(hx:RV2 hp x y)(dst:Option Tmp):RT hp (OX tm dst x) (put m dst y):=by
 cases dst with
 |none=>exact h
 |some d=>
  intro t;simp only[OX,put];rw[E4];unfold upd
  split
  ·exact hx
  ·exact h t
theorem A0q{hp:THp}{tm:TTm}{m:Tm}{op:Op}(hr:RT hp tm m)(h:Az8 tm op=true):AJ3 m op=AY9 tm op:=by
 unfold AJ3 AY9;unfold Az8 at h;generalize op.operands.toList=l at h⊢
 induction l with
 |nil=>rfl
 |cons y l ih=>
  simp only[zb8,zc8,za2]at h;simp only[zb4,zb8];rw[ih h.2,(HG h.1 (A2 hr y)).2.2.1]
theorem P3{α β:Type}{f g:α->List β}:∀{l:List α},(∀x∈l,f x=g x)->l.flatMap f=l.flatMap g
 |[],_=>rfl
 |x::l,h=>by
  rw[zb4,zb4,h x (List.mem_cons_self ..),P3 fun y hy=>h y (List.mem_cons_of_mem _ hy)]
theorem Am4{hp:THp}{hv:Hp}{tm:TTm}{m:Tm}{op:Op}{ids:List Nat}(hE:KB R cf X)(hh:RH hp hv)(hr:RT hp tm m)(h:QA X op tm hp=some ids):IJ cf op (AG m) hv=some ids:=by
 unfold QA at h
 split at h
 ·rename_i t a x
  split at h
  ·rename_i hc;cases h
   simp only[za2]at hc;simp only[IJ];rw[(HG hc.1 (A2 hr a)).2.2.1,(HG hc.2 (A2 hr x)).2.2.1]
  ·cases h
 ·rename_i f args tys
  split at h
  case h_2=>cases h
  rename_i g caps hf
  split at h
  case h_2=>cases h
  rename_i E hfe;obtain⟨_,_,hbr⟩:=hE g E hfe
  split at h
  case h_2=>cases h
  rename_i args' hargs'
  split at h
  case isFalse=>cases h
  rename_i s1
  split at h
  case h_2=>cases h
  rename_i o ho;cases h
  have hc:=A2 hr f;rw[hf]at hc;obtain⟨us,hfv,hcs⟩:=AJ7 hc;obtain⟨ys',hV,hargs2,hlent⟩:=Pm hh hargs' (RC.append (JG hr args.toList) (hcs.mono fun _ _ _ h=>h.to1.to2));obtain⟨a1,a2,a3,a4⟩:=RC.all1 s1 hargs2;rw[<-hbr]at hV hlent;have hclose:ER hv 64 (ys'.flatMap Af) []=some o:=by rw[a2];exact Hn hh _ _ _ ho
  have hcloseC:Eg hv (ys'.flatMap Af)=some o:=by
   unfold Eg;rw[hclose];simp only;rw[zr (by rw[a2];exact Rd hh ho)]
  simp only[IJ,hfv,hV,hcloseC,hlent]
 ·rename_i t n Ai
  split at h
  ·rename_i hc;cases h
   simp only[IJ]
   congr 1
   refine P3 fun p hp=> ?_
   exact(HG (za5.1 hc p hp) (A2 hr p.2)).2.2.1
  ·cases h
 ·cases h
theorem A3y{hp:THp}{hv:Hp}{tm:TTm}{m:Tm}{all:List Oper}{i:Nat}(hE:KB R cf X)(hh:RH hp hv)(hr:RT hp tm m)(h:AR0 X all tm hp i=true):Io cf all m hv i=true:=by
 unfold AR0 at h;unfold Io;cases ha:all[i]? with
 |none=>rw[ha]at h;cases h
 |some a=>
  rw[ha]at h;simp only[za2]at h⊢
  refine⟨h.1,?_⟩
  replace h:=h.2
  cases ht:QA X a.op tm hp with
  |none=>rw[ht]at h;cases h
  |some ids=>
   rw[ht]at h;rw[Am4 hE hh hr ht];simp only at h⊢
   refine za5.2 fun j hj=> ?_
   have h4:=za5.1 h j hj;cases ho:all[j]? with
   |none=>simp
   |some o=>
    rw[ho]at h4;simp only[Bool.or_eq_true,za2]at h4⊢
    rcases h4 with h4|h4|⟨h4,h5,h6⟩
    ·exact .inl h4
    ·exact .inr (.inl h4)
    ·exact .inr (.inr ⟨h4,by rw[A0q hr h5];exact h6⟩)
theorem A4o{hp:THp}{hv:Hp}{tm:TTm}{m:Tm}{all:List Oper}{i:Nat}(hE:KB R cf X)(hh:RH hp hv)(hr:RT hp tm m)(h:(eOK all i||AR0 X all tm hp i)=true):(eOK all i||Io cf all m hv i)=true:=by
 simp only[Bool.or_eq_true]at h⊢
 exact h.imp (fun h=>h) (A3y hE hh hr)
theorem A0U{α:Type}{draw ok ok':Bool}{cls:Cls}{A:Option α}{z:α}(hok:ok=true->ok'=true)(h:Z7 draw ok cls A=some z):A=some z/\∀B:Prop,B->drawn draw ok' cls B:=by
 cases draw<;>cases cls<;>first|exact⟨h,fun B hb=>hb⟩|(obtain⟨h1,h2⟩:=C1 h;exact⟨h2,fun B hb=>⟨hok h1,hb⟩⟩)
theorem WR{α:Type}{all:List Oper}{draw:Bool}(hX:XOK P X)(hE:KB R cf X):∀(l:List Oper)(i:Nat){st:TSt}{s:St}{K:TSt->Option α}{z:α},RS st s->Qp X all draw l i st K=some z->
  ∃st' s',K st'=some z/\RS st' s'/\st'.c=st.c/\∀KV:St->Prop,KV s'->Cl P R cf all draw l i s KV
 |[],i,st,s,K,z,hs,h=>⟨st,s,h,hs,rfl,fun KV hk=>hk⟩
 |o::l,i,st,s,K,z,hs,h=>by
  have go:∀(tm:TTm),RT st.hp tm s.tm->(AZ7 X draw o.op (16*(st.c+i)) tm st.hp fun x hp cls=>Z7 draw (eOK all i||AR0 X all tm st.hp i) cls (Qp X all draw l (i+1) {tm:=OX tm o.dst x,hp:=hp,c:=st.c} K))=some z->
    ∃st' s',K st'=some z/\RS st' s'/\st'.c=st.c/\∀KV:St->Prop,KV s'->GU P R cf draw o.op (16*(s.c+i)) (AG s.tm) s.hp fun x hp cls=>drawn draw (eOK all i||Io cf all s.tm s.hp i) cls (Cl P R cf all draw l (i+1) {tm:=put s.tm o.dst x,hp:=hp,c:=s.c} KV):=by
   intro tm hr h;obtain⟨x,hp',cls,y,hv',h1,h2,h3,h4,h5⟩:=A2R (R:=R) (cf:=cf) hX hE hs.hp hr h;obtain⟨h6,h7⟩:=A0U (A4o hE hs.hp hr) h1;obtain⟨st',s',q1,q2,q3,q4⟩:=WR hX hE l (i+1) (st:={tm:=OX tm o.dst x,hp:=hp',c:=st.c}) (s:={tm:=put s.tm o.dst y,hp:=hv',c:=s.c}) ⟨AH1 h4 h2 o.dst,h3,hs.c⟩ h6;exact⟨st',s',q1,q2,q3,fun KV hk=>by rw[hs.c];exact h5 _ (by have:=h7 _ (q4 KV hk);rw[hs.c]at this;exact this)⟩
  have no:∀(tm:TTm),RT st.hp tm s.tm->Qp X all draw l (i+1) {tm:=OX tm o.dst (.tup []),hp:=st.hp,c:=st.c} K=some z->
    ∃st' s',K st'=some z/\RS st' s'/\st'.c=st.c/\∀KV:St->Prop,KV s'->Cl P R cf all draw l (i+1) {tm:=put s.tm o.dst (.tup []),hp:=s.hp,c:=s.c} KV:=by
   intro tm hr h;exact WR hX hE l (i+1) (st:={tm:=OX tm o.dst (.tup []),hp:=st.hp,c:=st.c}) (s:={tm:=put s.tm o.dst (.tup []),hp:=s.hp,c:=s.c}) ⟨AH1 (x:=.tup []) (y:=.tup []) hr ⟨[],rfl,trivial⟩ o.dst,hs.hp,hs.c⟩ h
  simp only[Qp]at h;cases hg:o.guard with
  |none=>
   rw[hg]at h;obtain⟨st',s',q1,q2,q3,q4⟩:=go st.tm hs.tm h;exact⟨st',s',q1,q2,q3,fun KV hk=>by unfold Cl;rw[hg];exact q4 KV hk⟩
  |some jw=>
   obtain⟨j,want⟩:=jw;rw[hg]at h;simp only at h;cases hd:(all[j]?).bind (·.dst)with
   |none=>rw[hd]at h;cases h
   |some d=>
    rw[hd]at h;simp only at h;have htd:=hs.tm d;have fin:∀w:Bool,R2 (s.tm d) want=some w->(∃st' s',K st'=some z/\RS st' s'/\st'.c=st.c/\∀KV:St->Prop,KV s'->(if w=true then GU P R cf draw o.op (16*(s.c+i)) (AG s.tm) s.hp fun x hp cls=>drawn draw (eOK all i||Io cf all s.tm s.hp i) cls (Cl P R cf all draw l (i+1) {tm:=put s.tm o.dst x,hp:=hp,c:=s.c} KV)else Cl P R cf all draw l (i+1) {tm:=put s.tm o.dst (.tup []),hp:=s.hp,c:=s.c} KV))->
      ∃st' s',K st'=some z/\RS st' s'/\st'.c=st.c/\∀KV:St->Prop,KV s'->Cl P R cf all draw (o::l) i s KV:=by
     intro w hw ⟨st',s',q1,q2,q3,q4⟩;refine⟨st',s',q1,q2,q3,fun KV hk=> ?_⟩
     unfold Cl;rw[hg];simp only[hd,zd2,Am,hw];exact q4 KV hk
    have same:∀t:Bool,s.tm d=.v (.bool t)->RT st.hp ((d,.bool t)::st.tm) s.tm:=by
     intro t ht t';rw[E4]
     split
     ·rename_i he;rw[he,ht];rfl
     ·exact hs.tm t'
    split at h
    ·rename_i t hv;rw[hv]at htd;have htd:=N8 htd;cases want with
     |true=>
      simp only at h;cases t with
      |true=>
       obtain⟨st',s',q1,q2,q3,q4⟩:=go _ (same true htd) h;exact fin true (by rw[htd];rfl) ⟨st',s',q1,q2,q3,fun KV hk=>by rw[zr rfl];exact q4 KV hk⟩
      |false=>
       obtain⟨st',s',q1,q2,q3,q4⟩:=no _ (same false htd) h;exact fin false (by rw[htd];rfl) ⟨st',s',q1,q2,q3,fun KV hk=>by rw[zw (by simp)];exact q4 KV hk⟩
     |false=>
      simp only at h;cases t with
      |true=>
       obtain⟨st',s',q1,q2,q3,q4⟩:=no _ (same true htd) h;exact fin false (by rw[htd];rfl) ⟨st',s',q1,q2,q3,fun KV hk=>by rw[zw (by simp)];exact q4 KV hk⟩
      |false=>
       obtain⟨st',s',q1,q2,q3,q4⟩:=go _ (same false htd) h;exact fin true (by rw[htd];rfl) ⟨st',s',q1,q2,q3,fun KV hk=>by rw[zr rfl];exact q4 KV hk⟩
    ·rename_i hv;rw[hv]at htd;obtain⟨us,hus,hc⟩:=(show ∃us,s.tm d=.tup us/\RC (RV1 st.hp) [] us from htd);cases us with
     |cons a l=>exact hc.elim
     |nil=>
      obtain⟨st',s',q1,q2,q3,q4⟩:=no _ hs.tm h;exact fin false (by rw[hus];rfl) ⟨st',s',q1,q2,q3,fun KV hk=>by rw[zw (by simp)];exact q4 KV hk⟩
    ·cases h
structure CfOK (cf:Cfg) (g:FuncId) (X:TX):Prop where
 live:∀r an,D4 X.ann.heads r=some an->cf.live g r=Ce an
 out:∀r outs ex an,D4 X.ann.outs r=some outs->OO outs ex=some an->cf.out g r ex=Ce an
 join:∀r an,D4 X.ann.joins r=some an->cf.join g r=some (Ce an)
 nojoin:∀r,D4 X.ann.joins r=none->cf.join g r=none
 res:cf.res g=(Ce X.ann.res).map (·.2)
 par:cf.par g=Ce X.ann.params
 rts:cf.rts g=Fi (Uu (CD X.ann.res) X.ann.e 0 (CD X.ann.res))
theorem Zv{a b:Ex}(h:RL a b=true):a=b:=by
 cases a<;>cases b<;>simp[RL]at h
 ·rfl
 ·rw[h]
 ·rfl
theorem AF6{α:Type}{e:Nat}{Q:A0t α}{ex:Ex}{st:TSt}{z:α}:∀{l:List (Ex×List Item)}{d:A3G l},AC4 e l ex st=some d->A0e Q l d=some z->∃an dd,OO l ex=some an/\Ff e an st=some dd/\Q ex (HM an dd)=some z
 |[],d,h,_=>by cases h
 |[a],d,h,hz=>by
  simp only[AC4]at h;obtain⟨h1,h2⟩:=C1 h;have:=Zv h1;subst this;refine⟨a.2,d,?_,h2,hz⟩
  show cond (RL a.1 a.1) (some a.2) _=_;rw[h1];rfl
 |a::b::l,d,h,hz=>by
  simp only[AC4]at h;cases hc:RL a.1 ex with
  |true=>
   rw[hc]at h;simp only[cond_true,zb5]at h;obtain⟨dd,h1,rfl⟩:=h;have:=Zv hc;subst this;refine⟨a.2,dd,?_,h1,hz⟩
   show cond (RL a.1 a.1) (some a.2) _=_;rw[hc];rfl
  |false=>
   rw[hc]at h;simp only[cond_false,zb5]at h;obtain⟨dd,h1,rfl⟩:=h;obtain⟨an,d2,q1,q2,q3⟩:=AF6 (l:=b::l) h1 hz;refine⟨an,d2,?_,q2,q3⟩
   show cond (RL a.1 ex) (some a.2) (OO (b::l) ex)=_;rw[hc];exact q1
theorem E7(hX:XOK P X)(hE:KB R cf X)(hcf:CfOK cf g X):∀(c:Code){α:Type}{st:TSt}{s:St}{Q:A0t α}{z:α},RS st s->wtC X c st Q=some z->
  ∃ex st' s',Q ex st'=some z/\RS st' s'/\∀QV:G7,QV ex s'->we P R cf g X.e c s QV
 |.skip,α,st,s,Q,z,hs,h=>⟨.normal,st,s,h,hs,fun QV hq=>hq⟩
 |.exit id,α,st,s,Q,z,hs,h=>⟨.exit id,st,s,h,hs,fun QV hq=>hq⟩
 |.ret,α,st,s,Q,z,hs,h=>⟨.ret,st,s,h,hs,fun QV hq=>hq⟩
 |.region id ops draw,α,st,s,Q,z,hs,h=>by
  obtain⟨st',s',h1,h2,h3,h4⟩:=WR (R:=R) (cf:=cf) hX hE _ 0 hs h;refine⟨.normal,_,{s' with c:=s'.c+ops.size},h1,⟨h2.tm,h2.hp,by show s'.c+_=st'.c+_;rw[h2.c]⟩,fun QV hq=> ?_⟩
  unfold we;exact h4 _ hq
 |.seq a b,α,st,s,Q,z,hs,h=>by
  unfold wtC at h;cases hj:D4 X.ann.joins (rid b)with
  |none=>
   rw[hj]at h;simp only at h;obtain⟨ex,st1,s1,h1,h2,h3⟩:=E7 hX hE hcf a hs h;cases ex with
   |normal=>
    obtain⟨ex,st2,s2,q1,q2,q3⟩:=E7 hX hE hcf b h2 h1;exact⟨ex,st2,s2,q1,q2,fun QV hq=>by unfold we;exact h3 _ (by show Af0 _ _ _ _;rw[hcf.nojoin _ hj];exact q3 QV hq)⟩
   |exit id=>exact⟨.exit id,st1,s1,h1,h2,fun QV hq=>by unfold we;exact h3 _ hq⟩
   |ret=>exact⟨.ret,st1,s1,h1,h2,fun QV hq=>by unfold we;exact h3 _ hq⟩
  |some an=>
   rw[hj]at h;simp only at h;obtain⟨w,hw,hz⟩:=Bh h;obtain⟨ex,st1,s1,h1,h2,h3⟩:=E7 hX hE hcf a hs hw;have other:∀ex',ex'≠ .normal->ex=ex'->(Q ex' st1).map Sum.inl=some w->∃ex st' s',Q ex st'=some z/\RS st' s'/\∀QV:G7,QV ex s'->we P R cf g X.e (a.seq b) s QV:=by
    intro ex' hne he h1;subst he;simp only[zb5]at h1;obtain⟨r,hr,rfl⟩:=h1;simp only[Sum.elim_inl,zx]at hz;subst hz;refine⟨ex,st1,s1,hr,h2,fun QV hq=> ?_⟩
    unfold we;refine h3 _ ?_
    cases ex with
    |normal=>exact absurd rfl hne
    |exit id=>exact hq
    |ret=>exact hq
   cases ex with
   |normal=>
    simp only[zb5]at h1;obtain⟨d,hd,rfl⟩:=h1;simp only[za8]at hz;obtain⟨s2,c1,c2⟩:=La h2 hd;obtain⟨ex,st3,s3,q1,q2,q3⟩:=E7 hX hE hcf b c2 hz;exact⟨ex,st3,s3,q1,q2,fun QV hq=>by unfold we;exact h3 _ (by show Af0 _ _ _ _;rw[hcf.join _ _ hj];exact c1 _ (q3 QV hq))⟩
   |exit id=>exact other (.exit id) (by simp) rfl h1
   |ret=>exact other .ret (by simp) rfl h1
 |.cond c x y,α,st,s,Q,z,hs,h=>by
  unfold wtC at h;have hc:=A2 hs.tm c
  split at h
  ·rename_i t ht;rw[ht]at hc;have hc:=N8 hc;cases t with
   |true=>
    obtain⟨ex,st1,s1,h1,h2,h3⟩:=E7 hX hE hcf x hs h;exact⟨ex,st1,s1,h1,h2,fun QV hq=>by unfold we;rw[hc];exact h3 QV hq⟩
   |false=>
    obtain⟨ex,st1,s1,h1,h2,h3⟩:=E7 hX hE hcf y hs h;exact⟨ex,st1,s1,h1,h2,fun QV hq=>by unfold we;rw[hc];exact h3 QV hq⟩
  ·cases h
 |.block id c,α,st,s,Q,z,hs,h=>by
  unfold wtC at h;obtain⟨ex,st1,s1,h1,h2,h3⟩:=E7 hX hE hcf c hs h;cases ex with
  |normal=>exact⟨.normal,st1,s1,h1,h2,fun QV hq=>by unfold we;exact h3 _ hq⟩
  |ret=>exact⟨.ret,st1,s1,h1,h2,fun QV hq=>by unfold we;exact h3 _ hq⟩
  |exit j=>
   simp only at h1;cases hj:Nat.beq j id with
   |true=>
    rw[hj]at h1;have hji:=za6 hj;exact⟨.normal,st1,s1,h1,h2,fun QV hq=>by unfold we;exact h3 _ (by show(if j=id then _ else _);rw[zr hji];exact hq)⟩
   |false=>
    rw[hj]at h1;have hji:j≠id:=fun he=>by subst he;rw[Nat.beq_refl]at hj;cases hj
    exact⟨.exit j,st1,s1,h1,h2,fun QV hq=>by unfold we;exact h3 _ (by show(if j=id then _ else _);rw[zw hji];exact hq)⟩
 |.loop c,α,st,s,Q,z,hs,h=>by
  unfold wtC at h
  split at h
  ·rename_i an outs ha ho;obtain⟨d0,hd0,h⟩:=Bh h;obtain⟨w,hw,hz⟩:=Bh h;obtain⟨n,hn⟩:=Mm hw;obtain⟨s0,c1,c2⟩:=La hs hd0;have key:∀(n:Nat)(d:B9 an)(s0:St),GV (fun d=>wtC X c (HM an d) fun ex s=>match ex with|.normal=>(Ff X.e an s).map .inl|ex=>(AC4 X.e outs ex s).map .inr) n d=some w->RS (HM an d) s0->
     ∃ex st' s',Q ex st'=some z/\RS st' s'/\∀QV:G7,QV ex s'->W6 P R cf g X.e c s0 QV:=by
    intro n
    induction n with
    |zero=>intro d s0 h _;cases h
    |succ n ih=>
     intro d s0 h hs0;simp only[GV]at h;obtain⟨o,hb,h⟩:=Bh h;obtain⟨ex,st1,s1,h1,h2,h3⟩:=E7 hX hE hcf c hs0 hb;have other:∀ex',ex'≠ .normal->ex=ex'->(AC4 X.e outs ex' st1).map Sum.inr=some o->∃ex st' s',Q ex st'=some z/\RS st' s'/\∀QV:G7,QV ex s'->W6 P R cf g X.e c s0 QV:=by
      intro ex' hne he h1;subst he;simp only[zb5]at h1;obtain⟨w',hw',rfl⟩:=h1;simp only[za8,zx]at h;subst h;obtain⟨an2,dd,q1,q2,q3⟩:=AF6 hw' hz;obtain⟨s2,e1,e2⟩:=La h2 q2;refine⟨ex,_,s2,q3,e2,fun QV hq=> ?_⟩
      rw[VP];refine h3 _ ?_
      cases ex with
      |normal=>exact absurd rfl hne
      |exit id=>show EU _ _ _ _;rw[hcf.out _ _ _ _ ho q1];exact e1 _ hq
      |ret=>show EU _ _ _ _;rw[hcf.out _ _ _ _ ho q1];exact e1 _ hq
     cases ex with
     |normal=>
      simp only[zb5]at h1;obtain⟨d',hd',rfl⟩:=h1;simp only[Sum.elim_inl]at h;obtain⟨s2,e1,e2⟩:=La h2 hd';obtain⟨ex,st3,s3,q1,q2,q3⟩:=ih d' s2 h e2;refine⟨ex,st3,s3,q1,q2,fun QV hq=> ?_⟩
      rw[VP];refine h3 _ ?_
      show EU _ _ _ _;rw[hcf.live _ _ ha];exact e1 _ (q3 QV hq)
     |exit id=>exact other (.exit id) (by simp) rfl h1
     |ret=>exact other .ret (by simp) rfl h1
   obtain⟨ex,st',s',q1,q2,q3⟩:=key n d0 s0 hn c2;exact⟨ex,st',s',q1,q2,fun QV hq=>by rw[A3x,hcf.live _ _ ha];exact c1 _ (q3 QV hq)⟩
  ·cases h
 |.scope c,α,st,s,Q,z,hs,h=>by simp[wtC]at h
 |.label l,α,st,s,Q,z,hs,h=>by simp[wtC]at h
 |.goto l,α,st,s,Q,z,hs,h=>by simp[wtC]at h
 |.rangeFunc ..,α,st,s,Q,z,hs,h=>by simp[wtC]at h
 |.refuse _,α,st,s,Q,z,hs,h=>by simp[wtC]at h
end
end
section
open Go
section
variable {P:Program} {X:TX} {g:FuncId}
structure FnOK (P:Program) (cf:Cfg) (X:TX) (fn:Func) (c:Code):Prop where
 get:P.funcs[X.ann.g]? =some fn
 body:fn.body=some c
 ok:O9 fn c (ES X.ann.params).length=true
 ext:cf.isExt X.ann.g=false
theorem N1{cf:Cfg}{ext:Rel}{fn:Func}{c:Code}{F:B9 X.ann.params->Option (B9 X.ann.res)}(hX:XOK P X)(hE:KB (Ep P cf ext) cf X)(hcf:CfOK cf X.ann.g X)(hf:FnOK P cf X fn c)
  (hF:∀x,wtF X fn x=F x):CB (Ep P cf ext) ⟨X.ann,F⟩:=by
 intro x y args blks st0 hy hs0 hd hid hl he _;have hy:wtF X fn x=some y:=by rw[hF];exact hy
 unfold wtF at hy;rw[hf.body]at hy;simp only at hy;have he:(args.flatMap Af).eraseDups.length=X.e:=he;obtain⟨s0,k1,hs⟩:=La hs0 hd;obtain⟨ex,st',s',h1,h2,h3⟩:=E7 hX hE hcf c hs hy;have main:∀ex',ex=ex'->(∀i,ex'≠ .exit i)->(Ay2 X st'.tm st'.hp fn.results.toList fun xs=>A2M X.ann.res X.e st' xs)=some y->
   ∃r blks',Ep P cf ext X.ann.g args blks r blks'/\ResRel X.ann.res y r blks':=by
  intro ex' hex hno h1;obtain⟨r,blks',q1,q2⟩:=A01 (e:=X.e) (res:=X.ann.res) (rs:=fn.results.toList) (y:=y) hX h2 h1;refine⟨r,blks',Ep.intro hf.ext hf.get hf.body (by rw[hl];exact hf.ok) hid ?_,q2⟩
  rw[he,hcf.par];refine k1 _ (h3 _ ?_)
  rw[hcf.res,hcf.rts];subst hex;cases ex with
  |exit i=>exact absurd rfl (hno i)
  |normal=>exact q1
  |ret=>exact q1
 cases ex with
 |exit i=>cases h1
 |normal=>exact main .normal rfl (by simp) h1
 |ret=>exact main .ret rfl (by simp) h1
theorem AZ0{R:Rel}{cf:Cfg}{X:TX}(h:X.ents=[]):KB R cf X:=by
 intro g E hE;rw[h]at hE;cases hE
def AB1(R:Rel)(cf:Cfg):List Ent->Prop
 |[]=>True
 |E::l=>(CB R E/\cf.byref E.a.g=(Fj E.a.params).map Xe)/\AB1 R cf l
theorem Qg{R:Rel}{cf:Cfg}{X:TX}(h:AB1 R cf X.ents):KB R cf X:=by
 intro g E hE;generalize X.ents=l at h hE
 induction l with
 |nil=>cases hE
 |cons a l ih=>
  simp only[ZF]at hE;cases hg:Nat.beq a.a.g g with
  |true=>
   rw[hg]at hE;simp only[cond_true,zx]at hE;subst hE;have:=za6 hg;subst this;exact⟨h.1.1,rfl,h.1.2⟩
  |false=>
   rw[hg]at hE;exact ih h.2 hE
theorem AH8{tab:List FAnn}{ext:FuncId->Bool}{X:TX}(h:Ny tab X.ann.g=some X.ann):CfOK (MJ tab ext) X.ann.g X where
 live r an hr:=by simp only[MJ,h,za0,hr]
 out r outs ex an hr he:=by simp only[MJ,h,za0,hr,he]
 join r an hr:=by simp only[MJ,h,za0,hr]
 nojoin r hr:=by simp only[MJ,h,za0,hr]
 res:=by simp only[MJ,h]
 par:=by simp only[MJ,h]
 rts:=by simp only[MJ,h]
end
end
section
open Go Go.RowKit
def shT:Sh->Ty
 |.int k=>.int k
 |.str=>.str
 |.bool=>.bool
 |.sl _ e=>.sl (shT e)
 |.pair a b=>.pair (shT a) (shT b)
def WFS:(s:Sh)->(shT s).den->Prop
 |.int k,n=>(Lit.int k n).wf=true
 |.str,s=>s.length<=Ab
 |.bool,_=>True
 |.sl bytes e,l=>(∀a∈(show List (shT e).den from l),WFS e a)/\(show List (shT e).den from l).length*bytes<=Ab
 |.pair a b,x=>WFS a (show(shT a).den×(shT b).den from x).1/\WFS b (show(shT a).den×(shT b).den from x).2
theorem AH7:∀{s:Sh}{xs:List V},DV s xs->∃x,RE (shT s) x xs/\WFS s x
 |.int k,xs,h=>by obtain⟨n,rfl,hn⟩:=h;exact⟨n,rfl,hn⟩
 |.str,xs,h=>by obtain⟨s,rfl,hs⟩:=h;exact⟨s.data.toList,by simp[RE,shT],by show s.data.toList.length<=Ab;rw[Array.length_toList];exact hs⟩
 |.bool,xs,h=>by obtain⟨b,rfl⟩:=h;exact⟨b,rfl,trivial⟩
 |.sl bytes e,xs,h=>by
  obtain⟨rows,rfl,hr,hb⟩:=h;have key:∀rows:List (List V),(∀r∈rows,DV e r)->∃l:List (shT e).den,RLx (RE (shT e)) l rows/\∀a∈l,WFS e a:=by
   intro rows
   induction rows with
   |nil=>intro _;exact⟨[],RLx.nil,by simp⟩
   |cons r rows ih=>
    intro h;obtain⟨a,h1,h2⟩:=AH7 (h r (by simp));obtain⟨l,h3,h4⟩:=ih fun r' hr'=>h r' (by simp[hr'])
    refine⟨a::l,RLx.cons h1 h3,fun b hb=> ?_⟩
    rcases zc7.1 hb with rfl|hb
    ·exact h2
    ·exact h4 b hb
  obtain⟨l,h1,h2⟩:=key rows hr;exact⟨l,.inr ⟨rows,rfl,h1⟩,h2,by rw[<-h1.1];exact hb⟩
 |.pair a b,xs,h=>by
  obtain⟨l,r,rfl,h1,h2⟩:=h;obtain⟨x,q1,q2⟩:=AH7 h1;obtain⟨y,q3,q4⟩:=AH7 h2;exact⟨(x,y),⟨l,r,rfl,q1,q3⟩,q2,q4⟩
def He:Sh->AC
 |.int k=>.int k
 |.str=>.str
 |.bool=>.bool
 |.sl _ e=>.im (shT e)
 |.pair _ _=>.bool
def A2J:Sh->Bool
 |.pair _ _=>false
 |_=>true
def WFC:(s:Sh)->(He s).den->Prop
 |.int k,n=>WFS (.int k) n
 |.str,s=>WFS .str s
 |.bool,b=>True
 |.sl n e,l=>WFS (.sl n e) l
 |.pair _ _,_=>True
theorem QT{s:Sh}{x:V}(ho:A2J s=true)(h:DV s [x]):∃d:(He s).den,WFC s d/\∀hp,RV2 hp (Ab5 (He s) d) x:=by
 obtain⟨d,h1,h2⟩:=AH7 h;cases s with
 |int k=>
  have h1:[x]=[V.v (.int k d)]:=h1;cases h1
  exact⟨d,h2,fun hp=>rfl⟩
 |str=>
  have h1:[x]=[V.v (.string ⟨Array.mk d⟩)]:=h1;cases h1
  exact⟨d,h2,fun hp=>rfl⟩
 |bool=>
  have h1:[x]=[V.v (.bool d)]:=h1;cases h1
  exact⟨d,trivial,fun hp=>rfl⟩
 |sl n e=>
  refine⟨d,h2,fun hp=> ?_⟩
  rcases h1 with⟨e1,e2⟩|⟨rows,e2,e3⟩
  ·cases e2;exact .inl ⟨e1,rfl⟩
  ·cases e2;exact .inr ⟨rows,rfl,e3⟩
 |pair a b=>cases ho
def DVs:List Sh->List V->Prop
 |[],[]=>True
 |s::l,x::xs=>DV s [x]/\DVs l xs
 |_,_=>False
theorem DVs.length:∀{l:List Sh}{xs:List V},DVs l xs->xs.length=l.length
 |[],[],_=>rfl
 |_::l,_::xs,h=>by simp[DVs.length h.2]
 |[],_::_,h=>h.elim
 |_::_,[],h=>h.elim
section
variable {P:Program}
def AH4(P:Program):List TypeId->List Sh->Prop
 |[],[]=>True
 |t::ts,s::l=>Fits P t s/\AH4 P ts l
 |_,_=>False
theorem VQ{H:Type}{enc:TypeId×Value->H}{W W':World}(hl:laidOutB P=true)(hb:Below W.heap.size W W'):∀{ts:List TypeId}{vs:List Value}{ds:List (DataW H)}{p:List MemPlace},(∀t∈ts,P.readableRec t=true/\t<P.types.size)->DataW.TrodAll enc P W 0 (fun _=>true) true ts vs ds p->
  ∃q,DataW.TrodAll enc P W' 0 (fun b=>decide (b<W.heap.size)) true ts vs ds q
 |[],vs,ds,p,_,h=>by
  obtain⟨rfl,rfl,rfl⟩:=ChangeShapes.trodAll_nil h;exact⟨[],ChangeShapes.trodAll_mk0⟩
 |t::ts,vs,ds,p,hr,h=>by
  obtain⟨v,vs',d,ds',p1,q,rfl,rfl,rfl,h1,h2⟩:=ChangeShapes.trodAll_cons h;obtain⟨q',h3⟩:=VQ hl hb (fun t ht=>hr t (by simp[ht])) h2;have hlt:∀x∈p1,x.block<W.heap.size:=by obtain⟨m,hm⟩:=h1;exact DataW.trod_lt m _ _ _ hm
  obtain⟨r1,r2⟩:=hr t (by simp);exact⟨_,trodAll_cons_mk (Below.trod hl r1 r2 h1 hb hlt) h3⟩
end
end
section
open Go Go.RowKit
section
variable {P:Program} {J:Ga}
def A3V(P:Program):List (Nat×TyD)->Prop
 |[]=>True
 |x::l=>AQ P x.1=some x.2/\A3V P l
theorem A4R{l:List (Nat×TyD)}(h:A3V P l):∀t d,getD l t=some d->AQ P t=some d:=by
 intro t d hd
 induction l with
 |nil=>cases hd
 |cons x l ih=>
  obtain⟨k,y⟩:=x;simp only[getD]at hd;cases hk:Nat.beq t k with
  |true=>
   rw[hk]at hd;simp only[cond_true,zx]at hd;have:=za6 hk;subst this;subst hd;exact h.1
  |false=>
   rw[hk]at hd;exact ih h.2 hd
end
end
section
open Go Go.RowKit
def W1:Sh->List Sh
 |.pair a b=>W1 a++W1 b
 |s=>[s]
def aOf:Sh->AS
 |.pair a b=>.agg ((W1 (.pair a b)).map He)
 |s=>.cell (He s)
def JD:Nat->List Sh->List Item
 |_,[]=>[]
 |i,s::l=>.slot i (aOf s)::JD (i+1) l
theorem Wm:∀(s:Sh),(W1 s).all A2J=true
 |.pair a b=>by simp only[W1,List.all_append,Wm a,Wm b,Bool.and_self]
 |.int _|.str|.bool|.sl _ _=>rfl
def A4L:(l:List Sh)->PC (l.map He)->Prop
 |[],_=>True
 |s::l,d=>WFC s (hdC (He s) (l.map He) d)/\A4L l (tlC (He s) (l.map He) d)
def WFA:(s:Sh)->(aOf s).den->Prop
 |.pair a b,d=>A4L (W1 (.pair a b)) d
 |.int k,n=>WFC (.int k) n
 |.str,n=>WFC .str n
 |.bool,n=>WFC .bool n
 |.sl b e,n=>WFC (.sl b e) n
def WFQ:(i:Nat)->(l:List Sh)->B9 (JD i l)->Prop
 |_,[],_=>True
 |i,s::l,d=>WFA s (hdI (.slot i (aOf s)) (JD (i+1) l) d)/\WFQ (i+1) l (tlI (.slot i (aOf s)) (JD (i+1) l) d)
theorem DVs.append:∀{a b:List Sh}{xs ys:List V},DVs a xs->DVs b ys->DVs (a++b) (xs++ys)
 |[],_,[],_,_,h=>h
 |_::a,_,_::xs,_,h1,h2=>⟨h1.1,DVs.append h1.2 h2⟩
 |[],_,_::_,_,h,_=>h.elim
 |_::_,_,[],_,h,_=>h.elim
theorem Ae0:∀{s:Sh}{xs:List V},DV s xs->DVs (W1 s) xs
 |.pair a b,xs,h=>by
  obtain⟨l,r,rfl,h1,h2⟩:=h;exact(Ae0 h1).append (Ae0 h2)
 |.int k,xs,h=>by obtain⟨n,rfl,hn⟩:=h;exact⟨⟨n,rfl,hn⟩,trivial⟩
 |.str,xs,h=>by obtain⟨n,rfl,hn⟩:=h;exact⟨⟨n,rfl,hn⟩,trivial⟩
 |.bool,xs,h=>by obtain⟨n,rfl⟩:=h;exact⟨⟨n,rfl⟩,trivial⟩
 |.sl n e,xs,h=>by obtain⟨rows,rfl,hn⟩:=h;exact⟨⟨rows,rfl,hn⟩,trivial⟩
theorem A0v{s:Sh}{d:(He s).den}{hp:THp}{x:V}(h:RV2 hp (Ab5 (He s) d) x):RV0 hp (Ab5 (He s) d) x:=by
 cases s<;>exact h
theorem Yt:∀{l:List Sh}{xs:List V},l.all A2J=true->DVs l xs->∃d:PC (l.map He),A4L l d/\∀hp,RC (RV0 hp) (Ru (l.map He) d) xs
 |[],[],_,_=>⟨(),trivial,fun hp=>trivial⟩
 |s::l,x::xs,ho,h=>by
  simp only[zc8,za2]at ho;obtain⟨a,h1,h2⟩:=QT ho.1 h.1;obtain⟨d,h3,h4⟩:=Yt ho.2 h.2;refine⟨Zj (He s) (l.map He) a d,⟨?_,?_⟩,fun hp=> ?_⟩
  ·rw[Xp];exact h1
  ·rw[WP];exact h3
  ·show RC (RV0 hp) (Ab5 (He s) (hdC (He s) (l.map He) (Zj (He s) (l.map He) a d))::Ru (l.map He) (tlC (He s) (l.map He) (Zj (He s) (l.map He) a d))) (x::xs);rw[Xp,WP];exact⟨A0v (h2 hp),h4 hp⟩
 |[],_::_,_,h=>h.elim
 |_::_,[],_,h=>h.elim
def DA:Sh->V->Prop
 |.pair a b,x=>∃xs,x=.agg xs/\DV (.pair a b) xs
 |s,x=>DV s [x]
def DAs:List Sh->List V->Prop
 |[],[]=>True
 |s::l,x::xs=>DA s x/\DAs l xs
 |_,_=>False
theorem DAs.length:∀{l:List Sh}{xs:List V},DAs l xs->xs.length=l.length
 |[],[],_=>rfl
 |_::l,_::xs,h=>by simp[DAs.length h.2]
 |[],_::_,h=>h.elim
 |_::_,[],h=>h.elim
theorem A4X{s:Sh}{x:V}(h:DA s x):∃d:(aOf s).den,WFA s d/\∀hp,RV2 hp (Yv (aOf s) d) x:=by
 cases s with
 |pair a b=>
  obtain⟨xs,rfl,h⟩:=h;obtain⟨d,h1,h2⟩:=Yt (Wm (.pair a b)) (Ae0 h);exact⟨d,h1,fun hp=>⟨xs,rfl,h2 hp⟩⟩
 |int k=>exact QT (s:=.int k) rfl h
 |str=>exact QT (s:=.str) rfl h
 |bool=>exact QT (s:=.bool) rfl h
 |sl n e=>exact QT (s:=.sl n e) rfl h
theorem Ai9:∀(l:List Sh)(i:Nat){xs:List V},DAs l xs->∃d:B9 (JD i l),WFQ i l d/\(∀k,(Bk k (JD i l) d).2=[])/\∀k hp,RT hp (Bk k (JD i l) d).1 (lk .any (Ql i xs))
 |[],i,[],_=>⟨(),trivial,fun _=>rfl,fun k hp t=>trivial⟩
 |s::l,i,x::xs,h=>by
  obtain⟨a,h1,h2⟩:=A4X h.1;obtain⟨d,h3,h4,h5⟩:=Ai9 l (i+1) h.2;refine⟨HW (.slot i (aOf s)) (JD (i+1) l) a d,⟨?_,?_⟩,fun k=> ?_,fun k hp=> ?_⟩
  ·rw[UM (.slot i (aOf s))];exact h1
  ·rw[Rq (.slot i (aOf s))];exact h3
  ·simp only[JD,Bk];rw[Rq (.slot i (aOf s))];exact h4 k
  ·simp only[JD,Bk];rw[Rq (.slot i (aOf s)),UM (.slot i (aOf s))];intro t;show RV2 hp (Bt ((i,Yv (aOf s) a)::_) t) (if t=i then x else lk .any (Ql (i+1) xs) t);rw[E4]
   split
   ·exact h2 hp
   ·exact h5 k hp t
 |[],_,_::_,h=>h.elim
 |_::_,_,[],h=>h.elim
theorem Am1:∀(l:List Sh)(i:Nat),(ES (JD i l)).length=l.length
 |[],_=>rfl
 |s::l,i=>by simp[JD,ES,Am1 l (i+1)]
abbrev TA(w:World)(x:V)(y:Value):Prop:=Rep w (fun b=>b<w.heap.size) x y\/∃cs us,x=.agg cs/\y=.agg us/\A3m w cs us.toList
theorem AA8{w:World}{G:Nat->Prop}{x:V}{y:Value}(h:Rep w G x y):Ag x=[]:=by cases h<;>rfl
theorem Ax2{w:World}{G:Nat->Prop}{x:V}{y:Value}(h:Rep w G x y):Af x=[]:=by cases h<;>rfl
theorem AG4{w:World}{xs:List V}{cs:List Value}(h:VL (TA w) xs cs):xs.flatMap Af=[]:=by
 rw[List.flatMap_eq_nil_iff];intro x hx;obtain⟨i,hi⟩:=List.getElem?_of_mem hx;obtain⟨y,_,hr⟩:=h.get i x hi;rcases hr with hr|⟨cs',us,rfl,_,ht⟩
 ·exact Ax2 hr
 ·show cs'.flatMap Ag=[];rw[List.flatMap_eq_nil_iff];intro z hz;obtain⟨j,hj⟩:=List.getElem?_of_mem hz;obtain⟨u,_,hu⟩:=ht.get j z hj;exact AA8 hu
theorem A3g{w:World}{E:Env}{hp:Hp}{G:Nat->Prop}{x:V}{y:Value}(h:Rep w G x y):VR0 w E hp G x y:=by
 cases h with
 |v _ hs=>exact .v _ hs
 |em a=>exact .em a
 |er0=>exact .er0
 |er1 t x=>exact .er1 t x
 |im0 a cap=>exact .im0 a cap
 |im b off cap size rows f h1 h2 h3 h4 h5 h6 h7=>exact .im b off cap size rows f h1 h2 h3 h4 h5 h6 h7
theorem A3t{w:World}{E:Env}{hp:Hp}{G:Nat->Prop}{x:V}{y:Value}(h:Rep w G x y):VR1 w E hp G x y:=by
 cases h with
 |v _ hs=>exact .v _ hs
 |em a=>exact .em a
 |er0=>exact .er0
 |er1 t x=>exact .er1 t x
 |im0 a cap=>exact .im0 a cap
 |im b off cap size rows f h1 h2 h3 h4 h5 h6 h7=>exact .im b off cap size rows f h1 h2 h3 h4 h5 h6 h7
section
variable {P:Program} {J:Ga}
theorem Az6{w:World}{cf:Cfg}{ext:Rel}(hm:P.follows .mixedOrders=true)(hext:∀g args blks r blks',ext g args blks r blks'->CSpec P J g args blks r blks')(hJ:∀x∈J,w.heap[x.1]? =some x.2){g:FuncId}{xs:List V}{vals:Array Value}
  (hv:VL (TA w) xs vals.toList) (h:Ep P cf ext g xs [] (.v (.bool true)) []):Calls P g vals w fun e w'=>e=.returned (.bool true)/\Below w.heap.size w w':=by
 obtain⟨k,h⟩:=h;have hs:=KE hm hext k g xs [] _ [] h;have hno:∀E b,¬Own E (lkB []) b:=fun E b ⟨id,k,hk,_⟩=>by simp[lkB]at hk
 have hI:HpInv w (Own ⟨fun _=>none,fun _ _=>False⟩ (lkB [])) (fun b=>b<w.heap.size) ⟨fun _=>none,fun _ _=>False⟩ (fun b=>b<w.heap.size) (lkB []) w:=
  ⟨Fr.refl _ w,fun b hb=>⟨hb,.inl hb⟩,fun b _=>hno _ b,fun b h=>absurd h (hno _ b),fun id k id' k' hk=>by simp[lkB]at hk,fun id k b hk=>by simp[lkB]at hk,fun id k hk=>by simp[lkB]at hk⟩
 have hids:HL xs []=true:=by unfold HL;rw[AG4 hv];rfl
 refine(hs.calls hids w _ _ vals (fun x hx=>⟨hJ x hx,hno _ _⟩) hI (hv.mono fun x _ y hx=>by
  rcases hx with hx|⟨cs,us,rfl,rfl,ht⟩
  ·exact A3t hx
  ·exact⟨us,rfl,ht.mono fun z _ u hz=>A3g hz⟩)).mono ?_
 rintro e w' ⟨y,E',G',rfl,hI',hy,_⟩;have hyt:y=.bool true:=(FS hy).1;subst hyt;exact⟨rfl,hI'.fr.os,hI'.fr.tape,hI'.fr.output,hI'.fr.size,fun b hb=>hI'.fr.block b hb (hno _ b)⟩
theorem VF{H:Type}{enc:TypeId×Value->H}{W:World}:∀{ts:List TypeId}{l:List Sh}{vs:List Value}{ds:List (DataW H)}{p:List MemPlace},AH4 P ts l->DataW.TrodAll enc P W 0 (fun _=>true) true ts vs ds p->
  (∀(j:Nat) t v,ts[j]? =some t->vs[j]? =some v->∃base,Value.okWide P W .any base t v)->(∀n∈DataW.weightsEach P ts ds,n<=reachBytes)->∃xs,DAs l xs/\VL (TA W) xs vs
 |[],[],vs,ds,p,_,h,_,_=>by
  obtain⟨rfl,rfl,rfl⟩:=ChangeShapes.trodAll_nil h;exact⟨[],trivial,trivial⟩
 |t::ts,s::l,vs,ds,p,hf,h,hv,hw=>by
  obtain⟨v,vs',d,ds',p1,q,rfl,rfl,rfl,⟨fuel,h1⟩,h2⟩:=ChangeShapes.trodAll_cons h;obtain⟨xs,q1,q2,q3⟩:=Og fuel t s _ _ hf.1 h1 fun n hn=>hw n (by simp[DataW.weightsEach,hn])
  obtain⟨ys,q4,q5⟩:=VF hf.2 h2 (fun j t v h1 h2=>hv (j+1) t v (by simpa using h1) (by simpa using h2)) fun n hn=>hw n (by simp[DataW.weightsEach,hn])
  obtain⟨base,hok⟩:=hv 0 t v rfl rfl;by_cases hone:A2J s=true
  ·have hs1:s.size=1:=by cases s<;>first|rfl|(cases hone)
   obtain⟨x,rfl⟩:=List.length_eq_one_iff.1 (by rw[q2,hs1]);have hc:v.cells.toList=[v]:=by
    cases hf.1 with
    |int ht=>simp only[Value.okWide,ht,Cell.okWide]at hok;cases v<;>simp_all [Cell.ok,Value.cells]
    |str ht=>simp only[Value.okWide,ht,Cell.okWide]at hok;cases v<;>simp_all [Cell.ok,Value.cells]
    |bool ht=>simp only[Value.okWide,ht,Cell.okWide]at hok;cases v<;>simp_all [Cell.ok,Value.cells]
    |sl ht=>obtain⟨a,n,c,rfl⟩:=WideShapes.okWide_slice ht hok;rfl
    |st=>cases hone
   rw[hc]at q3;refine⟨x::ys,⟨?_,q4⟩,.inl q3.1,q5⟩
   cases s<;>first|exact q1|(cases hone)
  ·cases s with
   |pair a b=>
    cases hf.1 with
    |st ht hce hfs=>
     obtain⟨us,rfl,_⟩:=WideShapes.okWide_struct ht hok;exact⟨.agg xs::ys,⟨⟨xs,rfl,q1⟩,q4⟩,.inr ⟨xs,us,rfl,rfl,q3⟩,q5⟩
   |_=>exact absurd rfl hone
 |[],_::_,_,_,_,h,_,_,_=>h.elim
 |_::_,[],_,_,_,h,_,_,_=>h.elim
theorem AO3{cf:Cfg}{ext:Rel}{g:FuncId}{shs:List Sh}{heads joins:List (Nat×List Item)}{outs:List (Nat×List (Ex×List Item))}{F:B9 (JD 0 shs)->Option Bool}
  (hm:P.follows .mixedOrders=true) (hext:∀g args blks r blks',ext g args blks r blks'->CSpec P J g args blks r blks')
  (hE:CB (Ep P cf ext) ⟨⟨g,0,JD 0 shs,[.slot 0 (.cell .bool)],heads,outs,joins⟩,F⟩) (hD:∀d,Ff 0 (JD 0 shs) (HM (JD 0 shs) d)=some d) (hF:∀d,WFQ 0 shs d->F d=some true)
  {w:World} (hJ:∀x∈J,w.heap[x.1]? =some x.2) {xs:List V} {vals:Array Value} (hx:DAs shs xs) (hv:VL (TA w) xs vals.toList):Calls P g vals w fun e w'=>e=.returned (.bool true)/\Below w.heap.size w w':=by
 obtain⟨d,h1,h2,h3⟩:=Ai9 shs 0 hx;have hrefs:=AG4 hv;obtain⟨r,blks',q1,q2⟩:=hE d true xs [] (HM (JD 0 shs) d) (hF d h1) ⟨h3 0 _,(fun id b hb=>by
  rw[show(HM (JD 0 shs) d).hp=(Bk 0 (JD 0 shs) d).2 from rfl,h2]at hb;exact absurd hb (by simp[AF])),rfl⟩ (hD d) (by unfold HL;rw[hrefs];rfl) (by rw[hx.length];exact(Am1 shs 0).symm) (by rw[hrefs];rfl) (fun _=>rfl)
 have hr:r=.v (.bool true):=q2.val;have hb:blks'=[]:=zb2 q2.len;subst hr;subst hb;exact Az6 hm hext hJ hv q1
theorem XR{H:Type}{enc:TypeId×Value->H}{cf:Cfg}{ext:Rel}{g:FuncId}{shs:List Sh}{heads joins:List (Nat×List Item)}{outs:List (Nat×List (Ex×List Item))}{F:B9 (JD 0 shs)->Option Bool}{fn:Func}{s:ChangeSpec}{ts:List TypeId}{rt:TypeId}
  (hm:P.follows .mixedOrders=true) (hext:∀g args blks r blks',ext g args blks r blks'->CSpec P J g args blks r blks')
  (hE:CB (Ep P cf ext) ⟨⟨g,0,JD 0 shs,[.slot 0 (.cell .bool)],heads,outs,joins⟩,F⟩) (hD:∀d,Ff 0 (JD 0 shs) (HM (JD 0 shs) d)=some d) (hF:∀d,WFQ 0 shs d->F d=some true)
  (hp:fn.params.toList=ts) (hr:fn.resultTypes.toList=[rt]) (hrt:P.underlying rt=some .bool) (hf:AH4 P ts shs) (hl:laidOutB P=true) (hread:∀t∈ts,P.readableRec t=true/\t<P.types.size) (hvars:s.vars=[])
  (hs:∀ds:List (DataW H),ds.length=ts.length->s.fn H (ds++[])={results:=[.lit (.bool true)],args:=ds,vars:=[]})
  {W:World} (hJ:∀x∈J,W.heap[x.1]? =some x.2) {base:Nat} {args:Array Value} {ds gs:List (DataW H)} {before:List MemPlace}
  (hval:∀(j:Nat) t v,fn.params[j]? =some t->args[j]? =some v->Value.okWide P W .any base t v) (hW:DataW.Whole enc P fn.params.toList s.vars false W args.toList ds gs before)
  (hsz:(DataW.weightsEach P (fn.params.toList++s.plain.varTypes P) (ds++gs)).all (· <=reachBytes)=true):
  Calls P g args W fun e W'=>∃v,e=.returned v/\s.post enc P fn false true false false W args v W':=by
 have hW':=hW;obtain⟨p,q,hA,hV,rfl,hfz,hnd⟩:=hW;rw[hvars]at hV;obtain⟨rfl,rfl⟩:=ChangeShapes.trodVars_none hV;rw[hp]at hA;have hlen:∀{ts:List TypeId}{vs:List Value}{ds:List (DataW H)}{p:List MemPlace},DataW.TrodAll enc P W 0 (fun _=>true) true ts vs ds p->ds.length=ts.length:=by
  intro ts
  induction ts with
  |nil=>intro vs ds p h;obtain⟨_,rfl,_⟩:=ChangeShapes.trodAll_nil h;rfl
  |cons t ts ih=>intro vs ds p h;obtain⟨v,vs',d,ds',p1,q,rfl,rfl,rfl,h1,h2⟩:=ChangeShapes.trodAll_cons h;simp[ih h2]
 have hdl:=hlen hA;have hwt:∀n∈DataW.weightsEach P ts ds,n<=reachBytes:=by
  intro n hn;have hmem:∀(a b:List TypeId)(c d:List (DataW H)),∀n∈DataW.weightsEach P a c,c.length=a.length->n∈DataW.weightsEach P (a++b) (c++d):=by
   intro a
   induction a with
   |nil=>intro b c d n hn hl;cases c<;>simp[DataW.weightsEach]at hn hl
   |cons t a ih=>
    intro b c d n hn hl;cases c with
    |nil=>simp[DataW.weightsEach]at hn
    |cons x c=>
     simp only[DataW.weightsEach,zb6,List.cons_append]at hn⊢
     rcases hn with hn|hn
     ·exact .inl hn
     ·exact .inr (ih b c d n hn (by simpa using hl))
  rw[hp]at hsz;have:=za5.1 hsz n (hmem ts _ ds _ n hn hdl);simpa using this
 obtain⟨xs,h1,h2⟩:=VF hf hA (fun j t v h1 h2=>⟨base,hval j t v (by rw[<-hp]at h1;simpa using h1) (by simpa using h2)⟩) hwt;refine(AO3 hm hext hE hD hF hJ h1 h2).mono fun e W' ⟨he,bel⟩=> ?_
 subst he;obtain⟨q',hq⟩:=VQ hl bel hread hA;refine⟨_,rfl,ds,[],_,[],q',[],hW',?_,?_,?_,bel.frame _,fun h=>by cases h⟩
 ·rw[hs ds hdl,hr];have:((Value.bool true).resultList fn.resultTypes.size)=[.bool true]:=by
   have:fn.resultTypes.size=1:=by rw[<-Array.length_toList,hr];rfl
   rw[this];rfl
  rw[this];exact ChangeShapes.trodAll_mk1 (shut_bool hrt true)
 ·rw[hs ds hdl,hp];exact hq
 ·rw[hs ds hdl,hvars];rfl
end
end
section
open Go
theorem Ae{n:Int}(h1: -9223372036854775808<=n)(h2:n<=9223372036854775807):zi zj n=n:=by rw[IntKind.wrap_i64];omega
section
variable {σ τ ρ ρ':Type} {f:σ->Option (σ⊕ρ)} {g:τ->Option (τ⊕ρ')}
theorem AM{s s':σ}(h:f s=some (.inl s')):Ad f s=Ad f s':=by rw[Ap2,h];rfl
theorem Aj{s:σ}{r:ρ}(h:f s=some (.inr r)):Ad f s=some r:=by rw[Ap2,h];rfl
theorem HN{I:σ->Prop}{R:ρ->Prop}(m:σ->Nat)(h:∀s,I s->(∃s',f s=some (.inl s')/\I s'/\m s'<m s)\/∃r,f s=some (.inr r)/\R r):∀s,I s->∃r,Ad f s=some r/\R r:=by
 have:∀n s,m s<n->I s->∃r,Ad f s=some r/\R r:=by
  intro n
  induction n with
  |zero=>intro s h;omega
  |succ n ih=>
   intro s hn hs;rcases h s hs with⟨s',h1,h2,h3⟩|⟨r,h1,h2⟩
   ·obtain⟨r,h4,h5⟩:=ih s' (by omega) h2;exact⟨r,by rw[AM h1,h4],h5⟩
   ·exact⟨r,Aj h1,h2⟩
 exact fun s hs=>this (m s+1) s (by omega) hs
end
section
variable {α β γ:Type}
theorem Ah(l:List α)(i:Nat):AI l (i:Int)=l[i]? :=by
 unfold AI;rw[zr (by omega)];simp
theorem A0{i n:Nat}(h:i<n):A1 (i:Int) n=some i:=by
 unfold A1;rw[zr (by omega)];simp
theorem HZ{n b s:Nat}(h1:n*b<=Ab)(h2:n*s<=Ab):OM (n:Int) b s=some n:=by
 unfold OM;rw[zr (by simp;omega)];simp
end
section
variable {α σ ρ:Type} {body:σ->Option (σ⊕ρ)}
theorem Gd{l:List α}{st:Nat->σ}{p:α->Bool}{fin:ρ}{bad:Nat->ρ}(hgo:∀k a,l[k]? =some a->p a=true->body (st k)=some (.inl (st (k+1))))(hbad:∀k a,l[k]? =some a->p a=false->body (st k)=some (.inr (bad k)))(hend:body (st l.length)=some (.inr fin)):
  (l.all p=true->Ad body (st 0)=some fin)/\(l.all p=false->∃k,k<l.length/\Ad body (st 0)=some (bad k)):=by
 have key:∀(n k:Nat),k+n=l.length->((l.drop k).all p=true->Ad body (st k)=some fin)/\((l.drop k).all p=false->∃j,j<l.length/\Ad body (st k)=some (bad j)):=by
  intro n
  induction n with
  |zero=>
   intro k hk;have:k=l.length:=by omega
   subst this;rw[List.drop_length];exact⟨fun _=>Aj hend,(fun h=>by cases h)⟩
  |succ n ih=>
   intro k hk;have hlt:k<l.length:=by omega
   have hd:l.drop k=l[k]::l.drop (k+1):=zb0 hlt;have he:l[k]? =some l[k]:=za1 hlt;rw[hd,zc8];cases hp:p l[k]with
   |true=>
    have h1:=hgo k _ he hp;obtain⟨q1,q2⟩:=ih (k+1) (by omega);rw[ze1,AM h1];exact⟨q1,q2⟩
   |false=>
    rw[zf8];exact⟨(fun h=>by cases h),fun _=>⟨k,hlt,Aj (hbad k _ he hp)⟩⟩
 have:=key l.length 0 (by omega)
 rwa[zf0]at this
end
section
theorem AJ{k:Nat}(h:k<4611686018427387904):zi zj ((k:Int)+1)=((k+1:Nat):Int):=by rw[Ae (by omega) (by omega)];omega
end
theorem Fy{β:Type}{b s:Nat}{l m:List β}(h1:(l.length+m.length)*b<=Ab)(h2:(l.length+m.length)*s<=Ab):C3 b s l m=some (l++m):=by
 unfold C3;rw[zr ⟨h1,h2⟩]
end
section
open Go
variable {P:Program} {J:Ga}
def AZ4:Value:=.slice none 0 0
def IZ(t tb:TypeId):Code:=
 .seq (.region 0 #[⟨some 2,.assign (.const AZ4),t, "slices.go:355", #[],none⟩] false)
  (.seq (.seq (.region 1 #[⟨some 3,.move (.tmp 0),t, "slices.go:357", #[],none⟩,⟨some 4,.binOp .eql t (.tmp 3) (.const AZ4) t,tb, "slices.go:357", #[⟨0,.data⟩],none⟩] false)
    (.cond (.tmp 4) (.seq (.region 2 #[⟨some 2,.assign (.const AZ4),t, "slices.go:358", #[],none⟩] false) .ret) .skip))
   (.seq (.region 3 #[⟨some 5,.buildSlice t 0 #[],t, "slices.go:362", #[],none⟩,⟨some 6,.move (.tmp 0),t, "slices.go:362", #[],none⟩,
     ⟨some 7,.call ⟨.builtin .append, #[.tmp 5,.tmp 6], #[t,t]⟩,t, "slices.go:362", #[⟨0,.data⟩,⟨1,.data⟩],none⟩,
     ⟨some 2,.assign (.tmp 7),t, "slices.go:362", #[⟨2,.data⟩,⟨2,.chain⟩,⟨0,.phase⟩,⟨1,.phase⟩,⟨2,.phase⟩],none⟩] false) .ret))
def cfN(e size:Nat)(deep:Bool):Cfg:={live:=fun _ _=>[],out:=fun _ _ _=>[],join:=fun _ _=>none,res:=fun _=>[.one (.own e size deep)],par:=fun _=>[(0,.one .keep)],rts:=fun _=>[],byref:=fun _=>[],isExt:=fun _=>false}
theorem AQ3{g:FuncId}{fn:Func}{t tb e:TypeId}{d de:TyD}(hfn:P.funcs[g]? =some fn)(hb:fn.body=some (IZ t tb))(hok:O9 fn (IZ t tb) 1=true)(hr:fn.results.toList=[.tmp 2])
  (hd:AQ P t=some d) (he:d.elem=some e) (hde:AQ P e=some de) (hst:Ej P t=false) (a:Option Addr) (c:Nat):
  Ep P (cfN e de.size (de.zero.all UC)) (fun _ _ _ _ _=>False) g [.v (.slice a 0 c)] [] (.ar 0 0 0) [AN e de.size (de.zero.all UC) []]:=by
 refine Ep.intro rfl hfn hb hok rfl ?_
 rw[hr];have hsl:Ps P t=true:=by unfold Ps;rw[hd];simp[he]
 cases a with
 |none=>
  simp[EU,OY,S6,MA,Bs,V3,Ql,lk,upd,Jz,ER,Ak,Af,Ag,Fu,CR,Cd,lkB,AL,IZ,we,reo,Cl,GU,isR,Bo,Ay,Re,AG,Ev.put,drawn,IH,Dt,AZ4,hsl,Af0,YP,H5,cfN,outs,Gh,MF,A0R,JN,CT,Ae5,Vh,idx,EA,AN,CO]
 |some a=>
  simp[EU,OY,S6,MA,Bs,V3,Ql,lk,upd,Jz,ER,Ak,Af,Ag,Fu,CR,Cd,lkB,AL,IZ,we,reo,Cl,GU,isR,Bo,Ay,Re,AG,Ev.put,drawn,IH,Dt,AZ4,hsl,Af0,YP,H5,cfN,outs,Gh,MF,A0R,JN,CT,Ae5,Vh,idx,EA,AN,CO,Av,hd,he,hde,CE,Bz,DT]
structure CloneOK (P:Program) (x:FuncId×TypeId×Nat×Bool):Prop where
 ok:∃(fn:Func)(t tb:TypeId)(d de:TyD),P.funcs[x.1]? =some fn/\fn.body=some (IZ t tb)/\O9 fn (IZ t tb) 1=true/\fn.results.toList=[.tmp 2]/\
  AQ P t=some d/\d.elem=some x.2.1/\AQ P x.2.1=some de/\Ej P t=false/\de.size=x.2.2.1/\de.zero.all UC=x.2.2.2
theorem Ts(hm:P.follows .mixedOrders=true){x:FuncId×TypeId×Nat×Bool}(h:CloneOK P x){v:V}(hv:v=.em\/v=.im []):CSpec P J x.1 [v] [] (.ar 0 0 0) [AN x.2.1 x.2.2.1 x.2.2.2 []]:=by
 obtain⟨fn,t,tb,d,de,h1,h2,h3,h4,h5,h6,h7,h8,h9,h10⟩:=h.ok;have key:∀(a:Option Addr)(c:Nat),CSpec P J x.1 [.v (.slice a 0 c)] [] (.ar 0 0 0) [AN x.2.1 x.2.2.1 x.2.2.2 []]:=by
  intro a c;obtain⟨k,hk⟩:=AQ3 h1 h2 h3 h4 h5 h6 h7 h8 a c;rw[<-h9,<-h10];exact KE hm (fun _ _ _ _ _ h=>h.elim) k _ _ _ _ _ hk
 refine⟨(key none 0).enter,fun _ w A E vals hT hI hvl=> ?_⟩
 obtain⟨y,hy⟩:∃y,vals.toList=[y]:=by
  match hl:vals.toList with
  |[]=>rw[hl]at hvl;exact hvl.elim
  |[y]=>exact⟨y,rfl⟩
  |_::_::_=>rw[hl]at hvl;exact hvl.2.elim
 rw[hy]at hvl;have hv1:=hvl.1;obtain⟨a,c,hyc⟩:∃a c,y=.slice a 0 c:=by
  rcases hv with rfl|rfl
  ·have hv1:Rep w A .em y:=hv1;cases hv1 with
   |em a=>exact⟨a,0,rfl⟩
  ·have hv1:Rep w A (.im []) y:=hv1;cases hv1 with
   |im0 a c=>exact⟨a,c,rfl⟩
   |im b off cap=>exact⟨some ⟨b,off,none⟩,cap,rfl⟩
 subst hyc;have hk:=(key a c).calls rfl w A E vals hT hI (by rw[hy];exact⟨.v _ rfl,trivial⟩);refine hk.mono fun e w' he=> ?_
 obtain⟨y',E',G',q1,q2,q3,q4⟩:=he;refine⟨y',E',G',q1,q2,q3,fun j hj=> ?_⟩
 rcases hv with rfl|rfl<;>simp[Af,Ag]at hj
def Xr(Rc:Rel)(tab:List (FuncId×TypeId×Nat×Bool)):Rel:=fun g args blks r blks'=>
 Rc g args blks r blks'\/∃x∈tab,g=x.1/\(args=[.em]\/args=[.im []])/\blks=[]/\r=.ar 0 0 0/\blks'=[AN x.2.1 x.2.2.1 x.2.2.2 []]
theorem XH{cf:Cfg}{tab:List (FuncId×TypeId×Nat×Bool)}(hm:P.follows .mixedOrders=true)(ht:∀x∈tab,CloneOK P x):
  ∀g args blks r blks',Xr (Ep P cf fun _ _ _ _ _=>False) tab g args blks r blks'->CSpec P J g args blks r blks':=by
 intro g args blks r blks' h;rcases h with⟨k,hk⟩|⟨x,hx,rfl,ha,rfl,rfl,rfl⟩
 ·exact KE hm (fun _ _ _ _ _ h=>h.elim) k _ _ _ _ _ hk
 ·rcases ha with rfl|rfl
  ·exact Ts hm (ht x hx) (.inl rfl)
  ·exact Ts hm (ht x hx) (.inr rfl)
theorem A4D{t:Ty}{st:TSt}{x:B9 [.slot 0 (.cell (.im t))]}(h:Ff 0 [.slot 0 (.cell (.im t))] st=some x):Gz st.hp t (Bt st.tm 0)=some (show List t.den from x):=by
 unfold Ff at h
 split at h
 case isFalse=>cases h
 simp only[JJ,CD,tmS,tmC,tnS,tnV,tnC]at h;cases ha:Gz st.hp t (Bt st.tm 0)with
 |none=>rw[ha]at h;cases h
 |some l=>
  rw[ha]at h;simp only[Nat.zero_le,Nat.ble_eq,if_true]at h;have hc:∀c,MM 0 (ES [.slot 0 (.cell (.im t))]) {tm:=(0,.im t l)::st.tm,hp:=El st.hp (frV (Bt st.tm 0)),c:=c}=some {tm:=[(0,.im t l)],hp:=[],c:=1}:=fun c=>rfl
  rw[hc]at h;simp only[rdI,rdS,rdC,Nat.beq_refl,if_true,dite_true]at h;rw[<-zv h];rfl
def A1m{α β:Type}(F:List α->Option (List β))(l:List α):Option (List β):=match l with|[]=>some []|a::l=>F (a::l)
theorem AB3{ext:Rel}{cf:Cfg}{Rc:Rel}{tab:List (FuncId×TypeId×Nat×Bool)}{g:FuncId}{e:TypeId}{deep:Bool}{t:Ty}{heads joins:List (Nat×List Item)}{outs:List (Nat×List (Ex×List Item))}{F:List t.den->Option (List t.den)}
  (h:CB Rc ⟨⟨g,0,[.slot 0 (.cell (.im t))],[.blk (.arr e deep t),.slot 0 (.ref 0 false)],heads,outs,joins⟩,F⟩) (hmem:(g,e,t.size,deep)∈tab) (hext:∀g args blks r blks',Xr Rc tab g args blks r blks'->ext g args blks r blks'):
  CB (Ep P cf ext) ⟨⟨g,0,[.slot 0 (.cell (.im t))],[.blk (.arr e deep t),.slot 0 (.ref 0 false)],heads,outs,joins⟩,fun l=>A1m F l⟩:=by
 intro x y args blks st hF hs hd hid hlen href hb0;have ha:=A4D hd;cases hx:(show List t.den from x)with
 |cons a l=>
  have hx':x=(show B9 [.slot 0 (.cell (.im t))]from(a::l:List t.den)):=hx;subst hx';obtain⟨r,blks',q1,q2⟩:=h _ y args blks st hF hs hd hid hlen href hb0;exact⟨r,blks',Ep.ext (hext _ _ _ _ _ (.inl q1)),q2⟩
 |nil=>
  have hx':x=(show B9 [.slot 0 (.cell (.im t))]from([]:List t.den)):=hx;subst hx';have hy:y=(show B9 [.blk (.arr e deep t),.slot 0 (.ref 0 false)]from([]:List t.den)):=(zv hF).symm;subst hy;obtain⟨v,rfl⟩:∃v,args=[v]:=by
   match args,hlen with
   |[v],_=>exact⟨v,rfl⟩
  have hrefs:([v]:List V).flatMap Af=[]:=by
   cases hr:([v]:List V).flatMap Af with
   |nil=>rfl
   |cons i l=>rw[hr]at href;simp[List.eraseDups_cons]at href
  have hv:=hs.tm 0;have hv:RV2 st.hp (Bt st.tm 0) v:=hv;have hcase:v=.em\/v=.im []:=by
   generalize Bt st.tm 0=u at ha hv;cases u with
   |em=>exact .inl hv
   |im t' l=>
    simp only[Gz,asL]at ha;rcases hv with⟨_,hv⟩|⟨rows,hv,hl⟩
    ·exact .inl hv
    ·split at ha
     ·rename_i ht;subst ht;have h0:l=[]:=by have:=zv ha;exact this
      subst h0;have:rows=[]:=zb2 (by have:=hl.1;simpa using this);subst this;exact .inr hv
     ·cases ha
   |ow id=>
    obtain⟨n,rfl,_⟩:=hv;simp[Af,Ag]at hrefs
   |ar id lo n=>
    have hv:v=.ar id lo n:=hv;subst hv;simp[Af,Ag]at hrefs
   |_=>simp[Gz,asL]at ha
  have hblks:blks=[]:=hb0 rfl;subst hblks;refine⟨.ar 0 0 0,[AN e t.size deep []],Ep.ext (hext _ _ _ _ _ (.inr ⟨_,hmem,rfl,?_,rfl,rfl,rfl⟩)),?_,?_,rfl⟩
  ·rcases hcase with rfl|rfl
   ·exact .inl rfl
   ·exact .inr rfl
  ·exact⟨0,rfl,fun b hb=>by cases hb;rfl⟩
  ·intro id b hb;have hb:AF [(0,some (TB.arr e deep t []))] id=some b:=hb;simp only[AF]at hb;cases hi:Nat.beq id 0 with
   |false=>rw[hi]at hb;cases hb
   |true=>
    rw[hi]at hb;have hb:some (TB.arr e deep t [])=some b:=hb;cases hb
    have:id=0:=za6 hi;subst this;exact⟨_,rfl,rfl,rfl,rfl,rfl,RLx.nil⟩
end
section
open Go Go.RowKit
def KI:(c:AC)->c.den->V->Prop
 |.int k,n,v=>v=.v (.int k n)
 |.bool,b,v=>v=.v (.bool b)
 |.str,s,v=>v=.v (.string ⟨s.toArray⟩)
 |.err,b,v=>v=.er b
 |.im t,l,v=>(l=[]/\v=.em)\/∃rows,v=.im rows/\RLx (RE t) l rows
 |.at _,_,_=>False
section
variable {hp hp':THp} {u v:SV} {a:V} {b n:Nat} {c:AC}
theorem Rv(hc:c.isU=false)(h:tnC (tmC [] c) u hp b=some (v,hp',n))(hr:RV2 hp u a)(ha:Af a=[]):hp'=hp/\∀f d,rdC c (BB f v)=some d->KI c d a:=by
 cases c with
 | «at» j=>cases hc
 |im t=>
  simp only[tmC,tnC]at h;cases hl:Gz hp t u with
  |none=>rw[hl]at h;cases h
  |some l=>
   rw[hl]at h;simp only[zx,Prod.mk.injEq]at h;obtain⟨rfl,rfl,_⟩:=h;have key:frV u=[]/\KI (.im t) l a:=by
    cases u with
    |em=>
     simp only[Gz,asL,zx]at hl;subst hl;exact⟨rfl,.inl ⟨rfl,hr⟩⟩
    |im t' l'=>
     simp only[Gz,asL]at hl
     split at hl
     ·rename_i ht;subst ht;have hl:l'=l:=zv hl;subst hl;exact⟨rfl,hr⟩
     ·cases hl
    |ow id=>
     obtain⟨m,rfl,_⟩:=hr;simp[Af,Ag]at ha
    |ar id lo m=>
     have hr:a=.ar id lo m:=hr;subst hr;simp[Af,Ag]at ha
    |_=>simp[Gz,asL]at hl
   refine⟨by rw[key.1];rfl,fun f d hd=> ?_⟩
   simp only[BB,Ek,rdC,dite_true]at hd;have hd:l=d:=zv hd;subst hd;exact key.2
 |int k=>
  simp only[tmC,tnC,zx,Prod.mk.injEq]at h;obtain⟨rfl,rfl,_⟩:=h;refine⟨rfl,fun f d hd=> ?_⟩
  cases u with
  |int k' m=>
   simp only[BB,Ek,rdC]at hd
   split at hd
   ·rename_i hk;subst hk;cases hd;exact hr
   ·cases hd
  |ow id=>simp only[BB,Ek]at hd;split at hd<;>cases hd
  |ar id lo m=>simp only[BB,Ek]at hd;split at hd<;>cases hd
  |rf id r c=>simp only[BB,Ek]at hd;split at hd<;>cases hd
  |cl g caps=>cases hd
  |_=>cases hd
 |bool=>
  simp only[tmC,tnC,zx,Prod.mk.injEq]at h;obtain⟨rfl,rfl,_⟩:=h;refine⟨rfl,fun f d hd=> ?_⟩
  cases u with
  |bool m=>cases hd;exact hr
  |ow id=>simp only[BB,Ek]at hd;split at hd<;>cases hd
  |ar id lo m=>simp only[BB,Ek]at hd;split at hd<;>cases hd
  |rf id r c=>simp only[BB,Ek]at hd;split at hd<;>cases hd
  |cl g caps=>cases hd
  |_=>cases hd
 |str=>
  simp only[tmC,tnC,zx,Prod.mk.injEq]at h;obtain⟨rfl,rfl,_⟩:=h;refine⟨rfl,fun f d hd=> ?_⟩
  cases u with
  |str m=>cases hd;exact hr
  |ow id=>simp only[BB,Ek]at hd;split at hd<;>cases hd
  |ar id lo m=>simp only[BB,Ek]at hd;split at hd<;>cases hd
  |rf id r c=>simp only[BB,Ek]at hd;split at hd<;>cases hd
  |cl g caps=>cases hd
  |_=>cases hd
 |err=>
  simp only[tmC,tnC,zx,Prod.mk.injEq]at h;obtain⟨rfl,rfl,_⟩:=h;refine⟨rfl,fun f d hd=> ?_⟩
  cases u with
  |er m=>cases hd;exact hr
  |ow id=>simp only[BB,Ek]at hd;split at hd<;>cases hd
  |ar id lo m=>simp only[BB,Ek]at hd;split at hd<;>cases hd
  |rf id r c=>simp only[BB,Ek]at hd;split at hd<;>cases hd
  |cl g caps=>cases hd
  |_=>cases hd
end
theorem A54{c:AC}{st:TSt}{x:B9 [.slot 0 (.cell c)]}{a:V}(hc:c.isU=false)(h:Ff 0 [.slot 0 (.cell c)] st=some x)(hr:RV2 st.hp (Bt st.tm 0) a)(ha:Af a=[]):
  ∃d,x=HW (.slot 0 (.cell c)) [] d ()/\KI c d a:=by
 unfold Ff at h
 split at h
 case isFalse=>cases h
 simp only[JJ,CD,tmS,tnS,tnV]at h;cases h1:tnC (tmC [] c) (Bt st.tm 0) st.hp (16*st.c)with
 |none=>rw[h1]at h;cases h
 |some z=>
  obtain⟨v,hp1,n⟩:=z;rw[h1]at h;simp only at h
  split at h
  case h_2=>cases h
  rename_i st1 hle
  split at hle
  case isFalse=>cases hle
  cases hle
  obtain⟨rfl,h2⟩:=Rv hc h1 hr ha
  split at h
  case h_2=>cases h
  rename_i st2 hst2;unfold MM at hst2
  split at hst2
  case isFalse=>cases hst2
  split at hst2
  case h_2=>cases hst2
  rename_i o ho
  split at hst2
  case isFalse=>cases hst2
  have hst2:=zv hst2;subst hst2;simp only[ES,zb8,List.map_nil,Bt,Nat.beq_refl,cond_true]at h;cases hhp:Em st.hp (C5 o) 0 o with
  |cons y l=>rw[hhp]at h;simp only[rdI,Nat.beq_refl,if_true]at h;split at h<;>cases h
  |nil=>
   rw[hhp]at h;simp only[rdI,Nat.beq_refl,if_true,rdS]at h
   split at h
   ·rename_i d hd;exact⟨d,(zv h).symm,h2 _ _ hd⟩
   ·cases h
theorem A6a{c c':AC}{st:TSt}{x:B9 [.slot 0 (.cell c),.slot 1 (.cell c')]}{a a':V}(hc:c.isU=false)(hc':c'.isU=false)(h:Ff 0 [.slot 0 (.cell c),.slot 1 (.cell c')] st=some x)
  (hr:RV2 st.hp (Bt st.tm 0) a) (hr':RV2 st.hp (Bt st.tm 1) a') (ha:Af a=[]) (ha':Af a'=[]):
  ∃d d',x=HW (.slot 0 (.cell c)) [.slot 1 (.cell c')] d (HW (.slot 1 (.cell c')) [] d' ())/\KI c d a/\KI c' d' a':=by
 unfold Ff at h
 split at h
 case isFalse=>cases h
 simp only[JJ,CD,tmS,tnS,tnV]at h;cases h1:tnC (tmC [] c) (Bt st.tm 0) st.hp (16*st.c)with
 |none=>rw[h1]at h;cases h
 |some z=>
  obtain⟨v,hp1,n⟩:=z;rw[h1]at h;simp only at h;obtain⟨rfl,h2⟩:=Rv hc h1 hr ha
  split at h
  case h_2=>cases h
  rename_i st1 hle
  split at hle
  case isFalse=>cases hle
  have hg:Bt ((0,v)::st.tm) 1=Bt st.tm 1:=rfl;rw[hg]at hle;cases h3:tnC (tmC [] c') (Bt st.tm 1) st.hp (16*(st.c+1))with
  |none=>rw[h3]at hle;cases hle
  |some z=>
   obtain⟨v',hp2,n'⟩:=z;rw[h3]at hle;simp only at hle;obtain⟨rfl,h4⟩:=Rv hc' h3 hr' ha'
   split at hle
   case isFalse=>cases hle
   cases hle
   split at h
   case h_2=>cases h
   rename_i st2 hst2;unfold MM at hst2
   split at hst2
   case isFalse=>cases hst2
   split at hst2
   case h_2=>cases hst2
   rename_i o ho
   split at hst2
   case isFalse=>cases hst2
   have hst2:=zv hst2;subst hst2;have g0:Bt ((1,v')::(0,v)::st.tm) 0=v:=rfl;have g1:Bt ((1,v')::(0,v)::st.tm) 1=v':=rfl;simp only[ES,zb8,List.map_nil,g0,g1]at h;cases hhp:Em st.hp (C5 o) 0 o with
   |cons y l=>
    rw[hhp]at h;cases e1:rdS (.cell c) (BB (C5 o) v)with
    |none=>simp[rdI,e1]at h
    |some d=>cases e2:rdS (.cell c') (BB (C5 o) v')with
     |none=>simp[rdI,e1,e2]at h
     |some d'=>simp[rdI,e1,e2]at h
   |nil=>
    rw[hhp]at h;cases e1:rdS (.cell c) (BB (C5 o) v)with
    |none=>simp[rdI,e1]at h
    |some d=>cases e2:rdS (.cell c') (BB (C5 o) v')with
     |none=>simp[rdI,e1,e2]at h
     |some d'=>
      simp only[rdI,e1,e2,Nat.beq_refl,if_true,zx]at h;exact⟨d,d',h.symm,h2 _ _ e1,h4 _ _ e2⟩
section
variable {P:Program} {J:Ga} {cf:Cfg} {ext:Rel}
theorem SG{args:List V}(h:(args.flatMap Af).eraseDups.length=0):∀v∈args,Af v=[]:=by
 have h0:args.flatMap Af=[]:=by
  cases hr:args.flatMap Af with
  |nil=>rfl
  |cons i l=>rw[hr]at h;simp[List.eraseDups_cons]at h
 intro v hv;rw[List.flatMap_eq_nil_iff]at h0;exact h0 v hv
theorem Au3{g:FuncId}{c:AC}{res:List Item}{F:B9 [.slot 0 (.cell c)]->Option (B9 res)}(hc:c.isU=false)
  (h:∀d y a,KI c d a->F (HW (.slot 0 (.cell c)) [] d ())=some y->∃r blks',ext g [a] [] r blks'/\ResRel res y r blks'):
  CB (Ep P cf ext) ⟨⟨g,0,[.slot 0 (.cell c)],res,[],[],[]⟩,F⟩:=by
 intro x y args blks st hF hs hd hid hlen href hb0
 match args,hlen with
 |[a],_=>
  have hb:blks=[]:=hb0 rfl;subst hb;have hn:=SG href;have h0:RV2 st.hp (Bt st.tm 0) a:=hs.tm 0;obtain⟨d,rfl,hA⟩:=A54 hc hd h0 (hn a (by simp));obtain⟨r,blks',h1,h2⟩:=h d y a hA hF;exact⟨r,blks',Ep.ext h1,h2⟩
theorem Ah1{g:FuncId}{c c':AC}{res:List Item}{F:B9 [.slot 0 (.cell c),.slot 1 (.cell c')]->Option (B9 res)}(hc:c.isU=false)(hc':c'.isU=false)
  (h:∀d d' y a a',KI c d a->KI c' d' a'->F (HW (.slot 0 (.cell c)) [.slot 1 (.cell c')] d (HW (.slot 1 (.cell c')) [] d' ()))=some y->∃r blks',ext g [a,a'] [] r blks'/\ResRel res y r blks'):
  CB (Ep P cf ext) ⟨⟨g,0,[.slot 0 (.cell c),.slot 1 (.cell c')],res,[],[],[]⟩,F⟩:=by
 intro x y args blks st hF hs hd hid hlen href hb0
 match args,hlen with
 |[a,a'],_=>
  have hb:blks=[]:=hb0 rfl;subst hb;have hn:=SG href;have h0:RV2 st.hp (Bt st.tm 0) a:=hs.tm 0;have h1:RV2 st.hp (Bt st.tm 1) a':=hs.tm 1;obtain⟨d,d',rfl,hA,hA'⟩:=A6a hc hc' hd h0 h1 (hn a (by simp)) (hn a' (by simp));obtain⟨r,blks',h1,h2⟩:=h d d' y a a' hA hA' hF;exact⟨r,blks',Ep.ext h1,h2⟩
def Ut(P:Program)(g:FuncId):Prop:=∃fn,P.funcs[g]? =some fn/\Qy fn=true/\fn.body.isSome=true
theorem Ak8{E:Env}{b:Nat}:¬Own E (lkB []) b:=fun⟨id,k,hk,_⟩=>by simp[lkB]at hk
theorem ZG{w w':World}{A:Nat->Prop}{E:Env}(hI:HpInv w (Own E (lkB [])) A E A (lkB []) w)(h:Below w.heap.size w w'):HpInv w (Own E (lkB [])) A E A (lkB []) w':=by
 refine⟨⟨h.os,h.tape,h.output,h.size,fun b hb _=>h.block b hb,fun b cur ty fz hb=>⟨cur,fz,?_,rfl⟩⟩,fun b hb=> ?_,fun b _=>Ak8,fun b hb=>absurd hb Ak8,fun id k id' k' hk=>by simp[lkB]at hk,fun id k b hk=>by simp[lkB]at hk,fun id k hk=>by simp[lkB]at hk⟩
 ·rw[h.block b (Array.getElem?_eq_some_iff.1 hb).1];exact hb
 ·have h1:=hI.g1 b hb;have:=h.size;exact⟨by omega,h1.2⟩
theorem J5{g:FuncId}{args:List V}{r:V}(hent:Ut P g)
  (h:∀(w:World)(A:Nat->Prop)(E:Env)(vals:List Value),(∀x∈J,w.heap[x.1]? =some x.2)->(∀b,A b->b<w.heap.size)->VL (VR1 w E (lkB []) A) args vals->
   Calls P g vals.toArray w fun e w'=>∃y,e=.returned y/\Below w.heap.size w w'/\VR2 w' E (lkB []) A r y):CSpec P J g args [] r []:=by
 refine⟨hent,fun _ w A E vals hT hI hvl=> ?_⟩
 refine(show Calls P g vals w _ from(h w A E vals.toList (fun x hx=>(hT x hx).1) (fun b hb=>(hI.g1 b hb).1) hvl)).mono ?_
 rintro e w' ⟨y,rfl,hb,hv⟩;exact⟨y,E,A,rfl,ZG hI hb,hv,fun j _ k' hk=>by simp at hk⟩
theorem Ak4{g:FuncId}{args:List V}{e size:Nat}{deep:Bool}{rows:List (List V)}(hent:Ut P g)(h0:0<size)(hna:args.flatMap Af=[])
  (h:∀(w:World)(A:Nat->Prop)(E:Env)(vals:List Value),(∀x∈J,w.heap[x.1]? =some x.2)->(∀b,A b->b<w.heap.size)->VL (VR1 w E (lkB []) A) args vals->
   Calls P g vals.toArray w fun ee w'=>∃(b cap:Nat)(cur:Array Value),ee=.returned (.slice (some ⟨b,0,none⟩) rows.length cap)/\Below w.heap.size w w'/\w.heap.size<=b/\b<w'.heap.size/\w'.heap[b]? =some (.cells cur e (0,0))/\
    cur.size=cap*size/\cap<=maxLen/\rows.length<=cap/\(∀(i:Nat)(row:List V),rows[i]? =some row->row.length=size)/\
    ∀(i j:Nat)(row:List V)(x:V),rows[i]? =some row->row[j]? =some x->∃u,cur[i*size+j]? =some u/\∀G,Rep w' G x u):CSpec P J g args [] (.ar 0 0 rows.length) [AN e size deep rows]:=by
 refine⟨hent,fun _ w A E vals hT hI hvl=> ?_⟩
 refine(show Calls P g vals w _ from(h w A E vals.toList (fun x hx=>(hT x hx).1) (fun b hb=>(hI.g1 b hb).1) hvl)).mono ?_
 rintro ee w' ⟨b,cap,cur,rfl,hb,hbn,hbs,hbk,hsz,hcap,hle,hrl,hre⟩;have hk0:∀id k,lkB [AN e size deep rows] id=some k->id=0/\k=AN e size deep rows:=by
  intro id k hk;cases id with
  |zero=>simp[lkB]at hk;exact⟨rfl,hk.symm⟩
  |succ id=>simp[lkB]at hk
 have hown:∀x,Own ⟨fun i=>if i=0 then some b else none,fun _ _=>False⟩ (lkB [AN e size deep rows]) x->x=b:=by
  rintro x ⟨id,k,hk,_,hx⟩;obtain⟨rfl,rfl⟩:=hk0 id k hk;rcases hx with hx|hx
  ·simpa using hx.symm
  ·exact hx.elim
 have hI':=ZG hI hb;refine⟨_,⟨fun i=>if i=0 then some b else none,fun _ _=>False⟩,A,rfl,⟨hI'.fr,hI'.g1,fun x hx ho=> ?_,fun x ho=> ?_,fun id k id' k' hk _ hk' _ _ _ _=> ?_,fun id k x _ _ _ hn=>hn,fun id k hk=> ?_⟩,?_,fun j hj k' hk'=> ?_⟩
 ·rw[hown x ho]at hx;have:=(hI.g1 b hx).1;omega
 ·rw[hown x ho];exact⟨hbs,.inr hbn⟩
 ·rw[(hk0 id k hk).1,(hk0 id' k' hk').1]
 ·obtain⟨rfl,rfl⟩:=hk0 id k hk;exact .inr ⟨b,cur,cap,rfl,hbk,h0,hsz,hcap,hle,hrl,fun i j row x h1 h2=>by
   obtain⟨u,h3,h4⟩:=hre i j row x h1 h2;exact⟨u,h3,h4 _⟩⟩
 ·refine⟨some ⟨b,0,none⟩,cap,rfl,fun k hk=> ?_⟩
  have hk:some (AN e size deep rows)=some k:=hk;cases hk
  refine⟨by simp[AN],by simp[AN],.inr ⟨b,cur,e,(0,0),rfl,by simp,hle,hbk,by simp[AN];exact hsz⟩⟩
 ·rw[hna]at hj;cases hj
end
end
section
open Go Go.RowKit
section
variable {P:Program} {J:Ga} {cf:Cfg} {ext:Rel} {g:FuncId}
def A40(P:Program)(J:Ga)(name:String)(k:IntKind)(zs:List Int):Prop:=∀w:World,(∀x∈J,w.heap[x.1]? =some x.2)->Lib.TabIs P w name k zs
theorem A4d{w:World}{E:Env}{A:Nat->Prop}{x:Value}{ys:List Value}(h:VL (VR1 w E (lkB []) A) [.v x] ys):ys=[x]:=by
 match ys,h with
 |[y],h=>
  have h1:Rep w A (.v x) y:=h.1;cases h1
  rfl
 |[],h=>exact h.elim
 |_::_::_,h=>exact h.2.elim
theorem A4c{w:World}{E:Env}{A:Nat->Prop}{x x':Value}{ys:List Value}(h:VL (VR1 w E (lkB []) A) [.v x,.v x'] ys):ys=[x,x']:=by
 match ys,h with
 |[y,z],h=>
  have h1:Rep w A (.v x) y:=h.1;have h2:Rep w A (.v x') z:=h.2.1;cases h1
  cases h2
  rfl
 |[],h=>exact h.elim
 |[_],h=>exact h.2.elim
 |_::_::_::_,h=>exact h.2.2.elim
def VU(n:Int):Option Str:=if-9223372036854775808<=n/\n<=9223372036854775807 then some (Lib.itoa n)else none
def Ae1(g:FuncId):Rel:=fun g' args blks r blks'=>g'=g/\∃n:Int,-9223372036854775808<=n/\n<=9223372036854775807/\args=[.v (.int .i64 n)]/\blks=[]/\r=.v (.string ⟨(Lib.itoa n).toArray⟩)/\blks'=[]
def A5t(g:FuncId):FAnn:=⟨g,0,[.slot 0 (.cell (.int .i64))],[.slot 0 (.cell .str)],[],[],[]⟩
theorem AN9(hent:Ut P g)(hc:∀(n:Int) (h0: -9223372036854775808<=n) (h1:n<=9223372036854775807) (w:World) (htab:Lib.TabIs P w "internal/strconv.uint64pow10" .u64 Lib.pow10Tab),
  Calls P g #[.int .i64 n] w fun e w'=>e=.returned (.string ⟨(Lib.itoa n).toArray⟩)/\∃k os,w'=Sort.grow (w.drewN k) os)(hJ:A40 P J "internal/strconv.uint64pow10" .u64 Lib.pow10Tab):
  ∀g' args blks r blks',Ae1 g g' args blks r blks'->CSpec P J g' args blks r blks':=by
 rintro g' args blks r blks' ⟨rfl,n,h0,h1,rfl,rfl,rfl,rfl⟩;refine J5 hent fun w A E vals hT hA hvl=> ?_
 rw[A4d hvl];refine(hc n h0 h1 w (hJ w hT)).mono ?_
 rintro e w' ⟨rfl,k,os,rfl⟩;exact⟨_,rfl,Lib.below_grow _ w (za7 _) k os,.v _ rfl⟩
theorem A14(hx:∀g' args blks r blks',Ae1 g g' args blks r blks'->ext g' args blks r blks'):CB (Ep P cf ext) ⟨A5t g,VU⟩:=by
 refine Au3 rfl fun d y a ha hF=> ?_
 have hF:VU d=some y:=hF;unfold VU at hF
 split at hF
 ·rename_i h;cases hF
  have ha:a=.v (.int .i64 d):=ha;exact⟨_,[],hx _ _ _ _ _ ⟨rfl,d,h.1,h.2,by rw[ha],rfl,rfl,rfl⟩,rfl,fun id b hb=>by simp[Bk,AF]at hb,rfl⟩
 ·cases hF
def A3I(J:Ga)(k:Nat):Prop:=∀w:World,(∀x∈J,w.heap[x.1]? =some x.2)->∃m:Int,w.cell? ⟨k,0,none⟩=some (.int .i64 m)
def Jc(s sub:Str):Option Bool:=if s.length<4294967281 then some (Lib.contains s sub)else none
def Nl(g:FuncId):Rel:=fun g' args blks r blks'=>g'=g/\∃s p:Str,s.length<4294967281/\args=[.v (.string ⟨s.toArray⟩),.v (.string ⟨p.toArray⟩)]/\blks=[]/\r=.v (.bool (Lib.contains s p))/\blks'=[]
def AV1(g:FuncId):FAnn:=⟨g,0,[.slot 0 (.cell .str),.slot 1 (.cell .str)],[.slot 0 (.cell .bool)],[],[],[]⟩
theorem X0{k:Nat}(hent:Ut P g)(hc:∀(s sub:ByteArray) (m:Int) (w:World) (hs:s.size<4294967281) (hm:w.cell? ⟨k,0,none⟩=some (.int .i64 m)),
  Calls P g #[.string s,.string sub] w fun e w'=>e=.returned (.bool (Lib.contains s.data.toList sub.data.toList))/\w'=w)(hJ:A3I J k):
  ∀g' args blks r blks',Nl g g' args blks r blks'->CSpec P J g' args blks r blks':=by
 rintro g' args blks r blks' ⟨rfl,s,p,hs,rfl,rfl,rfl,rfl⟩;refine J5 hent fun w A E vals hT hA hvl=> ?_
 rw[A4c hvl];obtain⟨m,hm⟩:=hJ w hT;refine(hc ⟨s.toArray⟩ ⟨p.toArray⟩ m w (by simpa[ByteArray.size]using hs) hm).mono ?_
 rintro e w' ⟨rfl,rfl⟩;exact⟨_,rfl,Below.refl _ _,.v _ rfl⟩
theorem ZP(hx:∀g' args blks r blks',Nl g g' args blks r blks'->ext g' args blks r blks'):CB (Ep P cf ext) ⟨AV1 g,fun x=>Jc x.1 x.2⟩:=by
 refine Ah1 rfl rfl fun d d' y a a' ha ha' hF=> ?_
 have hF:Jc d d'=some y:=hF;unfold Jc at hF
 split at hF
 ·rename_i h;cases hF
  have ha:a=.v (.string ⟨(show Str from d).toArray⟩):=ha;have ha':a'=.v (.string ⟨(show Str from d').toArray⟩):=ha';exact⟨_,[],hx _ _ _ _ _ ⟨rfl,d,d',h,by rw[ha,ha'],rfl,rfl,rfl⟩,rfl,fun id b hb=>by simp[Bk,AF]at hb,rfl⟩
 ·cases hF
def FI(s sep:Str):List Str:=(Lib.splitB ⟨sep.toArray⟩ 0 (Lib.countB ⟨s.toArray⟩ ⟨sep.toArray⟩) ⟨s.toArray⟩).map fun b=>b.data.toList
def OI(s sep:Str):Option (List Str):=if s.length<4294967281/\1<=sep.length then some (FI s sep)else none
def Vf(g:FuncId)(e:TypeId):Rel:=fun g' args blks r blks'=>g'=g/\∃s p:Str,s.length<4294967281/\1<=p.length/\args=[.v (.string ⟨s.toArray⟩),.v (.string ⟨p.toArray⟩)]/\blks=[]/\
 r=.ar 0 0 ((FI s p).map fun x=>[V.v (.string ⟨x.toArray⟩)]).length/\blks'=[AN e 1 true ((FI s p).map fun x=>[V.v (.string ⟨x.toArray⟩)])]
def A4Y(g:FuncId)(e:TypeId):FAnn:=⟨g,0,[.slot 0 (.cell .str),.slot 1 (.cell .str)],[.blk (.arr e true .str),.slot 0 (.ref 0 false)],[],[],[]⟩
theorem AC8{k:Nat}{e:TypeId}(hent:Ut P g)(hc:∀(s sep:ByteArray) (m:Int) (w:World) (hs:s.size<4294967281) (hm:w.cell? ⟨k,0,none⟩=some (.int .i64 m)) (h1:1<=sep.size),
  Calls P g #[.string s,.string sep] w fun ee w'=>ee=.returned (.slice (some ⟨w.heap.size,0,none⟩) (Lib.countB s sep+1) (Lib.countB s sep+1))/\w'=w.alloc (.cells ((Lib.splitB sep 0 (Lib.countB s sep) s).map Value.string).toArray e))(hJ:A3I J k):
  ∀g' args blks r blks',Vf g e g' args blks r blks'->CSpec P J g' args blks r blks':=by
 rintro g' args blks r blks' ⟨rfl,s,p,hs,hp,rfl,rfl,rfl,rfl⟩;refine Ak4 hent (by decide) rfl fun w A E vals hT hA hvl=> ?_
 rw[A4c hvl];obtain⟨m,hm⟩:=hJ w hT;refine(hc ⟨s.toArray⟩ ⟨p.toArray⟩ m w (by simpa[ByteArray.size]using hs) hm (by simpa[ByteArray.size]using hp)).mono ?_
 rintro ee w' ⟨rfl,rfl⟩;have h1:1<=(⟨p.toArray⟩:ByteArray).size:=by simpa[ByteArray.size]using hp
 have hl:=Lib.splitB_all ⟨p.toArray⟩ h1 0 _ ⟨s.toArray⟩ rfl;have hk:=Lib.countB_le ⟨p.toArray⟩ h1 _ ⟨s.toArray⟩ (za7 _);have hk':Lib.countB ⟨s.toArray⟩ ⟨p.toArray⟩<=s.length:=by simpa[ByteArray.size]using hk
 have hrl:((FI s p).map fun x=>[V.v (.string ⟨x.toArray⟩)]).length=Lib.countB ⟨s.toArray⟩ ⟨p.toArray⟩+1:=by unfold FI;simp[hl]
 refine⟨w.heap.size,Lib.countB ⟨s.toArray⟩ ⟨p.toArray⟩+1,((Lib.splitB ⟨p.toArray⟩ 0 (Lib.countB ⟨s.toArray⟩ ⟨p.toArray⟩) ⟨s.toArray⟩).map Value.string).toArray,by rw[hrl],(Below.refl _ w).alloc (za7 _) _,za7 _,by simp,by unfold World.alloc;simp,by simp[hl],by unfold maxLen;omega,by omega,fun i row hr=> ?_,fun i j row x hr hx=> ?_⟩
 ·rw[zd0]at hr;cases hz:(FI s p)[i]? with
  |none=>rw[hz]at hr;cases hr
  |some z=>rw[hz]at hr;cases hr;rfl
 ·rw[zd0]at hr;cases hz:(FI s p)[i]? with
  |none=>rw[hz]at hr;cases hr
  |some z=>
   rw[hz]at hr;cases hr
   cases j with
   |succ j=>simp at hx
   |zero=>
    simp at hx;subst hx;unfold FI at hz;rw[zd0,zb5]at hz;obtain⟨b,hb,rfl⟩:=hz;refine⟨.string b,?_,fun G=> ?_⟩
    ·simp[hb]
    ·exact .v _ rfl
theorem AU0{e:TypeId}(hx:∀g' args blks r blks',Vf g e g' args blks r blks'->ext g' args blks r blks'):CB (Ep P cf ext) ⟨A4Y g e,fun x=>OI x.1 x.2⟩:=by
 refine Ah1 rfl rfl fun d d' y a a' ha ha' hF=> ?_
 have hF:OI d d'=some y:=hF;unfold OI at hF
 split at hF
 ·rename_i h;cases hF
  have ha:a=.v (.string ⟨(show Str from d).toArray⟩):=ha;have ha':a'=.v (.string ⟨(show Str from d').toArray⟩):=ha';refine⟨_,_,hx _ _ _ _ _ ⟨rfl,d,d',h.1,h.2,by rw[ha,ha'],rfl,rfl,rfl⟩,⟨_,rfl,fun b hb=> ?_⟩,fun id b hb=> ?_,rfl⟩
  ·have hb:some (TB.arr e true .str (FI d d'))=some b:=hb;cases hb
   simp[EZ]
  ·have hb:AF [(0,some (TB.arr e true .str (FI d d')))] id=some b:=hb;simp only[AF]at hb;cases hi:Nat.beq id 0 with
   |false=>rw[hi]at hb;cases hb
   |true=>
    rw[hi]at hb;have hb:some (TB.arr e true .str (FI d d'))=some b:=hb;cases hb
    have:id=0:=za6 hi;subst this;refine⟨_,rfl,rfl,rfl,rfl,rfl,by simp[AN],fun i x row h1 h2=> ?_⟩
    have h2:((FI d d').map fun x=>[V.v (.string ⟨x.toArray⟩)])[i]? =some row:=h2;have h1:(FI d d')[i]? =some x:=h1;rw[zd0,h1]at h2;cases h2
    rfl
 ·cases hF
def A0m(P:Program)(J:Ga)(name:String):Prop:=∀w:World,(∀x∈J,w.heap[x.1]? =some x.2)->∃tp p,w.var? P name=some #[.iface tp p]
def OW(s:Str):Int×Bool:=match Lib.atoiAll s with|.ok v=>(v,false)|.range=>(Lib.atoiSat s,true)|_=>(0,true)
def VY(s:Str):Option (Int×Bool):=if s.length<=281474976710656 then some (OW s)else none
def Ab1(g:FuncId):Rel:=fun g' args blks r blks'=>g'=g/\∃s:Str,s.length<=281474976710656/\args=[.v (.string ⟨s.toArray⟩)]/\blks=[]/\r=.tup [.v (.int .i64 (OW s).1),.er (OW s).2]/\blks'=[]
def A5D(g:FuncId):FAnn:=⟨g,0,[.slot 0 (.cell .str)],[.slot 0 (.cell (.int .i64)),.slot 1 (.cell .err)],[],[],[]⟩
theorem AN0{t5 t1 t2:TypeId}(hent:Ut P g)(hok:∀(s:ByteArray) (hmax:s.size<=9223372036854775806) (v:Int) (h:Lib.atoiAll s.data.toList=.ok v) (w:World),
   Calls P g #[.string s] w fun e w'=>e=.returned (.tuple #[.int .i64 v,.nilIface])/\(w'=w\/∃t,w'=Lib.bytesWorld w t5 t))
  (hsy:∀(s:ByteArray)(hlim:s.size<=281474976710656)(h:Lib.atoiAll s.data.toList=Lib.atoiAll [])(tp:TypeId)(p:Value)(w:World)(hvar:w.var? P "strconv.ErrSyntax" =some #[.iface tp p]),
   Calls P g #[.string s] w fun e w'=>∃N,e=.returned (.tuple #[.int .i64 0,.iface t1 (.pointer (some ⟨N,0,none⟩))])/\w.heap.size<=N/\w'.heap[N]? =some (.cells #[.string ⟨#[65,116,111,105]⟩,.string s,.iface tp p] t2 (0,0))/\Below w.heap.size w w')
  (hrg:∀(s:ByteArray)(hlim:s.size<=281474976710656)(h:Lib.atoiAll s.data.toList=.range)(tp:TypeId)(p:Value)(w:World)(hvar:w.var? P "strconv.ErrRange" =some #[.iface tp p]),
   Calls P g #[.string s] w fun e w'=>∃N,e=.returned (.tuple #[.int .i64 (Lib.atoiSat s.data.toList),.iface t1 (.pointer (some ⟨N,0,none⟩))])/\w.heap.size<=N/\w'.heap[N]? =some (.cells #[.string ⟨#[65,116,111,105]⟩,.string s,.iface tp p] t2 (0,0))/\Below w.heap.size w w')
  (hJ1:A0m P J "strconv.ErrSyntax") (hJ2:A0m P J "strconv.ErrRange"):
  ∀g' args blks r blks',Ab1 g g' args blks r blks'->CSpec P J g' args blks r blks':=by
 rintro g' args blks r blks' ⟨rfl,s,hs,rfl,rfl,rfl,rfl⟩;refine J5 hent fun w A E vals hT hA hvl=> ?_
 rw[A4d hvl];have hs':(⟨s.toArray⟩:ByteArray).size<=281474976710656:=by simpa[ByteArray.size]using hs
 cases hz:Lib.atoiAll s
 case ok v=>
  have e0:OW s=(v,false):=by unfold OW;rw[hz]
  rw[e0];refine(hok ⟨s.toArray⟩ (by omega) v (by simpa using hz) w).mono ?_
  rintro e w' ⟨rfl,hw⟩;refine⟨_,rfl,?_,_,rfl,.v _ rfl,.er0,trivial⟩
  rcases hw with rfl|⟨t,rfl⟩
  ·exact Below.refl _ _
  ·exact Lib.bytesWorld_below w _ t
 case range=>
  have e0:OW s=(Lib.atoiSat s,true):=by unfold OW;rw[hz]
  rw[e0];obtain⟨tp,p,hv⟩:=hJ2 w hT;refine(hrg ⟨s.toArray⟩ hs' (by simpa using hz) tp p w hv).mono ?_
  rintro e w' ⟨N,rfl,_,_,hb⟩;exact⟨_,rfl,hb,_,rfl,.v _ rfl,.er1 _ _,trivial⟩
 ·have e0:OW s=(0,true):=by unfold OW;rw[hz]
  rw[e0];obtain⟨tp,p,hv⟩:=hJ1 w hT;have he:Lib.atoiAll (⟨s.toArray⟩:ByteArray).data.toList=Lib.atoiAll []:=by
   rw[show(⟨s.toArray⟩:ByteArray).data.toList=s from rfl,hz];rfl
  refine(hsy ⟨s.toArray⟩ hs' he tp p w hv).mono ?_
  rintro e w' ⟨N,rfl,_,_,hb⟩;exact⟨_,rfl,hb,_,rfl,.v _ rfl,.er1 _ _,trivial⟩
theorem A1v(hx:∀g' args blks r blks',Ab1 g g' args blks r blks'->ext g' args blks r blks'):CB (Ep P cf ext) ⟨A5D g,VY⟩:=by
 refine Au3 rfl fun d y a ha hF=> ?_
 have hF:VY d=some y:=hF;unfold VY at hF
 split at hF
 ·rename_i h;cases hF
  have ha:a=.v (.string ⟨(show Str from d).toArray⟩):=ha;exact⟨_,[],hx _ _ _ _ _ ⟨rfl,d,h,by rw[ha],rfl,rfl,rfl⟩,⟨_,rfl,rfl,rfl,trivial⟩,fun id b hb=>by simp[Bk,AF]at hb,rfl⟩
 ·cases hF
end
end
end Go.Proofs.YtiijheppiboglaaGreatDoor.Ev
namespace Go.Proofs
section
open Go.Shelf
def Tryz.lays169_ren:Go.Shelf.Ren:=⟨fun|169=>149|n=>n,fun|70=>164|9=>9|0=>0|72=>166|37=>32|127=>200|3=>3|5=>5|n=>n,fun|n=>n⟩
theorem Tryz.lays169:Go.Proofs.Lays.n169 Tryz.prog Tryz.lays169_ren:={
 mixed:=by kernel_rfl
 f169:=Tryz.func149.trans (congrArg some (by kernel_rfl))
 t0:=Tryz.underlying0
 a0:=Tryz.isAgg0
 z0:=Tryz.sizeOf0
 v0:=Tryz.zeroValue0
 t3:=Tryz.underlying3
 a3:=Tryz.isAgg3
 z3:=Tryz.sizeOf3
 v3:=Tryz.zeroValue3
 t9:=Tryz.underlying9
 a9:=Tryz.isAgg9
 z9:=Tryz.sizeOf9
 v9:=Tryz.zeroValue9
 t37:=Tryz.underlying32
 a37:=Tryz.isAgg32
 z37:=Tryz.sizeOf32
 v37:=Tryz.zeroValue32
 t70:=Tryz.underlying164
 a70:=Tryz.isAgg164
 z70:=Tryz.sizeOf164
 v70:=Tryz.zeroValue164
 t72:=Tryz.underlying166
 a72:=Tryz.isAgg166
 z72:=Tryz.sizeOf166
 v72:=Tryz.zeroValue166
 t127:=Tryz.underlying200
 a127:=Tryz.isAgg200
 z127:=Tryz.sizeOf200
 v127:=Tryz.zeroValue200}
theorem Tryz.Builder_Extra_169:Builder.Extra Tryz.prog Tryz.lays169_ren:={
 sizeBuilder:=by kernel_rfl
 liesBuilder:=by kernel_rfl
 t5:=Tryz.underlying5
 a5:=Tryz.isAgg5
 z5:=Tryz.sizeOf5
 v5:=Tryz.zeroValue5
 infoByte:=by kernel_rfl
 cellsByte:=by kernel_rfl
 sizeByte:=by kernel_rfl
 neB5:=by decide}
open Go.RowKit in
theorem Tryz.Builder_String_any (B b : Nat) (l : List UInt8) (w : World) (h : Lib.IsBuilder 166 5 B b (Lib.byteCells l) w) (hBw : B <= w.heap.size) :
  Calls Tryz.prog 149 #[.pointer (some ⟨b, 0, none⟩)] w fun e w' => e = .returned (.string ⟨l.toArray⟩) /\ Below B w w' := Any.Builder_String_any Tryz.lays169 Tryz.Builder_Extra_169 B b l w h hBw
def Tryz.laysM171_ren:Go.Shelf.Ren:=⟨fun|171=>82|243=>146|246=>200|283=>249|284=>250|285=>251|286=>252|129=>286|317=>285|318=>287|319=>288|320=>289|337=>305|338=>306|n=>n,fun|3=>3|9=>9|2=>2|4=>4|171=>227|0=>0|53=>113|37=>32|5=>5|173=>230|212=>254|51=>255|20=>20|213=>256|46=>221|232=>280|233=>281|n=>n,fun|17=>3|18=>6|19=>7|n=>n⟩
theorem Tryz.laysM171:Go.Proofs.LaysM.n171 Tryz.prog Tryz.laysM171_ren:={
 mixed:=by kernel_rfl
 f129:=Tryz.func286.trans (congrArg some (by kernel_rfl))
 f171:=Tryz.func82.trans (congrArg some (by kernel_rfl))
 f243:=Tryz.func146.trans (congrArg some (by kernel_rfl))
 f246:=Tryz.func200.trans (congrArg some (by kernel_rfl))
 f283:=Tryz.func249.trans (congrArg some (by kernel_rfl))
 f284:=Tryz.func250.trans (congrArg some (by kernel_rfl))
 f285:=Tryz.func251.trans (congrArg some (by kernel_rfl))
 f286:=Tryz.func252.trans (congrArg some (by kernel_rfl))
 f317:=Tryz.func285.trans (congrArg some (by kernel_rfl))
 f318:=Tryz.func287.trans (congrArg some (by kernel_rfl))
 f319:=Tryz.func288.trans (congrArg some (by kernel_rfl))
 f320:=Tryz.func289.trans (congrArg some (by kernel_rfl))
 f337:=Tryz.func305.trans (congrArg some (by kernel_rfl))
 f338:=Tryz.func306.trans (congrArg some (by kernel_rfl))
 t0:=Tryz.underlying0
 a0:=Tryz.isAgg0
 z0:=Tryz.sizeOf0
 v0:=Tryz.zeroValue0
 t2:=Tryz.underlying2
 a2:=Tryz.isAgg2
 z2:=Tryz.sizeOf2
 v2:=Tryz.zeroValue2
 t3:=Tryz.underlying3
 a3:=Tryz.isAgg3
 z3:=Tryz.sizeOf3
 v3:=Tryz.zeroValue3
 t4:=Tryz.underlying4
 a4:=Tryz.isAgg4
 z4:=Tryz.sizeOf4
 v4:=Tryz.zeroValue4
 t5:=Tryz.underlying5
 a5:=Tryz.isAgg5
 z5:=Tryz.sizeOf5
 v5:=Tryz.zeroValue5
 t9:=Tryz.underlying9
 a9:=Tryz.isAgg9
 z9:=Tryz.sizeOf9
 v9:=Tryz.zeroValue9
 t20:=Tryz.underlying20
 a20:=Tryz.isAgg20
 z20:=Tryz.sizeOf20
 v20:=Tryz.zeroValue20
 t37:=Tryz.underlying32
 a37:=Tryz.isAgg32
 z37:=Tryz.sizeOf32
 v37:=Tryz.zeroValue32
 t46:=Tryz.underlying221
 a46:=Tryz.isAgg221
 z46:=Tryz.sizeOf221
 v46:=Tryz.zeroValue221
 t51:=Tryz.underlying255
 a51:=Tryz.isAgg255
 z51:=Tryz.sizeOf255
 v51:=Tryz.zeroValue255
 t53:=Tryz.underlying113
 a53:=Tryz.isAgg113
 z53:=Tryz.sizeOf113
 v53:=Tryz.zeroValue113
 t171:=Tryz.underlying227
 a171:=Tryz.isAgg227
 z171:=Tryz.sizeOf227
 v171:=Tryz.zeroValue227
 t173:=Tryz.underlying230
 a173:=Tryz.isAgg230
 z173:=Tryz.sizeOf230
 v173:=Tryz.zeroValue230
 t212:=Tryz.underlying254
 a212:=Tryz.isAgg254
 z212:=Tryz.sizeOf254
 v212:=Tryz.zeroValue254
 t213:=Tryz.underlying256
 a213:=Tryz.isAgg256
 z213:=Tryz.sizeOf256
 t232:=Tryz.underlying280
 a232:=Tryz.isAgg280
 z232:=Tryz.sizeOf280
 v232:=Tryz.zeroValue280
 t233:=Tryz.underlying281
 a233:=Tryz.isAgg281
 z233:=Tryz.sizeOf281
 v233:=Tryz.zeroValue281
 g17:=by kernel_rfl
 g18:=by kernel_rfl
 g19:=by kernel_rfl
 i0:=by kernel_rfl
 i2:=by kernel_rfl
 i3:=by kernel_rfl
 i4:=by kernel_rfl
 i5:=by kernel_rfl
 i9:=by kernel_rfl
 i20:=by kernel_rfl
 i37:=by kernel_rfl
 i46:=by kernel_rfl
 i51:=by kernel_rfl
 i53:=by kernel_rfl
 i171:=by kernel_rfl
 i173:=by kernel_rfl
 i212:=by kernel_rfl
 i232:=by kernel_rfl
 i233:=by kernel_rfl
 m17:=by kernel_rfl
 m18:=by kernel_rfl
 m19:=by kernel_rfl}
open Go.RowKit Go.Sort Go.Lib in
theorem Tryz.strconv_Itoa (n : Int) (h0 : -9223372036854775808 <= n) (h1 : n <= 9223372036854775807) (w : World) (htab : Lib.TabIs Tryz.prog w "internal/strconv.uint64pow10" .u64 Lib.pow10Tab) :
  Calls Tryz.prog 82 #[.int .i64 n] w fun e w' => e = .returned (.string ⟨(Lib.itoa n).toArray⟩) /\ ∃ k os, w' = grow (w.drewN k) os := Any.strconv_Itoa Tryz.laysM171 n h0 h1 w htab
def Tryz.laysC172_ren:Go.Shelf.Ren:=⟨fun|172=>101|244=>164|245=>165|247=>210|279=>211|280=>212|281=>213|282=>214|287=>260|316=>261|171=>82|205=>262|321=>291|322=>292|243=>146|246=>200|283=>249|284=>250|285=>251|286=>252|129=>286|317=>285|318=>287|319=>288|320=>289|337=>305|338=>306|n=>n,fun|9=>9|3=>3|75=>125|76=>126|4=>4|5=>5|167=>205|37=>32|0=>0|85=>206|2=>2|168=>208|53=>113|175=>240|46=>221|210=>244|127=>200|145=>261|143=>259|21=>21|171=>227|173=>230|212=>254|51=>255|20=>20|213=>256|232=>280|233=>281|80=>116|n=>n,fun|15=>0|16=>1|17=>3|18=>6|19=>7|n=>n⟩
theorem Tryz.laysC172:Go.Proofs.LaysC.n172 Tryz.prog Tryz.laysC172_ren:={
 mixed:=by kernel_rfl
 f129:=Tryz.func286.trans (congrArg some (by kernel_rfl))
 f171:=Tryz.func82.trans (congrArg some (by kernel_rfl))
 f172:=Tryz.func101.trans (congrArg some (by kernel_rfl))
 f205:=Tryz.func262.trans (congrArg some (by kernel_rfl))
 f243:=Tryz.func146.trans (congrArg some (by kernel_rfl))
 f244:=Tryz.func164.trans (congrArg some (by kernel_rfl))
 f245:=Tryz.func165.trans (congrArg some (by kernel_rfl))
 f246:=Tryz.func200.trans (congrArg some (by kernel_rfl))
 f247:=Tryz.func210.trans (congrArg some (by kernel_rfl))
 f279:=Tryz.func211.trans (congrArg some (by kernel_rfl))
 f280:=Tryz.func212.trans (congrArg some (by kernel_rfl))
 f281:=Tryz.func213.trans (congrArg some (by kernel_rfl))
 f282:=Tryz.func214.trans (congrArg some (by kernel_rfl))
 f283:=Tryz.func249.trans (congrArg some (by kernel_rfl))
 f284:=Tryz.func250.trans (congrArg some (by kernel_rfl))
 f285:=Tryz.func251.trans (congrArg some (by kernel_rfl))
 f286:=Tryz.func252.trans (congrArg some (by kernel_rfl))
 f287:=Tryz.func260.trans (congrArg some (by kernel_rfl))
 f316:=Tryz.func261.trans (congrArg some (by kernel_rfl))
 f317:=Tryz.func285.trans (congrArg some (by kernel_rfl))
 f318:=Tryz.func287.trans (congrArg some (by kernel_rfl))
 f319:=Tryz.func288.trans (congrArg some (by kernel_rfl))
 f320:=Tryz.func289.trans (congrArg some (by kernel_rfl))
 f321:=Tryz.func291.trans (congrArg some (by kernel_rfl))
 f322:=Tryz.func292.trans (congrArg some (by kernel_rfl))
 f337:=Tryz.func305.trans (congrArg some (by kernel_rfl))
 f338:=Tryz.func306.trans (congrArg some (by kernel_rfl))
 t0:=Tryz.underlying0
 a0:=Tryz.isAgg0
 z0:=Tryz.sizeOf0
 v0:=Tryz.zeroValue0
 t2:=Tryz.underlying2
 a2:=Tryz.isAgg2
 z2:=Tryz.sizeOf2
 v2:=Tryz.zeroValue2
 t3:=Tryz.underlying3
 a3:=Tryz.isAgg3
 z3:=Tryz.sizeOf3
 v3:=Tryz.zeroValue3
 t4:=Tryz.underlying4
 a4:=Tryz.isAgg4
 z4:=Tryz.sizeOf4
 v4:=Tryz.zeroValue4
 t5:=Tryz.underlying5
 a5:=Tryz.isAgg5
 z5:=Tryz.sizeOf5
 v5:=Tryz.zeroValue5
 t9:=Tryz.underlying9
 a9:=Tryz.isAgg9
 z9:=Tryz.sizeOf9
 v9:=Tryz.zeroValue9
 t20:=Tryz.underlying20
 a20:=Tryz.isAgg20
 z20:=Tryz.sizeOf20
 v20:=Tryz.zeroValue20
 t21:=Tryz.underlying21
 a21:=Tryz.isAgg21
 z21:=Tryz.sizeOf21
 v21:=Tryz.zeroValue21
 t37:=Tryz.underlying32
 a37:=Tryz.isAgg32
 z37:=Tryz.sizeOf32
 v37:=Tryz.zeroValue32
 t46:=Tryz.underlying221
 a46:=Tryz.isAgg221
 z46:=Tryz.sizeOf221
 v46:=Tryz.zeroValue221
 t51:=Tryz.underlying255
 a51:=Tryz.isAgg255
 z51:=Tryz.sizeOf255
 v51:=Tryz.zeroValue255
 t53:=Tryz.underlying113
 a53:=Tryz.isAgg113
 z53:=Tryz.sizeOf113
 v53:=Tryz.zeroValue113
 t75:=Tryz.underlying125
 a75:=Tryz.isAgg125
 z75:=Tryz.sizeOf125
 v75:=Tryz.zeroValue125
 t76:=Tryz.underlying126
 a76:=Tryz.isAgg126
 z76:=Tryz.sizeOf126
 v76:=Tryz.zeroValue126
 t85:=Tryz.underlying206
 a85:=Tryz.isAgg206
 z85:=Tryz.sizeOf206
 v85:=Tryz.zeroValue206
 t127:=Tryz.underlying200
 a127:=Tryz.isAgg200
 z127:=Tryz.sizeOf200
 v127:=Tryz.zeroValue200
 t143:=Tryz.underlying259
 a143:=Tryz.isAgg259
 z143:=Tryz.sizeOf259
 v143:=Tryz.zeroValue259
 t145:=Tryz.underlying261
 a145:=Tryz.isAgg261
 z145:=Tryz.sizeOf261
 v145:=Tryz.zeroValue261
 t167:=Tryz.underlying205
 a167:=Tryz.isAgg205
 z167:=Tryz.sizeOf205
 v167:=Tryz.zeroValue205
 t168:=Tryz.underlying208
 a168:=Tryz.isAgg208
 z168:=Tryz.sizeOf208
 v168:=Tryz.zeroValue208
 t171:=Tryz.underlying227
 a171:=Tryz.isAgg227
 z171:=Tryz.sizeOf227
 v171:=Tryz.zeroValue227
 t173:=Tryz.underlying230
 a173:=Tryz.isAgg230
 z173:=Tryz.sizeOf230
 v173:=Tryz.zeroValue230
 t175:=Tryz.underlying240
 a175:=Tryz.isAgg240
 z175:=Tryz.sizeOf240
 v175:=Tryz.zeroValue240
 t210:=Tryz.underlying244
 a210:=Tryz.isAgg244
 z210:=Tryz.sizeOf244
 v210:=Tryz.zeroValue244
 t212:=Tryz.underlying254
 a212:=Tryz.isAgg254
 z212:=Tryz.sizeOf254
 v212:=Tryz.zeroValue254
 t213:=Tryz.underlying256
 a213:=Tryz.isAgg256
 z213:=Tryz.sizeOf256
 t232:=Tryz.underlying280
 a232:=Tryz.isAgg280
 z232:=Tryz.sizeOf280
 v232:=Tryz.zeroValue280
 t233:=Tryz.underlying281
 a233:=Tryz.isAgg281
 z233:=Tryz.sizeOf281
 v233:=Tryz.zeroValue281
 g15:=by kernel_rfl
 g16:=by kernel_rfl
 g17:=by kernel_rfl
 g18:=by kernel_rfl
 g19:=by kernel_rfl
 t80:=Tryz.underlying116
 a80:=Tryz.isAgg116
 z80:=Tryz.sizeOf116
 v80:=Tryz.zeroValue116
 i0:=by kernel_rfl
 i2:=by kernel_rfl
 i3:=by kernel_rfl
 i4:=by kernel_rfl
 i5:=by kernel_rfl
 i9:=by kernel_rfl
 i20:=by kernel_rfl
 i21:=by kernel_rfl
 i37:=by kernel_rfl
 i46:=by kernel_rfl
 i51:=by kernel_rfl
 i53:=by kernel_rfl
 i75:=by kernel_rfl
 i76:=by kernel_rfl
 i80:=by kernel_rfl
 i85:=by kernel_rfl
 i127:=by kernel_rfl
 i143:=by kernel_rfl
 i145:=by kernel_rfl
 i167:=by kernel_rfl
 i168:=by kernel_rfl
 i171:=by kernel_rfl
 i173:=by kernel_rfl
 i175:=by kernel_rfl
 i210:=by kernel_rfl
 i212:=by kernel_rfl
 i232:=by kernel_rfl
 i233:=by kernel_rfl
 m15:=by kernel_rfl
 m16:=by kernel_rfl
 m17:=by kernel_rfl
 m18:=by kernel_rfl
 m19:=by kernel_rfl
 c0:=by kernel_rfl
 c2:=by kernel_rfl
 c3:=by kernel_rfl
 c4:=by kernel_rfl
 c5:=by kernel_rfl
 c9:=by kernel_rfl
 c20:=by kernel_rfl
 c21:=by kernel_rfl
 c37:=by kernel_rfl
 c46:=by kernel_rfl
 c51:=by kernel_rfl
 c53:=by kernel_rfl
 c75:=by kernel_rfl
 c76:=by kernel_rfl
 c80:=by kernel_rfl
 c85:=by kernel_rfl
 c127:=by kernel_rfl
 c143:=by kernel_rfl
 c145:=by kernel_rfl
 c167:=by kernel_rfl
 c168:=by kernel_rfl
 c171:=by kernel_rfl
 c173:=by kernel_rfl
 c175:=by kernel_rfl
 c210:=by kernel_rfl
 c212:=by kernel_rfl
 c213:=by kernel_rfl
 c232:=by kernel_rfl
 c233:=by kernel_rfl}
open Go.RowKit in
theorem Tryz.strconv_Atoi_ok (s : ByteArray) (hmax : s.size <= 9223372036854775806) (v : Int) (h : Lib.atoiAll s.data.toList = .ok v) (w : World) :
  Calls Tryz.prog 101 #[.string s] w fun e w' => e = .returned (.tuple #[.int .i64 v, .nilIface]) /\ (w' = w \/ ∃ t, w' = Lib.bytesWorld w 5 t) := Any.strconv_Atoi_ok Tryz.laysC172 s hmax v h w
open Go.RowKit in
theorem Tryz.strconv_Atoi_syntax_var (s : ByteArray) (hlim : s.size <= 281474976710656) (h : Lib.atoiAll s.data.toList = Lib.atoiAll []) (tp : TypeId) (p : Value) (w : World) (hvar : w.var? Tryz.prog "strconv.ErrSyntax" = some #[.iface tp p]) :
  Calls Tryz.prog 101 #[.string s] w fun e w' => ∃ N, e = .returned (.tuple #[.int .i64 0, .iface 208 (.pointer (some ⟨N, 0, none⟩))]) /\ w.heap.size <= N /\ w'.heap[N]? = some (.cells #[.string ⟨#[65, 116, 111, 105]⟩, .string s, .iface tp p] 244 (0, 0)) /\ Below w.heap.size w w' := Any.strconv_Atoi_syntax_var Tryz.laysC172 s hlim h tp p w hvar
open Go.RowKit in
theorem Tryz.strconv_Atoi_range_var (s : ByteArray) (hlim : s.size <= 281474976710656) (h : Lib.atoiAll s.data.toList = .range) (tp : TypeId) (p : Value) (w : World) (hvar : w.var? Tryz.prog "strconv.ErrRange" = some #[.iface tp p]) :
  Calls Tryz.prog 101 #[.string s] w fun e w' => ∃ N, e = .returned (.tuple #[.int .i64 (Lib.atoiSat s.data.toList), .iface 208 (.pointer (some ⟨N, 0, none⟩))]) /\ w.heap.size <= N /\ w'.heap[N]? = some (.cells #[.string ⟨#[65, 116, 111, 105]⟩, .string s, .iface tp p] 244 (0, 0)) /\ Below w.heap.size w w' := Any.strconv_Atoi_range_var Tryz.laysC172 s hlim h tp p w hvar
def Tryz.lays144_ren:Go.Shelf.Ren:=⟨fun|144=>155|143=>207|219=>238|217=>279|225=>280|224=>281|267=>282|266=>303|314=>304|n=>n,fun|9=>9|4=>4|3=>3|5=>5|46=>221|146=>266|51=>255|n=>n,fun|1=>2|n=>n⟩
theorem Tryz.lays144:Go.Proofs.Lays.n144 Tryz.prog Tryz.lays144_ren:={
 mixed:=by kernel_rfl
 f143:=Tryz.func207.trans (congrArg some (by kernel_rfl))
 f144:=Tryz.func155.trans (congrArg some (by kernel_rfl))
 f217:=Tryz.func279.trans (congrArg some (by kernel_rfl))
 f219:=Tryz.func238.trans (congrArg some (by kernel_rfl))
 f224:=Tryz.func281.trans (congrArg some (by kernel_rfl))
 f225:=Tryz.func280.trans (congrArg some (by kernel_rfl))
 f266:=Tryz.func303.trans (congrArg some (by kernel_rfl))
 f267:=Tryz.func282.trans (congrArg some (by kernel_rfl))
 f314:=Tryz.func304.trans (congrArg some (by kernel_rfl))
 t3:=Tryz.underlying3
 a3:=Tryz.isAgg3
 z3:=Tryz.sizeOf3
 v3:=Tryz.zeroValue3
 t4:=Tryz.underlying4
 a4:=Tryz.isAgg4
 z4:=Tryz.sizeOf4
 v4:=Tryz.zeroValue4
 t5:=Tryz.underlying5
 a5:=Tryz.isAgg5
 z5:=Tryz.sizeOf5
 v5:=Tryz.zeroValue5
 t9:=Tryz.underlying9
 a9:=Tryz.isAgg9
 z9:=Tryz.sizeOf9
 v9:=Tryz.zeroValue9
 t46:=Tryz.underlying221
 a46:=Tryz.isAgg221
 z46:=Tryz.sizeOf221
 v46:=Tryz.zeroValue221
 t51:=Tryz.underlying255
 a51:=Tryz.isAgg255
 z51:=Tryz.sizeOf255
 v51:=Tryz.zeroValue255
 t146:=Tryz.underlying266
 a146:=Tryz.isAgg266
 z146:=Tryz.sizeOf266
 v146:=Tryz.zeroValue266
 g1:=by kernel_rfl}
open Go.RowKit Go.Lib in
theorem Tryz.strings_Contains (s sub : ByteArray) (m : Int) (w : World) (hs : s.size < 4294967281) (hm : w.cell? ⟨2, 0, none⟩ = some (.int .i64 m)) :
  Calls Tryz.prog 155 #[.string s, .string sub] w fun e w' => e = .returned (.bool (Lib.contains s.data.toList sub.data.toList)) /\ w' = w := Any.strings_Contains Tryz.lays144 s sub m w hs hm
def Tryz.lays146_ren:Go.Shelf.Ren:=⟨fun|146=>91|221=>153|268=>205|138=>206|143=>207|195=>256|197=>257|218=>258|219=>238|260=>290|217=>279|225=>280|224=>281|267=>282|266=>303|314=>304|n=>n,fun|9=>9|31=>63|3=>3|4=>4|0=>0|105=>236|21=>21|5=>5|46=>221|119=>269|139=>272|138=>271|146=>266|51=>255|n=>n,fun|1=>2|3=>4|4=>5|n=>n⟩
theorem Tryz.lays146:Go.Proofs.Lays.n146 Tryz.prog Tryz.lays146_ren:={
 mixed:=by kernel_rfl
 f138:=Tryz.func206.trans (congrArg some (by kernel_rfl))
 f143:=Tryz.func207.trans (congrArg some (by kernel_rfl))
 f146:=Tryz.func91.trans (congrArg some (by kernel_rfl))
 f195:=Tryz.func256.trans (congrArg some (by kernel_rfl))
 f197:=Tryz.func257.trans (congrArg some (by kernel_rfl))
 f217:=Tryz.func279.trans (congrArg some (by kernel_rfl))
 f218:=Tryz.func258.trans (congrArg some (by kernel_rfl))
 f219:=Tryz.func238.trans (congrArg some (by kernel_rfl))
 f221:=Tryz.func153.trans (congrArg some (by kernel_rfl))
 f224:=Tryz.func281.trans (congrArg some (by kernel_rfl))
 f225:=Tryz.func280.trans (congrArg some (by kernel_rfl))
 f260:=Tryz.func290.trans (congrArg some (by kernel_rfl))
 f266:=Tryz.func303.trans (congrArg some (by kernel_rfl))
 f267:=Tryz.func282.trans (congrArg some (by kernel_rfl))
 f268:=Tryz.func205.trans (congrArg some (by kernel_rfl))
 f314:=Tryz.func304.trans (congrArg some (by kernel_rfl))
 t0:=Tryz.underlying0
 a0:=Tryz.isAgg0
 z0:=Tryz.sizeOf0
 v0:=Tryz.zeroValue0
 t3:=Tryz.underlying3
 a3:=Tryz.isAgg3
 z3:=Tryz.sizeOf3
 v3:=Tryz.zeroValue3
 t4:=Tryz.underlying4
 a4:=Tryz.isAgg4
 z4:=Tryz.sizeOf4
 v4:=Tryz.zeroValue4
 t5:=Tryz.underlying5
 a5:=Tryz.isAgg5
 z5:=Tryz.sizeOf5
 v5:=Tryz.zeroValue5
 t9:=Tryz.underlying9
 a9:=Tryz.isAgg9
 z9:=Tryz.sizeOf9
 v9:=Tryz.zeroValue9
 t21:=Tryz.underlying21
 a21:=Tryz.isAgg21
 z21:=Tryz.sizeOf21
 v21:=Tryz.zeroValue21
 t31:=Tryz.underlying63
 a31:=Tryz.isAgg63
 z31:=Tryz.sizeOf63
 v31:=Tryz.zeroValue63
 t46:=Tryz.underlying221
 a46:=Tryz.isAgg221
 z46:=Tryz.sizeOf221
 v46:=Tryz.zeroValue221
 t51:=Tryz.underlying255
 a51:=Tryz.isAgg255
 z51:=Tryz.sizeOf255
 v51:=Tryz.zeroValue255
 t105:=Tryz.underlying236
 a105:=Tryz.isAgg236
 z105:=Tryz.sizeOf236
 v105:=Tryz.zeroValue236
 t119:=Tryz.underlying269
 a119:=Tryz.isAgg269
 z119:=Tryz.sizeOf269
 t138:=Tryz.underlying271
 a138:=Tryz.isAgg271
 z138:=Tryz.sizeOf271
 v138:=Tryz.zeroValue271
 t139:=Tryz.underlying272
 a139:=Tryz.isAgg272
 z139:=Tryz.sizeOf272
 v139:=Tryz.zeroValue272
 t146:=Tryz.underlying266
 a146:=Tryz.isAgg266
 z146:=Tryz.sizeOf266
 v146:=Tryz.zeroValue266
 g1:=by kernel_rfl
 g3:=by kernel_rfl
 g4:=by kernel_rfl}
open Go.RowKit Go.Lib in
theorem Tryz.strings_Split (s sep : ByteArray) (m : Int) (w : World) (hs : s.size < 4294967281) (hm : w.cell? ⟨2, 0, none⟩ = some (.int .i64 m)) (h1 : 1 <= sep.size) :
  Calls Tryz.prog 91 #[.string s, .string sep] w fun e w' =>
   e = .returned (.slice (some ⟨w.heap.size, 0, none⟩) (Lib.countB s sep + 1) (Lib.countB s sep + 1)) /\ w' = w.alloc (.cells ((Lib.splitB sep 0 (Lib.countB s sep) s).map Value.string).toArray 9) := Any.strings_Split Tryz.lays146 (by kernel_rfl) s sep m w hs hm h1
end
end Go.Proofs
namespace Go.Proofs.YtiijheppiboglaaGreatDoor.Ev
section
open Go Go.RowKit
def C6:Nat->List AC->List Item
 |_,[]=>[]
 |i,c::l=>.slot i (.cell c)::C6 (i+1) l
def A0s:(l:List AC)->(i:Nat)->B9 (C6 i l)->List V->Prop
 |[],_,_,[]=>True
 |c::l,i,d,x::xs=>KI c (hdI (.slot i (.cell c)) (C6 (i+1) l) d) x/\A0s l (i+1) (tlI (.slot i (.cell c)) (C6 (i+1) l) d) xs
 |_,_,_,_=>False
theorem A4w{c:AC}{d:c.den}{a:V}(hp:THp)(h:KI c d a):RV2 hp (Ab5 c d) a:=by
 cases c with
 |int k=>exact h
 |bool=>exact h
 |str=>exact h
 |err=>exact h
 |im t=>exact h
 | «at» j=>exact h.elim
theorem Ai7{c:AC}{d:c.den}{a:V}(h:KI c d a):Af a=[]:=by
 cases c with
 |int k=>have h:a=_:=h;rw[h];rfl
 |bool=>have h:a=_:=h;rw[h];rfl
 |str=>have h:a=_:=h;rw[h];rfl
 |err=>have h:a=_:=h;rw[h];rfl
 |im t=>
  rcases h with⟨_,rfl⟩|⟨rows,rfl,_⟩
  ·rfl
  ·rfl
 | «at» j=>exact h.elim
theorem Ah2:∀(l:List AC)(i:Nat)(d:B9 (C6 i l)){xs:List V},A0s l i d xs->(∀k,(Bk k (C6 i l) d).2=[])/\(∀k hp,RT hp (Bk k (C6 i l) d).1 (lk .any (Ql i xs)))/\xs.flatMap Af=[]/\xs.length=(ES (C6 i l)).length
 |[],i,d,[],_=>⟨fun _=>rfl,fun k hp t=>trivial,rfl,rfl⟩
 |c::l,i,d,x::xs,h=>by
  obtain⟨h1,h2⟩:=h;obtain⟨k1,k2,k3,k4⟩:=Ah2 l (i+1) _ h2;refine⟨fun k=> ?_,fun k hp=> ?_,?_,?_⟩
  ·simp only[C6,Bk];exact k1 k
  ·simp only[C6,Bk];intro t;show RV2 hp (Bt ((i,Yv (.cell c) _)::_) t) (if t=i then x else lk .any (Ql (i+1) xs) t);rw[E4]
   split
   ·exact A4w hp h1
   ·exact k2 k hp t
  ·rw[zb4,Ai7 h1,k3];rfl
  ·simp only[C6,ES,zb9,k4]
 |[],_,_,_::_,h=>h.elim
 |_::_,_,_,[],h=>h.elim
theorem WJ{R:Rel}{g:FuncId}{cs:List AC}{res:List Item}{heads joins:List (Nat×List Item)}{outs:List (Nat×List (Ex×List Item))}{F:B9 (C6 0 cs)->Option (B9 res)}
  (hE:CB R ⟨⟨g,0,C6 0 cs,res,heads,outs,joins⟩,F⟩) {d:B9 (C6 0 cs)} {y:B9 res} {xs:List V} (hD:Ff 0 (C6 0 cs) (HM (C6 0 cs) d)=some d) (hA:A0s cs 0 d xs) (hF:F d=some y):
  ∃r blks',R g xs [] r blks'/\ResRel res y r blks'/\xs.flatMap Af=[]:=by
 obtain⟨k1,k2,k3,k4⟩:=Ah2 cs 0 d hA;obtain⟨r,blks',q1,q2⟩:=hE d y xs [] (HM (C6 0 cs) d) hF ⟨k2 0 _,(fun id b hb=>by
  rw[show(HM (C6 0 cs) d).hp=(Bk 0 (C6 0 cs) d).2 from rfl,k1]at hb;exact absurd hb (by simp[AF])),rfl⟩ hD (by unfold HL;rw[k3];rfl) k4 (by rw[k3];rfl) (fun _=>rfl)
 exact⟨r,blks',q1,q2,k3⟩
section
variable {P:Program} {J:Ga}
theorem KJ{g:FuncId}{xs:List V}{x:Value}(hs:CSpec P J g xs [] (.v x) [])(hx:xs.flatMap Af=[]){w W:World}(hJ:∀x∈J,w.heap[x.1]? =some x.2)(hb:Below w.heap.size w W){A:Nat->Prop}(hA:∀b,A b->b<w.heap.size){vals:List Value}
  (hv:VL (Rep w A) xs vals):Calls P g vals.toArray W fun e w'=>e=.returned x/\Below W.heap.size W w':=by
 have hno:∀E b,¬Own E (lkB []) b:=fun E b ⟨id,k,hk,_⟩=>by simp[lkB]at hk
 have hsz:=hb.size;have hI:HpInv W (Own ⟨fun _=>none,fun _ _=>False⟩ (lkB [])) A ⟨fun _=>none,fun _ _=>False⟩ A (lkB []) W:=
  ⟨Fr.refl _ W,fun b hb=>⟨by have:=hA b hb;omega,.inl hb⟩,fun b _=>hno _ b,fun b h=>absurd h (hno _ b),fun id k id' k' hk=>by simp[lkB]at hk,fun id k b hk=>by simp[lkB]at hk,fun id k hk=>by simp[lkB]at hk⟩
 refine(hs.calls (by unfold HL;rw[hx];rfl) W A ⟨fun _=>none,fun _ _=>False⟩ vals.toArray (fun x hx=>⟨by
  have h1:=hJ x hx;rw[hb.block _ (Array.getElem?_eq_some_iff.1 h1).1];exact h1,hno _ _⟩) hI (hv.mono fun x _ y hx=>by
  have hx:=hx.same (w':=W) (G':=A) (fun b hb'=>hb.block b (hA b hb')) (fun _ h=>h);cases hx with
  |v _ hs=>exact .v _ hs
  |em a=>exact .em a
  |er0=>exact .er0
  |er1 t x=>exact .er1 t x
  |im0 a cap=>exact .im0 a cap
  |im b off cap size rows f h1 h2 h3 h4 h5 h6 h7=>exact .im b off cap size rows f h1 h2 h3 h4 h5 h6 h7)).mono ?_
 rintro e w' ⟨y,E',G',rfl,hI',hy,_⟩;have hyt:y=x:=(FS hy).1;subst hyt;exact⟨rfl,hI'.fr.os,hI'.fr.tape,hI'.fr.output,hI'.fr.size,fun b hb=>hI'.fr.block b hb (hno _ b)⟩
end
theorem A6p{c c' c'':AC}{st:TSt}{x:B9 [.slot 0 (.cell c),.slot 1 (.cell c'),.slot 2 (.cell c'')]}{a a' a'':V}(hc:c.isU=false)(hc':c'.isU=false)(hc'':c''.isU=false)(h:Ff 0 [.slot 0 (.cell c),.slot 1 (.cell c'),.slot 2 (.cell c'')] st=some x)
  (hr:RV2 st.hp (Bt st.tm 0) a) (hr':RV2 st.hp (Bt st.tm 1) a') (hr'':RV2 st.hp (Bt st.tm 2) a'') (ha:Af a=[]) (ha':Af a'=[]) (ha'':Af a''=[]):
  ∃d d' d'',x=HW (.slot 0 (.cell c)) [.slot 1 (.cell c'),.slot 2 (.cell c'')] d (HW (.slot 1 (.cell c')) [.slot 2 (.cell c'')] d' (HW (.slot 2 (.cell c'')) [] d'' ()))/\KI c d a/\KI c' d' a'/\KI c'' d'' a'':=by
 unfold Ff at h
 split at h
 case isFalse=>cases h
 simp only[JJ,CD,tmS,tnS,tnV]at h;cases h1:tnC (tmC [] c) (Bt st.tm 0) st.hp (16*st.c)with
 |none=>rw[h1]at h;cases h
 |some z=>
  obtain⟨v,hp1,n⟩:=z;rw[h1]at h;simp only at h;obtain⟨rfl,h2⟩:=Rv hc h1 hr ha
  split at h
  case h_2=>cases h
  rename_i st1 hle
  split at hle
  case isFalse=>cases hle
  have hg:Bt ((0,v)::st.tm) 1=Bt st.tm 1:=rfl;rw[hg]at hle;cases h3:tnC (tmC [] c') (Bt st.tm 1) st.hp (16*(st.c+1))with
  |none=>rw[h3]at hle;cases hle
  |some z=>
   obtain⟨v',hp2,n'⟩:=z;rw[h3]at hle;simp only at hle;obtain⟨rfl,h4⟩:=Rv hc' h3 hr' ha'
   split at hle
   case isFalse=>cases hle
   have hg2:Bt ((1,v')::(0,v)::st.tm) 2=Bt st.tm 2:=rfl;rw[hg2]at hle;cases h5:tnC (tmC [] c'') (Bt st.tm 2) st.hp (16*(st.c+1+1))with
   |none=>rw[h5]at hle;cases hle
   |some z=>
    obtain⟨v'',hp3,n''⟩:=z;rw[h5]at hle;simp only at hle;obtain⟨rfl,h6⟩:=Rv hc'' h5 hr'' ha''
    split at hle
    case isFalse=>cases hle
    cases hle
    split at h
    case h_2=>cases h
    rename_i st2 hst2;unfold MM at hst2
    split at hst2
    case isFalse=>cases hst2
    split at hst2
    case h_2=>cases hst2
    rename_i o ho
    split at hst2
    case isFalse=>cases hst2
    have hst2:=zv hst2;subst hst2;have g0:Bt ((2,v'')::(1,v')::(0,v)::st.tm) 0=v:=rfl;have g1:Bt ((2,v'')::(1,v')::(0,v)::st.tm) 1=v':=rfl;have g2:Bt ((2,v'')::(1,v')::(0,v)::st.tm) 2=v'':=rfl;simp only[ES,zb8,List.map_nil,g0,g1,g2]at h;cases e1:rdS (.cell c) (BB (C5 o) v)with
    |none=>cases hhp:Em st.hp (C5 o) 0 o<;>(rw[hhp]at h;simp[rdI,e1]at h)
    |some d=>cases e2:rdS (.cell c') (BB (C5 o) v')with
     |none=>cases hhp:Em st.hp (C5 o) 0 o<;>(rw[hhp]at h;simp[rdI,e1,e2]at h)
     |some d'=>cases e3:rdS (.cell c'') (BB (C5 o) v'')with
      |none=>cases hhp:Em st.hp (C5 o) 0 o<;>(rw[hhp]at h;simp[rdI,e1,e2,e3]at h)
      |some d''=>
       cases hhp:Em st.hp (C5 o) 0 o with
       |cons y l=>rw[hhp]at h;simp[rdI,e1,e2,e3]at h
       |nil=>
        rw[hhp]at h;simp only[rdI,e1,e2,e3,Nat.beq_refl,if_true,zx]at h;exact⟨d,d',d'',h.symm,h2 _ _ e1,h4 _ _ e2,h6 _ _ e3⟩
theorem AY4{P:Program}{cf:Cfg}{ext:Rel}{g:FuncId}{c c' c'':AC}{res:List Item}{F:B9 [.slot 0 (.cell c),.slot 1 (.cell c'),.slot 2 (.cell c'')]->Option (B9 res)}(hc:c.isU=false)(hc':c'.isU=false)(hc'':c''.isU=false)
  (h:∀d d' d'' y a a' a'',KI c d a->KI c' d' a'->KI c'' d'' a''->F (HW (.slot 0 (.cell c)) [.slot 1 (.cell c'),.slot 2 (.cell c'')] d (HW (.slot 1 (.cell c')) [.slot 2 (.cell c'')] d' (HW (.slot 2 (.cell c'')) [] d'' ())))=some y->
   ∃r blks',ext g [a,a',a''] [] r blks'/\ResRel res y r blks'):
  CB (Ep P cf ext) ⟨⟨g,0,[.slot 0 (.cell c),.slot 1 (.cell c'),.slot 2 (.cell c'')],res,[],[],[]⟩,F⟩:=by
 intro x y args blks st hF hs hd hid hlen href hb0
 match args,hlen with
 |[a,a',a''],_=>
  have hb:blks=[]:=hb0 rfl;subst hb;have hn:=SG href;have h0:RV2 st.hp (Bt st.tm 0) a:=hs.tm 0;have h1:RV2 st.hp (Bt st.tm 1) a':=hs.tm 1;have h2:RV2 st.hp (Bt st.tm 2) a'':=hs.tm 2;obtain⟨d,d',d'',rfl,hA,hA',hA''⟩:=A6p hc hc' hc'' hd h0 h1 h2 (hn a (by simp)) (hn a' (by simp)) (hn a'' (by simp));obtain⟨r,blks',h1,h2⟩:=h d d' d'' y a a' a'' hA hA' hA'' hF;exact⟨r,blks',Ep.ext h1,h2⟩
def iv(n:Int):V:=.v (.int .i64 n)
def Ko:V:=.tup [.v (.string ⟨#[]⟩),.v (.bool false)]
abbrev CS(P:Program)(K:Ga->Prop)(g:FuncId)(xs:List V)(x:Value):Prop:=∀J,K J->CSpec P J g xs [] (.v x) []
def AD0(P:Program)(K:Ga->Prop)(g gw ga gh:FuncId):Rel:=fun g' args blks r blks'=>g'=g/\blks=[]/\blks'=[]/\∃(a b:Int)(l:List Int)(x:V),KI (.im (.int .i64)) l x/\args=[iv a,iv b,x]/\
 ∃c1,CS P K gw [iv a,iv 1,iv 10] (.bool c1)/\(c1=false/\r=Ko\/c1=true/\∃c2,CS P K gw [iv b,iv 1,iv 10] (.bool c2)/\(c2=false/\r=Ko\/c2=true/\
  (¬(l.length:Int)=zi zj (a*b)/\r=Ko\/(l.length:Int)=zi zj (a*b)/\∃c3,CS P K ga [x] (.bool c3)/\(c3=false/\r=Ko\/c3=true/\
   ∃s:Str,CS P K gh [iv a,iv b] (.string ⟨s.toArray⟩)/\s.length<=1000000/\l.length<=1000000/\r=.tup [.v (.string ⟨(s++CA (l.map (zi .u8))).toArray⟩),.v (.bool true)]))))
def AO8 (fw:Int->Int->Int->Option Bool) (fa:List Int->Option Bool) (fh:Int->Int->Option (List UInt8)) (a b:Int) (l:List Int):Option (List UInt8×Bool):=
 (fw a 1 10).bind fun c1=>bif !c1 then some ([],false)else(fw b 1 10).bind fun c2=>bif !c2 then some ([],false)else if ¬(l.length:Int)=zi zj (a*b)then some ([],false)else
 (fa l).bind fun c3=>bif !c3 then some ([],false)else(fh a b).bind fun s=>if s.length<=1000000/\l.length<=1000000 then some (s++CA (l.map (zi .u8)),true)else none
theorem AA1{fw:Int->Int->Int->Option Bool}{fa:List Int->Option Bool}{fh:Int->Int->Option (List UInt8)}{a b:Int}{l:List Int}{y:List UInt8×Bool}(hF:AO8 fw fa fh a b l=some y):
  fw a 1 10=some false/\y=([],false)\/fw a 1 10=some true/\(fw b 1 10=some false/\y=([],false)\/fw b 1 10=some true/\(¬(l.length:Int)=zi zj (a*b)/\y=([],false)\/(l.length:Int)=zi zj (a*b)/\
   (fa l=some false/\y=([],false)\/fa l=some true/\∃s,fh a b=some s/\s.length<=1000000/\l.length<=1000000/\y=(s++CA (l.map (zi .u8)),true)))):=by
 unfold AO8 at hF;cases e1:fw a 1 10 with
 |none=>rw[e1]at hF;cases hF
 |some c1=>
  rw[e1]at hF;cases c1 with
  |false=>exact .inl ⟨rfl,(zv hF).symm⟩
  |true=>
   refine .inr ⟨rfl,?_⟩
   simp only[za0,zg0,cond_false]at hF;cases e2:fw b 1 10 with
   |none=>rw[e2]at hF;cases hF
   |some c2=>
    rw[e2]at hF;cases c2 with
    |false=>exact .inl ⟨rfl,(zv hF).symm⟩
    |true=>
     refine .inr ⟨rfl,?_⟩
     simp only[za0,zg0,cond_false]at hF;by_cases hl:(l.length:Int)=zi zj (a*b)
     ·rw[zw (fun h=>h hl)]at hF;refine .inr ⟨hl,?_⟩
      cases e3:fa l with
      |none=>rw[e3]at hF;cases hF
      |some c3=>
       rw[e3]at hF;cases c3 with
       |false=>exact .inl ⟨rfl,(zv hF).symm⟩
       |true=>
        simp only[za0,zg0,cond_false]at hF;cases e4:fh a b with
        |none=>rw[e4]at hF;cases hF
        |some s=>
         rw[e4]at hF;simp only[za0]at hF;by_cases hs:s.length<=1000000/\l.length<=1000000
         ·rw[zr hs]at hF;exact .inr ⟨rfl,s,rfl,hs.1,hs.2,(zv hF).symm⟩
         ·rw[zw hs]at hF;cases hF
     ·rw[zr hl]at hF;exact .inl ⟨hl,(zv hF).symm⟩
abbrev rB:List Item:=[.slot 0 (.cell .bool)]
abbrev rS:List Item:=[.slot 0 (.cell .str)]
section
variable {P:Program} {K:Ga->Prop} {cf:Cfg} {ext:Rel} {g gw ga gh:FuncId} {hw ha hh jw ja jh:List (Nat×List Item)} {ow oa oh:List (Nat×List (Ex×List Item))}
theorem AY3(hm:P.follows .mixedOrders=true)(hext:∀J,K J->∀g args blks r blks',ext g args blks r blks'->CSpec P J g args blks r blks'){g:FuncId}{xs:List V}{x:Value}(h:Ep P cf ext g xs [] (.v x) []):CS P K g xs x:=fun J hJ=>by
 obtain⟨k,h⟩:=h;exact KE hm (hext J hJ) k _ _ _ _ _ h
theorem A20(fw:Int->Int->Int->Option Bool)(fa:List Int->Option Bool)(fh:Int->Int->Option (List UInt8))(hm:P.follows .mixedOrders=true)(hext:∀J,K J->∀g args blks r blks',ext g args blks r blks'->CSpec P J g args blks r blks')
  (Ew:CB (Ep P cf ext) ⟨⟨gw,0,C6 0 [.int .i64,.int .i64,.int .i64],rB,hw,ow,jw⟩,fun(x:Int×Int×Int)=>fw x.1 x.2.1 x.2.2⟩)
  (Ea:CB (Ep P cf ext) ⟨⟨ga,0,C6 0 [.im (.int .i64)],rB,ha,oa,ja⟩,fun(x:List Int)=>fa x⟩)
  (Eh:CB (Ep P cf ext) ⟨⟨gh,0,C6 0 [.int .i64,.int .i64],rS,hh,oh,jh⟩,fun(x:Int×Int)=>fh x.1 x.2⟩)
  (hx:∀g' args blks r blks',AD0 P K g gw ga gh g' args blks r blks'->ext g' args blks r blks'):
  CB (Ep P cf ext) ⟨⟨g,0,[.slot 0 (.cell (.int .i64)),.slot 1 (.cell (.int .i64)),.slot 2 (.cell (.im (.int .i64)))],[.slot 0 (.cell .str),.slot 1 (.cell .bool)],[],[],[]⟩,fun(x:Int×Int×List Int)=>AO8 fw fa fh x.1 x.2.1 x.2.2⟩:=by
 have cw:∀(a:Int){c:Bool},fw a 1 10=some c->CS P K gw [iv a,iv 1,iv 10] (.bool c):=fun a c h=>by
  obtain⟨r,blks',q1,q2,_⟩:=WJ (cs:=[.int .i64,.int .i64,.int .i64]) Ew (d:=((a,1,10):Int×Int×Int)) (y:=c) (xs:=[iv a,iv 1,iv 10]) (by rfl) ⟨rfl,rfl,rfl,trivial⟩ h;have hr:r=.v (.bool c):=q2.val;have hb:blks'=[]:=zb2 q2.len;subst hr;subst hb;exact AY3 hm hext q1
 have ca:∀{l:List Int}{x:V}{c:Bool},KI (.im (.int .i64)) l x->fa l=some c->CS P K ga [x] (.bool c):=fun {l x c} hA h=>by
  obtain⟨r,blks',q1,q2,_⟩:=WJ (cs:=[.im (.int .i64)]) Ea (d:=l) (y:=c) (xs:=[x]) (by rfl) ⟨hA,trivial⟩ h;have hr:r=.v (.bool c):=q2.val;have hb:blks'=[]:=zb2 q2.len;subst hr;subst hb;exact AY3 hm hext q1
 have ch:∀(a b:Int){s:Str},fh a b=some s->CS P K gh [iv a,iv b] (.string ⟨s.toArray⟩):=fun a b s h=>by
  obtain⟨r,blks',q1,q2,_⟩:=WJ (cs:=[.int .i64,.int .i64]) Eh (d:=((a,b):Int×Int)) (y:=s) (xs:=[iv a,iv b]) (by rfl) ⟨rfl,rfl,trivial⟩ h;have hr:r=.v (.string ⟨s.toArray⟩):=q2.val;have hb:blks'=[]:=zb2 q2.len;subst hr;subst hb;exact AY3 hm hext q1
 refine AY4 rfl rfl rfl fun a b l y x x' x'' h h' h'' hF=> ?_
 have e:x=iv a:=h;have e':x'=iv b:=h';subst e;subst e';have hF:AO8 fw fa fh a b l=some y:=hF;have bad:∀{y:List UInt8×Bool},([],false)=y->ResRel [.slot 0 (.cell .str),.slot 1 (.cell .bool)] y Ko []:=by
  rintro _ rfl;exact⟨⟨_,rfl,rfl,rfl,trivial⟩,fun id b hb=>by simp[Bk,AF]at hb,rfl⟩
 rcases AA1 hF with⟨e1,hy⟩|⟨e1,⟨e2,hy⟩|⟨e2,⟨hl,hy⟩|⟨hl,⟨e3,hy⟩|⟨e3,s,e4,hs,hn,hy⟩⟩⟩⟩
 ·exact⟨Ko,[],hx _ _ _ _ _ ⟨rfl,rfl,rfl,a,b,l,x'',h'',rfl,false,cw a e1,.inl ⟨rfl,rfl⟩⟩,bad hy.symm⟩
 ·exact⟨Ko,[],hx _ _ _ _ _ ⟨rfl,rfl,rfl,a,b,l,x'',h'',rfl,true,cw a e1,.inr ⟨rfl,false,cw b e2,.inl ⟨rfl,rfl⟩⟩⟩,bad hy.symm⟩
 ·exact⟨Ko,[],hx _ _ _ _ _ ⟨rfl,rfl,rfl,a,b,l,x'',h'',rfl,true,cw a e1,.inr ⟨rfl,true,cw b e2,.inr ⟨rfl,.inl ⟨hl,rfl⟩⟩⟩⟩,bad hy.symm⟩
 ·exact⟨Ko,[],hx _ _ _ _ _ ⟨rfl,rfl,rfl,a,b,l,x'',h'',rfl,true,cw a e1,.inr ⟨rfl,true,cw b e2,.inr ⟨rfl,.inr ⟨hl,false,ca h'' e3,.inl ⟨rfl,rfl⟩⟩⟩⟩⟩,bad hy.symm⟩
 ·have hy:y=(s++CA (List.map (zi .u8) l),true):=hy;subst hy;exact⟨_,[],hx _ _ _ _ _ ⟨rfl,rfl,rfl,a,b,l,x'',h'',rfl,true,cw a e1,.inr ⟨rfl,true,cw b e2,.inr ⟨rfl,.inr ⟨hl,true,ca h'' e3,.inr ⟨rfl,s,ch a b e4,hs,hn,rfl⟩⟩⟩⟩⟩,⟨_,rfl,rfl,rfl,trivial⟩,fun id b hb=>by simp[Bk,AF]at hb,rfl⟩
end
end
section
open Go Go.RowKit
theorem AM5:(Tryz.prog.info? 166).map (·.size)=some 2:=by kernel_rfl
theorem AG9:(Tryz.prog.info? 5).map (fun i=>(i.zero,i.size,i.bytes))=some (some (.int .u8 0),1,1):=by kernel_rfl
set_option maxHeartbeats 1000000 in
set_option maxRecDepth 100000 in
theorem A3b (b : Nat) (w : World) (h0 : w.cell? ⟨b, 0, none⟩ = some (.pointer (some ⟨b, 0, none⟩))) : Calls Tryz.prog 201 #[.pointer (some ⟨b, 0, none⟩)] w fun e w' => e = .returned (.tuple #[]) /\ w' = w := by
 obtain ⟨j, hj, _⟩ := zb5.1 AM5
 go_enter Tryz.func201, Tryz.ntmps201
 go_wp2
 rw [Lib.run_neq_ptr_same w _ Tryz.underlying164 hj]
 go_wp2
 go_end0
 exact ⟨rfl, rfl⟩
set_option maxHeartbeats 1000000 in
set_option maxRecDepth 100000 in
theorem A0I (b : Nat) (w : World) (h0 : w.cell? ⟨b, 0, none⟩ = some (.pointer none)) (hsh : w.shape? b = some (166, 2)) (hfz : w.frozen? ⟨b, 0, none⟩ = false) :
  Calls Tryz.prog 201 #[.pointer (some ⟨b, 0, none⟩)] w fun e w' => e = .returned (.tuple #[]) /\ w' = w.setCell ⟨b, 0, none⟩ (.pointer (some ⟨b, 0, none⟩)) := by
 obtain ⟨j, hj, hjs⟩ := zb5.1 AM5
 go_enter Tryz.func201, Tryz.ntmps201
 go_wp2
 rw [Lib.run_to_unsafe w ⟨b, 0, none⟩ Tryz.underlying164 Tryz.underlying232 hj (by rw [hjs]; decide) hsh (Nat.zero_lt_succ 1)];simp only [Result.andThen];rw [Oper.upon_value]
 go_wp2
 rw [run_callFunc_extern Tryz.func253 (by kernel_rfl) (by kernel_rfl) (by kernel_rfl) (e := Extern.AbiNoEscape.same) (by kernel_rfl)];rw [Lib.run_noEscape];simp only [Result.andThen];rw [Oper.upon_value]
 go_wp2
 rw [Lib.run_from_unsafe w ⟨b, 0, none⟩ Tryz.underlying232 Tryz.underlying164 hj hsh (by kernel_rfl)];simp only [Result.andThen];rw [Oper.upon_value]
 go_wp2
 go_end0
 exact ⟨rfl, rfl⟩
theorem A0y(B b:Nat)(bs:List Value)(w:World)(h:Lib.IsBuilder 166 5 B b bs w):
  Calls Tryz.prog 201 #[.pointer (some ⟨b,0,none⟩)] w fun e w'=>e=.returned (.tuple #[])/\(Lib.BuilderAt 166 5 B b (.pointer (some ⟨b,0,none⟩)) bs w'/\Below B w w'):=by
 rcases h with h|h
 ·refine(A0I b w h.cell0 h.shape h.frozen0).mono ?_
  rintro e w' ⟨rfl,rfl⟩;exact⟨rfl,h.used _,(Below.refl B w).setCell (p:=⟨b,0,none⟩) h.1 _⟩
 ·refine(A3b b w h.cell0).mono ?_
  rintro e w' ⟨rfl,rfl⟩;exact⟨rfl,h,Below.refl B _⟩
set_option maxRecDepth 100000 in
theorem A2V (B b : Nat) (bs : List Value) (c : Int) (w : World) (h : Lib.IsBuilder 166 5 B b bs w) (hlen : bs.length + 1 <= 140737488355328) (hBw : B <= w.heap.size) :
  Calls Tryz.prog 185 #[.pointer (some ⟨b, 0, none⟩), .int .u8 c] w fun e w' => e = .returned .nilIface /\ (Lib.BuilderAt 166 5 B b (.pointer (some ⟨b, 0, none⟩)) (bs ++ [.int .u8 c]) w' /\ Below B w w') := by
 obtain ⟨i0, hi, hz0, hz1, hz2⟩ := info_parts AG9
 go_enter Tryz.func185, Tryz.ntmps185
 go_wp2_with (go_at_call 201; refine (A0y B b bs _ h).mono ?_)
 rintro e w1 ⟨rfl, h1, hb1⟩;obtain ⟨hB, v, hbk, hown, hne⟩ := h1;have c0 : w1.cell? ⟨b, 0, none⟩ = some (.pointer (some ⟨b, 0, none⟩)) := by rw [Lib.cell_of_heap hbk]; rfl
 have c1 : w1.cell? ⟨b, 1, none⟩ = some v := by rw [Lib.cell_of_heap hbk]; rfl
 go_wp2_with (at_builtin; refine wpList_append_own _ rfl _ _ 32 rfl B 5 i0 (.int .u8 0) 1 1 Tryz.underlying32 hi hz0 hz1 hz2 rfl (by decide) _ _ _ rfl (hown.alloc _) ⟨w1.heap.size, 0, none⟩ 1 1 [.int .u8 c] rfl rfl ?c1 ?c2 ?c3 ?c4 ?c5 ?_)
 case c1 =>
  intro j u hj
  match j, hj with
  | 0, hj => simp at hj; subst hj; simp [Addr.add]
 case c2 => intro u hu; simp at hu; subst hu; rfl
 case c3 => unfold maxLen; omega
 case c4 => omega
 case c5 => have := hb1.size; simp; omega
 intro v' w2 hown' hgrow _;have hlt : b < w1.heap.size := by
  rcases zd6 b w1.heap.size with h' | h'
  ·exact h'
  ·simp [Array.getElem?_eq_none h'] at hbk
 have hb2 : w2.heap[b]? = some (.cells #[.pointer (some ⟨b, 0, none⟩), v] 166 (0, 0)) := by
  rw [hgrow.block b (by simp; omega) (fun e => hne e.symm), Lib.alloc_old w1 _ b hlt];exact hbk
 have d0 : w2.cell? ⟨b, 0, none⟩ = some (.pointer (some ⟨b, 0, none⟩)) := by rw [Lib.cell_of_heap hb2]; rfl
 have d1 : w2.cell? ⟨b, 1, none⟩ = some v := by rw [Lib.cell_of_heap hb2]; rfl
 have f1 : w2.frozen? ⟨b, 1, none⟩ = false := Lib.frozen_of_heap hb2 1;obtain ⟨g, cap, rfl⟩ : ∃ g cap, v' = .slice (some ⟨g, 0, none⟩) (bs.length + 1) cap := by
  rcases hown'.2 with ⟨_, h0⟩ | ⟨g, cap, cur, hv, _⟩
  ·omega
  ·exact ⟨g, cap, hv⟩
 go_wp2
 go_ret
 refine ⟨rfl, ?_, ?_⟩
 ·exact Lib.BuilderAt.put (T := 166) (e := 5) hB hb2 (bs' := bs ++ [.int .u8 c]) (by simpa using hown') (by decide)
 ·exact ((hb1.alloc (by have := hb1.size; omega) _).grown hgrow (by have := hb1.size; simp; omega) (fun k hk => (hown.lt k hk).1)).setCell (p := ⟨b, 1, none⟩) hB _
set_option maxRecDepth 100000 in
theorem A4O (B b : Nat) (bs : List Value) (s : ByteArray) (w : World) (h : Lib.IsBuilder 166 5 B b bs w) (hlen : bs.length + s.size <= 140737488355328) (hBw : B <= w.heap.size) :
  Calls Tryz.prog 148 #[.pointer (some ⟨b, 0, none⟩), .string s] w fun e w' => e = .returned (.tuple #[.int .i64 s.size, .nilIface]) /\ (Lib.BuilderAt 166 5 B b (.pointer (some ⟨b, 0, none⟩)) (bs ++ Lib.strCells s) w' /\ Below B w w') := by
 obtain ⟨i0, hi, hz0, hz1, hz2⟩ := info_parts AG9
 go_enter Tryz.func148, Tryz.ntmps148
 go_wp2_with (go_at_call 201; refine (A0y B b bs _ h).mono ?_)
 rintro e w1 ⟨rfl, h1, hb1⟩;obtain ⟨hB, v, hbk, hown, hne⟩ := h1;have c0 : w1.cell? ⟨b, 0, none⟩ = some (.pointer (some ⟨b, 0, none⟩)) := by rw [Lib.cell_of_heap hbk]; rfl
 have c1 : w1.cell? ⟨b, 1, none⟩ = some v := by rw [Lib.cell_of_heap hbk]; rfl
 go_wp2_with (at_builtin; refine Lib.wpList_append_own_string _ rfl _ _ 32 9 rfl B 5 i0 Tryz.underlying32 Tryz.underlying9 hi hz0 hz1 hz2 _ _ _ rfl hown s rfl ?c3 ?c4 ?c5 ?_)
 case c3 => unfold maxLen; omega
 case c4 => omega
 case c5 => have := hb1.size; omega
 intro v' w2 hown' hgrow _;have hlt : b < w1.heap.size := by
  rcases zd6 b w1.heap.size with h' | h'
  ·exact h'
  ·simp [Array.getElem?_eq_none h'] at hbk
 have hb2 : w2.heap[b]? = some (.cells #[.pointer (some ⟨b, 0, none⟩), v] 166 (0, 0)) := by
  rw [hgrow.block b hlt (fun e => hne e.symm)];exact hbk
 have d0 : w2.cell? ⟨b, 0, none⟩ = some (.pointer (some ⟨b, 0, none⟩)) := by rw [Lib.cell_of_heap hb2]; rfl
 have d1 : w2.cell? ⟨b, 1, none⟩ = some v := by rw [Lib.cell_of_heap hb2]; rfl
 have f1 : w2.frozen? ⟨b, 1, none⟩ = false := Lib.frozen_of_heap hb2 1;obtain ⟨ao, n', cap, rfl⟩ : ∃ ao n' cap, v' = .slice ao n' cap := by
  rcases hown'.2 with ⟨hv, _⟩ | ⟨g, cap, cur, hv, _⟩
  ·exact ⟨_, _, _, hv⟩
  ·exact ⟨_, _, _, hv⟩
 go_wp2
 go_ret2
 refine ⟨rfl, ?_, ?_⟩
 ·exact Lib.BuilderAt.put (T := 166) (e := 5) hB hb2 (bs' := bs ++ Lib.strCells s) (by simpa [Lib.strCells_length] using hown') (by decide)
 ·exact (hb1.grown hgrow (by have := hb1.size; omega) (fun k hk => (hown.lt k hk).1)).setCell (p := ⟨b, 1, none⟩) hB _
theorem AW3(z:List Int):Lib.byteCells (CA (z.map (zi .u8)))=z.map fun n=>Value.int .u8 (zi .u8 n):=by
 simp only[Lib.byteCells,CA,List.map_map]
 apply List.map_congr_left
 intro n _;have h0:0<=zi .u8 n/\zi .u8 n<256:=by
  rw[show zi .u8 n=n%256 by simp[zi,IntKind.signed,IntKind.bits]];omega
 obtain⟨k,hk⟩:∃k:Nat,zi .u8 n=k:=⟨(zi .u8 n).toNat,by omega⟩;simp only[Function.comp_apply,hk,zc2];have:k<256:=by omega
 simp[Nat.mod_eq_of_lt this]
theorem Yz(n:Int):zi zj n=wrap64 n:=by rw[IntKind.wrap_i64,wrap64]
theorem AN8{l:List Int}{k:Nat}{z:Int}(h:l[k]? =some z):l.take (k+1)=l.take k++[z]:=by
 rw[List.take_add_one,h];rfl
set_option maxHeartbeats 4000000 in
set_option maxRecDepth 1000000 in
theorem A0M {w : World} {a b : Int} {ad : Option Addr} {cap : Nat} {l : List Int} {s : Str} (hl : (l.length : Int) = zi zj (a * b)) (hs : s.length <= 1000000) (hn : l.length <= 1000000)
  (hc : ∀ (i : Nat) z, l[i]? = some z -> ∃ bk off, ad = some ⟨bk, off, none⟩ /\ bk < w.heap.size /\ l.length <= cap /\ w.cell? ⟨bk, off + i, none⟩ = some (.int .i64 z))
  (q1 : ∀ W, Below w.heap.size w W -> Calls Tryz.prog 85 #[.int .i64 a, .int .i64 1, .int .i64 10] W fun e w' => e = .returned (.bool true) /\ Below W.heap.size W w')
  (q2 : ∀ W, Below w.heap.size w W -> Calls Tryz.prog 85 #[.int .i64 b, .int .i64 1, .int .i64 10] W fun e w' => e = .returned (.bool true) /\ Below W.heap.size W w')
  (q3 : ∀ W, Below w.heap.size w W -> Calls Tryz.prog 123 #[.slice ad l.length cap] W fun e w' => e = .returned (.bool true) /\ Below W.heap.size W w')
  (q4 : ∀ W, Below w.heap.size w W -> Calls Tryz.prog 128 #[.int .i64 a, .int .i64 b] W fun e w' => e = .returned (.string ⟨s.toArray⟩) /\ Below W.heap.size W w') :
  Calls Tryz.prog 126 #[.int .i64 a, .int .i64 b, .slice ad l.length cap] w fun e w' => e = .returned (.tuple #[.string ⟨(s ++ CA (l.map (zi .u8))).toArray⟩, .bool true]) /\ Below w.heap.size w w' := by
 have hl2 : wrap64 (a * b) = (l.length : Int) := by rw [hl, Yz]
 clear hl
 go_enter Tryz.func126, Tryz.ntmps126
 go_wp2_with (go_at_call 85; refine (q1 w (Below.refl _ _)).mono ?_)
 rintro e w1 ⟨rfl, b1⟩
 go_wp2_with (go_at_call 85; refine (q2 w1 b1).mono ?_)
 rintro e w2 ⟨rfl, b2⟩
 replace b2 := b1.trans (b2.mono b1.size)
 go_wp2_with (go_at_call 123; refine (q3 w2 b2).mono ?_)
 rintro e w3 ⟨rfl, b3⟩
 replace b3 := b2.trans (b3.mono b2.size)
 go_wp2_with (go_at_call 128; refine (q4 _ ?hb3).mono ?_)
 case hb3 => exact b3.alloc b3.size _
 rintro e w4 ⟨rfl, b4⟩;have hsz3 := b3.size;have hsz4 := b4.size;have hal : (w3.alloc (.cells #[.pointer none, .slice none 0 0] 166)).heap.size = w3.heap.size + 1 := by simp
 have hI4 : Lib.IsBuilder 166 5 w.heap.size w3.heap.size [] w4 := Or.inl ⟨hsz3, .slice none 0 0, by
  rw [b4.block _ (by rw [hal]; omega)];exact heap_alloc_new w3 _, World.ownsRow_nil _ _ _ _, by simp [Value.ownBlock]⟩
 have b4' : Below w.heap.size w w4 := (b3.alloc b3.size _).trans (b4.mono (by rw [hal]; omega))
 go_wp2_with (go_at_call 148; refine (A4O w.heap.size w3.heap.size [] ⟨s.toArray⟩ _ hI4 ?hlen (by omega)).mono ?_)
 case hlen => simp [ByteArray.size]; omega
 rintro e w5 ⟨rfl, h5, b5⟩
 replace b5 := b4'.trans b5
 clear q1 q2 q3 q4
 go_wp2
 go_loopw [38] (fun i wr => ∃ k : Nat, k <= l.length /\ i = .int .i64 k /\ Lib.IsBuilder 166 5 w.heap.size w3.heap.size (Lib.byteCells (s ++ CA ((l.take k).map (zi .u8)))) wr /\ Below w.heap.size w wr) (fun i wr => l.length - (intOf i).toNat)
 case atStart =>
  refine ⟨0, by omega, rfl, ?_, b5⟩
  have : Lib.byteCells (s ++ CA ((l.take 0).map (zi .u8))) = [] ++ Lib.strCells ⟨s.toArray⟩ := by simp [CA, Lib.strCells_eq]
  rw [this];exact Or.inr h5
 case round =>
  obtain ⟨k, hk, rfl, hI, hb⟩ := hrel;have hbs := hb.size;have hln : (Lib.byteCells (s ++ CA ((l.take k).map (zi .u8)))).length = s.length + k := by rw [Lib.byteCells_length]; simp [CA]; omega
  by_cases hlt : k < l.length
  ·obtain ⟨z, hz⟩ : ∃ z, l[k]? = some z := ⟨l[k], za1 hlt⟩;obtain ⟨bk, off, rfl, hbk, hcap, hcell⟩ := hc k z hz;have hcell : wr.cell? ⟨bk, off + k, none⟩ = some (.int .i64 z) := by rw [hb.cell (p := ⟨bk, off + k, none⟩) hbk]; exact hcell
   clear hc
   go_wp2_with (go_at_call 185; refine (A2V w.heap.size w3.heap.size _ (zi .u8 z) _ hI (by rw [hln]; omega) hbs).mono ?_)
   rintro e w6 ⟨rfl, h6, b6⟩
   go_wp2
   go_roundw
   case rel =>
    refine ⟨k + 1, by omega, by go_num, ?_, hb.trans b6⟩
    rw [AN8 hz, List.map_append, CA, List.map_append, <- List.append_assoc, Lib.byteCells_append];have h1 := AW3 [z];simp only [zb8, List.map_nil, CA] at h1;simp only [zb8, List.map_nil];rw [h1];exact Or.inr h6
   case measure => simp [intOf]; omega
  ·have hkl : k = l.length := by omega
   subst hkl;rw [List.take_length] at hI
   clear hc
   go_wp2_with (go_at_call 149; refine (Tryz.Builder_String_any w.heap.size w3.heap.size _ _ hI hbs).mono ?_)
   rintro e w6 ⟨rfl, b6⟩
   go_wp2
   go_ret2
   exact ⟨rfl, hb.trans b6⟩
set_option maxHeartbeats 4000000 in
set_option maxRecDepth 1000000 in
theorem A2v {w : World} {a b : Int} {ad : Option Addr} {cap : Nat} {n : Nat} {c1 c2 c3 : Bool} (hc : c1 = false \/ c2 = false \/ ¬ (n : Int) = zi zj (a * b) \/ c3 = false)
  (q1 : ∀ W, Below w.heap.size w W -> Calls Tryz.prog 85 #[.int .i64 a, .int .i64 1, .int .i64 10] W fun e w' => e = .returned (.bool c1) /\ Below W.heap.size W w')
  (q2 : c1 = true -> ∀ W, Below w.heap.size w W -> Calls Tryz.prog 85 #[.int .i64 b, .int .i64 1, .int .i64 10] W fun e w' => e = .returned (.bool c2) /\ Below W.heap.size W w')
  (q3 : c1 = true -> c2 = true -> (n : Int) = zi zj (a * b) -> ∀ W, Below w.heap.size w W -> Calls Tryz.prog 123 #[.slice ad n cap] W fun e w' => e = .returned (.bool c3) /\ Below W.heap.size W w') :
  Calls Tryz.prog 126 #[.int .i64 a, .int .i64 b, .slice ad n cap] w fun e w' => e = .returned (.tuple #[.string ⟨#[]⟩, .bool false]) /\ Below w.heap.size w w' := by
 have hw : zi zj (a * b) = wrap64 (a * b) := Yz _;rw [hw] at hc q3
 clear hw
 go_enter Tryz.func126, Tryz.ntmps126
 go_wp2_with (go_at_call 85; refine (q1 w (Below.refl _ _)).mono ?_)
 rintro e w1 ⟨rfl, b1⟩;cases c1 with
 | false =>
  clear hc q1 q2 q3
  go_wp2
  go_ret2
  exact ⟨rfl, b1⟩
 | true =>
  replace q2 := q2 rfl
  replace q3 := q3 rfl
  go_wp2_with (go_at_call 85; refine (q2 w1 b1).mono ?_)
  rintro e w2 ⟨rfl, b2⟩
  replace b2 := b1.trans (b2.mono b1.size)
  cases c2 with
  | false =>
   clear hc q1 q2 q3
   go_wp2
   go_ret2
   exact ⟨rfl, b2⟩
  | true =>
   replace q3 := q3 rfl
   by_cases hl : (n : Int) = wrap64 (a * b)
   ·have h3 : c3 = false := by simpa [hl] using hc
    subst h3
    replace q3 := q3 hl
    have hl2 : wrap64 (a * b) = (n : Int) := hl.symm
    clear hl hc
    go_wp2_with (go_at_call 123; refine (q3 w2 b2).mono ?_)
    rintro e w3 ⟨rfl, b3⟩
    replace b3 := b2.trans (b3.mono b2.size)
    clear q1 q2 q3
    go_wp2
    go_ret2
    exact ⟨rfl, b3⟩
   ·clear hc q1 q2 q3
    go_wp2
    go_ret2
    exact ⟨rfl, b2⟩
theorem A3e{w:World}{A:Nat->Prop}{l:List Int}{x:V}{y:Value}(hx:KI (.im (.int .i64)) l x)(hy:Rep w A x y)(hA:∀b,A b->b<w.heap.size):
  ∃ad cap,y=.slice ad l.length cap/\∀(i:Nat) z,l[i]? =some z->∃bk off,ad=some ⟨bk,off,none⟩/\bk<w.heap.size/\l.length<=cap/\w.cell? ⟨bk,off+i,none⟩=some (.int .i64 z):=by
 rcases hx with⟨rfl,rfl⟩|⟨rows,rfl,hrows⟩
 ·cases hy with
  |em a=>exact⟨a,0,rfl,fun i z h=>by simp at h⟩
 ·cases hy with
  |im0 a cap=>
   have h0:l=[]:=zb2 (by have:=hrows.1;simpa using this.symm);subst h0;exact⟨a,cap,rfl,fun i z h=>by simp at h⟩
  |im b off cap size rows f hb hs hcap hcm hrl hcell hrep=>
   have hll:l.length=rows.length:=by have:=hrows.1;first|exact this|exact this.symm
   refine⟨some ⟨b,off,none⟩,cap,by rw[hll],fun i z hi=> ?_⟩
   obtain⟨row,h1,h2⟩:=hrows.get hi;have h2:row=[V.v (.int .i64 z)]:=h2;subst h2;have hs1:size=1:=by have:=hrl i _ h1;simpa using this.symm
   subst hs1;have h3:=hcell i 0 _ _ h1 rfl;have h4:=hrep i 0 _ _ h1 rfl;rw[Nat.mul_one,Nat.add_zero]at h3;refine⟨b,off,rfl,hA b hb,by omega,?_⟩
   rw[h3];generalize f i 0=u at h4;cases h4
   rfl
theorem AZ3{K:Ga->Prop}{J:Ga}(hent:Ut Tryz.prog 126)(hJ:K J):∀g' args blks r blks',AD0 Tryz.prog K 126 85 123 128 g' args blks r blks'->CSpec Tryz.prog J g' args blks r blks':=by
 rintro g' args blks r blks' ⟨rfl,rfl,rfl,a,b,l,x,hx,rfl,c1,h1,hr⟩;refine J5 hent fun w A E vals hT hA hvl=> ?_
 obtain⟨y,rfl,hy⟩:∃y,vals=[.int .i64 a,.int .i64 b,y]/\Rep w A x y:=by
  match vals,hvl with
  |[y1,y2,y3],h=>
   have k1:Rep w A (.v (.int .i64 a)) y1:=h.1;have k2:Rep w A (.v (.int .i64 b)) y2:=h.2.1;have k3:Rep w A x y3:=by
    have k:=h.2.2.1;rcases hx with⟨_,rfl⟩|⟨rows,rfl,_⟩
    ·exact k
    ·exact k
   cases k1
   cases k2
   exact⟨y3,rfl,k3⟩
  |[],h=>exact h.elim
  |[_],h=>exact h.2.elim
  |[_,_],h=>exact h.2.2.elim
  |_::_::_::_::_,h=>exact h.2.2.2.elim
 obtain⟨ad,cap,rfl,hcell⟩:=A3e hx hy hA;have hxr:([x]:List V).flatMap Af=[]:=by rw[zb4,Ai7 hx];rfl
 have q1:∀W,Below w.heap.size w W->Calls Tryz.prog 85 #[.int .i64 a,.int .i64 1,.int .i64 10] W fun e w'=>e=.returned (.bool c1)/\Below W.heap.size W w':=fun W hW=>
  KJ (h1 J hJ) rfl hT hW hA (vals:=[.int .i64 a,.int .i64 1,.int .i64 10]) ⟨.v _ rfl,.v _ rfl,.v _ rfl,trivial⟩
 have fin:∀(c2 c3:Bool),r=Ko->(c1=false\/c2=false\/¬(l.length:Int)=zi zj (a*b)\/c3=false)->
   (c1=true->CS Tryz.prog K 85 [iv b,iv 1,iv 10] (.bool c2))->(c1=true->c2=true->(l.length:Int)=zi zj (a*b)->CS Tryz.prog K 123 [x] (.bool c3))->
   Calls Tryz.prog 126 [Value.int .i64 a,.int .i64 b,.slice ad l.length cap].toArray w fun e w'=>∃y,e=.returned y/\Below w.heap.size w w'/\VR2 w' E (lkB []) A r y:=by
  rintro c2 c3 rfl hc h2 h3;refine(A2v hc q1 (fun e W hW=>KJ (h2 e J hJ) rfl hT hW hA (vals:=[.int .i64 b,.int .i64 1,.int .i64 10]) ⟨.v _ rfl,.v _ rfl,.v _ rfl,trivial⟩)
   (fun e e' e'' W hW=>KJ (h3 e e' e'' J hJ) hxr hT hW hA (vals:=[.slice ad l.length cap]) ⟨hy,trivial⟩)).mono ?_
  rintro e w' ⟨rfl,hb⟩;exact⟨_,rfl,hb,_,rfl,.v _ rfl,.v _ rfl,trivial⟩
 rcases hr with⟨e1,hr⟩|⟨e1,c2,h2,⟨e2,hr⟩|⟨e2,⟨hl,hr⟩|⟨hl,c3,h3,⟨e3,hr⟩|⟨e3,s,h4,hs,hn,hr⟩⟩⟩⟩
 ·exact fin false false hr (.inl e1) (fun e=>by rw[e1]at e;cases e) (fun e=>by rw[e1]at e;cases e)
 ·exact fin c2 false hr (.inr (.inl e2)) (fun _=>h2) (fun _ e=>by rw[e2]at e;cases e)
 ·exact fin c2 false hr (.inr (.inr (.inl hl))) (fun _=>h2) (fun _ _ e=>absurd e hl)
 ·exact fin c2 c3 hr (.inr (.inr (.inr e3))) (fun _=>h2) (fun _ _ _=>h3)
 ·subst e1;subst e2;subst e3;subst hr;refine(A0M hl hs hn hcell q1 (fun W hW=>KJ (h2 J hJ) rfl hT hW hA (vals:=[.int .i64 b,.int .i64 1,.int .i64 10]) ⟨.v _ rfl,.v _ rfl,.v _ rfl,trivial⟩)
   (fun W hW=>KJ (h3 J hJ) hxr hT hW hA (vals:=[.slice ad l.length cap]) ⟨hy,trivial⟩)
   (fun W hW=>KJ (h4 J hJ) rfl hT hW hA (vals:=[.int .i64 a,.int .i64 b]) ⟨.v _ rfl,.v _ rfl,trivial⟩)).mono ?_
  rintro e w' ⟨rfl,hb⟩;exact⟨_,rfl,hb,_,rfl,.v _ rfl,.v _ rfl,trivial⟩
end
section
open Go Go.RowKit
variable {H:Type} {enc:TypeId×Value->H}
theorem Ni{a:Assume}{C:Checked}{os:Os}{f:FuncId}{fn:Func}{s:ChangeSpec}{conds:List PathCond}{apart fresh handsOn again:Bool}{X:World->Array Value->Prop}
  (hX:∀(w w':World)(args:Array Value),w.heap=w'.heap->X w args->X w' args)
  (own:ownKnob C.prog.godebug=none) (started:os.Started) (noInit:C.prog.inits.idxOf? f=none) (hfn:C.prog.funcs[f]? =some fn)
  (witness:∃(w:World)(tape:Tape)(i:Input),w.os=os/\(w.forCall tape i).Shaped C.prog/\i.vars=[]/\Input.okWide C.prog (w.forCall tape i) .any w.heap.size f i/\
   ((s.pre enc C.prog fn conds apart (w.forCall tape i).memory i.args/\X (w.forCall tape i).memory i.args)/\sizedMet enc C.prog fn (OpenSpec.ofChange s) apart (w.forCall tape i).memory i.args)/\a.holds C.prog (lone (Frame.enter C.prog f i.args .normal) [] (w.forCall tape i)))
  (contract:∀(W:World)(base:Nat)(args:Array Value)(ds gs:List (DataW H))(before:List MemPlace),
   (∀(j:Nat) t v,fn.params[j]? =some t->args[j]? =some v->Value.okWide C.prog W .any base t v)->
   DataW.Whole enc C.prog fn.params.toList s.vars apart W args.toList ds gs before->
   (DataW.weightsEach C.prog (fn.params.toList++s.plain.varTypes C.prog) (ds++gs)).all (· <=reachBytes)=true->
   W.ShapedOpen C.prog->X W args->
   Calls C.prog f args W fun e W'=>∃v,e=.returned v/\s.post enc C.prog fn apart fresh handsOn again W args v W'):
  ReturnsInHanded a C os f .any (fun w args=>(s.pre enc C.prog fn conds apart w args/\X w args)/\sizedMet enc C.prog fn (OpenSpec.ofChange s) apart w args) (s.post enc C.prog fn apart fresh handsOn again):=by
 refine returnsInHanded_of_calls own started noInit witness ?_
 intro w tape i _ hsh _ hok hpre hholds;obtain⟨_,_,_,fn',hfn',_,_,_,_,hval⟩:=hok;have e:fn'=fn:=zv (hfn'.symm.trans hfn);subst e;obtain⟨⟨⟨ds,gs,before,hw,hc⟩,hx⟩,hz⟩:=hpre;have hw':=DataW.Whole.of_heap (w':=w.forCall tape i) (by rfl) hw;refine(contract (w.forCall tape i) w.heap.size i.args ds gs before hval hw' (hz.weights hw) hsh (hX _ _ _ (by rfl) hx)).mono fun e W' ⟨v,he,hp⟩=> ?_
 subst he;exact ChangeSpec.post_blind hp
def Jof(w:World)(ids:List Nat):Ga:=ids.filterMap fun g=>(w.heap[g]?).map fun o=>(g,o)
theorem A1G{w:World}{ids:List Nat}:∀x∈Jof w ids,w.heap[x.1]? =some x.2:=by
 intro x hx;simp only[Jof,List.mem_filterMap,zb5]at hx;obtain⟨g,_,o,ho,rfl⟩:=hx;exact ho
theorem Av0{w w':World}{ids:List Nat}(h:∀x∈Jof w ids,w'.heap[x.1]? =some x.2){g:Nat}(hg:g∈ids){o:Obj}(ho:w.heap[g]? =some o):w'.heap[g]? =some o:=
 h (g,o) (by simp only[Jof,List.mem_filterMap,zb5];exact⟨g,hg,o,ho,rfl⟩)
theorem AK7{P:Program}{w w':World}{ids:List Nat}(h:∀x∈Jof w ids,w'.heap[x.1]? =some x.2){name:String}{g:Nat}(hn:P.globalNamed name=some g)(hg:g∈ids){cs:Array Value}
  (hv:w.var? P name=some cs):w'.var? P name=some cs:=by
 cases ho:w.heap[g]? with
 |none=>simp[World.var?,hn,ho]at hv
 |some o=>
  have:=Av0 h hg ho;simp only[World.var?,hn,za0,ho]at hv;simp only[World.var?,hn,za0,this];exact hv
theorem A6k{P:Program}{w:World}{ids:List Nat}{name:String}{g:Nat}{k:IntKind}{zs:List Int}(hn:P.globalNamed name=some g)(hg:g∈ids)(h:Lib.TabIs P w name k zs):A40 P (Jof w ids) name k zs:=
 fun _ hw=>AK7 hw hn hg h
theorem A6m{w:World}{ids:List Nat}{g:Nat}(hg:g∈ids)(h:∃m:Int,w.cell? ⟨g,0,none⟩=some (.int .i64 m)):A3I (Jof w ids) g:=by
 intro w' hw;obtain⟨m,hm⟩:=h;cases ho:w.heap[g]? with
 |none=>simp[World.cell?,ho]at hm
 |some o=>
  refine⟨m,?_⟩
  have:=Av0 hw hg ho;simp only[World.cell?,ho,this]at hm⊢
  exact hm
theorem A5T{P:Program}{w:World}{ids:List Nat}{name:String}{g:Nat}(hn:P.globalNamed name=some g)(hg:g∈ids)(h:∃tp p,w.var? P name=some #[.iface tp p]):A0m P (Jof w ids) name:=by
 intro w' hw;obtain⟨tp,p,h⟩:=h;exact⟨tp,p,AK7 hw hn hg h⟩
theorem Iq{P:Program}{w:World}:∀(n:Nat){l:List (String×DataW Unit)},laidMet P l w->laidMet P (l.drop n) w
 |0,_,h=>h
 |n+1,[],h=>h
 |n+1,_::_,h=>Iq n h.tail
end
section
open Go
set_option maxRecDepth 100000
abbrev Tq0:Type:=(((Bool×(List Int))×Bool×(List Int))×(Bool×(List Int))×Bool×(List Int))
abbrev Tq1:Type:=((Bool×(List Int))×Bool×(List Int))
abbrev Tq2:Type:=(Bool×(List Int)×Bool×(List Int))
abbrev Tq3:Type:=(Bool×(List Int)×Bool×(List Int)×Bool×(List Int)×Bool×(List Int))
abbrev Tq4:Type:=(List (Int×Int))
abbrev Tq5:Type:=(Bool×(List Int))
abbrev Tq6:Type:=(Bool×List (Int)×Bool×List (Int))
abbrev Tq7:Type:=(Int×Int×Int×Int)
abbrev Tq8:Type:=(((Bool×List (Int))×Bool×List (Int))×(Bool×List (Int))×Bool×List (Int))
abbrev Tq9:Type:=(List (List UInt8))
abbrev Tq10:Type:=(Bool×List (Int)×Bool×List (Int)×Bool×List (Int)×Bool×List (Int))
abbrev Tq11:Type:=(Bool×List (Int))
abbrev Tq12:Type:=((List Int)×(List Int)×(List Int)×Int×Int)
abbrev Tq13:Type:=(Tq9×Int×Bool)
abbrev Tq14:Type:=((List Int)×(List Int)×Int×Int×Int)
abbrev Tq15:Type:=((List Int)×(List Int)×(List Int)×Int×Int×Int×Int×Int×Int×Int⊕(List Int)×(List Int)×(List Int)×Int×Int×Int×Int×Int)
abbrev Tq16:Type:=(Tq7×(List Tq1)×(List Tq4)×Int×Int×(List Tq1)×Int×Int⊕(Tq7×(List Tq1)×(List Tq4)×Int×Int⊕(List Tq1)×Bool))
abbrev Tq17:Type:=(Tq9×Int×Int)
abbrev Tq18:Type:=((List Int)×(List Int)×(List Int)×Int×Int⊕(List Int))
abbrev Tq19:Type:=((List Int)×(List Int)×Int×Int×Int⊕(List Int))
abbrev Tq20:Type:=(Tq11×Bool×List (Int))
abbrev Tq21:Type:=(Tq7×(List Tq1)×(List Tq0)×Int×Int⊕(Tq7×(List Tq1)×(List Tq0)×Int⊕(List Tq1)×Bool))
abbrev Tq22:Type:=(Tq2×Tq2×(List Tq0)×(List Tq0)×Int×Int⊕Tq2×Bool×(List Int)×Bool×(List Int))
abbrev Yq0:Ty:=(.pair (.pair .bool (.sl (.int .i64))) (.pair .bool (.sl (.int .i64))))
abbrev Yq1:Ty:=(.pair (.int .i64) (.int .i64))
abbrev Yq2:Ty:=(.pair (.bool) (.sl (.int .i64)))
def A4Z:TyD:=⟨1,8,false,[(.v (.int .i64 0))],none,false,(some .i64),[],false⟩
def A5W:TyD:=⟨1,1,false,[(.v (.bool false))],none,false,none,[],false⟩
def A5J:TyD:=⟨1,1,false,[(.v (.int .u8 0))],none,false,(some .u8),[],false⟩
def A5Q:TyD:=⟨1,16,false,[(.v (.string ⟨#[]⟩))],none,true,none,[],false⟩
def AZ6:TyD:=⟨1,24,false,[.em],(some 3),false,none,[],false⟩
def A37:TyD:=⟨2,32,true,[(.v (.bool false)),.em],none,false,none,[⟨0,4,1,false⟩,⟨1,22,1,false⟩],false⟩
def A3Y:TyD:=⟨4,64,true,[(.v (.bool false)),.em,(.v (.bool false)),.em],none,false,none,[⟨0,24,2,true⟩,⟨2,24,2,true⟩],false⟩
def A4g:TyD:=⟨1,24,false,[.em],(some 5),false,none,[],false⟩
def A30:TyD:=⟨1,24,false,[.em],(some 87),false,none,[],false⟩
def A4j:TyD:=⟨2,16,true,[(.v (.int .i64 0)),(.v (.int .i64 0))],none,false,none,[⟨0,3,1,false⟩,⟨1,3,1,false⟩],false⟩
def A36:TyD:=⟨4,32,true,[(.v (.int .i64 0)),(.v (.int .i64 0)),(.v (.int .i64 0)),(.v (.int .i64 0))],none,false,none,[⟨0,3,1,false⟩,⟨1,3,1,false⟩,⟨2,3,1,false⟩,⟨3,3,1,false⟩],false⟩
def A3X:TyD:=⟨4,32,true,[(.v (.int .i64 0)),(.v (.int .i64 0)),(.v (.int .i64 0)),(.v (.int .i64 0))],none,false,none,[⟨0,3,1,false⟩,⟨1,3,1,false⟩,⟨2,3,1,false⟩,⟨3,3,1,false⟩],false⟩
def A4h:TyD:=⟨1,24,false,[.em],(some 9),false,none,[],false⟩
def A3T:TyD:=⟨1,24,false,[.em],(some 26),false,none,[],false⟩
def A3Q:TyD:=⟨1,24,false,[.em],(some 48),false,none,[],false⟩
def A4i:TyD:=⟨1,24,false,[.em],(some 161),false,none,[],false⟩
def A1Y:TyD:=⟨5,88,true,[.em,(.v (.int .i64 0)),.em,.em,(.v (.bool false))],none,false,none,[⟨0,63,1,false⟩,⟨1,3,1,false⟩,⟨2,33,1,false⟩,⟨3,87,1,false⟩,⟨4,4,1,false⟩],false⟩
def A05:TyD:=⟨1,8,false,[(.v (.int .u64 0))],none,false,(some .u64),[],false⟩
def A1h:TyD:=⟨5,88,true,[.em,(.v (.int .i64 0)),.em,.em,(.v (.int .i64 0))],none,false,none,[⟨0,63,1,false⟩,⟨1,3,1,false⟩,⟨2,33,1,false⟩,⟨3,87,1,false⟩,⟨4,3,1,false⟩],false⟩
def A1Q:TyD:=⟨1,16,false,[(.v .nilIface)],none,false,none,[],true⟩
def AY5:TyD:=⟨8,128,true,[(.v (.bool false)),.em,(.v (.bool false)),.em,(.v (.bool false)),.em,(.v (.bool false)),.em],none,false,none,[⟨0,26,4,true⟩,⟨4,26,4,true⟩],false⟩
def AZ1:TyD:=⟨1,8,false,[(.v (.int .u64 0))],none,false,(some .u64),[],false⟩
def A0h:TyD:=⟨1,24,false,[.em],(some 24),false,none,[],false⟩
theorem ty3:AQ Tryz.prog 3=some A4Z:=by kernel_rfl
theorem ty4:AQ Tryz.prog 4=some A5W:=by kernel_rfl
theorem ty5:AQ Tryz.prog 5=some A5J:=by kernel_rfl
theorem ty9:AQ Tryz.prog 9=some A5Q:=by kernel_rfl
theorem A5o:AQ Tryz.prog 22=some AZ6:=by kernel_rfl
theorem A6t:AQ Tryz.prog 24=some A37:=by kernel_rfl
theorem A55:AQ Tryz.prog 26=some A3Y:=by kernel_rfl
theorem A6d:AQ Tryz.prog 32=some A4g:=by kernel_rfl
theorem A6j:AQ Tryz.prog 33=some A30:=by kernel_rfl
theorem A6i:AQ Tryz.prog 48=some A4j:=by kernel_rfl
theorem A6q:AQ Tryz.prog 55=some A36:=by kernel_rfl
theorem A6o:AQ Tryz.prog 58=some A3X:=by kernel_rfl
theorem A57:AQ Tryz.prog 63=some A4h:=by kernel_rfl
theorem A53:AQ Tryz.prog 70=some A3T:=by kernel_rfl
theorem A6n:AQ Tryz.prog 87=some A3Q:=by kernel_rfl
theorem A6l:AQ Tryz.prog 95=some A4i:=by kernel_rfl
theorem A5n:AQ Tryz.prog 108=some A1Y:=by kernel_rfl
theorem A5l:AQ Tryz.prog 113=some A05:=by kernel_rfl
theorem A5S:AQ Tryz.prog 120=some A1h:=by kernel_rfl
theorem A5U:AQ Tryz.prog 125=some A1Q:=by kernel_rfl
theorem A5x:AQ Tryz.prog 161=some AY5:=by kernel_rfl
theorem A5B:AQ Tryz.prog 221=some AZ1:=by kernel_rfl
theorem A5P:AQ Tryz.prog 249=some A0h:=by kernel_rfl
def Q6:List (Nat×TyD):=[(3,A4Z),(4,A5W),(5,A5J),(9,A5Q),(22,AZ6),(24,A37),(26,A3Y),(32,A4g),(33,A30),(48,A4j),(55,A36),(58,A3X),(63,A4h),(70,A3T),(87,A3Q),(95,A4i),(108,A1Y),(113,A05),(120,A1h),(125,A1Q),(161,AY5),(221,AZ1),(249,A0h)]
def PA:List (Nat×Ty):=[(3,.int .i64),(5,.int .u8),(9,.str),(24,.pair (.bool) (.sl (.int .i64))),(26,.pair Yq2 Yq2),(48,.pair (.int .i64) (.int .i64)),(87,.sl Yq1),(161,.pair (.pair Yq2 Yq2) (.pair Yq2 Yq2))]
theorem AP4:∀t d,getD Q6 t=some d->AQ Tryz.prog t=some d:=A4R (by unfold Q6;exact⟨ty3,⟨ty4,⟨ty5,⟨ty9,⟨A5o,⟨A6t,⟨A55,⟨A6d,⟨A6j,⟨A6i,⟨A6q,⟨A6o,⟨A57,⟨A53,⟨A6n,⟨A6l,⟨A5n,⟨A5l,⟨A5S,⟨A5U,⟨A5x,⟨A5B,⟨A5P,trivial⟩⟩⟩⟩⟩⟩⟩⟩⟩⟩⟩⟩⟩⟩⟩⟩⟩⟩⟩⟩⟩⟩⟩)
theorem A5M:Tryz.prog.underlying 4=some .bool:=by kernel_rfl
theorem R5:∀t,([4]:List Nat).contains t=true->Tryz.prog.underlying t=some .bool:=by
 intro t h;simp at h;rcases h with rfl
 all_goals first|exact A5M
theorem AT4:∀t,([]:List Nat).contains t=true->A5C Tryz.prog t:=by
 intro t h;simp at h
 try exact h.elim
abbrev qC(i:Nat)(c:AC):Item:=.slot i (.cell c)
abbrev qI(i:Nat):Item:=.slot i (.cell (.int .i64))
abbrev qB(i:Nat):Item:=.slot i (.cell .bool)
abbrev qS(i:Nat):Item:=.slot i (.cell .str)
abbrev qA(i:Nat)(l:List AC):Item:=.slot i (.agg l)
abbrev qT(i j:Nat):Item:=.slot i (.ref j true)
abbrev qF(i j:Nat):Item:=.slot i (.ref j false)
abbrev qcs:List AC:=[.int .i64,.int .i64]
abbrev qct:List AC:=[.bool,.im (.int .i64)]
abbrev qcu:List AC:=[.bool,.im (.int .i64),.bool,.im (.int .i64)]
abbrev qcv:List AC:=[.bool,.im (.int .i64),.bool,.im (.int .i64),.bool,.im (.int .i64),.bool,.im (.int .i64)]
abbrev qcw:List AC:=[.int .i64,.int .i64,.int .i64,.int .i64]
abbrev ql:Item:=qC 0 (.im (.pair Yq0 Yq0))
abbrev qn:Item:=.blk (.arr 161 false (.pair Yq0 Yq0))
abbrev qa:Item:=.blk (.arr 3 true (.int .i64))
abbrev qg:Item:=.blk (.arr 87 false (.sl Yq1))
abbrev qi:Item:=.blk (.arr 48 true Yq1)
abbrev qq:Item:=.blk (.arr 26 false Yq0)
abbrev qe:Item:=.blk (.box 24 qct)
abbrev qak:Item:=qA 0 qcv
abbrev qv:Item:=.blk (.box 26 qcu)
abbrev qy:Item:=.blk (.box 58 qcw)
abbrev qz:Item:=.blk (.box 108 [.im .str,.int .i64,.at 1,.at 2,.bool])
abbrev qal:Item:=.blk (.box 120 [.im .str,.int .i64,.at 1,.at 2,.int .i64])
abbrev qj:Item:=qC 0 (.im (.int .i64))
abbrev qk:Item:=qC 1 (.im (.int .i64))
abbrev qbh:Item:=qC 17 (.im (.pair Yq0 Yq0))
abbrev qa2:Item:=qA 1 qcv
abbrev qar:Item:=qA 0 qcu
abbrev qat:Item:=qA 2 qcu
abbrev qah:Item:=.blk (.box 4 [.bool])
abbrev qbi:Item:=qC 0 (.im Yq0)
abbrev qa3:Item:=qC 0 (.im (.pair .bool (.sl (.int .i64))))
abbrev qbj:Item:=.blk (.box 120 [.im .str,.int .i64,.at 2,.at 3,.int .i64])
abbrev qd:Item:=qI 6
abbrev qbk:Item:=.blk (.box 108 [.im .str,.int .i64,.at 2,.at 3,.bool])
abbrev qa4:Item:=.blk (.box 48 qcs)
abbrev qbl:Item:=qA 1 qcu
abbrev qbm:Item:=qA 3 qcu
abbrev qbn:Item:=qA 1 qcw
abbrev qbo:Item:=qC 44 (.im (.sl Yq1))
abbrev qbp:Item:=qC 6 (.im (.sl Yq1))
abbrev qau:Item:=.blk (.arr 9 true .str)
abbrev qo:Item:=qF 10 0
abbrev qp:Item:=qF 0 0
abbrev qr:Item:=qT 0 0
abbrev qt:Item:=qT 2 0
abbrev qaa:Item:=qF 11 1
abbrev qa5:Item:=qC 18 (.im (.int .i64))
abbrev qa6:Item:=qC 20 (.im (.int .i64))
abbrev qa7:Item:=qC 5 (.im (.int .i64))
abbrev qa8:Item:=qC 2 (.im (.int .i64))
abbrev qab:Item:=qT 3 0
abbrev qbq:Item:=qA 0 qct
abbrev qai:Item:=qF 12 2
abbrev qbr:Item:=.slot 9 (.cap 308 [2,0,1])
abbrev qbs:Item:=qA 0 qcs
abbrev qaf:Item:=qF 5 0
abbrev qa9:Item:=qC 0 (.im .str)
abbrev qav:List Item:=[qA 0 qcw]
abbrev qac:List Item:=[qS 0]
abbrev qbt:List Item:=[qau,qp]
abbrev qaw:List Item:=[qI 0,qB 1]
abbrev qbu:List Item:=[qal,qg,qi,qr]
abbrev qc:List Item:=[qB 0]
abbrev qba:List Item:=[qbs]
abbrev qbv:List Item:=[qal,qg,qi]
abbrev qbb:List Item:=[qal,qg,qi,qT 6 0]
abbrev qw:List Item:=[qj]
abbrev qad:List Item:=[qa,qp]
abbrev qbw:List Item:=[qB 0,qk]
abbrev qbc:List Item:=[qa,qA 0 [.bool,.at 0]]
abbrev qf:List Item:=[qI 0]
abbrev qh:List Item:=[qbq]
abbrev qb:List Item:=[qar]
abbrev qax:List Item:=[qC 0 (.im Yq1)]
abbrev qag:List Item:=[qak]
abbrev qbd:List Item:=[qn,qp,qB 1]
abbrev qbx:List Item:=[qn,qF 4 0]
abbrev qu:List Item:=[qj,qk]
abbrev qby:List Item:=[qj,qk,qI 5]
abbrev qao:List Item:=[qj,qI 1]
abbrev qbz:List Item:=[qa,qa,qp,qF 1 1]
abbrev qb0:List Item:=[qa,qj,qI 1,qF 6 0,qI 7,qI 8]
abbrev qb1:List Item:=[qa,qF 6 0,qI 7]
abbrev qam:List Item:=[qa,qaf]
abbrev qb2:List Item:=[qj,qk,qI 2,qI 7,qI 9,qI 10]
abbrev qb3:List Item:=[qa]
abbrev qb4:List Item:=[qa,qp,qk,qd]
abbrev qae:List Item:=[ql]
abbrev qb5:List Item:=[qa,qk,qaf,qa5,qI 19,qI 20]
abbrev qb6:List Item:=[qa,qk,qaf,qd,qI 7,qI 8,qI 9,qa5,qI 19,qI 20]
abbrev qm:List Item:=[qbq,qA 1 qct]
abbrev qx:List Item:=[qar,qbl]
abbrev qbe:List Item:=[qak,qB 1]
abbrev qap:List Item:=[qa,qj,qk,qaf,qd,qI 7]
abbrev qb7:List Item:=[qak,qa2,qat]
abbrev qaq:List Item:=[qn,qp]
abbrev qay:List Item:=[ql,qa2,qA 2 qcv]
abbrev qas:List Item:=[qar,qB 1]
abbrev qbf:List Item:=[ql,qB 1]
abbrev qb8:List Item:=[qv,qv,ql,qt,qT 3 1,qC 8 (.im (.pair Yq0 Yq0)),qI 9,qI 10]
abbrev qb9:List Item:=[qv,qv,qt,qT 3 1]
abbrev qca:List Item:=[ql,qI 1,qI 2]
abbrev qcb:List Item:=[ql,qbn]
abbrev qaz:List Item:=[qbi,qB 1]
abbrev qa0:List Item:=[qy,qq,ql,qab,qF 6 1,qI 7]
abbrev qcc:List Item:=[qy,qq,ql,qab,qF 6 1,qI 7,qI 8]
abbrev qcd:List Item:=[qq,qF 6 0]
abbrev qaj:List Item:=[qC 4 (.im Yq0),qB 5]
abbrev qan:List Item:=[qS 0,qbn]
abbrev qce:List Item:=[qy,qq,qg,qab,qF 10 1,qF 49 2,qI 50,qI 51]
abbrev qcf:List Item:=[qq,qo]
abbrev qcg:List Item:=[qa,qp,qB 1]
abbrev qbg:List Item:=[qI 0,qI 1,qa8]
abbrev qa1:List Item:=[qS 0,qB 1]
abbrev qch:List Item:=[qz,qg,qi,qr]
abbrev qci:List Item:=[qz,qg,qi,qT 6 0]
abbrev qcj:List Item:=[qn,qF 3 0]
abbrev qck:List Item:=[qj,.slot 1 (.clo 293)]
abbrev qcl:List Item:=[qa3,.slot 1 (.clo 278)]
abbrev qcm:List Item:=[qj,qI 3]
abbrev qcn:List Item:=[qa,qa,qa,qd,qI 9,qo,qaa,qai,qI 13,qI 15,qI 16]
abbrev qco:List Item:=[qbi]
abbrev qcp:List Item:=[ql,.slot 1 (.clo 224)]
abbrev qcq:List Item:=[qy,qq,qab,qF 10 1,qbo,qI 45,qI 46]
abbrev qcr:List Item:=[qj,.slot 1 (.clo 181)]
def Rj:FAnn:=⟨39,0,qav,qav,[],[],[]⟩
def QQ:FAnn:=⟨95,0,qac,qbt,[(4,[qau,qS 0,qF 3 0,qI 4,qI 5])],[(4,[(.exit 0,[qau,qS 0,qF 3 0,qI 4])])],[]⟩
def Wl:FAnn:=⟨102,0,[qS 0,qI 1],[qI 0,qI 1],[(3,[qS 0,qI 1,qd,qI 7])],[(3,[(.exit 0,[qS 0,qI 1,qd,qI 7])])],[]⟩
def Nj:FAnn:=⟨31,0,qac,qaw,[],[],[(2,[qS 0,qB 4]),(5,[qB 4,qS 5]),(8,[qB 4,qd])]⟩
def MB:FAnn:=⟨161,1,qbu,[qal,qg,qi,qI 0],[],[],[]⟩
def Am5:FAnn:=⟨90,0,[qI 0,qI 1,qI 2],qc,[],[],[]⟩
def VB:FAnn:=⟨166,0,qba,qc,[],[],[]⟩
def MU:FAnn:=⟨162,1,[qal,qg,qi,qr,qA 1 qcs],qbv,[],[],[]⟩
def K6:FAnn:=⟨96,1,qbu,qbv,[(4,[qbj,qau,qg,qi,qr,qS 2,qB 3,qB 4,qF 28 1,qI 29,qI 30])],[(4,[(.exit 0,[qal,qg,qi,qr,qS 2,qB 3,qB 4])])],[(16,[qal,qg,qi,qr,qS 2,qB 3]),(21,[qbj,qa4,qg,qi,qr,qS 2,qT 7 1])]⟩
def ON:FAnn:=⟨25,0,qac,[qg,qp,qI 1,qI 2,qB 3],[(4,qbb)],[(4,[(.exit 0,qbb)])],[(8,qbb)]⟩
def NC:FAnn:=⟨117,0,qav,qc,[],[],[]⟩
def Zl:FAnn:=⟨188,0,qw,qad,[(1,qw)],[(1,[(.exit 0,qw)])],[]⟩
def Vv:FAnn:=⟨133,0,qbw,qbc,[],[],[]⟩
def Y1:FAnn:=⟨72,0,qf,qh,[(3,[qe,qa,qI 0,qt,qF 3 1,qI 4])],[(3,[(.exit 0,[qe,qa,qI 0,qt,qF 3 1])])],[]⟩
def Y7:FAnn:=⟨118,0,qf,qb,[],[],[]⟩
def Y8:FAnn:=⟨152,0,qax,qc,[(2,[qC 5 (.im Yq1),qd,qI 7])],[(2,[(.exit 0,[]),(.ret,[qB 2])])],[]⟩
def Zb:FAnn:=⟨89,0,qax,qc,[],[],[]⟩
def Zx:FAnn:=⟨176,0,qba,qag,[],[],[]⟩
def Wp:FAnn:=⟨119,0,qax,qbd,[(5,[qn,qF 4 0,qC 10 (.im Yq1),qI 11,qI 12])],[(5,[(.exit 0,qbx)])],[]⟩
def Uj:FAnn:=⟨216,0,qh,qc,[(2,[qe,qT 1 0,qC 7 (.im (.int .i64)),qI 8,qI 9])],[(2,[(.exit 0,[qe,qT 1 0]),(.ret,[qB 2])])],[]⟩
def YX:FAnn:=⟨217,0,qu,qf,[(6,qby)],[(6,[(.exit 0,[]),(.ret,[qI 4])])],[]⟩
def Tj:FAnn:=⟨239,0,qao,qbz,[(4,qb0)],[(4,[(.exit 0,qb1)])],[]⟩
def Ap5:FAnn:=⟨240,0,qao,qad,[(3,[qa,qI 1,qaf,qC 13 (.im (.int .i64)),qI 14,qI 15])],[(3,[(.exit 0,qam)])],[]⟩
def SR:FAnn:=⟨241,0,[qj,qk,qI 2],qf,[(5,qb2)],[(5,[(.exit 0,[qI 9])])],[(6,qb2)]⟩
def Vc:FAnn:=⟨276,0,qao,qf,[],[],[]⟩
def WO:FAnn:=⟨242,1,[qa,qp,qk,qI 2,qI 3],[qa,qI 0],[(3,[qa,qp,qk,qI 2,qI 3,qI 9,qI 10])],[(3,[(.exit 0,[qa,qI 9])])],[(10,[qa,qp,qk,qI 2,qI 3,qI 9,qI 10,qI 11])]⟩
def Vy:FAnn:=⟨243,1,[qa,qp,qk,qI 2],qb3,[(2,[qa,qp,qk,qI 2,qd,qI 7])],[(2,[(.exit 0,qb3)])],[]⟩
def WF:FAnn:=⟨244,0,qao,qad,[(3,[qa,qj,qI 1,qaf,qI 11,qI 12])],[(3,[(.exit 0,qam)])],[]⟩
def NR:FAnn:=⟨189,0,qu,qbz,[(7,qb4),(13,[qa,qa,qa,qd,qF 7 0,qF 8 1,qF 9 2,qI 10])],[(7,[(.exit 0,qb4)]),(13,[(.exit 2,[qa,qa,qd,qF 7 0,qF 9 1])])],[]⟩
def ZA:FAnn:=⟨134,0,qu,qad,[(1,qu)],[(1,[(.exit 0,qw)])],[]⟩
def TI:FAnn:=⟨311,0,qb,qc,[],[],[]⟩
def TQ:FAnn:=⟨297,0,qb,qc,[],[],[]⟩
def QB:FAnn:=⟨270,0,qae,qc,[(2,[ql,qC 5 (.im (.pair Yq0 Yq0)),qd,qI 7])],[(2,[(.exit 0,qae),(.ret,[qB 2])])],[]⟩
def Ro:FAnn:=⟨298,0,qb,qc,[],[],[]⟩
def Yl:FAnn:=⟨271,0,qag,qc,[],[],[]⟩
def Nt:FAnn:=⟨232,0,qu,qad,[(3,qb5),(7,qb6)],[(3,[(.exit 0,qam)]),(7,[(.exit 2,qb5)])],[(9,qb6)]⟩
def YS:FAnn:=⟨179,0,qm,qh,[],[],[]⟩
def Qb:FAnn:=⟨215,0,qm,qf,[],[],[]⟩
def Y0:FAnn:=⟨168,0,qx,qf,[],[],[]⟩
def QG:FAnn:=⟨316,0,qbe,qb,[],[],[]⟩
def Tn:FAnn:=⟨313,0,[qak,qB 1,qat,qB 3],qf,[],[],[]⟩
def X5:FAnn:=⟨136,0,qh,qh,[],[],[]⟩
def YY:FAnn:=⟨301,0,qb,qb,[],[],[]⟩
def MR:FAnn:=⟨230,0,qu,qad,[(4,qap)],[(4,[(.exit 0,qam)])],[(6,qap)]⟩
def NQ:FAnn:=⟨231,0,qu,qad,[(4,[qa,qj,qk,qaf,qd,qI 10,qI 11])],[(4,[(.exit 0,qam)])],[]⟩
def Zz:FAnn:=⟨178,0,qm,qh,[],[],[]⟩
def YW:FAnn:=⟨135,0,qm,qm,[],[],[]⟩
def WZ:FAnn:=⟨71,0,qm,qb,[],[],[]⟩
def Yi:FAnn:=⟨121,0,qx,qb,[],[],[]⟩
def Zm:FAnn:=⟨274,0,qx,qb,[],[],[]⟩
def ZJ:FAnn:=⟨275,0,qx,qb,[],[],[]⟩
def Yk:FAnn:=⟨171,0,qx,qb,[],[],[]⟩
def SY:FAnn:=⟨318,0,[qar,qbl,qat],qb,[],[],[]⟩
def V2:FAnn:=⟨317,0,qb7,qag,[],[],[]⟩
def Vi:FAnn:=⟨314,0,[qak,qa2,qB 2,qbm],qag,[],[],[]⟩
def TU:FAnn:=⟨300,0,[ql,qB 1,qat,qB 3],qaq,[(3,[qv,qn,ql,qB 1,qB 3,qT 6 0,qF 9 1,qC 15 (.im (.pair Yq0 Yq0)),qI 16,qI 17])],[(3,[(.exit 0,[qn,qF 9 0])])],[]⟩
def WC:FAnn:=⟨273,0,qay,qaq,[],[],[]⟩
def Vx:FAnn:=⟨70,0,qb,qas,[],[],[]⟩
def S9:FAnn:=⟨312,0,qag,qbe,[],[],[]⟩
def Xk:FAnn:=⟨299,0,qae,qbf,[(3,[qn,qF 4 0,qC 9 (.im (.pair Yq0 Yq0)),qI 10,qI 11])],[(3,[(.exit 0,qbx),(.ret,[qC 2 (.im (.pair Yq0 Yq0)),qB 3])])],[]⟩
def SZ:FAnn:=⟨272,0,qae,qbf,[],[],[]⟩
def Tr:FAnn:=⟨228,0,qay,qbf,[],[],[]⟩
def Uf:FAnn:=⟨229,0,qae,qb,[(3,qb8)],[(3,[(.exit 0,qb9)])],[]⟩
def P5:FAnn:=⟨177,0,qca,qas,[],[],[]⟩
def QF:FAnn:=⟨120,0,qcb,qaz,[(5,qa0),(8,qcc)],[(5,[(.exit 0,qcd),(.ret,qaj)]),(8,[(.exit 2,qa0),(.ret,qaj)])],[]⟩
def OZ:FAnn:=⟨51,0,qan,qaz,[(6,[qy,qg,qq,qab,qF 6 1,qF 10 2,qI 11]),(10,qce),(17,[qy,qq,qg,qab,qF 10 1,qF 49 2,qI 50,qI 51,qC 68 (.im Yq0),qI 69,qI 70])],[(6,[(.exit 0,[qy,qg,qq,qab,qF 6 1,qF 10 2])]),(10,[(.exit 2,qcf),(.ret,qaj)]),(17,[(.exit 4,qce),(.ret,qaj)])],[]⟩
def ZL:FAnn:=⟨167,0,qb,qb,[],[],[]⟩
def Zq:FAnn:=⟨218,0,qm,qh,[],[],[]⟩
def Ti:FAnn:=⟨170,0,qb,qh,[],[],[]⟩
def Yd:FAnn:=⟨169,0,qh,qaw,[(8,[qe,qT 1 0,qI 5,qd])],[(8,[(.exit 0,[qe,qT 1 0,qI 5])])],[]⟩
def ST:FAnn:=⟨108,0,qb,qf,[],[],[]⟩
def NU:FAnn:=⟨38,0,qan,qcg,[(6,[qa,qF 8 0,qC 19 (.im Yq0),qI 20,qI 21])],[(6,[(.exit 0,[qa,qF 8 0])])],[]⟩
def WT:FAnn:=⟨183,0,qw,qc,[(2,[qj,qa7,qd,qI 7])],[(2,[(.exit 0,qw),(.ret,[qB 2])])],[]⟩
def On:FAnn:=⟨163,0,qf,qac,[],[],[]⟩
def M5:FAnn:=⟨184,0,qbg,qac,[(3,[qS 7,qa5,qI 19,qI 20])],[(3,[(.exit 0,[qS 7])])],[]⟩
def Li:FAnn:=⟨125,0,qbg,qa1,[],[],[]⟩
def TT:FAnn:=⟨63,0,qan,qa1,[],[],[]⟩
def W0:FAnn:=⟨85,0,[qI 0,qI 1,qI 2],qc,[],[],[]⟩
def MH:FAnn:=⟨91,0,[qS 0,qS 1],qbt,[],[],[]⟩
def DN:FAnn:=⟨259,0,[qa9,qS 1],qf,[(2,[qa9,qS 1,qI 7,qI 8])],[(2,[(.exit 0,[]),(.ret,[qI 4])])],[]⟩
def Dc:FAnn:=⟨208,0,[qa9,qS 1],qc,[],[],[]⟩
def NF:FAnn:=⟨154,1,[qz,qg,qi,qr,qS 1],[qz,qg,qi,qI 0],[],[],[]⟩
def I2:FAnn:=⟨155,0,[qS 0,qS 1],qc,[],[],[]⟩
def MQ:FAnn:=⟨101,0,qac,[qI 0,qC 1 (.err)],[],[],[]⟩
def Qv:FAnn:=⟨98,0,qf,qc,[],[],[]⟩
def MS:FAnn:=⟨82,0,qf,qac,[],[],[]⟩
def ND:FAnn:=⟨30,0,qac,qaw,[],[],[]⟩
def Mz:FAnn:=⟨156,1,qch,[qz,qg,qi,qI 0,qB 1],[],[],[]⟩
def OQ:FAnn:=⟨157,1,[qz,qg,qi,qr,qS 1,qa8],[qz,qg,qi,qbs],[],[],[(4,[.blk (.box 108 [.im .str,.int .i64,.at 3,.at 4,.bool]),qa4,qa4,qg,qi,qS 1,qa8,qT 6 1,qT 7 2])]⟩
def Ww:FAnn:=⟨104,0,qba,qc,[],[],[]⟩
def Lg:FAnn:=⟨92,1,qch,[qz,qg,qi,qI 0,qI 1],[(14,[qbk,qa,qg,qi,qr,qS 4,qF 7 1,qI 62,qI 63])],[(14,[(.exit 0,[qbk,qa,qg,qi,qr,qS 4,qF 7 1]),(.ret,[qz,qg,qi,qI 2,qI 3])])],[(12,[qz,qg,qi,qr,qS 4,qd])]⟩
def OR:FAnn:=⟨22,0,qac,[qC 0 (.im (.sl Yq1)),qI 1,qI 2,qB 3],[(4,qci)],[(4,[(.exit 0,qci),(.ret,[qC 2 (.im (.sl Yq1)),qI 3,qI 4,qB 5])])],[]⟩
def MT:FAnn:=⟨58,0,qav,qc,[],[],[]⟩
def Y3:FAnn:=⟨137,0,qf,qh,[(6,[qe,qa,qt,qB 3,qC 4 (.int .u64),qF 5 1])],[(6,[(.exit 0,[qe,qa,qt,qB 3,qF 5 1])])],[(5,[qe,qt,qB 3,qC 4 (.int .u64)])]⟩
def Ym:FAnn:=⟨73,0,qf,qb,[],[],[]⟩
def VJ:FAnn:=⟨76,0,qax,qaq,[(3,[qn,qF 3 0,qC 7 (.im Yq1),qI 8,qI 9])],[(3,[(.exit 0,qcj)])],[]⟩
def OS:FAnn:=⟨293,0,qf,qc,[],[],[]⟩
def CG:FAnn:=⟨233,0,qck,qf,[(2,[qj,.slot 1 (.clo 293),qI 7,qI 8])],[(2,[(.exit 0,[]),(.ret,[qI 4])])],[]⟩
def Cf:FAnn:=⟨180,0,qck,qc,[],[],[]⟩
def Tc:FAnn:=⟨265,0,qh,qc,[],[],[]⟩
def P7:FAnn:=⟨278,0,qh,qc,[],[],[]⟩
def Du:FAnn:=⟨302,0,qcl,qf,[(2,[qa3,.slot 1 (.clo 278),qI 7,qI 8])],[(2,[(.exit 0,[]),(.ret,[qI 4])])],[]⟩
def CW:FAnn:=⟨277,0,qcl,qc,[],[],[]⟩
def Xo:FAnn:=⟨234,0,[qa3],qc,[],[],[]⟩
def Qq:FAnn:=⟨235,0,qh,qf,[],[],[]⟩
def MC:FAnn:=⟨284,0,qf,qc,[],[],[]⟩
def Ke:FAnn:=⟨248,0,[qI 0,qI 1],qf,[],[],[]⟩
def Lb:FAnn:=⟨195,0,qu,qf,[(4,qby)],[(4,[(.exit 0,[]),(.ret,[qI 4])])],[]⟩
def AG0:FAnn:=⟨247,0,qw,qw,[(2,qcm)],[(2,[(.exit 0,qcm)])],[]⟩
def QI:FAnn:=⟨283,0,qao,qao,[(4,qb0)],[(4,[(.exit 0,qb1)])],[]⟩
def BN:FAnn:=⟨246,0,qw,qad,[],[],[]⟩
def Yh:FAnn:=⟨193,0,qbw,qbc,[],[],[]⟩
def T6:FAnn:=⟨139,0,qm,qbc,[(3,[qe,qe,qe,qa,qt,qT 3 1,qT 4 2,qF 5 3,qa6,qI 21,qI 22]),(7,[qe,qe,qe,qa,qt,qT 3 1,qT 4 2,qF 5 3,qd,qI 7,qI 8,qa6,qI 21,qI 22,qC 28 (.im (.int .i64)),qI 29,qI 30])],[(3,[(.exit 0,[qe,qe,qe,qa,qt,qT 3 1,qT 4 2,qF 5 3])]),(7,[(.exit 2,[qe,qe,qe,qa,qt,qT 3 1,qT 4 2,qF 5 3,qd,qI 8,qa6,qI 21,qI 22])])],[]⟩
def QW:FAnn:=⟨245,0,qu,qu,[(10,[qa,qa,qj,qd,qI 9,qo,qaa]),(14,[qa,qa,qa,qd,qI 9,qo,qaa,qai,qI 13]),(18,qcn),(23,[qa,qa,qa,qd,qI 9,qo,qaa,qai,qI 13,qI 15,qI 17,qI 153,qI 154]),(37,[qa,qa,qa,qd,qI 9,qo,qaa,qai,qI 13,qI 15,qI 20,qI 208,qI 209])],[(10,[(.exit 0,[qa,qa,qd,qI 9,qo,qaa])]),(14,[(.exit 2,[qa,qa,qd,qI 9,qo,qF 12 1])]),(18,[(.exit 4,[qa,qa,qa,qd,qI 9,qo,qaa,qai,qI 13,qI 15])]),(23,[(.exit 6,[qa,qa,qa,qd,qI 9,qo,qaa,qai,qI 13,qI 15,qI 17])]),(37,[(.exit 8,[qa,qa,qa,qd,qI 9,qo,qaa,qai,qI 13,qI 15,qI 20])])],[(19,qcn),(30,[qa,qa,qa,qd,qI 9,qo,qaa,qai,qI 13,qI 15,qI 17,qI 18,qI 19,qI 153,qI 154])]⟩
def Tk:FAnn:=⟨190,0,qm,qh,[(2,[qe,qT 4 0,qa7,qC 6 (.im (.int .i64))])],[(2,[(.exit 0,[qe,qT 4 0,qa7])])],[]⟩
def MK:FAnn:=⟨236,0,qm,qf,[],[],[]⟩
def TK:FAnn:=⟨182,0,qb,qc,[],[],[]⟩
def Un:FAnn:=⟨124,0,qco,qc,[(2,[qC 5 (.im Yq0),qd,qI 7])],[(2,[(.exit 0,[]),(.ret,[qB 2])])],[]⟩
def ME:FAnn:=⟨144,0,[qar,qI 1],qc,[],[],[]⟩
def Y6:FAnn:=⟨225,0,[qak,qI 1],qc,[],[],[]⟩
def M6:FAnn:=⟨224,0,qag,qc,[],[],[]⟩
def Dw:FAnn:=⟨267,0,qcp,qf,[(2,[ql,.slot 1 (.clo 224),qI 7,qI 8])],[(2,[(.exit 0,[]),(.ret,[qI 4])])],[]⟩
def C4:FAnn:=⟨223,0,qcp,qc,[],[],[]⟩
def Qt:FAnn:=⟨174,0,qae,qc,[],[],[]⟩
def NL:FAnn:=⟨264,0,qx,qf,[],[],[]⟩
def P1:FAnn:=⟨220,0,qx,qc,[],[],[]⟩
def Je:FAnn:=⟨309,0,qbe,qb,[],[],[]⟩
def Xl:FAnn:=⟨308,3,[qah,qah,qv,qak,qT 1 0,qT 2 1,qT 3 2],[qah,qah,qv,qB 0],[],[],[]⟩
def Tg:FAnn:=⟨191,0,qh,qh,[],[],[]⟩
def Ua:FAnn:=⟨197,0,qb,qb,[],[],[]⟩
def Rl:FAnn:=⟨194,0,qu,qad,[(4,qap)],[(4,[(.exit 0,qam)])],[(6,qap),(8,qap),(10,qap)]⟩
def Qm:FAnn:=⟨196,0,qu,qw,[(4,[qa,qk,qaf,qd,qI 11,qI 12])],[(4,[(.exit 0,qam)])],[(9,[qa,qk,qaf,qI 7,qI 11,qI 12])]⟩
def Td:FAnn:=⟨140,0,qm,qh,[],[],[]⟩
def Uo:FAnn:=⟨192,0,qm,qm,[],[],[]⟩
def X3:FAnn:=⟨138,0,qm,qb,[],[],[(4,[qe,qe,qv,qe,qt,qT 3 1,qT 4 2,qT 5 3])]⟩
def Uk:FAnn:=⟨74,0,qx,qb,[],[],[]⟩
def T5:FAnn:=⟨142,0,qx,qb,[],[],[]⟩
def Uq:FAnn:=⟨198,0,qx,qb,[],[],[]⟩
def Ue:FAnn:=⟨141,0,qx,qb,[],[],[]⟩
def AG5:FAnn:=⟨310,0,qb7,qag,[],[],[]⟩
def Am9:FAnn:=⟨296,0,[ql,qB 1,qB 2,qbm],qaq,[(4,[qah,qv,qah,qn,ql,qT 5 0,qT 7 1,qbr,qF 10 3,qbh,qI 18,qI 19])],[(4,[(.exit 0,[qn,qo])])],[(10,[qah,qv,qah,qn,.blk (.box 161 qcv),ql,qT 5 0,qT 7 1,qbr,qF 10 3,qT 12 4,qbh,qI 18,qI 19])]⟩
def T8:FAnn:=⟨269,0,qay,qaq,[],[],[]⟩
def VX:FAnn:=⟨315,0,qb,qb,[],[],[]⟩
def Vl:FAnn:=⟨307,0,qag,qag,[],[],[]⟩
def Tl:FAnn:=⟨295,0,qae,qaq,[(3,[qn,qF 3 0,qC 7 (.im (.pair Yq0 Yq0)),qI 8,qI 9])],[(3,[(.exit 0,qcj)])],[]⟩
def MI:FAnn:=⟨268,0,qae,qbd,[],[],[]⟩
def TL:FAnn:=⟨226,0,qay,qbd,[],[],[]⟩
def QR:FAnn:=⟨143,0,qb,qb,[],[],[]⟩
def Qc:FAnn:=⟨75,0,qae,qb,[(3,qb8)],[(3,[(.exit 0,qb9)])],[]⟩
def NY:FAnn:=⟨77,0,qb,qas,[],[],[]⟩
def QY:FAnn:=⟨227,0,qae,qas,[],[],[]⟩
def Tv:FAnn:=⟨175,0,qca,qas,[],[],[]⟩
def Qr:FAnn:=⟨116,0,qcb,qaz,[(5,qa0),(8,qcc)],[(5,[(.exit 0,qcd),(.ret,qaj)]),(8,[(.exit 2,qa0),(.ret,qaj)])],[]⟩
def O1:FAnn:=⟨50,0,qan,qaz,[(6,[qy,qq,qab,qbp,qF 10 1,qI 36,qI 37]),(10,qcq),(16,[qy,qq,qab,qF 10 1,qbo,qI 45,qI 46,qC 59 (.im Yq0),qI 60,qI 61])],[(6,[(.exit 0,[qy,qq,qab,qbp,qF 10 1])]),(10,[(.exit 2,qcf),(.ret,qaj)]),(16,[(.exit 4,qcq),(.ret,qaj)])],[]⟩
def Ul:FAnn:=⟨263,0,qh,qh,[],[],[]⟩
def Um:FAnn:=⟨219,0,qb,qb,[],[],[]⟩
def Ta:FAnn:=⟨294,0,qm,qh,[],[],[]⟩
def Lc:FAnn:=⟨266,0,qm,qh,[],[],[]⟩
def OU:FAnn:=⟨222,0,qb,qh,[],[],[]⟩
def ZK:FAnn:=⟨221,0,qh,qaw,[(5,[qe,qT 1 0,qI 4,qI 5])],[(5,[(.exit 0,[qe,qT 1 0,qI 4])])],[]⟩
def Wd:FAnn:=⟨172,0,qb,qf,[],[],[(4,[qv,qT 1 0])]⟩
def Tx:FAnn:=⟨109,0,qco,qad,[(3,[qa,qF 3 0,qC 7 (.im Yq0),qI 8,qI 9])],[(3,[(.exit 0,[qa,qF 3 0])])],[]⟩
def NO:FAnn:=⟨40,0,qan,qcg,[],[],[]⟩
def M4:FAnn:=⟨181,0,qf,qc,[],[],[]⟩
def Cs:FAnn:=⟨233,0,qcr,qf,[(2,[qj,.slot 1 (.clo 181),qI 7,qI 8])],[(2,[(.exit 0,[]),(.ret,[qI 4])])],[]⟩
def BW:FAnn:=⟨180,0,qcr,qc,[],[],[]⟩
def Qu:FAnn:=⟨123,0,qw,qc,[],[],[]⟩
def Ao9:FAnn:=⟨128,0,[qI 0,qI 1],qac,[],[],[]⟩
def K3:FAnn:=⟨126,0,qbg,qa1,[],[],[]⟩
def Th:FAnn:=⟨64,0,qan,qa1,[],[],[]⟩
def FM:FAnn:=⟨10,0,qan,qc,[],[],[]⟩
def A1e:List FAnn:=[Rj,QQ,Wl,Nj,MB,Am5,VB,MU,K6,ON,NC,Zl,Vv,Y1,Y7,Y8,Zb,Zx,Wp,Uj,YX,Tj,Ap5,SR,Vc,WO,Vy,WF,NR,ZA,TI,TQ,QB,Ro,Yl,Nt,YS,Qb,Y0,QG,Tn,X5,YY,MR,NQ,Zz,YW,WZ,Yi,Zm,ZJ,Yk,SY,V2,Vi,TU,WC,Vx,S9,Xk,SZ,Tr,Uf,P5,QF,OZ,ZL,Zq,Ti,Yd,ST,NU,WT,On,M5,Li,TT,W0,MH,DN,Dc,NF,I2,MQ,Qv,MS,ND,Mz,OQ,Ww,Lg,OR,MT,Y3,Ym,VJ,OS,CG,Cf,Tc,P7,Du,CW,Xo,Qq,MC,Ke,Lb,AG0,QI,BN,Yh,T6,QW,Tk,MK,TK,Un,ME,Y6,M6,Dw,C4,Qt,NL,P1,Je,Xl,Tg,Ua,Rl,Qm,Td,Uo,X3,Uk,T5,Uq,Ue,AG5,Am9,T8,VX,Vl,Tl,MI,TL,QR,Qc,NY,QY,Tv,Qr,O1,Ul,Um,Ta,Lc,OU,ZK,Wd,Tx,NO,M4,Cs,BW,Qu,Ao9,K3,Th,FM]
def A3S:Rel:=fun _ _ _ _ _=>False
def cfC:Cfg:=MJ [BN] fun _=>false
def U4:List (FuncId×TypeId×Nat×Bool):=[(246,3,Ty.size (.int .i64),true)]
theorem Ku:CloneOK Tryz.prog (246,3,Ty.size (.int .i64),true):=⟨Tryz.f246,22,4,AZ6,A4Z,Tryz.func246,by kernel_rfl,by kernel_rfl,rfl,A5o,rfl,ty3,by kernel_rfl,rfl,rfl⟩
theorem AW0:∀x∈U4,CloneOK Tryz.prog x:=by
 intro x hx;simp only[U4,zc7,List.not_mem_nil,or_false]at hx;rcases hx with rfl
 exact Ku
structure LibJ (J:Ga):Prop where
 tab:A40 Tryz.prog J "internal/strconv.uint64pow10" .u64 Lib.pow10Tab
 max:A3I J 2
 syn:A0m Tryz.prog J "strconv.ErrSyntax"
 rng:A0m Tryz.prog J "strconv.ErrRange"
def A4x:Rel:=fun g args blks r blks'=>Xr (Ep Tryz.prog cfC A3S) U4 g args blks r blks'\/Vf 91 9 g args blks r blks'\/Nl 155 g args blks r blks'\/Ab1 101 g args blks r blks'\/Ae1 82 g args blks r blks'\/AD0 Tryz.prog LibJ 126 85 123 128 g args blks r blks'
theorem AT2:Ut Tryz.prog 91:=⟨Tryz.f91,Tryz.func91,by kernel_rfl,by kernel_rfl⟩
theorem Ac5:Ut Tryz.prog 155:=⟨Tryz.f155,Tryz.func155,by kernel_rfl,by kernel_rfl⟩
theorem A2q:Ut Tryz.prog 101:=⟨Tryz.f101,Tryz.func101,by kernel_rfl,by kernel_rfl⟩
theorem A0Z:Ut Tryz.prog 82:=⟨Tryz.f82,Tryz.func82,by kernel_rfl,by kernel_rfl⟩
theorem A3F:Ut Tryz.prog 126:=⟨Tryz.f126,Tryz.func126,by kernel_rfl,by kernel_rfl⟩
theorem Ai3{J:Ga}(hJ:LibJ J):∀g args blks r blks',A4x g args blks r blks'->CSpec Tryz.prog J g args blks r blks':=by
 intro g args blks r blks' h;rcases h with h|h|h|h|h|h
 ·exact XH (by kernel_rfl) AW0 _ _ _ _ _ h
 ·exact AC8 AT2 Tryz.strings_Split hJ.max _ _ _ _ _ h
 ·exact X0 Ac5 Tryz.strings_Contains hJ.max _ _ _ _ _ h
 ·exact AN0 A2q Tryz.strconv_Atoi_ok Tryz.strconv_Atoi_syntax_var Tryz.strconv_Atoi_range_var hJ.syn hJ.rng _ _ _ _ _ h
 ·exact AN9 A0Z Tryz.strconv_Itoa hJ.tab _ _ _ _ _ h
 ·exact AZ3 A3F hJ _ _ _ _ _ h
def cf0:Cfg:=MJ A1e fun g=>([246,91,155,101,82,126]:List Nat).contains g
abbrev RR:Rel:=Ep Tryz.prog cf0 A4x
structure OKE where
 E:Ent
 k:CB RR E
 r:cf0.byref E.a.g=(Fj E.a.params).map Xe
theorem A5F:∀l:List OKE,AB1 RR cf0 (l.map (·.E))
 |[]=>trivial
 |x::l=>⟨⟨x.k,x.r⟩,A5F l⟩
def fq(a:FAnn)(F:B9 a.params->Option (B9 a.res))(l:List OKE){fn:Func}(h0:Tryz.prog.funcs[a.g]? =some fn)(h1:fn.body.isSome=true:=by rfl)(h2:O9 fn (fn.body.get h1) (ES a.params).length=true:=by kernel_rfl)(h3:cf0.isExt a.g=false:=by rfl)(h:Ny A1e a.g=some a:=by kernel_rfl)(hF:∀x,wtF ⟨Q6,PA,[],[4],l.map (·.E),a⟩ fn x=F x:=by intro _;kernel_rfl)(hr:cf0.byref a.g=(Fj a.params).map Xe:=by rfl):OKE:=
 ⟨⟨a,F⟩,N1 (X:=⟨Q6,PA,[],[4],l.map (·.E),a⟩) ⟨AP4,R5,AT4⟩ (Qg (A5F l)) (AH8 h) ⟨h0,(Option.some_get h1).symm,h2,h3⟩ hF,hr⟩
def Av1{α:Type}:List (Ex×α)->Ex->Option α
 |[],_=>none
 |(e,x)::l,i=>cond (RL e i) (some x) (Av1 l i)
theorem KH{α β:Type}(f:α->β):∀(l:List (Nat×α))(r:Nat),D4 (l.map fun p=>(p.1,f p.2)) r=(D4 l r).map f
 |[],_=>rfl
 |(n,a)::l,r=>by
  show cond (Nat.beq n r) (some (f a)) (D4 (l.map fun p=>(p.1,f p.2)) r)=Option.map f (cond (Nat.beq n r) (some a) (D4 l r));rw[KH f l r];cases Nat.beq n r<;>rfl
theorem R7:∀(l:List (Ex×List Item))(i:Ex),(OO l i).map Ce=Av1 (l.map fun q=>(q.1,Ce q.2)) i
 |[],_=>rfl
 |(e,x)::l,i=>by
  show Option.map Ce (cond (RL e i) (some x) (OO l i))=cond (RL e i) (some (Ce x)) (Av1 (l.map fun q=>(q.1,Ce q.2)) i);rw[<-R7 l i];cases RL e i<;>rfl
theorem A2u{tab:List FAnn}{ext:FuncId->Bool}{X:TX}(a:FAnn)(h:Ny tab X.ann.g=some a)(e1:(a.heads.map fun p=>(p.1,Ce p.2))=X.ann.heads.map fun p=>(p.1,Ce p.2))
  (e2:(a.outs.map fun p=>(p.1,p.2.map fun q=>(q.1,Ce q.2)))=X.ann.outs.map fun p=>(p.1,p.2.map fun q=>(q.1,Ce q.2))) (e3:(a.joins.map fun p=>(p.1,Ce p.2))=X.ann.joins.map fun p=>(p.1,Ce p.2))
  (e4:Ce a.res=Ce X.ann.res) (e5:Ce a.params=Ce X.ann.params) (e6:Fi (Uu (CD a.res) a.e 0 (CD a.res))=Fi (Uu (CD X.ann.res) X.ann.e 0 (CD X.ann.res))):CfOK (MJ tab ext) X.ann.g X where
 live r an hr:=by
  have k:=congrArg (fun l=>D4 l r) e1;simp only[KH,hr,zd2]at k;cases hf:D4 a.heads r with
  |none=>rw[hf]at k;cases k
  |some l=>
   rw[hf]at k;simp only[MJ,h,za0,hf];exact zv k
 out r outs ex an hr he:=by
  have k:=congrArg (fun l=>D4 l r) e2;simp only[KH (fun q:List (Ex×List Item)=>q.map fun q=>(q.1,Ce q.2)),hr,zd2]at k;cases hf:D4 a.outs r with
  |none=>rw[hf]at k;cases k
  |some l=>
   rw[hf]at k;have k3:(l.map fun q=>(q.1,Ce q.2))=outs.map fun q=>(q.1,Ce q.2):=zv k
   have k2:(OO l ex).map Ce=(OO outs ex).map Ce:=by rw[R7,R7,k3]
   rw[he]at k2;simp only[MJ,h,za0,hf];cases hg:OO l ex with
   |none=>rw[hg]at k2;cases k2
   |some q=>rw[hg]at k2;exact zv k2
 join r an hr:=by
  have k:=congrArg (fun l=>D4 l r) e3;simp only[KH,hr,zd2]at k;cases hf:D4 a.joins r with
  |none=>rw[hf]at k;cases k
  |some l=>
   rw[hf]at k;simp only[MJ,h,za0,hf];exact congrArg some (zv k)
 nojoin r hr:=by
  have k:=congrArg (fun l=>D4 l r) e3;simp only[KH,hr,Option.map_none]at k;cases hf:D4 a.joins r with
  |none=>simp only[MJ,h,za0,hf]
  |some l=>rw[hf]at k;cases k
 res:=by simp only[MJ,h];rw[e4]
 par:=by simp only[MJ,h];rw[e5]
 rts:=by simp only[MJ,h];rw[e6]
def Ge (a0:Tq7):Option Tq7:=some (a0.1,a0.2.1,a0.2.2.1,a0.2.2.2)
def Q7:OKE:=fq Rj (fun x=>Ge x) [] Tryz.func39
def EF (s0:Tq9) (s1:List UInt8) (s2 s3:Int):Option (Tq9×(List UInt8)×Int×Int⊕Tq9×(List UInt8)×Int):=bif decide (s3<(s1.length:Int))then(AI s1 s3).bind fun x0=>bif((((UInt8.toNat x0):Nat):Int)==32)then(Kr s2 s3 (List.length s1)).bind fun x1=>(C3 16 1 s0 ([(List.drop x1.1 (List.take x1.2 s1))]:List (List UInt8))).bind fun x2=>some (Sum.inl (x2,s1,(zi zj (s3+1)),(zi zj (s3+1))))else some (Sum.inl (s0,s1,s2,(zi zj (s3+1))))else some (Sum.inr (s0,s1,s2))
def IE (a0:List UInt8):Option Tq9:=(Ad (fun(s:(Tq9×(List UInt8)×Int×Int))=>EF s.1 s.2.1 s.2.2.1 s.2.2.2) (([]:List (List UInt8)),a0,(0:Int),(0:Int))).bind fun x0=>(Kr x0.2.2 (x0.2.1.length:Int) (List.length x0.2.1)).bind fun x1=>(C3 16 1 x0.1 ([(List.drop x1.1 (List.take x1.2 x0.2.1))]:List (List UInt8))).bind fun x2=>some x2
def Ad8:OKE:=fq QQ (fun x=>IE x) [] Tryz.func95
def Da (s0:List UInt8) (s1 s2 s3:Int):Option ((List UInt8)×Int×Int×Int⊕(List UInt8)×Int×Int×Int):=bif decide (s3<(s0.length:Int))then bif decide (s3<(zi zj (s1+4)))then(AI s0 s3).bind fun x0=>bif decide ((((UInt8.toNat x0):Nat):Int)>=48)then(AI s0 s3).bind fun x1=>bif decide ((((UInt8.toNat x1):Nat):Int)<=57)then(AI s0 s3).bind fun x2=>some (Sum.inl (s0,s1,(zi zj ((zi zj ((10:Int)*s2))+(zi zj (zi .u8 ((((UInt8.toNat x2):Nat):Int)-48))))),(zi zj (s3+1))))else some (Sum.inr (s0,s1,s2,s3))else some (Sum.inr (s0,s1,s2,s3))else some (Sum.inr (s0,s1,s2,s3))else some (Sum.inr (s0,s1,s2,s3))
def LQ (a0:List UInt8) (a1:Int):Option (Int×Int):=(Ad (fun(s:((List UInt8)×Int×Int×Int))=>Da s.1 s.2.1 s.2.2.1 s.2.2.2) (a0,a1,(0:Int),a1)).bind fun x0=>bif(x0.2.2.2==x0.2.1)then some ((-(1:Int)),x0.2.1)else(AI x0.1 x0.2.1).bind fun x1=>bif((((UInt8.toNat x1):Nat):Int)==48)then bif decide (x0.2.2.2>(zi zj (x0.2.1+1)))then some ((-(1:Int)),x0.2.1)else some (x0.2.2.1,x0.2.2.2)else some (x0.2.2.1,x0.2.2.2)
def Ay9:OKE:=fq Wl (fun x=>LQ x.1 x.2) [] Tryz.func102
def GN (a0:List UInt8):Option (Int×Bool):=(bif decide ((a0.length:Int)>0)then(AI a0 0).bind fun x0=>some (Sum.inr (a0,((((UInt8.toNat x0):Nat):Int)==45)))else some (Sum.inr (a0,false))).bind fun x1=>Sum.elim (fun x2=>some x2) (fun x3=>(bif x3.2 then(Kr (1:Int) (x3.1.length:Int) (List.length x3.1)).bind fun x4=>some (Sum.inr (x3.2,(List.drop x4.1 (List.take x4.2 x3.1))))else some (Sum.inr (x3.2,x3.1))).bind fun x5=>Sum.elim (fun x6=>some x6) (fun x7=>(LQ x7.2 0).bind fun x8=>(bif decide (x8.1<0)then some (Sum.inl ((0:Int),false))else bif decide (x8.2<(x7.2.length:Int))then some (Sum.inl ((0:Int),false))else bif x7.1 then bif(x8.1==0)then some (Sum.inl ((0:Int),false))else some (Sum.inr (x7.1,x8.1))else some (Sum.inr (x7.1,x8.1))).bind fun x9=>Sum.elim (fun x10=>some x10) (fun x11=>bif x11.1 then some ((zi zj ((0:Int)-x11.2)),true)else some (x11.2,true)) x9) x5) x1
def Xi:OKE:=fq Nj (fun x=>GN x) [Ay9] Tryz.func31
def Ap (a0:Tq17) (a1:List Tq4) (a2:Tq4):Option ((List (List UInt8)×Int×Int)×List Tq4×List (Int×Int)×Int):=bif(a0.2.2 != (0:Int))then some ((a0.1,a0.2.1,a0.2.2),a1,a2,(0:Int))else bif(a0.2.1==(a0.1.length:Int))then some ((a0.1,a0.2.1,(3:Int)),a1,a2,(0:Int))else(AI a0.1 a0.2.1).bind fun x0=>(GN x0).bind fun x1=>bif(!x1.2)then some ((a0.1,a0.2.1,(3:Int)),a1,a2,(0:Int))else some ((a0.1,(zi zj (a0.2.1+1)),a0.2.2),a1,a2,x1.1)
def Us:OKE:=fq MB (fun x=>Ap x.1 x.2.1 x.2.2) [Xi] Tryz.func161
def BP (a0 a1 a2:Int):Option Bool:=bif decide (a0>=a1)then some (decide (a0<=a2))else some false
def KP:OKE:=fq Am5 (fun x=>BP x.1 x.2.1 x.2.2) [] Tryz.func90
def FJ (a0:Int×Int):Option Bool:=(BP a0.1 (-(1000:Int)) 1000).bind fun x0=>bif x0 then(BP a0.2 (-(1000:Int)) 1000).bind fun x1=>some x1 else some false
def Vt:OKE:=fq VB (fun x=>FJ x) [KP] Tryz.func166
def Az (a0:Tq17) (a1:List Tq4) (a2:Tq4) (a3:Int×Int):Option ((List (List UInt8)×Int×Int)×List Tq4×List (Int×Int)):=bif(a0.2.2 != (0:Int))then some ((a0.1,a0.2.1,a0.2.2),a1,a2)else(FJ (a3.1,a3.2)).bind fun x0=>bif(!x0)then some ((a0.1,(zi zj (a0.2.1-1)),(6:Int)),a1,a2)else(C3 16 2 a2 ([(a3.1,a3.2)]:List (Int×Int))).bind fun x1=>some ((a0.1,a0.2.1,a0.2.2),a1,x1)
def Vq:OKE:=fq MU (fun x=>Az x.1 x.2.1 x.2.2.1 x.2.2.2) [Vt] Tryz.func162
def C2 (s0:Tq17) (s1:Tq9) (s2:List Tq4) (s3:Tq4) (s4:List UInt8) (s5 s6:Bool) (s7 s8:Int):Option (Tq17×Tq9×(List Tq4)×Tq4×(List UInt8)×Bool×Bool×Int×Int⊕Tq17×(List Tq4)×Tq4×(List UInt8)×Bool×Bool):=bif decide (s8<s7)then(A1 s8 (List.length s1)).bind fun x0=>(AX s1 x0).bind fun x1=>bif s6 then some (Sum.inl ((s0.1,s0.2.1,s0.2.2),s1,s2,s3,s4,s5,true,s7,(zi zj (s8+1))))else some (Sum.inl ((s0.1,s0.2.1,s0.2.2),s1,s2,s3,s4,s5,(x1==s4),s7,(zi zj (s8+1))))else some (Sum.inr ((s0.1,s0.2.1,s0.2.2),s2,s3,s4,s5,s6))
def As (a0:Tq17) (a1:List Tq4) (a2:Tq4):Option ((List (List UInt8)×Int×Int)×List Tq4×List (Int×Int)):=(AI a0.1 a0.2.1).bind fun x0=>(Ad (fun(s:(Tq17×Tq9×(List Tq4)×Tq4×(List UInt8)×Bool×Bool×Int×Int))=>C2 s.1 s.2.1 s.2.2.1 s.2.2.2.1 s.2.2.2.2.1 s.2.2.2.2.2.1 s.2.2.2.2.2.2.1 s.2.2.2.2.2.2.2.1 s.2.2.2.2.2.2.2.2) ((a0.1,a0.2.1,a0.2.2),([([77]:List UInt8),([76]:List UInt8),([108]:List UInt8),([72]:List UInt8),([104]:List UInt8),([86]:List UInt8),([118]:List UInt8),([90]:List UInt8)]:List (List UInt8)),a1,a2,x0,decide ((a2.length:Int)>0),false,((8:Nat):Int),(0:Int))).bind fun x1=>(bif(!x1.2.2.2.2.2)then some (Sum.inr ((x1.1.1,x1.1.2.1,(2:Int)),x1.2.1,x1.2.2.1,x1.2.2.2.1,x1.2.2.2.2.1))else bif(x1.2.2.2.2.1==(x1.2.2.2.1==([77]:List UInt8)))then some (Sum.inr ((x1.1.1,x1.1.2.1,(4:Int)),x1.2.1,x1.2.2.1,x1.2.2.2.1,x1.2.2.2.2.1))else bif(x1.2.2.2.1==([77]:List UInt8))then bif((x1.2.1.length:Int)==4)then bif((x1.2.1.length:Int)==4)then some (Sum.inr ((x1.1.1,x1.1.2.1,(5:Int)),x1.2.1,x1.2.2.1,x1.2.2.2.1,x1.2.2.2.2.1))else some (Sum.inr ((x1.1.1,x1.1.2.1,x1.1.2.2),x1.2.1,x1.2.2.1,x1.2.2.2.1,x1.2.2.2.2.1))else bif(x1.2.2.2.1==([90]:List UInt8))then bif decide ((x1.2.2.1.length:Int)<3)then bif decide ((x1.2.2.1.length:Int)<3)then some (Sum.inr ((x1.1.1,x1.1.2.1,(5:Int)),x1.2.1,x1.2.2.1,x1.2.2.2.1,x1.2.2.2.2.1))else some (Sum.inr ((x1.1.1,x1.1.2.1,x1.1.2.2),x1.2.1,x1.2.2.1,x1.2.2.2.1,x1.2.2.2.2.1))else bif(!(x1.2.2.2.1==([90]:List UInt8)))then bif((x1.2.2.1.length:Int)==12)then some (Sum.inr ((x1.1.1,x1.1.2.1,(5:Int)),x1.2.1,x1.2.2.1,x1.2.2.2.1,x1.2.2.2.2.1))else some (Sum.inr ((x1.1.1,x1.1.2.1,x1.1.2.2),x1.2.1,x1.2.2.1,x1.2.2.2.1,x1.2.2.2.2.1))else some (Sum.inr ((x1.1.1,x1.1.2.1,x1.1.2.2),x1.2.1,x1.2.2.1,x1.2.2.2.1,x1.2.2.2.2.1))else bif(!(x1.2.2.2.1==([90]:List UInt8)))then bif((x1.2.2.1.length:Int)==12)then some (Sum.inr ((x1.1.1,x1.1.2.1,(5:Int)),x1.2.1,x1.2.2.1,x1.2.2.2.1,x1.2.2.2.2.1))else some (Sum.inr ((x1.1.1,x1.1.2.1,x1.1.2.2),x1.2.1,x1.2.2.1,x1.2.2.2.1,x1.2.2.2.2.1))else some (Sum.inr ((x1.1.1,x1.1.2.1,x1.1.2.2),x1.2.1,x1.2.2.1,x1.2.2.2.1,x1.2.2.2.2.1))else bif(x1.2.2.2.1==([90]:List UInt8))then bif decide ((x1.2.2.1.length:Int)<3)then bif decide ((x1.2.2.1.length:Int)<3)then some (Sum.inr ((x1.1.1,x1.1.2.1,(5:Int)),x1.2.1,x1.2.2.1,x1.2.2.2.1,x1.2.2.2.2.1))else some (Sum.inr ((x1.1.1,x1.1.2.1,x1.1.2.2),x1.2.1,x1.2.2.1,x1.2.2.2.1,x1.2.2.2.2.1))else bif(!(x1.2.2.2.1==([90]:List UInt8)))then bif((x1.2.2.1.length:Int)==12)then some (Sum.inr ((x1.1.1,x1.1.2.1,(5:Int)),x1.2.1,x1.2.2.1,x1.2.2.2.1,x1.2.2.2.2.1))else some (Sum.inr ((x1.1.1,x1.1.2.1,x1.1.2.2),x1.2.1,x1.2.2.1,x1.2.2.2.1,x1.2.2.2.2.1))else some (Sum.inr ((x1.1.1,x1.1.2.1,x1.1.2.2),x1.2.1,x1.2.2.1,x1.2.2.2.1,x1.2.2.2.2.1))else bif(!(x1.2.2.2.1==([90]:List UInt8)))then bif((x1.2.2.1.length:Int)==12)then some (Sum.inr ((x1.1.1,x1.1.2.1,(5:Int)),x1.2.1,x1.2.2.1,x1.2.2.2.1,x1.2.2.2.2.1))else some (Sum.inr ((x1.1.1,x1.1.2.1,x1.1.2.2),x1.2.1,x1.2.2.1,x1.2.2.2.1,x1.2.2.2.2.1))else some (Sum.inr ((x1.1.1,x1.1.2.1,x1.1.2.2),x1.2.1,x1.2.2.1,x1.2.2.2.1,x1.2.2.2.2.1))).bind fun x2=>Sum.elim (fun x3=>some x3) (fun x4=>bif(x4.1.2.2 != (0:Int))then some ((x4.1.1,x4.1.2.1,x4.1.2.2),x4.2.1,x4.2.2.1)else(bif x4.2.2.2.2 then(A1 (zi zj ((x4.2.2.1.length:Int)-1)) (List.length x4.2.2.1)).bind fun x5=>(AX x4.2.2.1 x5).bind fun x6=>some (Sum.inr ((x4.1.1,(zi zj (x4.1.2.1+1)),x4.1.2.2),(x6.1,x6.2),x4.2.1,x4.2.2.1,x4.2.2.2.1))else some (Sum.inr ((x4.1.1,(zi zj (x4.1.2.1+1)),x4.1.2.2),((0:Int),(0:Int)),x4.2.1,x4.2.2.1,x4.2.2.2.1))).bind fun x7=>Sum.elim (fun x8=>some x8) (fun x9=>bif(x9.2.2.2.2==([77]:List UInt8))then bif(x9.2.2.2.2==([77]:List UInt8))then(Ap (x9.1.1,x9.1.2.1,x9.1.2.2) x9.2.2.1 x9.2.2.2.1).bind fun x10=>(Ap (x10.1.1,x10.1.2.1,x10.1.2.2) x10.2.1 x10.2.2.1).bind fun x11=>(Az (x11.1.1,x11.1.2.1,x11.1.2.2) x11.2.1 x11.2.2.1 (x10.2.2.2,x11.2.2.2)).bind fun x12=>some ((x12.1.1,x12.1.2.1,x12.1.2.2),x12.2.1,x12.2.2)else bif(x9.2.2.2.2==([108]:List UInt8))then(Ap (x9.1.1,x9.1.2.1,x9.1.2.2) x9.2.2.1 x9.2.2.2.1).bind fun x13=>(Ap (x13.1.1,x13.1.2.1,x13.1.2.2) x13.2.1 x13.2.2.1).bind fun x14=>(Az (x14.1.1,x14.1.2.1,x14.1.2.2) x14.2.1 x14.2.2.1 ((zi zj (x9.2.1.1+x13.2.2.2)),(zi zj (x9.2.1.2+x14.2.2.2)))).bind fun x15=>some ((x15.1.1,x15.1.2.1,x15.1.2.2),x15.2.1,x15.2.2)else bif(x9.2.2.2.2==([72]:List UInt8))then(Ap (x9.1.1,x9.1.2.1,x9.1.2.2) x9.2.2.1 x9.2.2.2.1).bind fun x16=>(Az (x16.1.1,x16.1.2.1,x16.1.2.2) x16.2.1 x16.2.2.1 (x16.2.2.2,x9.2.1.2)).bind fun x17=>some ((x17.1.1,x17.1.2.1,x17.1.2.2),x17.2.1,x17.2.2)else bif(x9.2.2.2.2==([104]:List UInt8))then(Ap (x9.1.1,x9.1.2.1,x9.1.2.2) x9.2.2.1 x9.2.2.2.1).bind fun x18=>(Az (x18.1.1,x18.1.2.1,x18.1.2.2) x18.2.1 x18.2.2.1 ((zi zj (x9.2.1.1+x18.2.2.2)),x9.2.1.2)).bind fun x19=>some ((x19.1.1,x19.1.2.1,x19.1.2.2),x19.2.1,x19.2.2)else bif(x9.2.2.2.2==([86]:List UInt8))then(Ap (x9.1.1,x9.1.2.1,x9.1.2.2) x9.2.2.1 x9.2.2.2.1).bind fun x20=>(Az (x20.1.1,x20.1.2.1,x20.1.2.2) x20.2.1 x20.2.2.1 (x9.2.1.1,x20.2.2.2)).bind fun x21=>some ((x21.1.1,x21.1.2.1,x21.1.2.2),x21.2.1,x21.2.2)else bif(x9.2.2.2.2==([118]:List UInt8))then(Ap (x9.1.1,x9.1.2.1,x9.1.2.2) x9.2.2.1 x9.2.2.2.1).bind fun x22=>(Az (x22.1.1,x22.1.2.1,x22.1.2.2) x22.2.1 x22.2.2.1 (x9.2.1.1,(zi zj (x9.2.1.2+x22.2.2.2)))).bind fun x23=>some ((x23.1.1,x23.1.2.1,x23.1.2.2),x23.2.1,x23.2.2)else(C3 24 1 x9.2.2.1 ([x9.2.2.2.1]:List Tq4)).bind fun x24=>some ((x9.1.1,x9.1.2.1,x9.1.2.2),x24,([]:List (Int×Int)))else bif(x9.2.2.2.2==([76]:List UInt8))then(Ap (x9.1.1,x9.1.2.1,x9.1.2.2) x9.2.2.1 x9.2.2.2.1).bind fun x25=>(Ap (x25.1.1,x25.1.2.1,x25.1.2.2) x25.2.1 x25.2.2.1).bind fun x26=>(Az (x26.1.1,x26.1.2.1,x26.1.2.2) x26.2.1 x26.2.2.1 (x25.2.2.2,x26.2.2.2)).bind fun x27=>some ((x27.1.1,x27.1.2.1,x27.1.2.2),x27.2.1,x27.2.2)else bif(x9.2.2.2.2==([108]:List UInt8))then(Ap (x9.1.1,x9.1.2.1,x9.1.2.2) x9.2.2.1 x9.2.2.2.1).bind fun x28=>(Ap (x28.1.1,x28.1.2.1,x28.1.2.2) x28.2.1 x28.2.2.1).bind fun x29=>(Az (x29.1.1,x29.1.2.1,x29.1.2.2) x29.2.1 x29.2.2.1 ((zi zj (x9.2.1.1+x28.2.2.2)),(zi zj (x9.2.1.2+x29.2.2.2)))).bind fun x30=>some ((x30.1.1,x30.1.2.1,x30.1.2.2),x30.2.1,x30.2.2)else bif(x9.2.2.2.2==([72]:List UInt8))then(Ap (x9.1.1,x9.1.2.1,x9.1.2.2) x9.2.2.1 x9.2.2.2.1).bind fun x31=>(Az (x31.1.1,x31.1.2.1,x31.1.2.2) x31.2.1 x31.2.2.1 (x31.2.2.2,x9.2.1.2)).bind fun x32=>some ((x32.1.1,x32.1.2.1,x32.1.2.2),x32.2.1,x32.2.2)else bif(x9.2.2.2.2==([104]:List UInt8))then(Ap (x9.1.1,x9.1.2.1,x9.1.2.2) x9.2.2.1 x9.2.2.2.1).bind fun x33=>(Az (x33.1.1,x33.1.2.1,x33.1.2.2) x33.2.1 x33.2.2.1 ((zi zj (x9.2.1.1+x33.2.2.2)),x9.2.1.2)).bind fun x34=>some ((x34.1.1,x34.1.2.1,x34.1.2.2),x34.2.1,x34.2.2)else bif(x9.2.2.2.2==([86]:List UInt8))then(Ap (x9.1.1,x9.1.2.1,x9.1.2.2) x9.2.2.1 x9.2.2.2.1).bind fun x35=>(Az (x35.1.1,x35.1.2.1,x35.1.2.2) x35.2.1 x35.2.2.1 (x9.2.1.1,x35.2.2.2)).bind fun x36=>some ((x36.1.1,x36.1.2.1,x36.1.2.2),x36.2.1,x36.2.2)else bif(x9.2.2.2.2==([118]:List UInt8))then(Ap (x9.1.1,x9.1.2.1,x9.1.2.2) x9.2.2.1 x9.2.2.2.1).bind fun x37=>(Az (x37.1.1,x37.1.2.1,x37.1.2.2) x37.2.1 x37.2.2.1 (x9.2.1.1,(zi zj (x9.2.1.2+x37.2.2.2)))).bind fun x38=>some ((x38.1.1,x38.1.2.1,x38.1.2.2),x38.2.1,x38.2.2)else(C3 24 1 x9.2.2.1 ([x9.2.2.2.1]:List Tq4)).bind fun x39=>some ((x9.1.1,x9.1.2.1,x9.1.2.2),x39,([]:List (Int×Int)))) x7) x2
def R1:OKE:=fq K6 (fun x=>As x.1 x.2.1 x.2.2) [Us,Vq] Tryz.func96
def C9 (s0:Tq17) (s1:List Tq4) (s2:Tq4):Option (Tq17×(List Tq4)×Tq4⊕Tq17×(List Tq4)×Tq4):=bif decide (s0.2.1<(s0.1.length:Int))then bif(s0.2.2==0)then(As (s0.1,s0.2.1,s0.2.2) s1 s2).bind fun x0=>some (Sum.inl ((x0.1.1,x0.1.2.1,x0.1.2.2),x0.2.1,x0.2.2))else some (Sum.inr ((s0.1,s0.2.1,s0.2.2),s1,s2))else some (Sum.inr ((s0.1,s0.2.1,s0.2.2),s1,s2))
def HA (a0:List UInt8):Option (List Tq4×Int×Int×Bool):=bif((a0.length:Int)==0)then some (([]:List Tq4),(1:Int),(0:Int),false)else bif decide ((a0.length:Int)>400)then some (([]:List Tq4),(1:Int),(0:Int),false)else(IE a0).bind fun x0=>(Ad (fun(s:(Tq17×(List Tq4)×Tq4))=>C9 s.1 s.2.1 s.2.2) ((x0,(0:Int),(0:Int)),([]:List Tq4),([]:List (Int×Int)))).bind fun x1=>(bif(x1.1.2.2==0)then bif decide ((x1.2.2.length:Int)>0)then some (Sum.inr ((x1.1.1,x1.1.2.1,(7:Int)),x1.2.1,x1.2.2))else some (Sum.inr ((x1.1.1,x1.1.2.1,x1.1.2.2),x1.2.1,x1.2.2))else some (Sum.inr ((x1.1.1,x1.1.2.1,x1.1.2.2),x1.2.1,x1.2.2))).bind fun x2=>Sum.elim (fun x3=>some x3) (fun x4=>bif(x4.1.2.2 != (0:Int))then some (([]:List Tq4),x4.1.2.2,x4.1.2.1,false)else some (x4.2.1,(0:Int),(0:Int),true)) x2
def XO:OKE:=fq ON (fun x=>HA x) [Ad8,R1] Tryz.func25
def DB (a0:Tq7):Option Bool:=(BP a0.1 (-(20:Int)) 20).bind fun x0=>bif x0 then(BP a0.2.1 (-(20:Int)) 20).bind fun x1=>bif x1 then(BP a0.2.2.1 1 8).bind fun x2=>bif x2 then(BP a0.2.2.2 1 8).bind fun x3=>some x3 else some false else some false else some false
def MV:OKE:=fq NC (fun x=>DB x) [KP] Tryz.func117
def J7 (s0:List Int):Option ((List Int)⊕(List Int)):=bif decide ((s0.length:Int)>0)then(AI s0 (zi zj ((s0.length:Int)-1))).bind fun x0=>bif(x0==0)then(Kr (0:Int) (zi zj ((s0.length:Int)-1)) (List.length s0)).bind fun x1=>some (Sum.inl (List.drop x1.1 (List.take x1.2 s0)))else some (Sum.inr s0)else some (Sum.inr s0)
def Cx (a0:List Int):Option (List Int):=(Ad (fun(s:List Int)=>J7 s) a0).bind fun x0=>bif(Y9 (List.length x0) 8 1)then some x0 else none
def Ho:OKE:=fq Zl (fun x=>Cx x) [] Tryz.func188
def Bq (a0:Bool) (a1:List Int):Option (List Int×Bool):=(Cx a1).bind fun x0=>bif a0 then some (x0,decide ((x0.length:Int)>0))else some (x0,false)
def EH:OKE:=fq Vv (fun x=>Bq x.1 x.2) [Ho] Tryz.func133
def J3 (s0:Tq5) (s1:List Int) (s2 s3:Int):Option (Tq5×(List Int)×Int×Int⊕Tq5×(List Int)×Int):=bif(s3 != (0:Int))then bif decide ((Int.tmod s3 65536)<0)then(C3 8 1 s1 ([(zi zj ((0:Int)-(Int.tmod s3 65536)))]:List Int)).bind fun x0=>some (Sum.inl ((s0.1,s0.2),x0,s2,(zi zj (Int.tdiv s3 65536))))else(C3 8 1 s1 ([(Int.tmod s3 65536)]:List Int)).bind fun x1=>some (Sum.inl ((s0.1,s0.2),x1,s2,(zi zj (Int.tdiv s3 65536))))else some (Sum.inr ((s0.1,s0.2),s1,s2))
def D6 (a0:Int):Option Tq11:=(Ad (fun(s:(Tq5×(List Int)×Int×Int))=>J3 s.1 s.2.1 s.2.2.1 s.2.2.2) ((false,([]:List Int)),([]:List Int),a0,a0)).bind fun x0=>(Bq (decide (x0.2.2<0)) x0.2.1).bind fun x1=>some (x1.2,x1.1)
def Ox:OKE:=fq Y1 (fun x=>D6 x) [EH] Tryz.func72
def Cw (a0:Int):Option Tq6:=(D6 a0).bind fun x0=>(D6 1).bind fun x1=>some (x0.1,x0.2,x1.1,x1.2)
def Od:OKE:=fq Y7 (fun x=>Cw x) [Ox] Tryz.func118
def HK (s0:Tq4) (s1 s2:Int):Option (Tq4×Int×Int⊕(Unit⊕Bool)):=bif decide (s2<s1)then(AI s0 s2).bind fun x0=>(FJ (x0.1,x0.2)).bind fun x1=>bif(!x1)then some (Sum.inr (Sum.inr false))else some (Sum.inl (s0,s1,(zi zj (s2+1))))else some (Sum.inr (Sum.inl ()))
def OF (a0:Tq4):Option Bool:=(Ad (fun(s:Tq4×Int×Int)=>HK s.1 s.2.1 s.2.2) (a0,(a0.length:Int),(0:Int))).bind fun x0=>Sum.elim (fun x1=>some true) (fun x2=>some x2) x0
def AX1:OKE:=fq Y8 (fun x=>OF x) [Vt] Tryz.func152
def OC (a0:Tq4):Option Bool:=(BP (a0.length:Int) 3 12).bind fun x0=>bif x0 then(OF a0).bind fun x1=>some x1 else some false
def AU2:OKE:=fq Zb (fun x=>OC x) [KP,AX1] Tryz.func89
def I1 (a0:Int×Int):Option Tq10:=(Cw a0.1).bind fun x0=>(Cw a0.2).bind fun x1=>some (x0.1,x0.2.1,x0.2.2.1,x0.2.2.2,x1.1,x1.2.1,x1.2.2.1,x1.2.2.2)
def YO:OKE:=fq Zx (fun x=>I1 x) [Od] Tryz.func176
def Dh (s0:List Tq0) (s1:Tq4) (s2 s3:Int):Option ((List Tq0)×Tq4×Int×Int⊕(List Tq0)):=bif decide (s3<s2)then(AI s1 s3).bind fun x0=>(I1 (x0.1,x0.2)).bind fun x1=>(C3 128 8 s0 ([(((x1.1,x1.2.1),x1.2.2.1,x1.2.2.2.1),(x1.2.2.2.2.1,x1.2.2.2.2.2.1),x1.2.2.2.2.2.2.1,x1.2.2.2.2.2.2.2)]:List Tq0)).bind fun x2=>some (Sum.inl (x2,s1,s2,(zi zj (s3+1))))else some (Sum.inr s0)
def L8 (a0:Tq4):Option (List Tq8×Bool):=(OC a0).bind fun x0=>bif(!x0)then some (([]:List Tq0),false)else(Ad (fun(s:((List Tq0)×Tq4×Int×Int))=>Dh s.1 s.2.1 s.2.2.1 s.2.2.2) (([]:List Tq0),a0,(a0.length:Int),(0:Int))).bind fun x1=>some (x1,true)
def AE1:OKE:=fq Wp (fun x=>L8 x) [AU2,YO] Tryz.func119
def Fs (s0:Tq5) (s1:List Int) (s2 s3:Int):Option (Tq5×(List Int)×Int×Int⊕(Bool×(List Int)⊕Bool)):=bif decide (s3<s2)then(AI s1 s3).bind fun x0=>(BP x0 0 65535).bind fun x1=>bif(!x1)then some (Sum.inr (Sum.inr false))else some (Sum.inl ((s0.1,s0.2),s1,s2,(zi zj (s3+1))))else some (Sum.inr (Sum.inl (s0.1,s0.2)))
def F1 (a0:Tq5):Option Bool:=(Ad (fun(s:(Tq5×(List Int)×Int×Int))=>Fs s.1 s.2.1 s.2.2.1 s.2.2.2) ((a0.1,a0.2),a0.2,(a0.2.length:Int),(0:Int))).bind fun x0=>Sum.elim (fun x1=>bif((x1.2.length:Int)==0)then some (!x1.1)else bif decide ((x1.2.length:Int)<=40)then(AI x1.2 (zi zj ((x1.2.length:Int)-1))).bind fun x2=>some (x2 != (0:Int))else some false) (fun x3=>some x3) x0
def T7:OKE:=fq Uj (fun x=>F1 x) [KP] Tryz.func216
def Di (s0 s1:List Int) (s2:Int):Option ((List Int)×(List Int)×Int⊕(Unit⊕Int)):=bif decide (s2>=0)then(AI s0 s2).bind fun x0=>(AI s1 s2).bind fun x1=>bif decide (x0<x1)then some (Sum.inr (Sum.inr (-(1:Int))))else(AI s0 s2).bind fun x2=>(AI s1 s2).bind fun x3=>bif decide (x2>x3)then some (Sum.inr (Sum.inr (1:Int)))else some (Sum.inl (s0,s1,(zi zj (s2-1))))else some (Sum.inr (Sum.inl ()))
def Ch (a0 a1:List Int):Option Int:=bif((a0.length:Int) != (a1.length:Int))then bif decide ((a0.length:Int)<(a1.length:Int))then some (-(1:Int))else some (1:Int)else(Ad (fun(s:((List Int)×(List Int)×Int))=>Di s.1 s.2.1 s.2.2) (a0,a1,(zi zj ((a0.length:Int)-1)))).bind fun x0=>Sum.elim (fun x1=>some (0:Int)) (fun x2=>some x2) x0
def Lf:OKE:=fq YX (fun x=>Ch x.1 x.2) [] Tryz.func217
def Fv (s0 s1:List Int) (s2 s3 s4:Int):Option ((List Int)×(List Int)×Int×Int×Int⊕(List Int)×Int):=bif decide (s4>=0)then(AI s1 s4).bind fun x0=>bif(s2==0)then none else(A1 s4 (List.length s0)).bind fun x1=>(AX s0 x1).bind fun x2=>bif(s2==0)then none else some (Sum.inl ((List.set s0 x1 (zi zj (Int.tdiv (zi zj ((zi zj (s3*65536))+x0)) s2))),s1,s2,(Int.tmod (zi zj ((zi zj (s3*65536))+x0)) s2),(zi zj (s4-1))))else some (Sum.inr (s0,s3))
def J6 (a0:List Int) (a1:Int):Option (List Int×List Int):=(OM (a0.length:Int) 8 1).bind fun x0=>(Ad (fun(s:Tq14)=>Fv s.1 s.2.1 s.2.2.1 s.2.2.2.1 s.2.2.2.2) ((List.replicate x0 (0:Int)),a0,a1,(0:Int),(zi zj ((a0.length:Int)-1)))).bind fun x1=>(Cx x1.1).bind fun x2=>(Cx ([x1.2]:List Int)).bind fun x3=>some (x2,x3)
def Am6:OKE:=fq Tj (fun x=>J6 x.1 x.2) [Ho] Tryz.func239
def Mv (s0:List Int) (s1:Int) (s2:List Int) (s3 s4:Int):Option ((List Int)×Int×(List Int)×Int×Int⊕(List Int)):=bif decide (s4<s3)then(AI s2 s4).bind fun x0=>bif decide ((zi zk s1)<0)then none else(A1 s4 (List.length s0)).bind fun x1=>(AX s0 x1).bind fun x2=>(A1 s4 (List.length s0)).bind fun x3=>(AX s0 x3).bind fun x4=>(A1 (zi zj (s4+1)) (List.length (List.set s0 x3 (orI Go.IntKind.i64 x2 (Int.tmod (SO Go.IntKind.i64 x0 (zi zk s1)) 65536))))).bind fun x5=>(AX (List.set s0 x3 (orI Go.IntKind.i64 x2 (Int.tmod (SO Go.IntKind.i64 x0 (zi zk s1)) 65536))) x5).bind fun x6=>some (Sum.inl ((List.set (List.set s0 x3 (orI Go.IntKind.i64 x2 (Int.tmod (SO Go.IntKind.i64 x0 (zi zk s1)) 65536))) x5 (zi zj (Int.tdiv (SO Go.IntKind.i64 x0 (zi zk s1)) 65536))),s1,s2,s3,(zi zj (s4+1))))else some (Sum.inr s0)
def NM (a0:List Int) (a1:Int):Option (List Int):=(OM (zi zj ((a0.length:Int)+1)) 8 1).bind fun x0=>(Ad (fun(s:((List Int)×Int×(List Int)×Int×Int))=>Mv s.1 s.2.1 s.2.2.1 s.2.2.2.1 s.2.2.2.2) ((List.replicate x0 (0:Int)),a1,a0,(a0.length:Int),(0:Int))).bind fun x1=>some x1
def A2t:OKE:=fq Ap5 (fun x=>NM x.1 x.2) [] Tryz.func240
def D7 (s0 s1:List Int) (s2 s3:Int) (s4 s5:Int):Option ((List Int)×(List Int)×Int×Int×Int×Int⊕Int):=(bif decide (s5<65536)then bif decide (s4>=65536)then some (Sum.inr (s0,s1,s2,s3,s4,s5))else(AI s1 (zi zj (s3-2))).bind fun x0=>(AI s0 (zi zj ((zi zj (s2+s3))-2))).bind fun x1=>bif decide ((zi zj (s4*x0))>(zi zj ((zi zj (s5*65536))+x1)))then some (Sum.inr (s0,s1,s2,s3,s4,s5))else some (Sum.inl (Sum.inr s4))else some (Sum.inl (Sum.inr s4))).bind fun x2=>Sum.elim (fun x3=>some x3) (fun x4=>(AI x4.2.1 (zi zj (x4.2.2.2.1-1))).bind fun x5=>some (Sum.inl (x4.1,x4.2.1,x4.2.2.1,x4.2.2.2.1,(zi zj (x4.2.2.2.2.1-1)),(zi zj (x4.2.2.2.2.2+x5))))) x2
def Kd (a0 a1:List Int) (a2:Int):Option Int:=(AI a0 (zi zj (a2+(a1.length:Int)))).bind fun x0=>(AI a0 (zi zj ((zi zj (a2+(a1.length:Int)))-1))).bind fun x1=>(AI a1 (zi zj ((a1.length:Int)-1))).bind fun x2=>bif(x2==0)then none else(AI a1 (zi zj ((a1.length:Int)-1))).bind fun x3=>bif(x3==0)then none else(Ad (fun(s:((List Int)×(List Int)×Int×Int×Int×Int))=>D7 s.1 s.2.1 s.2.2.1 s.2.2.2.1 s.2.2.2.2.1 s.2.2.2.2.2) (a0,a1,a2,(a1.length:Int),(zi zj (Int.tdiv (zi zj ((zi zj (x0*65536))+x1)) x2)),(Int.tmod (zi zj ((zi zj (x0*65536))+x1)) x3))).bind fun x4=>some x4
def At4:OKE:=fq SR (fun x=>Kd x.1 x.2.1 x.2.2) [] Tryz.func241
def Ds (a0:List Int) (a1:Int):Option Int:=bif decide (a1<(a0.length:Int))then(AI a0 a1).bind fun x0=>some x0 else some (0:Int)
def Hq:OKE:=fq Vc (fun x=>Ds x.1 x.2) [] Tryz.func276
def IC (s0 s1:List Int) (s2 s3:Int) (s4 s5:Int):Option ((List Int)×(List Int)×Int×Int×Int×Int⊕(List Int)×Int):=bif decide (s5<=(s1.length:Int))then(A1 (zi zj (s2+s5)) (List.length s0)).bind fun x0=>(AX s0 x0).bind fun x1=>(Ds s1 s5).bind fun x2=>(bif decide ((zi zj ((zi zj (x1-(zi zj (s3*x2))))-s4))<0)then some (Sum.inr (s0,s1,s2,s3,(zi zj (Int.tdiv (zi zj ((zi zj ((zi zj ((0:Int)-(zi zj ((zi zj (x1-(zi zj (s3*x2))))-s4))))+65536))-1)) 65536)),s5,(zi zj ((zi zj ((zi zj (x1-(zi zj (s3*x2))))-s4))+(zi zj ((zi zj (Int.tdiv (zi zj ((zi zj ((zi zj ((0:Int)-(zi zj ((zi zj (x1-(zi zj (s3*x2))))-s4))))+65536))-1)) 65536))*65536))))))else some (Sum.inr (s0,s1,s2,s3,(0:Int),s5,(zi zj ((zi zj (x1-(zi zj (s3*x2))))-s4))))).bind fun x3=>Sum.elim (fun x4=>some x4) (fun x5=>(A1 (zi zj (x5.2.2.1+x5.2.2.2.2.2.1)) (List.length x5.1)).bind fun x6=>(AX x5.1 x6).bind fun x7=>some (Sum.inl ((List.set x5.1 x6 x5.2.2.2.2.2.2),x5.2.1,x5.2.2.1,x5.2.2.2.1,x5.2.2.2.2.1,(zi zj (x5.2.2.2.2.2.1+1))))) x3 else some (Sum.inr (s0,s4))
def LS (a0 a1:List Int) (a2 a3:Int):Option (List Int×Int):=(Ad (fun(s:((List Int)×(List Int)×Int×Int×Int×Int))=>IC s.1 s.2.1 s.2.2.1 s.2.2.2.1 s.2.2.2.2.1 s.2.2.2.2.2) (a0,a1,a2,a3,(0:Int),(0:Int))).bind fun x0=>some (x0.1,x0.2)
def Av6:OKE:=fq WO (fun x=>LS x.1 x.2.1 x.2.2.1 x.2.2.2) [Hq] Tryz.func242
def Iw (s0 s1:List Int) (s2 s3 s4:Int):Option Tq19:=bif decide (s4<=(s1.length:Int))then(A1 (zi zj (s2+s4)) (List.length s0)).bind fun x0=>(AX s0 x0).bind fun x1=>(Ds s1 s4).bind fun x2=>(A1 (zi zj (s2+s4)) (List.length s0)).bind fun x3=>(AX s0 x3).bind fun x4=>some (Sum.inl ((List.set s0 x3 (Int.tmod (zi zj ((zi zj (x1+x2))+s3)) 65536)),s1,s2,(zi zj (Int.tdiv (zi zj ((zi zj (x1+x2))+s3)) 65536)),(zi zj (s4+1))))else some (Sum.inr s0)
def Lr (a0 a1:List Int) (a2:Int):Option (List Int):=(Ad (fun(s:Tq14)=>Iw s.1 s.2.1 s.2.2.1 s.2.2.2.1 s.2.2.2.2) (a0,a1,a2,(0:Int),(0:Int))).bind fun x0=>some x0
def AD8:OKE:=fq Vy (fun x=>Lr x.1 x.2.1 x.2.2) [Hq] Tryz.func243
def II (s0 s1:List Int) (s2 s3 s4:Int):Option Tq19:=bif decide (s4<s3)then(AI s1 s4).bind fun x0=>(Ds s1 (zi zj (s4+1))).bind fun x1=>bif decide ((zi zk s2)<0)then none else(A1 s4 (List.length s0)).bind fun x2=>(AX s0 x2).bind fun x3=>some (Sum.inl ((List.set s0 x2 (Int.tmod (AY8 Go.IntKind.i64 (orI Go.IntKind.i64 x0 (SO Go.IntKind.i64 x1 (16:Int))) (zi zk s2)) 65536)),s1,s2,s3,(zi zj (s4+1))))else some (Sum.inr s0)
def Lw (a0:List Int) (a1:Int):Option (List Int):=(OM (a0.length:Int) 8 1).bind fun x0=>(Ad (fun(s:Tq14)=>II s.1 s.2.1 s.2.2.1 s.2.2.2.1 s.2.2.2.2) ((List.replicate x0 (0:Int)),a0,a1,(a0.length:Int),(0:Int))).bind fun x1=>(Cx x1).bind fun x2=>some x2
def Av2:OKE:=fq WF (fun x=>Lw x.1 x.2) [Hq,Ho] Tryz.func244
def Dx (s0 s1:List Int) (s2:Int):Option ((List Int)×(List Int)×Int⊕(List Int)×(List Int)×Int):=(AI s1 (zi zj ((s1.length:Int)-1))).bind fun x0=>bif decide ((zi zk s2)<0)then none else bif decide ((SO Go.IntKind.i64 x0 (zi zk s2))<32768)then some (Sum.inl (s0,s1,(zi zj (s2+1))))else some (Sum.inr (s0,s1,s2))
def Cg (s0 s1 s2:List Int) (s3 s4:Int):Option ((List Int)×(List Int)×(List Int)×Int×Int⊕(List Int)×(List Int)×Int):=bif decide (s4>=0)then(Kd s0 s1 s4).bind fun x0=>(LS s0 s1 s4 x0).bind fun x1=>bif decide ((List.length x1.1)=(List.length s0))then bif decide (x1.2>0)then(Lr x1.1 s1 s4).bind fun x2=>bif decide ((List.length x2)=(List.length x1.1))then(A1 s4 (List.length s2)).bind fun x3=>(AX s2 x3).bind fun x4=>some (Sum.inl (x2,s1,(List.set s2 x3 (zi zj (x0-1))),s3,(zi zj (s4-1))))else none else(A1 s4 (List.length s2)).bind fun x5=>(AX s2 x5).bind fun x6=>some (Sum.inl (x1.1,s1,(List.set s2 x5 x0),s3,(zi zj (s4-1))))else none else some (Sum.inr (s0,s2,s3))
def EK (a0 a1:List Int):Option (List Int×List Int):=(Cx a0).bind fun x0=>(Ch x0 a1).bind fun x1=>bif decide (x1<0)then some (([]:List Int),x0)else bif((a1.length:Int)==1)then(AI a1 0).bind fun x2=>(J6 x0 x2).bind fun x3=>some (x3.1,x3.2)else(Ad (fun(s:((List Int)×(List Int)×Int))=>Dx s.1 s.2.1 s.2.2) (x0,a1,(0:Int))).bind fun x4=>(NM x4.1 x4.2.2).bind fun x5=>(NM x4.2.1 x4.2.2).bind fun x6=>(Cx x6).bind fun x7=>(OM (zi zj ((zi zj ((x4.1.length:Int)-(x4.2.1.length:Int)))+1)) 8 1).bind fun x8=>(Ad (fun(s:Tq12)=>Cg s.1 s.2.1 s.2.2.1 s.2.2.2.1 s.2.2.2.2) (x5,x7,(List.replicate x8 (0:Int)),x4.2.2,(zi zj ((x4.1.length:Int)-(x4.2.1.length:Int))))).bind fun x9=>(Cx x9.2.1).bind fun x10=>(Cx x9.1).bind fun x11=>(Lw x11 x9.2.2).bind fun x12=>some (x10,x12)
def MP:OKE:=fq NR (fun x=>EK x.1 x.2) [Ho,Lf,Am6,A2t,At4,Av6,AD8,Av2] Tryz.func189
def Km (s0 s1:List Int):Option ((List Int)×(List Int)⊕(List Int)):=bif decide ((s1.length:Int)>0)then(EK s0 s1).bind fun x0=>some (Sum.inl (s1,x0.2))else some (Sum.inr s0)
def KG (a0 a1:List Int):Option (List Int):=(Ad (fun(s:((List Int)×(List Int)))=>Km s.1 s.2) (a0,a1)).bind fun x0=>(Cx x0).bind fun x1=>some x1
def YF:OKE:=fq ZA (fun x=>KG x.1 x.2) [MP,Ho] Tryz.func134
def H3 (a0:Tq2):Option Bool:=(F1 (a0.1,a0.2.1)).bind fun x0=>bif(!x0)then some false else(F1 (a0.2.2.1,a0.2.2.2)).bind fun x1=>bif(!x1)then some false else bif a0.2.2.1 then some false else bif((a0.2.2.2.length:Int)==0)then some false else(KG a0.2.1 a0.2.2.2).bind fun x2=>(Ch x2 ([1]:List Int)).bind fun x3=>some (x3==0)
def S1:OKE:=fq TI (fun x=>H3 x) [T7,YF,Lf] Tryz.func311
def HS (a0:Tq2):Option Bool:=bif decide ((a0.2.1.length:Int)<=8)then bif decide ((a0.2.2.2.length:Int)<=8)then(H3 (a0.1,a0.2.1,a0.2.2.1,a0.2.2.2)).bind fun x0=>some x0 else some false else some false
def Au9:OKE:=fq TQ (fun x=>HS x) [S1] Tryz.func297
def Cr (s0 s1:List Tq0) (s2 s3:Int):Option ((List Tq0)×(List Tq0)×Int×Int⊕((List Tq0)⊕Bool)):=bif decide (s3<s2)then(AI s1 s3).bind fun x0=>(HS (x0.1.1.1,x0.1.1.2,x0.1.2.1,x0.1.2.2)).bind fun x1=>bif(!x1)then some (Sum.inr (Sum.inr false))else(HS (x0.2.1.1,x0.2.1.2,x0.2.2.1,x0.2.2.2)).bind fun x2=>bif(!x2)then some (Sum.inr (Sum.inr false))else some (Sum.inl (s0,s1,s2,(zi zj (s3+1))))else some (Sum.inr (Sum.inl s0))
def Gk (a0:List Tq0):Option Bool:=(Ad (fun(s:((List Tq0)×(List Tq0)×Int×Int))=>Cr s.1 s.2.1 s.2.2.1 s.2.2.2) (a0,a0,(a0.length:Int),(0:Int))).bind fun x0=>Sum.elim (fun x1=>some (decide ((x1.length:Int)<=40))) (fun x2=>some x2) x0
def QO:OKE:=fq QB (fun x=>Gk x) [Au9] Tryz.func270
def GK (a0:Tq2):Option Bool:=bif decide ((a0.2.1.length:Int)<=2)then bif decide ((a0.2.2.2.length:Int)<=2)then(H3 (a0.1,a0.2.1,a0.2.2.1,a0.2.2.2)).bind fun x0=>some x0 else some false else some false
def Z9:OKE:=fq Ro (fun x=>GK x) [S1] Tryz.func298
def KK (a0:Tq3):Option Bool:=(GK (a0.1,a0.2.1,a0.2.2.1,a0.2.2.2.1)).bind fun x0=>bif x0 then(GK (a0.2.2.2.2.1,a0.2.2.2.2.2.1,a0.2.2.2.2.2.2.1,a0.2.2.2.2.2.2.2)).bind fun x1=>some x1 else some false
def AV0:OKE:=fq Yl (fun x=>KK x) [Z9] Tryz.func271
def DK (s0 s1:List Int) (s2 s3:Int) (s4 s5:Int) (s6:List Int) (s7 s8:Int):Option ((List Int)×(List Int)×Int×Int×Int×Int×(List Int)×Int×Int⊕(List Int)×(List Int)×(List Int)×Int×Int):=(bif decide (s5<(s1.length:Int))then some (Sum.inr (s0,s1,s2,s3,s4,s5,s6,s7,s8))else bif decide (s4>0)then some (Sum.inr (s0,s1,s2,s3,s4,s5,s6,s7,s8))else some (Sum.inl (Sum.inr (s0,s1,s6,s7,s8)))).bind fun x0=>Sum.elim (fun x1=>some x1) (fun x2=>(A1 (zi zj (x2.2.2.1+x2.2.2.2.2.2.1)) (List.length x2.1)).bind fun x3=>(AX x2.1 x3).bind fun x4=>(Ds x2.2.1 x2.2.2.2.2.2.1).bind fun x5=>(A1 (zi zj (x2.2.2.1+x2.2.2.2.2.2.1)) (List.length x2.1)).bind fun x6=>(AX x2.1 x6).bind fun x7=>some (Sum.inl ((List.set x2.1 x6 (Int.tmod (zi zj ((zi zj (x4+(zi zj (x2.2.2.2.1*x5))))+x2.2.2.2.2.1)) 65536)),x2.2.1,x2.2.2.1,x2.2.2.2.1,(zi zj (Int.tdiv (zi zj ((zi zj (x4+(zi zj (x2.2.2.2.1*x5))))+x2.2.2.2.2.1)) 65536)),(zi zj (x2.2.2.2.2.2.1+1)),x2.2.2.2.2.2.2.1,x2.2.2.2.2.2.2.2.1,x2.2.2.2.2.2.2.2.2))) x0
def E8 (s0 s1 s2:List Int) (s3 s4:Int):Option Tq18:=bif decide (s4<s3)then(AI s2 s4).bind fun x0=>(Ad (fun(s:((List Int)×(List Int)×Int×Int×Int×Int×(List Int)×Int×Int))=>DK s.1 s.2.1 s.2.2.1 s.2.2.2.1 s.2.2.2.2.1 s.2.2.2.2.2.1 s.2.2.2.2.2.2.1 s.2.2.2.2.2.2.2.1 s.2.2.2.2.2.2.2.2) (s0,s1,s4,x0,(0:Int),(0:Int),s2,s3,s4)).bind fun x1=>some (Sum.inl (x1.1,x1.2.1,x1.2.2.1,x1.2.2.2.1,(zi zj (x1.2.2.2.2+1))))else some (Sum.inr s0)
def GM (a0 a1:List Int):Option (List Int):=(OM (zi zj ((zi zj ((a0.length:Int)+(a1.length:Int)))+1)) 8 1).bind fun x0=>(Ad (fun(s:Tq12)=>E8 s.1 s.2.1 s.2.2.1 s.2.2.2.1 s.2.2.2.2) ((List.replicate x0 (0:Int)),a1,a0,(a0.length:Int),(0:Int))).bind fun x1=>(Cx x1).bind fun x2=>some x2
def WY:OKE:=fq Nt (fun x=>GM x.1 x.2) [Hq,Ho] Tryz.func232
def C8 (a0 a1:Tq5):Option Tq11:=(GM a0.2 a1.2).bind fun x0=>(Bq (!(a0.1==a1.1)) x0).bind fun x1=>some (x1.2,x1.1)
def Oa:OKE:=fq YS (fun x=>C8 x.1 x.2) [WY,EH] Tryz.func179
def IF (a0 a1:Tq5):Option Int:=bif a0.1 then bif(!a1.1)then some (-(1:Int))else bif(!a0.1)then bif a1.1 then some (1:Int)else bif a0.1 then(Ch a1.2 a0.2).bind fun x0=>some x0 else(Ch a0.2 a1.2).bind fun x1=>some x1 else bif a0.1 then(Ch a1.2 a0.2).bind fun x2=>some x2 else(Ch a0.2 a1.2).bind fun x3=>some x3 else bif(!a0.1)then bif a1.1 then some (1:Int)else bif a0.1 then(Ch a1.2 a0.2).bind fun x4=>some x4 else(Ch a0.2 a1.2).bind fun x5=>some x5 else bif a0.1 then(Ch a1.2 a0.2).bind fun x6=>some x6 else(Ch a0.2 a1.2).bind fun x7=>some x7
def Ad5:OKE:=fq Qb (fun x=>IF x.1 x.2) [Lf] Tryz.func215
def Hm (a0 a1:Tq2):Option Int:=(C8 (a0.1,a0.2.1) (a1.2.2.1,a1.2.2.2)).bind fun x0=>(C8 (a1.1,a1.2.1) (a0.2.2.1,a0.2.2.2)).bind fun x1=>(IF (x0.1,x0.2) (x1.1,x1.2)).bind fun x2=>some x2
def Sn:OKE:=fq Y0 (fun x=>Hm x.1 x.2) [Oa,Ad5] Tryz.func168
def Gw (a0:Tq3) (a1:Bool):Option Tq6:=bif a1 then some (a0.2.2.2.2.1,a0.2.2.2.2.2.1,a0.2.2.2.2.2.2.1,a0.2.2.2.2.2.2.2)else some (a0.1,a0.2.1,a0.2.2.1,a0.2.2.2.1)
def Q3:OKE:=fq QG (fun x=>Gw x.1 x.2) [] Tryz.func316
def H7 (a0:Tq3) (a1:Bool) (a2:Tq2) (a3:Bool):Option Int:=(Gw (a0.1,a0.2.1,a0.2.2.1,a0.2.2.2.1,a0.2.2.2.2.1,a0.2.2.2.2.2.1,a0.2.2.2.2.2.2.1,a0.2.2.2.2.2.2.2) a1).bind fun x0=>(Hm (x0.1,x0.2.1,x0.2.2.1,x0.2.2.2) (a2.1,a2.2.1,a2.2.2.1,a2.2.2.2)).bind fun x1=>bif a3 then some (zi zj ((0:Int)-x1))else some x1
def At7:OKE:=fq Tn (fun x=>H7 x.1 x.2.1 x.2.2.1 x.2.2.2) [Q3,Sn] Tryz.func313
def Hl (a0:Tq5):Option Tq11:=(Bq (!a0.1) a0.2).bind fun x0=>some (x0.2,x0.1)
def RZ:OKE:=fq X5 (fun x=>Hl x) [EH] Tryz.func136
def Oj (a0:Tq2):Option Tq6:=(Hl (a0.1,a0.2.1)).bind fun x0=>some (x0.1,x0.2,a0.2.2.1,a0.2.2.2)
def AT1:OKE:=fq YY (fun x=>Oj x) [RZ] Tryz.func301
def DD (s0 s1 s2:List Int) (s3 s4:Int):Option Tq18:=(bif decide (s4<(s1.length:Int))then some (Sum.inr (s0,s1,s2,s3,s4))else bif decide (s4<(s2.length:Int))then some (Sum.inr (s0,s1,s2,s3,s4))else bif decide (s3>0)then some (Sum.inr (s0,s1,s2,s3,s4))else some (Sum.inl (Sum.inr s0))).bind fun x0=>Sum.elim (fun x1=>some x1) (fun x2=>(Ds x2.2.1 x2.2.2.2.2).bind fun x3=>(Ds x2.2.2.1 x2.2.2.2.2).bind fun x4=>(C3 8 1 x2.1 ([(Int.tmod (zi zj ((zi zj (x3+x4))+x2.2.2.2.1)) 65536)]:List Int)).bind fun x5=>some (Sum.inl (x5,x2.2.1,x2.2.2.1,(zi zj (Int.tdiv (zi zj ((zi zj (x3+x4))+x2.2.2.2.1)) 65536)),(zi zj (x2.2.2.2.2+1))))) x0
def GA (a0 a1:List Int):Option (List Int):=(Ad (fun(s:Tq12)=>DD s.1 s.2.1 s.2.2.1 s.2.2.2.1 s.2.2.2.2) (([]:List Int),a0,a1,(0:Int),(0:Int))).bind fun x0=>some x0
def V0:OKE:=fq MR (fun x=>GA x.1 x.2) [Hq] Tryz.func230
def E9 (s0 s1 s2:List Int) (s3 s4 s5:Int):Option ((List Int)×(List Int)×(List Int)×Int×Int×Int⊕(List Int)):=bif decide (s5<s4)then(AI s1 s5).bind fun x0=>(Ds s2 s5).bind fun x1=>bif decide ((zi zj ((zi zj (x0-x1))-s3))<0)then(C3 8 1 s0 ([(zi zj ((zi zj ((zi zj (x0-x1))-s3))+65536))]:List Int)).bind fun x2=>some (Sum.inl (x2,s1,s2,(1:Int),s4,(zi zj (s5+1))))else(C3 8 1 s0 ([(zi zj ((zi zj (x0-x1))-s3))]:List Int)).bind fun x3=>some (Sum.inl (x3,s1,s2,(0:Int),s4,(zi zj (s5+1))))else some (Sum.inr s0)
def EL (a0 a1:List Int):Option (List Int):=(Ad (fun(s:((List Int)×(List Int)×(List Int)×Int×Int×Int))=>E9 s.1 s.2.1 s.2.2.1 s.2.2.2.1 s.2.2.2.2.1 s.2.2.2.2.2) (([]:List Int),a0,a1,(0:Int),(a0.length:Int),(0:Int))).bind fun x0=>(Cx x0).bind fun x1=>some x1
def Vp:OKE:=fq NQ (fun x=>EL x.1 x.2) [Hq,Ho] Tryz.func231
def Le (a0 a1:Tq5):Option Tq11:=bif(a0.1==a1.1)then(GA a0.2 a1.2).bind fun x0=>(Bq a0.1 x0).bind fun x1=>some (x1.2,x1.1)else(Ch a0.2 a1.2).bind fun x2=>bif decide (x2>=0)then(EL a0.2 a1.2).bind fun x3=>(Bq a0.1 x3).bind fun x4=>some (x4.2,x4.1)else(EL a1.2 a0.2).bind fun x5=>(Bq a1.1 x5).bind fun x6=>some (x6.2,x6.1)
def Yc:OKE:=fq Zz (fun x=>Le x.1 x.2) [V0,EH,Lf,Vp] Tryz.func178
def IR (a0 a1:Tq5):Option Tq20:=(EK a0.2 a1.2).bind fun x0=>(Bq (!(a0.1==a1.1)) x0.1).bind fun x1=>(Bq a0.1 x0.2).bind fun x2=>some ((x1.2,x1.1),x2.2,x2.1)
def X6:OKE:=fq YW (fun x=>IR x.1 x.2) [MP,EH] Tryz.func135
def FK (a0 a1:Tq5):Option Tq6:=(KG a0.2 a1.2).bind fun x0=>(Bq false x0).bind fun x1=>(IR (a0.1,a0.2) (x1.2,x1.1)).bind fun x2=>(IR (a1.1,a1.2) (x1.2,x1.1)).bind fun x3=>bif x3.1.1 then(Hl (x2.1.1,x2.1.2)).bind fun x4=>(Hl (x3.1.1,x3.1.2)).bind fun x5=>some (x4.1,x4.2,x5.1,x5.2)else some (x2.1.1,x2.1.2,x3.1.1,x3.1.2)
def Lp:OKE:=fq WZ (fun x=>FK x.1 x.2) [YF,EH,X6,RZ] Tryz.func71
def FT (a0 a1:Tq2):Option Tq6:=(C8 (a0.1,a0.2.1) (a1.2.2.1,a1.2.2.2)).bind fun x0=>(C8 (a1.1,a1.2.1) (a0.2.2.1,a0.2.2.2)).bind fun x1=>(Le (x0.1,x0.2) (x1.1,x1.2)).bind fun x2=>(C8 (a0.2.2.1,a0.2.2.2) (a1.2.2.1,a1.2.2.2)).bind fun x3=>(FK (x2.1,x2.2) (x3.1,x3.2)).bind fun x4=>some (x4.1,x4.2.1,x4.2.2.1,x4.2.2.2)
def K4:OKE:=fq Yi (fun x=>FT x.1 x.2) [Oa,Yc,Lp] Tryz.func121
def Hh (a0 a1:Tq2):Option Tq6:=(Oj (a1.1,a1.2.1,a1.2.2.1,a1.2.2.2)).bind fun x0=>(FT (a0.1,a0.2.1,a0.2.2.1,a0.2.2.2) (x0.1,x0.2.1,x0.2.2.1,x0.2.2.2)).bind fun x1=>some (x1.1,x1.2.1,x1.2.2.1,x1.2.2.2)
def RK:OKE:=fq Zm (fun x=>Hh x.1 x.2) [AT1,K4] Tryz.func274
def K2 (a0 a1:Tq2):Option Tq6:=(C8 (a0.1,a0.2.1) (a1.2.2.1,a1.2.2.2)).bind fun x0=>(C8 (a0.2.2.1,a0.2.2.2) (a1.1,a1.2.1)).bind fun x1=>(FK (x0.1,x0.2) (x1.1,x1.2)).bind fun x2=>some (x2.1,x2.2.1,x2.2.2.1,x2.2.2.2)
def Zr:OKE:=fq ZJ (fun x=>K2 x.1 x.2) [Oa,Lp] Tryz.func275
def Hd (a0 a1:Tq2):Option Tq6:=(C8 (a0.1,a0.2.1) (a1.1,a1.2.1)).bind fun x0=>(C8 (a0.2.2.1,a0.2.2.2) (a1.2.2.1,a1.2.2.2)).bind fun x1=>(FK (x0.1,x0.2) (x1.1,x1.2)).bind fun x2=>some (x2.1,x2.2.1,x2.2.2.1,x2.2.2.2)
def RA:OKE:=fq Yk (fun x=>Hd x.1 x.2) [Oa,Lp] Tryz.func171
def H8 (a0 a1 a2:Tq2):Option Tq6:=(Hh (a1.1,a1.2.1,a1.2.2.1,a1.2.2.2) (a0.1,a0.2.1,a0.2.2.1,a0.2.2.2)).bind fun x0=>(Hd (a2.1,a2.2.1,a2.2.2.1,a2.2.2.2) (x0.1,x0.2.1,x0.2.2.1,x0.2.2.2)).bind fun x1=>(FT (a0.1,a0.2.1,a0.2.2.1,a0.2.2.2) (x1.1,x1.2.1,x1.2.2.1,x1.2.2.2)).bind fun x2=>some (x2.1,x2.2.1,x2.2.2.1,x2.2.2.2)
def An3:OKE:=fq SY (fun x=>H8 x.1 x.2.1 x.2.2) [RK,RA,K4] Tryz.func318
def LX (a0 a1:Tq3) (a2:Tq2):Option Tq10:=(H8 (a0.1,a0.2.1,a0.2.2.1,a0.2.2.2.1) (a1.1,a1.2.1,a1.2.2.1,a1.2.2.2.1) (a2.1,a2.2.1,a2.2.2.1,a2.2.2.2)).bind fun x0=>(H8 (a0.2.2.2.2.1,a0.2.2.2.2.2.1,a0.2.2.2.2.2.2.1,a0.2.2.2.2.2.2.2) (a1.2.2.2.2.1,a1.2.2.2.2.2.1,a1.2.2.2.2.2.2.1,a1.2.2.2.2.2.2.2) (a2.1,a2.2.1,a2.2.2.1,a2.2.2.2)).bind fun x1=>some (x0.1,x0.2.1,x0.2.2.1,x0.2.2.2,x1.1,x1.2.1,x1.2.2.1,x1.2.2.2)
def AA0:OKE:=fq V2 (fun x=>LX x.1 x.2.1 x.2.2) [An3] Tryz.func317
def Mo (a0 a1:Tq3) (a2:Bool) (a3:Tq2):Option Tq10:=(Gw (a0.1,a0.2.1,a0.2.2.1,a0.2.2.2.1,a0.2.2.2.2.1,a0.2.2.2.2.2.1,a0.2.2.2.2.2.2.1,a0.2.2.2.2.2.2.2) a2).bind fun x0=>(Hh (a3.1,a3.2.1,a3.2.2.1,a3.2.2.2) (x0.1,x0.2.1,x0.2.2.1,x0.2.2.2)).bind fun x1=>(Gw (a1.1,a1.2.1,a1.2.2.1,a1.2.2.2.1,a1.2.2.2.2.1,a1.2.2.2.2.2.1,a1.2.2.2.2.2.2.1,a1.2.2.2.2.2.2.2) a2).bind fun x2=>(Hh (x2.1,x2.2.1,x2.2.2.1,x2.2.2.2) (x0.1,x0.2.1,x0.2.2.1,x0.2.2.2)).bind fun x3=>(K2 (x1.1,x1.2.1,x1.2.2.1,x1.2.2.2) (x3.1,x3.2.1,x3.2.2.1,x3.2.2.2)).bind fun x4=>(LX (a0.1,a0.2.1,a0.2.2.1,a0.2.2.2.1,a0.2.2.2.2.1,a0.2.2.2.2.2.1,a0.2.2.2.2.2.2.1,a0.2.2.2.2.2.2.2) (a1.1,a1.2.1,a1.2.2.1,a1.2.2.2.1,a1.2.2.2.2.1,a1.2.2.2.2.2.1,a1.2.2.2.2.2.2.1,a1.2.2.2.2.2.2.2) (x4.1,x4.2.1,x4.2.2.1,x4.2.2.2)).bind fun x5=>bif a2 then some (x5.1,x5.2.1,x5.2.2.1,x5.2.2.2.1,a3.1,a3.2.1,a3.2.2.1,a3.2.2.2)else some (a3.1,a3.2.1,a3.2.2.1,a3.2.2.2,x5.2.2.2.2.1,x5.2.2.2.2.2.1,x5.2.2.2.2.2.2.1,x5.2.2.2.2.2.2.2)
def Ay7:OKE:=fq Vi (fun x=>Mo x.1 x.2.1 x.2.2.1 x.2.2.2) [Q3,RK,Zr,AA0] Tryz.func314
def CL (s0:Tq2) (s1 s2:List Tq0) (s3 s4:Bool) (s5:List Tq0) (s6 s7:Int):Option (Tq2×(List Tq0)×(List Tq0)×Bool×Bool×(List Tq0)×Int×Int⊕(List Tq0)):=bif decide (s7<s6)then(AI s5 s7).bind fun x0=>bif((s2.length:Int)==0)then none else(AI s2 (Int.tmod (zi zj ((zi zj (s7+(s2.length:Int)))-1)) (s2.length:Int))).bind fun x1=>(H7 (x1.1.1.1,x1.1.1.2,x1.1.2.1,x1.1.2.2,x1.2.1.1,x1.2.1.2,x1.2.2.1,x1.2.2.2) s3 (s0.1,s0.2.1,s0.2.2.1,s0.2.2.2) s4).bind fun x2=>(H7 (x0.1.1.1,x0.1.1.2,x0.1.2.1,x0.1.2.2,x0.2.1.1,x0.2.1.2,x0.2.2.1,x0.2.2.2) s3 (s0.1,s0.2.1,s0.2.2.1,s0.2.2.2) s4).bind fun x3=>bif(!(decide (x2<=0)==decide (x3<=0)))then(Mo (x1.1.1.1,x1.1.1.2,x1.1.2.1,x1.1.2.2,x1.2.1.1,x1.2.1.2,x1.2.2.1,x1.2.2.2) (x0.1.1.1,x0.1.1.2,x0.1.2.1,x0.1.2.2,x0.2.1.1,x0.2.1.2,x0.2.2.1,x0.2.2.2) s3 (s0.1,s0.2.1,s0.2.2.1,s0.2.2.2)).bind fun x4=>(C3 128 8 s1 ([(((x4.1,x4.2.1),x4.2.2.1,x4.2.2.2.1),(x4.2.2.2.2.1,x4.2.2.2.2.2.1),x4.2.2.2.2.2.2.1,x4.2.2.2.2.2.2.2)]:List Tq0)).bind fun x5=>bif decide (x3<=0)then(C3 128 8 x5 ([(((x0.1.1.1,x0.1.1.2),x0.1.2.1,x0.1.2.2),(x0.2.1.1,x0.2.1.2),x0.2.2.1,x0.2.2.2)]:List Tq0)).bind fun x6=>some (Sum.inl ((s0.1,s0.2.1,s0.2.2.1,s0.2.2.2),x6,s2,s3,s4,s5,s6,(zi zj (s7+1))))else some (Sum.inl ((s0.1,s0.2.1,s0.2.2.1,s0.2.2.2),x5,s2,s3,s4,s5,s6,(zi zj (s7+1))))else bif decide (x3<=0)then(C3 128 8 s1 ([(((x0.1.1.1,x0.1.1.2),x0.1.2.1,x0.1.2.2),(x0.2.1.1,x0.2.1.2),x0.2.2.1,x0.2.2.2)]:List Tq0)).bind fun x7=>some (Sum.inl ((s0.1,s0.2.1,s0.2.2.1,s0.2.2.2),x7,s2,s3,s4,s5,s6,(zi zj (s7+1))))else some (Sum.inl ((s0.1,s0.2.1,s0.2.2.1,s0.2.2.2),s1,s2,s3,s4,s5,s6,(zi zj (s7+1))))else some (Sum.inr s1)
def EJ (a0:List Tq0) (a1:Bool) (a2:Tq2) (a3:Bool):Option (List Tq8):=(Ad (fun(s:(Tq2×(List Tq0)×(List Tq0)×Bool×Bool×(List Tq0)×Int×Int))=>CL s.1 s.2.1 s.2.2.1 s.2.2.2.1 s.2.2.2.2.1 s.2.2.2.2.2.1 s.2.2.2.2.2.2.1 s.2.2.2.2.2.2.2) ((a2.1,a2.2.1,a2.2.2.1,a2.2.2.2),([]:List Tq0),a0,a1,a3,a0,(a0.length:Int),(0:Int))).bind fun x0=>some x0
def Au4:OKE:=fq TU (fun x=>EJ x.1 x.2.1 x.2.2.1 x.2.2.2) [At7,Ay7] Tryz.func300
def Mf (a0:List Tq0) (a1 a2:Tq3):Option (List Tq8):=(EJ a0 false (a1.1,a1.2.1,a1.2.2.1,a1.2.2.2.1) true).bind fun x0=>(EJ x0 false (a2.1,a2.2.1,a2.2.2.1,a2.2.2.2.1) false).bind fun x1=>(EJ x1 true (a1.2.2.2.2.1,a1.2.2.2.2.2.1,a1.2.2.2.2.2.2.1,a1.2.2.2.2.2.2.2) true).bind fun x2=>(EJ x2 true (a2.2.2.2.2.1,a2.2.2.2.2.2.1,a2.2.2.2.2.2.2.1,a2.2.2.2.2.2.2.2) false).bind fun x3=>some x3
def Ax5:OKE:=fq WC (fun x=>Mf x.1 x.2.1 x.2.2) [Au4] Tryz.func273
def EB (a0:Tq2):Option (Tq6×Bool):=bif decide ((a0.2.1.length:Int)>40)then some ((false,([]:List Int),false,([]:List Int)),false)else bif decide ((a0.2.2.2.length:Int)>40)then some ((false,([]:List Int),false,([]:List Int)),false)else(Bq a0.1 a0.2.1).bind fun x0=>(Bq false a0.2.2.2).bind fun x1=>some ((x0.2,x0.1,x1.2,x1.1),true)
def PE:OKE:=fq Vx (fun x=>EB x) [EH] Tryz.func70
def J9 (a0:Tq3):Option (Tq10×Bool):=(EB (a0.1,a0.2.1,a0.2.2.1,a0.2.2.2.1)).bind fun x0=>(EB (a0.2.2.2.2.1,a0.2.2.2.2.2.1,a0.2.2.2.2.2.2.1,a0.2.2.2.2.2.2.2)).bind fun x1=>bif(!x0.2)then some ((false,([]:List Int),false,([]:List Int),false,([]:List Int),false,([]:List Int)),false)else bif(!x1.2)then some ((false,([]:List Int),false,([]:List Int),false,([]:List Int),false,([]:List Int)),false)else some ((x0.1.1,x0.1.2.1,x0.1.2.2.1,x0.1.2.2.2,x1.1.1,x1.1.2.1,x1.1.2.2.1,x1.1.2.2.2),true)
def Ai6:OKE:=fq S9 (fun x=>J9 x) [PE] Tryz.func312
def DR (s0 s1:List Tq0) (s2 s3:Int):Option ((List Tq0)×(List Tq0)×Int×Int⊕((List Tq0)⊕(List Tq0)×Bool)):=bif decide (s3<s2)then(AI s1 s3).bind fun x0=>(J9 (x0.1.1.1,x0.1.1.2,x0.1.2.1,x0.1.2.2,x0.2.1.1,x0.2.1.2,x0.2.2.1,x0.2.2.2)).bind fun x1=>bif(!x1.2)then some (Sum.inr (Sum.inr (([]:List Tq0),false)))else(C3 128 8 s0 ([(((x1.1.1,x1.1.2.1),x1.1.2.2.1,x1.1.2.2.2.1),(x1.1.2.2.2.2.1,x1.1.2.2.2.2.2.1),x1.1.2.2.2.2.2.2.1,x1.1.2.2.2.2.2.2.2)]:List Tq0)).bind fun x2=>some (Sum.inl (x2,s1,s2,(zi zj (s3+1))))else some (Sum.inr (Sum.inl s0))
def Mk (a0:List Tq0):Option (List Tq8×Bool):=(Ad (fun(s:((List Tq0)×(List Tq0)×Int×Int))=>DR s.1 s.2.1 s.2.2.1 s.2.2.2) (([]:List Tq0),a0,(a0.length:Int),(0:Int))).bind fun x0=>Sum.elim (fun x1=>some (x1,true)) (fun x2=>some (x2.1,x2.2)) x0
def Ax3:OKE:=fq Xk (fun x=>Mk x) [Ai6] Tryz.func299
def Kh (a0:List Tq0):Option (List Tq8×Bool):=(Gk a0).bind fun x0=>bif(!x0)then some (([]:List Tq0),false)else(Mk a0).bind fun x1=>some (x1.1,x1.2)
def Ak3:OKE:=fq SZ (fun x=>Kh x) [QO,Ax3] Tryz.func272
def B0 (a0:List Tq0) (a1 a2:Tq3):Option (List Tq8×Bool):=(Gk a0).bind fun x0=>bif(!x0)then some (([]:List Tq0),false)else(KK (a1.1,a1.2.1,a1.2.2.1,a1.2.2.2.1,a1.2.2.2.2.1,a1.2.2.2.2.2.1,a1.2.2.2.2.2.2.1,a1.2.2.2.2.2.2.2)).bind fun x1=>bif(!x1)then some (([]:List Tq0),false)else(KK (a2.1,a2.2.1,a2.2.2.1,a2.2.2.2.1,a2.2.2.2.2.1,a2.2.2.2.2.2.1,a2.2.2.2.2.2.2.1,a2.2.2.2.2.2.2.2)).bind fun x2=>bif(!x2)then some (([]:List Tq0),false)else(Hm (a1.1,a1.2.1,a1.2.2.1,a1.2.2.2.1) (a2.1,a2.2.1,a2.2.2.1,a2.2.2.2.1)).bind fun x3=>bif decide (x3>0)then some (([]:List Tq0),false)else(Hm (a1.2.2.2.2.1,a1.2.2.2.2.2.1,a1.2.2.2.2.2.2.1,a1.2.2.2.2.2.2.2) (a2.2.2.2.2.1,a2.2.2.2.2.2.1,a2.2.2.2.2.2.2.1,a2.2.2.2.2.2.2.2)).bind fun x4=>bif decide (x4>0)then some (([]:List Tq0),false)else(Mf a0 (a1.1,a1.2.1,a1.2.2.1,a1.2.2.2.1,a1.2.2.2.2.1,a1.2.2.2.2.2.1,a1.2.2.2.2.2.2.1,a1.2.2.2.2.2.2.2) (a2.1,a2.2.1,a2.2.2.1,a2.2.2.2.1,a2.2.2.2.2.1,a2.2.2.2.2.2.1,a2.2.2.2.2.2.2.1,a2.2.2.2.2.2.2.2)).bind fun x5=>(Kh x5).bind fun x6=>some (x6.1,x6.2)
def Aq8:OKE:=fq Tr (fun x=>B0 x.1 x.2.1 x.2.2) [QO,AV0,Sn,Ax5,Ak3] Tryz.func228
def BA (s0 s1:Tq2) (s2 s3:List Tq0) (s4 s5:Int):Option Tq22:=bif decide (s5<s4)then(AI s3 s5).bind fun x0=>bif((s2.length:Int)==0)then none else(AI s2 (Int.tmod (zi zj (s5+1)) (s2.length:Int))).bind fun x1=>(Hd (x0.1.1.1,x0.1.1.2,x0.1.2.1,x0.1.2.2) (x1.2.1.1,x1.2.1.2,x1.2.2.1,x1.2.2.2)).bind fun x2=>(Hd (x1.1.1.1,x1.1.1.2,x1.1.2.1,x1.1.2.2) (x0.2.1.1,x0.2.1.2,x0.2.2.1,x0.2.2.2)).bind fun x3=>(Hh (x2.1,x2.2.1,x2.2.2.1,x2.2.2.2) (x3.1,x3.2.1,x3.2.2.1,x3.2.2.2)).bind fun x4=>(FT (s1.1,s1.2.1,s1.2.2.1,s1.2.2.2) (x4.1,x4.2.1,x4.2.2.1,x4.2.2.2)).bind fun x5=>some (Sum.inl ((s0.1,s0.2.1,s0.2.2.1,s0.2.2.2),(x5.1,x5.2.1,x5.2.2.1,x5.2.2.2),s2,s3,s4,(zi zj (s5+1))))else some (Sum.inr ((s0.1,s0.2.1,s0.2.2.1,s0.2.2.2),s1.1,s1.2.1,s1.2.2.1,s1.2.2.2))
def HJ (a0:List Tq0):Option Tq6:=(Cw 0).bind fun x0=>(Ad (fun(s:(Tq2×Tq2×(List Tq0)×(List Tq0)×Int×Int))=>BA s.1 s.2.1 s.2.2.1 s.2.2.2.1 s.2.2.2.2.1 s.2.2.2.2.2) ((false,([]:List Int),false,([]:List Int)),(x0.1,x0.2.1,x0.2.2.1,x0.2.2.2),a0,a0,(a0.length:Int),(0:Int))).bind fun x1=>(Cw 2).bind fun x2=>(K2 (x1.2.1,x1.2.2.1,x1.2.2.2.1,x1.2.2.2.2) (x2.1,x2.2.1,x2.2.2.1,x2.2.2.2)).bind fun x3=>some (x3.1,x3.2.1,x3.2.2.1,x3.2.2.2)
def Ah6:OKE:=fq Uf (fun x=>HJ x) [Od,RA,RK,K4,Zr] Tryz.func229
def Fd (a0:List Tq0) (a1 a2:Int):Option (Tq6×Bool):=(I1 (a1,a2)).bind fun x0=>(I1 ((zi zj (a1+1)),(zi zj (a2+1)))).bind fun x1=>(B0 a0 (x0.1,x0.2.1,x0.2.2.1,x0.2.2.2.1,x0.2.2.2.2.1,x0.2.2.2.2.2.1,x0.2.2.2.2.2.2.1,x0.2.2.2.2.2.2.2) (x1.1,x1.2.1,x1.2.2.1,x1.2.2.2.1,x1.2.2.2.2.1,x1.2.2.2.2.2.1,x1.2.2.2.2.2.2.1,x1.2.2.2.2.2.2.2)).bind fun x2=>bif(!x2.2)then some ((false,([]:List Int),false,([]:List Int)),false)else(HJ x2.1).bind fun x3=>(EB (x3.1,x3.2.1,x3.2.2.1,x3.2.2.2)).bind fun x4=>some ((x4.1.1,x4.1.2.1,x4.1.2.2.1,x4.1.2.2.2),x4.2)
def Ad1:OKE:=fq P5 (fun x=>Fd x.1 x.2.1 x.2.2) [YO,Aq8,Ah6,PE] Tryz.func177
def BU (s0:Tq7) (s1:List Tq1) (s2:List Tq0) (s3 s4:Int):Option Tq21:=bif decide (s4<(zi zj (s0.1+s0.2.2.1)))then(Fd s2 s4 s3).bind fun x0=>bif(!x0.2)then some (Sum.inr (Sum.inr (([]:List Tq1),false)))else(C3 64 4 s1 ([((x0.1.1,x0.1.2.1),x0.1.2.2.1,x0.1.2.2.2)]:List Tq1)).bind fun x1=>some (Sum.inl ((s0.1,s0.2.1,s0.2.2.1,s0.2.2.2),x1,s2,s3,(zi zj (s4+1))))else some (Sum.inr (Sum.inl ((s0.1,s0.2.1,s0.2.2.1,s0.2.2.2),s1,s2,s3)))
def BC (s0:Tq7) (s1:List Tq1) (s2:List Tq0) (s3:Int):Option (Tq7×(List Tq1)×(List Tq0)×Int⊕((List Tq1)⊕(List Tq1)×Bool)):=bif decide (s3<(zi zj (s0.2.1+s0.2.2.2)))then(Ad (fun(s:(Tq7×(List Tq1)×(List Tq0)×Int×Int))=>BU s.1 s.2.1 s.2.2.1 s.2.2.2.1 s.2.2.2.2) ((s0.1,s0.2.1,s0.2.2.1,s0.2.2.2),s1,s2,s3,s0.1)).bind fun x0=>Sum.elim (fun x1=>some (Sum.inl ((x1.1.1,x1.1.2.1,x1.1.2.2.1,x1.1.2.2.2),x1.2.1,x1.2.2.1,(zi zj (x1.2.2.2+1))))) (fun x2=>some (Sum.inr (Sum.inr (x2.1,x2.2)))) x0 else some (Sum.inr (Sum.inl s1))
def Dg (a0:List Tq0) (a1:Tq7):Option (List Tq20×Bool):=(DB (a1.1,a1.2.1,a1.2.2.1,a1.2.2.2)).bind fun x0=>bif(!x0)then some (([]:List Tq1),false)else(Ad (fun(s:(Tq7×(List Tq1)×(List Tq0)×Int))=>BC s.1 s.2.1 s.2.2.1 s.2.2.2) ((a1.1,a1.2.1,a1.2.2.1,a1.2.2.2),([]:List Tq1),a0,a1.2.1)).bind fun x1=>Sum.elim (fun x2=>some (x2,true)) (fun x3=>some (x3.1,x3.2)) x1
def Af8:OKE:=fq QF (fun x=>Dg x.1 x.2) [MV,Ad1] Tryz.func120
def B4 (s0:Tq7) (s1:List Tq4) (s2:List Tq1) (s3:Int):Option (Tq7×(List Tq4)×(List Tq1)×Int⊕Tq7×(List Tq4)×(List Tq1)):=bif decide (s3>0)then(Cw 0).bind fun x0=>(C3 64 4 s2 ([((x0.1,x0.2.1),x0.2.2.1,x0.2.2.2)]:List Tq1)).bind fun x1=>some (Sum.inl ((s0.1,s0.2.1,s0.2.2.1,s0.2.2.2),s1,x1,(zi zj (s3-1))))else some (Sum.inr ((s0.1,s0.2.1,s0.2.2.1,s0.2.2.2),s1,s2))
def BH (s0:Tq7) (s1:List Tq1) (s2:List Tq4) (s3 s4:Int) (s5:List Tq1) (s6 s7:Int):Option Tq16:=bif decide (s7<s6)then(AI s5 s7).bind fun x0=>(A1 s7 (List.length s1)).bind fun x1=>(AX s1 x1).bind fun x2=>(FT (x2.1.1,x2.1.2,x2.2.1,x2.2.2) (x0.1.1,x0.1.2,x0.2.1,x0.2.2)).bind fun x3=>(EB (x3.1,x3.2.1,x3.2.2.1,x3.2.2.2)).bind fun x4=>bif(!x4.2)then some (Sum.inr (Sum.inr (([]:List Tq1),false)))else(A1 s7 (List.length s1)).bind fun x5=>(AX s1 x5).bind fun x6=>some (Sum.inl ((s0.1,s0.2.1,s0.2.2.1,s0.2.2.2),(List.set s1 x5 ((x4.1.1,x4.1.2.1),x4.1.2.2.1,x4.1.2.2.2)),s2,s3,s4,s5,s6,(zi zj (s7+1))))else some (Sum.inr (Sum.inl ((s0.1,s0.2.1,s0.2.2.1,s0.2.2.2),s1,s2,s3,s4)))
def Bc (s0:Tq7) (s1:List Tq1) (s2:List Tq4) (s3 s4:Int):Option (Tq7×(List Tq1)×(List Tq4)×Int×Int⊕((List Tq1)⊕(List Tq1)×Bool)):=bif decide (s4<s3)then(A1 s4 (List.length s2)).bind fun x0=>(AX s2 x0).bind fun x1=>(L8 x1).bind fun x2=>(Dg x2.1 (s0.1,s0.2.1,s0.2.2.1,s0.2.2.2)).bind fun x3=>bif(!x3.2)then some (Sum.inr (Sum.inr (([]:List Tq1),false)))else(Ad (fun(s:(Tq7×(List Tq1)×(List Tq4)×Int×Int×(List Tq1)×Int×Int))=>BH s.1 s.2.1 s.2.2.1 s.2.2.2.1 s.2.2.2.2.1 s.2.2.2.2.2.1 s.2.2.2.2.2.2.1 s.2.2.2.2.2.2.2) ((s0.1,s0.2.1,s0.2.2.1,s0.2.2.2),s1,s2,s3,s4,x3.1,(x3.1.length:Int),(0:Int))).bind fun x4=>Sum.elim (fun x5=>some (Sum.inl ((x5.1.1,x5.1.2.1,x5.1.2.2.1,x5.1.2.2.2),x5.2.1,x5.2.2.1,x5.2.2.2.1,(zi zj (x5.2.2.2.2+1))))) (fun x6=>some (Sum.inr (Sum.inr (x6.1,x6.2)))) x4 else some (Sum.inr (Sum.inl s1))
def Fk (a0:List UInt8) (a1:Tq7):Option (List Tq20×Bool):=(HA a0).bind fun x0=>bif(!x0.2.2.2)then some (([]:List Tq1),false)else(DB (a1.1,a1.2.1,a1.2.2.1,a1.2.2.2)).bind fun x1=>bif(!x1)then some (([]:List Tq1),false)else(Ad (fun(s:(Tq7×(List Tq4)×(List Tq1)×Int))=>B4 s.1 s.2.1 s.2.2.1 s.2.2.2) ((a1.1,a1.2.1,a1.2.2.1,a1.2.2.2),x0.1,([]:List Tq1),(zi zj (a1.2.2.1*a1.2.2.2)))).bind fun x2=>(Ad (fun(s:(Tq7×(List Tq1)×(List Tq4)×Int×Int))=>Bc s.1 s.2.1 s.2.2.1 s.2.2.2.1 s.2.2.2.2) ((x2.1.1,x2.1.2.1,x2.1.2.2.1,x2.1.2.2.2),x2.2.2,x2.2.1,(x2.2.1.length:Int),(0:Int))).bind fun x3=>Sum.elim (fun x4=>some (x4,true)) (fun x5=>some (x5.1,x5.2)) x3
def XN:OKE:=fq OZ (fun x=>Fk x.1 x.2) [XO,MV,Od,AE1,Af8,K4,PE] Tryz.func51
def N7 (a0:Tq2):Option Tq6:=(Bq false a0.2.1).bind fun x0=>some (x0.2,x0.1,a0.2.2.1,a0.2.2.2)
def AQ1:OKE:=fq ZL (fun x=>N7 x) [EH] Tryz.func167
def N5 (a0 a1:Tq5):Option Tq11:=(Hl (a1.1,a1.2)).bind fun x0=>(Le (a0.1,a0.2) (x0.1,x0.2)).bind fun x1=>some (x1.1,x1.2)
def AU9:OKE:=fq Zq (fun x=>N5 x.1 x.2) [RZ,Yc] Tryz.func218
def JZ (a0:Tq2):Option Tq11:=(IR (a0.1,a0.2.1) (a0.2.2.1,a0.2.2.2)).bind fun x0=>bif x0.2.1 then(D6 1).bind fun x1=>(N5 (x0.1.1,x0.1.2) (x1.1,x1.2)).bind fun x2=>some (x2.1,x2.2)else some (x0.1.1,x0.1.2)
def Ar4:OKE:=fq Ti (fun x=>JZ x) [X6,Ox,AU9] Tryz.func170
def Ki (s0:Tq5) (s1 s2:Int):Option (Tq5×Int×Int⊕Tq5×Int):=bif decide (s2>=0)then(AI s0.2 s2).bind fun x0=>some (Sum.inl ((s0.1,s0.2),(zi zj ((zi zj (s1*65536))+x0)),(zi zj (s2-1))))else some (Sum.inr ((s0.1,s0.2),s1))
def KY (a0:Tq5):Option (Int×Bool):=(F1 (a0.1,a0.2)).bind fun x0=>bif(!x0)then some ((0:Int),false)else bif decide ((a0.2.length:Int)>4)then some ((0:Int),false)else(D6 4611686018427387904).bind fun x1=>(Ch a0.2 x1.2).bind fun x2=>bif decide (x2>0)then some ((0:Int),false)else(Ad (fun(s:Tq5×Int×Int)=>Ki s.1 s.2.1 s.2.2) ((a0.1,a0.2),(0:Int),(zi zj ((a0.2.length:Int)-1)))).bind fun x3=>bif x3.1.1 then some ((zi zj ((0:Int)-x3.2)),true)else some (x3.2,true)
def AR1:OKE:=fq Yd (fun x=>KY x) [T7,Ox,Lf] Tryz.func169
def JW (a0:Tq2):Option Int:=(N7 (a0.1,a0.2.1,a0.2.2.1,a0.2.2.2)).bind fun x0=>(Cw 1).bind fun x1=>(Hm (x0.1,x0.2.1,x0.2.2.1,x0.2.2.2) (x1.1,x1.2.1,x1.2.2.1,x1.2.2.2)).bind fun x2=>bif decide (x2>0)then some (255:Int)else(D6 1).bind fun x3=>(D6 2).bind fun x4=>(FK (x3.1,x3.2) (x4.1,x4.2)).bind fun x5=>(Cw 255).bind fun x6=>(Hd (x0.1,x0.2.1,x0.2.2.1,x0.2.2.2) (x6.1,x6.2.1,x6.2.2.1,x6.2.2.2)).bind fun x7=>(FT (x7.1,x7.2.1,x7.2.2.1,x7.2.2.2) (x5.1,x5.2.1,x5.2.2.1,x5.2.2.2)).bind fun x8=>(JZ (x8.1,x8.2.1,x8.2.2.1,x8.2.2.2)).bind fun x9=>(KY (x9.1,x9.2)).bind fun x10=>some x10.1
def Aq0:OKE:=fq ST (fun x=>JW x) [AQ1,Od,Sn,Ox,Lp,RA,K4,Ar4,AR1] Tryz.func108
def BQ (s0:List Int) (s1:List Tq1) (s2 s3:Int):Option ((List Int)×(List Tq1)×Int×Int⊕(List Int)):=bif decide (s3<s2)then(AI s1 s3).bind fun x0=>(JW (x0.1.1,x0.1.2,x0.2.1,x0.2.2)).bind fun x1=>(C3 8 1 s0 ([x1]:List Int)).bind fun x2=>some (Sum.inl (x2,s1,s2,(zi zj (s3+1))))else some (Sum.inr s0)
def GO (a0:List UInt8) (a1:Tq7):Option (List Int×Bool):=(Fk a0 (a1.1,a1.2.1,a1.2.2.1,a1.2.2.2)).bind fun x0=>bif(!x0.2)then some (([]:List Int),false)else(Ad (fun(s:((List Int)×(List Tq1)×Int×Int))=>BQ s.1 s.2.1 s.2.2.1 s.2.2.2) (([]:List Int),x0.1,(x0.1.length:Int),(0:Int))).bind fun x1=>some (x1,true)
def Xj:OKE:=fq NU (fun x=>GO x.1 x.2) [XN,Aq0] Tryz.func38
def Cp (s0 s1:List Int) (s2 s3:Int):Option ((List Int)×(List Int)×Int×Int⊕((List Int)⊕Bool)):=bif decide (s3<s2)then(AI s1 s3).bind fun x0=>(BP x0 0 255).bind fun x1=>bif(!x1)then some (Sum.inr (Sum.inr false))else some (Sum.inl (s0,s1,s2,(zi zj (s3+1))))else some (Sum.inr (Sum.inl s0))
def LY (a0:List Int):Option Bool:=(Ad (fun(s:((List Int)×(List Int)×Int×Int))=>Cp s.1 s.2.1 s.2.2.1 s.2.2.2) (a0,a0,(a0.length:Int),(0:Int))).bind fun x0=>Sum.elim (fun x1=>some (decide ((x1.length:Int)<=100))) (fun x2=>some x2) x0
def AD1:OKE:=fq WT (fun x=>LY x) [KP] Tryz.func183
def Sd (self:Int->Option (List UInt8)) (a0:Int):Option (List UInt8):=bif decide (a0<10)then some (CA ([(zi .u8 (zi zj ((48:Int)+a0)))]:List Int))else(self (zi zj (Int.tdiv a0 10))).bind fun x0=>(Rp x0 (CA ([(zi .u8 (zi zj ((48:Int)+(Int.tmod a0 10))))]:List Int))).bind fun x1=>some x1
def Hf:Nat->Int->Option (List UInt8)
 |0=>fun _=>none
 |n+1=>Sd (Hf n)
def Wu (self:Int->Option (List UInt8)):Ent:=⟨On,fun x=>self x⟩
def YH (self:Int->Option (List UInt8)):TX:=⟨Q6,PA,[],[4],[Wu self],On⟩
theorem AX7(self:(Int)->Option (List UInt8))(a0:Int):wtF (YH self) Tryz.f163 (a0)=Sd self a0:=by kernel_rfl
theorem T3:∀n,CB RR (Wu (Hf n))
 |0=>fun x y _ _ _ h=>by cases h
 |n+1=>N1 (X:=YH (Hf n)) ⟨AP4,R5,AT4⟩ (Qg (by exact⟨⟨T3 n,rfl⟩,trivial⟩)) (AH8 (by kernel_rfl)) ⟨Tryz.func163,rfl,by kernel_rfl,rfl⟩ (fun x=>by exact AX7 (Hf n) x)
def IU (a0:Int):Option (List UInt8):=Hf (a0.toNat+1) a0
def YN:Ent:=⟨On,fun x=>IU x⟩
theorem Az1:CB RR YN:=fun x=>T3 _ x
def AN3:OKE:=⟨YN,Az1,rfl⟩
def CP (s0:List UInt8) (s1:List Int) (s2 s3:Int):Option ((List UInt8)×(List Int)×Int×Int⊕(List UInt8)):=bif decide (s3<s2)then(AI s1 s3).bind fun x0=>(Rp s0 (CA ([(zi .u8 x0)]:List Int))).bind fun x1=>some (Sum.inl (x1,s1,s2,(zi zj (s3+1))))else some (Sum.inr s0)
def GB (a0 a1:Int) (a2:List Int):Option (List UInt8):=(IU a0).bind fun x0=>(Rp ([80,53,10]:List UInt8) x0).bind fun x1=>(Rp x1 ([32]:List UInt8)).bind fun x2=>(IU a1).bind fun x3=>(Rp x2 x3).bind fun x4=>(Rp x4 ([10,50,53,53,10]:List UInt8)).bind fun x5=>(Ad (fun(s:((List UInt8)×(List Int)×Int×Int))=>CP s.1 s.2.1 s.2.2.1 s.2.2.2) (x5,a2,(a2.length:Int),(0:Int))).bind fun x6=>some x6
def VM:OKE:=fq M5 (fun x=>GB x.1 x.2.1 x.2.2) [AN3] Tryz.func184
def Fa (a0 a1:Int) (a2:List Int):Option (List UInt8×Bool):=(BP a0 1 10).bind fun x0=>bif(!x0)then some (([]:List UInt8),false)else(BP a1 1 10).bind fun x1=>bif(!x1)then some (([]:List UInt8),false)else bif((a2.length:Int) != (zi zj (a0*a1)))then some (([]:List UInt8),false)else(LY a2).bind fun x2=>bif(!x2)then some (([]:List UInt8),false)else(GB a0 a1 a2).bind fun x3=>some (x3,true)
def RX:OKE:=fq Li (fun x=>Fa x.1 x.2.1 x.2.2) [KP,AD1,VM] Tryz.func125
def Kf (a0:List UInt8) (a1:Tq7):Option (List UInt8×Bool):=(GO a0 (a1.1,a1.2.1,a1.2.2.1,a1.2.2.2)).bind fun x0=>bif(!x0.2)then some (([]:List UInt8),false)else(Fa a1.2.2.1 a1.2.2.2 x0.1).bind fun x1=>some (x1.1,x1.2)
def Tq:OKE:=fq TT (fun x=>Kf x.1 x.2) [Xj,RX] Tryz.func63
def AO (a0 a1 a2:Int):Option Bool:=bif decide (a0>=a1)then some (decide (a0<=a2))else some false
def FF:OKE:=fq W0 (fun x=>AO x.1 x.2.1 x.2.2) [] Tryz.func85
def Ic (a0 a1:List UInt8):Option Tq9:=OI a0 a1
def Mx:Ent:=⟨MH,fun x=>Ic x.1 x.2⟩
theorem Sv:CB RR Mx:=AU0 fun _ _ _ _ _ h=>Or.inr (Or.inl h)
def Uv:OKE:=⟨Mx,Sv,rfl⟩
def AZ (s0:Tq9) (s1:List UInt8) (s2 s3:Int):Option (Tq9×(List UInt8)×Int×Int⊕(Unit⊕Int)):=bif decide (s3<s2)then(AI s0 s3).bind fun x0=>bif(s1==x0)then some (Sum.inr (Sum.inr s3))else some (Sum.inl (s0,s1,s2,(zi zj (s3+1))))else some (Sum.inr (Sum.inl ()))
def Cu (a0:Tq9) (a1:List UInt8):Option Int:=(Ad (fun(s:(Tq9×(List UInt8)×Int×Int))=>AZ s.1 s.2.1 s.2.2.1 s.2.2.2) (a0,a1,(a0.length:Int),(0:Int))).bind fun x0=>Sum.elim (fun x1=>some (-(1:Int))) (fun x2=>some x2) x0
def HQ:OKE:=fq DN (fun x=>Cu x.1 x.2) [] Tryz.func259
def Bj (a0:Tq9) (a1:List UInt8):Option Bool:=(Cu a0 a1).bind fun x0=>some (decide (x0>=0))
def Gj:OKE:=fq Dc (fun x=>Bj x.1 x.2) [HQ] Tryz.func208
def Bp (a0:Tq13) (a1:List Tq4) (a2:Tq4) (a3:List UInt8):Option ((List (List UInt8)×Int×Bool)×List Tq4×List (Int×Int)×Int):=(Bj ([([77]:List UInt8),([76]:List UInt8),([108]:List UInt8),([72]:List UInt8),([86]:List UInt8),([104]:List UInt8),([118]:List UInt8),([90]:List UInt8)]:List (List UInt8)) a3).bind fun x0=>bif(!x0)then some ((a0.1,a0.2.1,a0.2.2),a1,a2,(2:Int))else bif((a3==([77]:List UInt8))==a0.2.2)then some ((a0.1,a0.2.1,a0.2.2),a1,a2,(4:Int))else bif(a3==([77]:List UInt8))then bif((a1.length:Int)==4)then bif((a1.length:Int)==4)then some ((a0.1,a0.2.1,a0.2.2),a1,a2,(5:Int))else some ((a0.1,a0.2.1,a0.2.2),a1,a2,(0:Int))else bif(a3==([90]:List UInt8))then bif decide ((a2.length:Int)<3)then bif decide ((a2.length:Int)<3)then some ((a0.1,a0.2.1,a0.2.2),a1,a2,(5:Int))else some ((a0.1,a0.2.1,a0.2.2),a1,a2,(0:Int))else bif(!(a3==([77]:List UInt8)))then bif(!(a3==([90]:List UInt8)))then bif((a2.length:Int)==12)then some ((a0.1,a0.2.1,a0.2.2),a1,a2,(5:Int))else some ((a0.1,a0.2.1,a0.2.2),a1,a2,(0:Int))else some ((a0.1,a0.2.1,a0.2.2),a1,a2,(0:Int))else some ((a0.1,a0.2.1,a0.2.2),a1,a2,(0:Int))else bif(!(a3==([77]:List UInt8)))then bif(!(a3==([90]:List UInt8)))then bif((a2.length:Int)==12)then some ((a0.1,a0.2.1,a0.2.2),a1,a2,(5:Int))else some ((a0.1,a0.2.1,a0.2.2),a1,a2,(0:Int))else some ((a0.1,a0.2.1,a0.2.2),a1,a2,(0:Int))else some ((a0.1,a0.2.1,a0.2.2),a1,a2,(0:Int))else bif(a3==([90]:List UInt8))then bif decide ((a2.length:Int)<3)then bif decide ((a2.length:Int)<3)then some ((a0.1,a0.2.1,a0.2.2),a1,a2,(5:Int))else some ((a0.1,a0.2.1,a0.2.2),a1,a2,(0:Int))else bif(!(a3==([77]:List UInt8)))then bif(!(a3==([90]:List UInt8)))then bif((a2.length:Int)==12)then some ((a0.1,a0.2.1,a0.2.2),a1,a2,(5:Int))else some ((a0.1,a0.2.1,a0.2.2),a1,a2,(0:Int))else some ((a0.1,a0.2.1,a0.2.2),a1,a2,(0:Int))else some ((a0.1,a0.2.1,a0.2.2),a1,a2,(0:Int))else bif(!(a3==([77]:List UInt8)))then bif(!(a3==([90]:List UInt8)))then bif((a2.length:Int)==12)then some ((a0.1,a0.2.1,a0.2.2),a1,a2,(5:Int))else some ((a0.1,a0.2.1,a0.2.2),a1,a2,(0:Int))else some ((a0.1,a0.2.1,a0.2.2),a1,a2,(0:Int))else some ((a0.1,a0.2.1,a0.2.2),a1,a2,(0:Int))
def U6:OKE:=fq NF (fun x=>Bp x.1 x.2.1 x.2.2.1 x.2.2.2) [Gj] Tryz.func154
def DW (a0 a1:List UInt8):Option Bool:=Jc a0 a1
def Jq:Ent:=⟨I2,fun x=>DW x.1 x.2⟩
theorem OJ:CB RR Jq:=ZP fun _ _ _ _ _ h=>Or.inr (Or.inr (Or.inl h))
def PO:OKE:=⟨Jq,OJ,rfl⟩
def JL (a0:List UInt8):Option (Int×Bool):=VY a0
def NN:Ent:=⟨MQ,fun x=>JL x⟩
theorem Uz:CB RR NN:=A1v fun _ _ _ _ _ h=>Or.inr (Or.inr (Or.inr (Or.inl h)))
def U7:OKE:=⟨NN,Uz,rfl⟩
def IB (a0:Int):Option Bool:=(AO a0 (-(9999:Int)) 9999).bind fun x0=>some x0
def Ac6:OKE:=fq Qv (fun x=>IB x) [FF] Tryz.func98
def Dy (a0:Int):Option (List UInt8):=VU a0
def Nb:Ent:=⟨MS,fun x=>Dy x⟩
theorem Uy:CB RR Nb:=A14 fun _ _ _ _ _ h=>Or.inr (Or.inr (Or.inr (Or.inr (Or.inl h))))
def M7:OKE:=⟨Nb,Uy,rfl⟩
def Gn (a0:List UInt8):Option (Int×Bool):=(JL a0).bind fun x0=>bif x0.2 then some ((0:Int),false)else(IB x0.1).bind fun x1=>bif(!x1)then some ((0:Int),false)else(Dy x0.1).bind fun x2=>bif(!(x2==a0))then some ((0:Int),false)else some (x0.1,true)
def We:OKE:=fq ND (fun x=>Gn x) [U7,Ac6,M7] Tryz.func30
def FD (a0:Tq13) (a1:List Tq4) (a2:Tq4):Option ((List (List UInt8)×Int×Bool)×List Tq4×List (Int×Int)×Int×Bool):=bif(a0.2.1==(a0.1.length:Int))then some ((a0.1,a0.2.1,a0.2.2),a1,a2,(0:Int),false)else(AI a0.1 a0.2.1).bind fun x0=>(Gn x0).bind fun x1=>bif x1.2 then some ((a0.1,(zi zj (a0.2.1+1)),a0.2.2),a1,a2,x1.1,x1.2)else some ((a0.1,a0.2.1,a0.2.2),a1,a2,x1.1,x1.2)
def Ux:OKE:=fq Mz (fun x=>FD x.1 x.2.1 x.2.2) [We] Tryz.func156
def Bf (a0:Tq13) (a1:List Tq4) (a2:Tq4) (a3:List UInt8) (a4:List Int):Option ((List (List UInt8)×Int×Bool)×List Tq4×List (Int×Int)×Int×Int):=(bif decide ((a2.length:Int)>0)then(A1 (zi zj ((a2.length:Int)-1)) (List.length a2)).bind fun x0=>(AX a2 x0).bind fun x1=>some (Sum.inr ((a0.1,a0.2.1,a0.2.2),((0:Int),(0:Int)),(x1.1,x1.2),a1,a2,a3,a4))else some (Sum.inr ((a0.1,a0.2.1,a0.2.2),((0:Int),(0:Int)),((0:Int),(0:Int)),a1,a2,a3,a4))).bind fun x2=>Sum.elim (fun x3=>some x3) (fun x4=>bif(x4.2.2.2.2.2.1==([108]:List UInt8))then(AI x4.2.2.2.2.2.2 0).bind fun x5=>(AI x4.2.2.2.2.2.2 1).bind fun x6=>some ((x4.1.1,x4.1.2.1,x4.1.2.2),x4.2.2.2.1,x4.2.2.2.2.1,(zi zj (x4.2.2.1.1+x5)),(zi zj (x4.2.2.1.2+x6)))else bif(x4.2.2.2.2.2.1==([72]:List UInt8))then(AI x4.2.2.2.2.2.2 0).bind fun x7=>some ((x4.1.1,x4.1.2.1,x4.1.2.2),x4.2.2.2.1,x4.2.2.2.2.1,x7,x4.2.2.1.2)else bif(x4.2.2.2.2.2.1==([86]:List UInt8))then(AI x4.2.2.2.2.2.2 0).bind fun x8=>some ((x4.1.1,x4.1.2.1,x4.1.2.2),x4.2.2.2.1,x4.2.2.2.2.1,x4.2.2.1.1,x8)else bif(x4.2.2.2.2.2.1==([104]:List UInt8))then(AI x4.2.2.2.2.2.2 0).bind fun x9=>some ((x4.1.1,x4.1.2.1,x4.1.2.2),x4.2.2.2.1,x4.2.2.2.2.1,(zi zj (x4.2.2.1.1+x9)),x4.2.2.1.2)else bif(x4.2.2.2.2.2.1==([118]:List UInt8))then(AI x4.2.2.2.2.2.2 0).bind fun x10=>some ((x4.1.1,x4.1.2.1,x4.1.2.2),x4.2.2.2.1,x4.2.2.2.2.1,x4.2.2.1.1,(zi zj (x4.2.2.1.2+x10)))else(AI x4.2.2.2.2.2.2 0).bind fun x11=>(AI x4.2.2.2.2.2.2 1).bind fun x12=>some ((x4.1.1,x4.1.2.1,x4.1.2.2),x4.2.2.2.1,x4.2.2.2.2.1,x11,x12)) x2
def XF:OKE:=fq OQ (fun x=>Bf x.1 x.2.1 x.2.2.1 x.2.2.2.1 x.2.2.2.2) [] Tryz.func157
def I7 (a0:Int×Int):Option Bool:=(AO a0.1 (-(1000:Int)) 1000).bind fun x0=>bif x0 then(AO a0.2 (-(1000:Int)) 1000).bind fun x1=>some x1 else some false
def Ay6:OKE:=fq Ww (fun x=>I7 x) [FF] Tryz.func104
def DU (s0:Tq13) (s1:List Int) (s2:List Tq4) (s3:Tq4) (s4:List UInt8) (s5 s6:Int):Option (Tq13×(List Int)×(List Tq4)×Tq4×(List UInt8)×Int×Int⊕(Tq13×(List Int)×(List Tq4)×Tq4×(List UInt8)⊕Tq13×(List Tq4)×Tq4×Int×Int)):=bif decide (s6<s5)then(FD (s0.1,s0.2.1,s0.2.2) s2 s3).bind fun x0=>bif(!x0.2.2.2.2)then some (Sum.inr (Sum.inr ((x0.1.1,x0.1.2.1,x0.1.2.2),x0.2.1,x0.2.2.1,(3:Int),x0.1.2.1)))else(C3 8 1 s1 ([x0.2.2.2.1]:List Int)).bind fun x1=>some (Sum.inl ((x0.1.1,x0.1.2.1,x0.1.2.2),x1,x0.2.1,x0.2.2.1,s4,s5,(zi zj (s6+1))))else some (Sum.inr (Sum.inl ((s0.1,s0.2.1,s0.2.2),s1,s2,s3,s4)))
def Au (a0:Tq13) (a1:List Tq4) (a2:Tq4):Option ((List (List UInt8)×Int×Bool)×List Tq4×List (Int×Int)×Int×Int):=(AI a0.1 a0.2.1).bind fun x0=>(Bp (a0.1,a0.2.1,a0.2.2) a1 a2 x0).bind fun x1=>bif(x1.2.2.2 != (0:Int))then some ((x1.1.1,x1.1.2.1,x1.1.2.2),x1.2.1,x1.2.2.1,x1.2.2.2,x1.1.2.1)else bif(x0==([90]:List UInt8))then(C3 24 1 x1.2.1 ([x1.2.2.1]:List Tq4)).bind fun x2=>some ((x1.1.1,(zi zj (x1.1.2.1+1)),false),x2,([]:List (Int×Int)),(0:Int),(0:Int))else((DW ([72,86,104,118]:List UInt8) x0).bind fun x3=>bif x3 then some (Sum.inr ((x1.1.1,(zi zj (x1.1.2.1+1)),x1.1.2.2),x1.2.1,x1.2.2.1,x0,(1:Int)))else some (Sum.inr ((x1.1.1,(zi zj (x1.1.2.1+1)),x1.1.2.2),x1.2.1,x1.2.2.1,x0,(2:Int)))).bind fun x4=>Sum.elim (fun x5=>some x5) (fun x6=>(Ad (fun(s:(Tq13×(List Int)×(List Tq4)×Tq4×(List UInt8)×Int×Int))=>DU s.1 s.2.1 s.2.2.1 s.2.2.2.1 s.2.2.2.2.1 s.2.2.2.2.2.1 s.2.2.2.2.2.2) ((x6.1.1,x6.1.2.1,x6.1.2.2),([]:List Int),x6.2.1,x6.2.2.1,x6.2.2.2.1,x6.2.2.2.2,(0:Int))).bind fun x7=>Sum.elim (fun x8=>(Bf (x8.1.1,x8.1.2.1,x8.1.2.2) x8.2.2.1 x8.2.2.2.1 x8.2.2.2.2 x8.2.1).bind fun x9=>(I7 (x9.2.2.2.1,x9.2.2.2.2)).bind fun x10=>bif(!x10)then some ((x9.1.1,x9.1.2.1,x9.1.2.2),x9.2.1,x9.2.2.1,(6:Int),(zi zj (x9.1.2.1-1)))else(C3 16 2 x9.2.2.1 ([(x9.2.2.2.1,x9.2.2.2.2)]:List (Int×Int))).bind fun x11=>some ((x9.1.1,x9.1.2.1,true),x9.2.1,x11,(0:Int),(0:Int))) (fun x12=>some ((x12.1.1,x12.1.2.1,x12.1.2.2),x12.2.1,x12.2.2.1,x12.2.2.2.1,x12.2.2.2.2)) x7) x4
def SC:OKE:=fq Lg (fun x=>Au x.1 x.2.1 x.2.2) [U6,PO,Ux,XF,Ay6] Tryz.func92
def D0 (s0:Tq13) (s1:List Tq4) (s2:Tq4):Option (Tq13×(List Tq4)×Tq4⊕(Tq13×(List Tq4)×Tq4⊕(List Tq4)×Int×Int×Bool)):=bif decide (s0.2.1<(s0.1.length:Int))then(Au (s0.1,s0.2.1,s0.2.2) s1 s2).bind fun x0=>bif(x0.2.2.2.1 != (0:Int))then some (Sum.inr (Sum.inr (([]:List Tq4),x0.2.2.2.1,x0.2.2.2.2,false)))else some (Sum.inl ((x0.1.1,x0.1.2.1,x0.1.2.2),x0.2.1,x0.2.2.1))else some (Sum.inr (Sum.inl ((s0.1,s0.2.1,s0.2.2),s1,s2)))
def HF (a0:List UInt8):Option (List Tq4×Int×Int×Bool):=(AO (a0.length:Int) 1 400).bind fun x0=>bif(!x0)then some (([]:List Tq4),(1:Int),(0:Int),false)else(Ic a0 ([32]:List UInt8)).bind fun x1=>(Ad (fun(s:(Tq13×(List Tq4)×Tq4))=>D0 s.1 s.2.1 s.2.2) ((x1,(0:Int),false),([]:List Tq4),([]:List (Int×Int)))).bind fun x2=>Sum.elim (fun x3=>bif x3.1.2.2 then some (([]:List Tq4),(7:Int),(x3.1.1.length:Int),false)else some (x3.2.1,(0:Int),(0:Int),true)) (fun x4=>some (x4.1,x4.2.1,x4.2.2.1,x4.2.2.2)) x2
def XV:OKE:=fq OR (fun x=>HF x) [FF,Uv,SC] Tryz.func22
def Dz (a0:Tq7):Option Bool:=(AO a0.1 (-(20:Int)) 20).bind fun x0=>bif x0 then(AO a0.2.1 (-(20:Int)) 20).bind fun x1=>bif x1 then(AO a0.2.2.1 1 8).bind fun x2=>bif x2 then(AO a0.2.2.2 1 8).bind fun x3=>some x3 else some false else some false else some false
def NA:OKE:=fq MT (fun x=>Dz x) [FF] Tryz.func58
def Kk (s0:Tq5) (s1:List Int) (s2:Bool) (s3:Int):Option (Tq5×(List Int)×Bool×Int⊕Tq5×(List Int)×Bool):=bif decide (s3>0)then(C3 8 1 s1 ([(zi zj (Int.tmod s3 65536))]:List Int)).bind fun x0=>some (Sum.inl ((s0.1,s0.2),x0,s2,(zi zk (Int.tdiv s3 65536))))else some (Sum.inr ((s0.1,s0.2),s1,s2))
def DE (a0:Int):Option Tq11:=(bif decide (a0<0)then some (Sum.inr ((false,([]:List Int)),decide (a0<0),(zi zk ((0:Int)-(zi zk a0)))))else some (Sum.inr ((false,([]:List Int)),decide (a0<0),(zi zk a0)))).bind fun x0=>Sum.elim (fun x1=>some x1) (fun x2=>(Ad (fun(s:(Tq5×(List Int)×Bool×Int))=>Kk s.1 s.2.1 s.2.2.1 s.2.2.2) ((x2.1.1,x2.1.2),([]:List Int),x2.2.1,x2.2.2)).bind fun x3=>some (x3.2.2,x3.2.1)) x0
def KF:OKE:=fq Y3 (fun x=>DE x) [] Tryz.func137
def A8 (a0:Int):Option Tq6:=(DE a0).bind fun x0=>(DE 1).bind fun x1=>some (x0.1,x0.2,x1.1,x1.2)
def G5:OKE:=fq Ym (fun x=>A8 x) [KF] Tryz.func73
def Df (s0:List Tq0) (s1:Tq4) (s2 s3:Int):Option ((List Tq0)×Tq4×Int×Int⊕(List Tq0)):=bif decide (s3<s2)then(AI s1 s3).bind fun x0=>(A8 x0.1).bind fun x1=>(A8 x0.2).bind fun x2=>(C3 128 8 s0 ([(((x1.1,x1.2.1),x1.2.2.1,x1.2.2.2),(x2.1,x2.2.1),x2.2.2.1,x2.2.2.2)]:List Tq0)).bind fun x3=>some (Sum.inl (x3,s1,s2,(zi zj (s3+1))))else some (Sum.inr s0)
def LF (a0:Tq4):Option (List Tq8):=(Ad (fun(s:((List Tq0)×Tq4×Int×Int))=>Df s.1 s.2.1 s.2.2.1 s.2.2.2) (([]:List Tq0),a0,(a0.length:Int),(0:Int))).bind fun x0=>some x0
def Ay1:OKE:=fq VJ (fun x=>LF x) [G5] Tryz.func76
def HH (a0:Int):Option Bool:=(AO a0 0 65535).bind fun x0=>some (!x0)
def XX:OKE:=fq OS (fun x=>HH x) [FF] Tryz.func293
def A6 (s0:List Int) (s1 s2:Int):Option ((List Int)×Int×Int⊕(Unit⊕Int)):=bif decide (s2<s1)then(AI s0 s2).bind fun x0=>(HH x0).bind fun x1=>bif x1 then some (Sum.inr (Sum.inr s2))else some (Sum.inl (s0,s1,(zi zj (s2+1))))else some (Sum.inr (Sum.inl ()))
def CH (a0:List Int):Option Int:=(Ad (fun(s:((List Int)×Int×Int))=>A6 s.1 s.2.1 s.2.2) (a0,(a0.length:Int),(0:Int))).bind fun x0=>Sum.elim (fun x1=>some (-(1:Int))) (fun x2=>some x2) x0
def IL:OKE:=fq CG (fun x=>CH x) [XX] Tryz.func233
def AH (a0:List Int):Option Bool:=(CH a0).bind fun x0=>some (decide (x0>=0))
def Hg:OKE:=fq Cf (fun x=>AH x) [IL] Tryz.func180
def H4 (a0:Tq5):Option Bool:=bif decide ((a0.2.length:Int)>40)then some false else bif((a0.2.length:Int)==0)then bif a0.1 then some false else bif decide ((a0.2.length:Int)>0)then(AI a0.2 (zi zj ((a0.2.length:Int)-1))).bind fun x0=>bif(x0==0)then some false else(AH a0.2).bind fun x1=>some (!x1)else(AH a0.2).bind fun x2=>some (!x2)else bif decide ((a0.2.length:Int)>0)then(AI a0.2 (zi zj ((a0.2.length:Int)-1))).bind fun x3=>bif(x3==0)then some false else(AH a0.2).bind fun x4=>some (!x4)else(AH a0.2).bind fun x5=>some (!x5)
def TH:OKE:=fq Tc (fun x=>H4 x) [Hg] Tryz.func265
def IK (a0:Tq5):Option Bool:=(H4 (a0.1,a0.2)).bind fun x0=>some (!x0)
def Z4:OKE:=fq P7 (fun x=>IK x) [TH] Tryz.func278
def AR (s0:List Tq5) (s1 s2:Int):Option ((List Tq5)×Int×Int⊕(Unit⊕Int)):=bif decide (s2<s1)then(AI s0 s2).bind fun x0=>(IK (x0.1,x0.2)).bind fun x1=>bif x1 then some (Sum.inr (Sum.inr s2))else some (Sum.inl (s0,s1,(zi zj (s2+1))))else some (Sum.inr (Sum.inl ()))
def B7 (a0:List Tq5):Option Int:=(Ad (fun(s:((List Tq5)×Int×Int))=>AR s.1 s.2.1 s.2.2) (a0,(a0.length:Int),(0:Int))).bind fun x0=>Sum.elim (fun x1=>some (-(1:Int))) (fun x2=>some x2) x0
def GS:OKE:=fq Du (fun x=>B7 x) [Z4] Tryz.func302
def BI (a0:List Tq5):Option Bool:=(B7 a0).bind fun x0=>some (decide (x0>=0))
def FH:OKE:=fq CW (fun x=>BI x) [GS] Tryz.func277
def Jp (a0:List Tq5):Option Bool:=(BI a0).bind fun x0=>some (!x0)
def AB5:OKE:=fq Xo (fun x=>Jp x) [FH] Tryz.func234
def BG (a0:Tq5):Option Int:=bif((a0.2.length:Int)==0)then some (0:Int)else bif a0.1 then some (-(1:Int))else some (1:Int)
def L3:OKE:=fq Qq (fun x=>BG x) [] Tryz.func235
def Fz (a0:Int):Option Bool:=some (a0 != a0)
def UE:OKE:=fq MC (fun x=>Fz x) [] Tryz.func284
def Cv (a0 a1:Int):Option Int:=(Fz a0).bind fun x0=>(Fz a1).bind fun x1=>bif x0 then bif x1 then some (0:Int)else some (-(1:Int))else bif x1 then some (1:Int)else bif decide (a0<a1)then some (-(1:Int))else bif decide (a0>a1)then some (1:Int)else some (0:Int)
def Kg:OKE:=fq Ke (fun x=>Cv x.1 x.2) [UE] Tryz.func248
def A9 (s0 s1:List Int) (s2:Int):Option ((List Int)×(List Int)×Int⊕(Unit⊕Int)):=bif decide (s2>=0)then(AI s0 s2).bind fun x0=>(AI s1 s2).bind fun x1=>bif(x0 != x1)then(AI s0 s2).bind fun x2=>(AI s1 s2).bind fun x3=>(Cv x2 x3).bind fun x4=>some (Sum.inr (Sum.inr x4))else some (Sum.inl (s0,s1,(zi zj (s2-1))))else some (Sum.inr (Sum.inl ()))
def BO (a0 a1:List Int):Option Int:=bif((a0.length:Int) != (a1.length:Int))then(Cv (a0.length:Int) (a1.length:Int)).bind fun x0=>some x0 else(Ad (fun(s:((List Int)×(List Int)×Int))=>A9 s.1 s.2.1 s.2.2) (a0,a1,(zi zj ((a0.length:Int)-1)))).bind fun x1=>Sum.elim (fun x2=>some (0:Int)) (fun x3=>some x3) x1
def E5:OKE:=fq Lb (fun x=>BO x.1 x.2) [Kg] Tryz.func195
def Ow (s0:List Int) (s1:Int):Option ((List Int)×Int⊕(List Int)×Int):=bif decide (s1>0)then(AI s0 (zi zj (s1-1))).bind fun x0=>bif(x0==0)then some (Sum.inl (s0,(zi zj (s1-1))))else some (Sum.inr (s0,s1))else some (Sum.inr (s0,s1))
def Iy (a0:List Int):Option (List Int):=(Ad (fun(s:((List Int)×Int))=>Ow s.1 s.2) (a0,(a0.length:Int))).bind fun x0=>(Kr (0:Int) x0.2 (List.length x0.1)).bind fun x1=>some (List.drop x1.1 (List.take x1.2 x0.1))
def UT:OKE:=fq AG0 (fun x=>Iy x) [] Tryz.func247
def Ey (s0 s1:List Int) (s2 s3 s4:Int):Option ((List Int)×(List Int)×Int×Int×Int⊕(List Int)×Int):=bif decide (s4>=0)then(AI s1 s4).bind fun x0=>bif(s2==0)then none else(A1 s4 (List.length s0)).bind fun x1=>(AX s0 x1).bind fun x2=>bif(s2==0)then none else some (Sum.inl ((List.set s0 x1 (zi zj (Int.tdiv (zi zj ((zi zj (s3*65536))+x0)) s2))),s1,s2,(Int.tmod (zi zj ((zi zj (s3*65536))+x0)) s2),(zi zj (s4-1))))else some (Sum.inr (s0,s3))
def Gv (a0:List Int) (a1:Int):Option (List Int×Int):=(OM (a0.length:Int) 8 1).bind fun x0=>(Ad (fun(s:Tq14)=>Ey s.1 s.2.1 s.2.2.1 s.2.2.2.1 s.2.2.2.2) ((List.replicate x0 (0:Int)),a0,a1,(0:Int),(zi zj ((a0.length:Int)-1)))).bind fun x1=>(Iy x1.1).bind fun x2=>some (x2,x1.2)
def Aa6:OKE:=fq QI (fun x=>Gv x.1 x.2) [UT] Tryz.func283
def BS (a0:List Int):Option (List Int):=(neL a0).bind fun x0=>bif(Y9 (List.length a0) 8 1)then some a0 else none
def JO:Ent:=⟨BN,fun x=>BS x⟩
def FW:TX:=⟨Q6,PA,[],[4],[],BN⟩
theorem K5(a0:List (Int)):wtF FW Tryz.f246 a0=BS a0:=by kernel_rfl
theorem JV:CB (Ep Tryz.prog cfC A3S) JO:=N1 (X:=FW) ⟨AP4,R5,AT4⟩ (AZ0 rfl) (AH8 (by kernel_rfl)) ⟨Tryz.func246,rfl,by kernel_rfl,rfl⟩ (fun x=>by exact K5 x)
def BM (a0:List Int):Option (List Int):=A1m BS a0
def F2:Ent:=⟨BN,fun x=>BM x⟩
theorem Kp:CB RR F2:=AB3 JV (.head _) fun _ _ _ _ _ h=>Or.inl h
def FR:OKE:=⟨F2,Kp,rfl⟩
def Bg (a0:Bool) (a1:List Int):Option (List Int×Bool):=(Iy a1).bind fun x0=>(BM x0).bind fun x1=>bif a0 then some (x1,decide ((x1.length:Int)>0))else some (x1,false)
def Eb:OKE:=fq Yh (fun x=>Bg x.1 x.2) [UT,FR] Tryz.func193
def Fo (s0 s1 s2:Tq5) (s3:List Int) (s4 s5 s6:Int) (s7:List Int) (s8 s9:Int) (s10:List Int) (s11 s12:Int):Option (Tq5×Tq5×Tq5×(List Int)×Int×Int×Int×(List Int)×Int×Int×(List Int)×Int×Int⊕Tq5×Tq5×Tq5×(List Int)×Int×Int×(List Int)×Int×Int):=bif decide (s12<s11)then(AI s10 s12).bind fun x0=>(A1 (zi zj (s4+s12)) (List.length s3)).bind fun x1=>(AX s3 x1).bind fun x2=>(A1 (zi zj (s4+s12)) (List.length s3)).bind fun x3=>(AX s3 x3).bind fun x4=>some (Sum.inl ((s0.1,s0.2),(s1.1,s1.2),(s2.1,s2.2),(List.set s3 x3 (Int.tmod (zi zj (s6+(zi zj (x2+(zi zj (s5*x0)))))) 65536)),s4,s5,(zi zj (Int.tdiv (zi zj (s6+(zi zj (x2+(zi zj (s5*x0)))))) 65536)),s7,s8,s9,s10,s11,(zi zj (s12+1))))else some (Sum.inr ((s0.1,s0.2),(s1.1,s1.2),(s2.1,s2.2),s3,s4,s6,s7,s8,s9))
def Hu (s0 s1 s2:Tq5) (s3 s4:List Int) (s5 s6:Int):Option (Tq5×Tq5×Tq5×(List Int)×(List Int)×Int×Int⊕Tq5×Tq5×Tq5×(List Int)):=bif decide (s6<s5)then(AI s4 s6).bind fun x0=>(Ad (fun(s:(Tq5×Tq5×Tq5×(List Int)×Int×Int×Int×(List Int)×Int×Int×(List Int)×Int×Int))=>Fo s.1 s.2.1 s.2.2.1 s.2.2.2.1 s.2.2.2.2.1 s.2.2.2.2.2.1 s.2.2.2.2.2.2.1 s.2.2.2.2.2.2.2.1 s.2.2.2.2.2.2.2.2.1 s.2.2.2.2.2.2.2.2.2.1 s.2.2.2.2.2.2.2.2.2.2.1 s.2.2.2.2.2.2.2.2.2.2.2.1 s.2.2.2.2.2.2.2.2.2.2.2.2) ((s0.1,s0.2),(s1.1,s1.2),(s2.1,s2.2),s3,s6,x0,(0:Int),s4,s5,s6,s1.2,(s1.2.length:Int),(0:Int))).bind fun x1=>(A1 (zi zj (x1.2.2.2.2.1+(x1.2.1.2.length:Int))) (List.length x1.2.2.2.1)).bind fun x2=>(AX x1.2.2.2.1 x2).bind fun x3=>(A1 (zi zj (x1.2.2.2.2.1+(x1.2.1.2.length:Int))) (List.length x1.2.2.2.1)).bind fun x4=>(AX x1.2.2.2.1 x4).bind fun x5=>some (Sum.inl ((x1.1.1,x1.1.2),(x1.2.1.1,x1.2.1.2),(x1.2.2.1.1,x1.2.2.1.2),(List.set x1.2.2.2.1 x4 (zi zj (x3+x1.2.2.2.2.2.1))),x1.2.2.2.2.2.2.1,x1.2.2.2.2.2.2.2.1,(zi zj (x1.2.2.2.2.2.2.2.2+1))))else some (Sum.inr ((s0.1,s0.2),(s1.1,s1.2),(s2.1,s2.2),s3))
def Bx (a0 a1:Tq5):Option (List Int×Bool):=(OM (zi zj ((a0.2.length:Int)+(a1.2.length:Int))) 8 1).bind fun x0=>(Ad (fun(s:(Tq5×Tq5×Tq5×(List Int)×(List Int)×Int×Int))=>Hu s.1 s.2.1 s.2.2.1 s.2.2.2.1 s.2.2.2.2.1 s.2.2.2.2.2.1 s.2.2.2.2.2.2) ((a0.1,a0.2),(a1.1,a1.2),(false,([]:List Int)),(List.replicate x0 (0:Int)),a0.2,(a0.2.length:Int),(0:Int))).bind fun x1=>(Bg (!(x1.1.1==x1.2.1.1)) x1.2.2.2).bind fun x2=>some (x2.1,x2.2)
def HO:OKE:=fq T6 (fun x=>Bx x.1 x.2) [Eb] Tryz.func139
def Np (s0 s1 s2:List Int) (s3 s4:Int):Option ((List Int)×(List Int)×(List Int)×Int×Int⊕(List Int)×(List Int)×Int×Int):=bif decide ((s0.length:Int)<(zi zj ((s2.length:Int)+1)))then(C3 8 1 s0 ([0]:List Int)).bind fun x0=>some (Sum.inl (x0,s1,s2,s3,s4))else some (Sum.inr (s0,s1,s3,s4))
def CY (s0 s1 s2:List Int) (s3 s4:Int) (s5 s6 s7:Int):Option ((List Int)×(List Int)×(List Int)×Int×Int×Int×Int×Int⊕(List Int)×(List Int)×(List Int)×Int×Int×Int×Int):=(bif decide (s6>=65536)then some (Sum.inr (s0,s1,s2,s3,s4,s5,s6,s7))else bif decide (s7<65536)then(A1 (zi zj (s3-2)) (List.length s1)).bind fun x0=>(AX s1 x0).bind fun x1=>(A1 (zi zj ((zi zj (s5+s3))-2)) (List.length s0)).bind fun x2=>(AX s0 x2).bind fun x3=>bif decide ((zi zj (s6*x1))>(zi zj ((zi zj (s7*65536))+x3)))then some (Sum.inr (s0,s1,s2,s3,s4,s5,s6,s7))else some (Sum.inl (Sum.inr (s0,s1,s2,s3,s4,s5,s6)))else some (Sum.inl (Sum.inr (s0,s1,s2,s3,s4,s5,s6)))).bind fun x4=>Sum.elim (fun x5=>some x5) (fun x6=>(A1 (zi zj (x6.2.2.2.1-1)) (List.length x6.2.1)).bind fun x7=>(AX x6.2.1 x7).bind fun x8=>some (Sum.inl (x6.1,x6.2.1,x6.2.2.1,x6.2.2.2.1,x6.2.2.2.2.1,x6.2.2.2.2.2.1,(zi zj (x6.2.2.2.2.2.2.1-1)),(zi zj (x6.2.2.2.2.2.2.2+x8))))) x4
def EG (s0 s1 s2:List Int) (s3 s4:Int) (s5 s6:Int) (s7 s8 s9:Int):Option Tq15:=bif decide (s9<s8)then(A1 (zi zj (s5+s9)) (List.length s0)).bind fun x0=>(AX s0 x0).bind fun x1=>(A1 s9 (List.length s1)).bind fun x2=>(AX s1 x2).bind fun x3=>(bif decide ((zi zj ((zi zj (x1-(zi zj (s6*x3))))-s7))<0)then some (Sum.inr (s0,s1,s2,s3,s4,s5,s6,(zi zj (Int.tdiv (zi zj ((zi zj ((zi zj ((0:Int)-(zi zj ((zi zj (x1-(zi zj (s6*x3))))-s7))))+65536))-1)) 65536)),s9,(zi zj ((zi zj ((zi zj (x1-(zi zj (s6*x3))))-s7))+(zi zj ((zi zj (Int.tdiv (zi zj ((zi zj ((zi zj ((0:Int)-(zi zj ((zi zj (x1-(zi zj (s6*x3))))-s7))))+65536))-1)) 65536))*65536)))),s8,s9))else some (Sum.inr (s0,s1,s2,s3,s4,s5,s6,(0:Int),s9,(zi zj ((zi zj (x1-(zi zj (s6*x3))))-s7)),s8,s9))).bind fun x4=>Sum.elim (fun x5=>some x5) (fun x6=>(A1 (zi zj (x6.2.2.2.2.2.1+x6.2.2.2.2.2.2.2.2.1)) (List.length x6.1)).bind fun x7=>(AX x6.1 x7).bind fun x8=>some (Sum.inl ((List.set x6.1 x7 x6.2.2.2.2.2.2.2.2.2.1),x6.2.1,x6.2.2.1,x6.2.2.2.1,x6.2.2.2.2.1,x6.2.2.2.2.2.1,x6.2.2.2.2.2.2.1,x6.2.2.2.2.2.2.2.1,x6.2.2.2.2.2.2.2.2.2.2.1,(zi zj (x6.2.2.2.2.2.2.2.2.2.2.2+1))))) x4 else some (Sum.inr (s0,s1,s2,s3,s4,s5,s6,s7))
def EE (s0 s1 s2:List Int) (s3 s4:Int) (s5 s6:Int) (s7 s8 s9:Int):Option Tq15:=bif decide (s9<s8)then(A1 (zi zj (s5+s9)) (List.length s0)).bind fun x0=>(AX s0 x0).bind fun x1=>(A1 s9 (List.length s1)).bind fun x2=>(AX s1 x2).bind fun x3=>(A1 (zi zj (s5+s9)) (List.length s0)).bind fun x4=>(AX s0 x4).bind fun x5=>some (Sum.inl ((List.set s0 x4 (Int.tmod (zi zj (s7+(zi zj (x1+x3)))) 65536)),s1,s2,s3,s4,s5,s6,(zi zj (Int.tdiv (zi zj (s7+(zi zj (x1+x3)))) 65536)),s8,(zi zj (s9+1))))else some (Sum.inr (s0,s1,s2,s3,s4,s5,s6,s7))
end
end Go.Proofs.YtiijheppiboglaaGreatDoor.Ev
