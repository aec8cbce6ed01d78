/- Whatever comes in, the law of this claim answers true, and nothing that was handed in changes. -/
import Derived.Test.YtiijheppiboglaaDoorKC
import Derived.WalkKit
import Derived.SizedLaws
import Derived.IntWalk
import Derived.Below
import Derived.Lib.LaidTab
import Derived.Lib.ItoaMem
import Derived.Lib.AppendIntMem
import Derived.Lib.Itoa
import Derived.Lib.Join
import Derived.Lib.Repeat
import Derived.Lib.Split
import Derived.Lib.SplitLaws
import Derived.Lib.IndexMore
import Derived.Lib.Strings
import Derived.Lib.AtoiAll
import Derived.Lib.AtoiErrMem
import Derived.Shelf.Strings.Builder1
import Derived.Shelf.Small.Wraps
import Derived.Shelf.Strconv.Atoi
import Derived.Shelf.Strconv.Itoa0
import Derived.Shelf.Strconv.Itoa1
import Derived.Shelf.LaysM
import Derived.Shelf.Strconv.Itoa2
import Derived.Shelf.Strconv.Itoa3
import Derived.Shelf.Strconv.AtoiErrFast
import Derived.Shelf.Strconv.ParseIntEmpty
import Derived.Shelf.Strconv.AtoiFail
import Derived.Shelf.Strconv.Clone
import Derived.Shelf.Strconv.SyntaxError
import Derived.Shelf.LaysC
import Derived.Shelf.Strconv.ToError
import Derived.Shelf.Strconv.Lower
import Derived.Shelf.Strconv.ParseUint10
import Derived.Shelf.Strconv.ParseUint10Empty
import Derived.Shelf.Strconv.ParseUint10Any
import Derived.Shelf.Strconv.ParseInt10
import Derived.Shelf.Strconv.AtoiLong
import Derived.Shelf.Strconv.AtoiInnerAll
import Derived.Shelf.Strconv.RangeError
import Derived.Shelf.Strconv.ToErrorRange
import Derived.Shelf.Strconv.AtoiAll
import Derived.Shelf.Strconv.ErrVarAll
import Derived.Shelf.Strings.Search1
import Derived.Shelf.Strings.Search2
import Derived.Shelf.Strings.Search3
import Derived.Shelf.Strings.Count
import Derived.Shelf.Strings.Shaped
import Derived.Shelf.Strings.Prefix
import Derived.Shelf.Strings.Split
import Derived.Test.YtiijheppiboglaaDoorProg
import Derived.BigCall
import Derived.Lib.OthersKept
import Derived.HandedShaped
import Derived.LaidMore
import Derived.Shelf.Vars
import Derived.Stop.LaidErr
import Derived.KernelRfl
import Derived.Lib.ItoaNum
import Derived.Lib.ItoaLen
import Derived.Test.YtiijheppiboglaaDoorRows
import Derived.Test.YtiijheppiboglaaDoorCards
import Derived.Test.YtiijheppiboglaaDoorTie
import Derived.ProofKit
import Derived.OpenShut
import Derived.ShutString
import Derived.ChangeOld
import Derived.SevenTiedAt
import Derived.Lay
import Derived.Stop.Joined
import Derived.Test.YtiijheppiboglaaDoorChecked
set_option maxHeartbeats 2000000
open List renaming getElem?_eq_some_iff → za0, all_eq_true → za2, getElem?_eq_getElem → za4, mem_flatMap → za5, mem_of_getElem? → za6, flatMap_cons → za7, map_cons → za9, getElem?_take → zb1, mem_append → zb2, all_cons → zb5, eq_nil_of_length_eq_zero → zb7, mem_cons → zb8, getElem?_drop → zb9, mem_map → zc3, getElem?_append → zc4, getElem?_map → zc5, getElem?_append_left → zc6, getElem?_of_mem → zc9, length_cons → zd4, mem_range → zd6
open Bool renaming and_eq_true → za1, false_eq_true → zb3, not_eq_true' → zd5
open Nat renaming eq_of_beq_eq_true → za3, le_refl → zb6, lt_of_lt_of_le → zc0, mul_le_mul_right → zc2, add_mul → zd1, zero_add → zd2, le_of_ble_eq_true → zd3, lt_or_ge → zd7
open Option renaming map_eq_some_iff → za8, bind_some → zb4, map_some → zc1, getD_some → zd0
open Array renaming getD_eq_getD_getElem? → zb0, getElem?_eq_some_iff → zc7, getElem?_eq_getElem → zc8
open Go.IntKind renaming wrap → zi, i64 → zj, u64 → zk
open Option.some renaming inj → zv, injEq → zx
noncomputable section
set_option linter.unusedVariables false
set_option linter.unusedSimpArgs false
set_option linter.unusedSectionVars false
namespace Go.Proofs.YtiijheppiboglaaDoor.Ev
section
open Go
section
variable {P:Program} {R:Rel} {cf:Cfg} {X:TX} {g:FuncId}
def EN(R:Rel)(cf:Cfg)(X:TX):Prop:=∀g E,JX X.ents g=some E->Ch R E/\E.a.g=g/\cf.byref g=(B4 E.a.params).map Jc
theorem Pd{α:Type}{op:Op}{b:Nat}{tm:TTm}{m:Tm}{hp hpm:THp}{hvm:Hp}{K:SV->THp->Cls->Option α}{z:α}(hX:XOK P X)(hisr:isR op=true)(hr:RT hp tm m)(hh:RHm hpm hp hvm)(h:AN X op b tm hpm K=some z):Ba P R cf op b m hp hpm hvm K z:=by
 cases op with
 |load t a=>exact Qt hX hr hh h
 |indexAddr t x i=>exact Rx hX hr hh h
 |convert s d x=>exact OV hX hr hh h
 |slice t x lo hi mx=>
  cases mx with
  |none=>exact Nl hX hr hh h
  |some m'=>
   cases hi with
   |none=>simp[AN]at h
   |some h'=>exact Lw hX hr h
 |_=>simp[isR]at hisr
theorem QT{α:Type}{op:Op}{b:Nat}{tm:TTm}{m:Tm}{hp:THp}{hv:Hp}{K:SV->THp->Cls->Option α}{z:α}(hX:XOK P X)(hE:EN R cf X)(hh:RH hp hv)(hr:RT hp tm m)(h:AN X op b tm hp K=some z):Js P R cf op b tm m hv K z:=by
 cases op with
 |move x=>exact(Sd hr h).done hh hr
 |assign x=>exact(PF hr h).done hh hr
 |pick c x y=>exact(R4 hr h).done hh hr
 |alloc t=>exact QG hX hh hr h
 |box t x=>exact SO hX hh hr h
 |build t parts=>exact(QZ hX hr h).done hh hr
 |buildSlice t len parts=>exact Q8 hX hh hr h
 |load t a=>exact(Qt hX hr hh.toM h).done hh hr
 |store t a x=>exact QA hX hh hr h
 |nilCheck x=>exact(SK hr h).done hh hr
 |binOp op t x y yt=>exact(SP hX hr h).done hh hr
 |unOp u t x=>exact(S9 hr h).done hh hr
 |convert s d x=>exact(OV hX hr hh.toM h).done hh hr
 |makeSlice t l c=>exact RN hX hh hr h
 |slice t x lo hi mx=>
  cases mx with
  |none=>exact(Nl hX hr hh.toM h).done hh hr
  |some m'=>
   cases hi with
   |none=>simp[AN]at h
   |some h'=>exact(Lw hX hr h).done hh hr
 |fieldAddr t x k=>exact(LH hX hr h).done hh hr
 |field t x k=>exact(Q5 hX hr h).done hh hr
 |indexAddr t x i=>exact(Rx hX hr hh.toM h).done hh hr
 |index t x i=>exact(QU hX hr h).done hh hr
 |extract x k=>exact(Oi hr h).done hh hr
 |makeFunc fn first caps=>
  cases fn with
  |func f=>exact(RA hr h).done hh hr
  |_=>simp[AN]at h
 |call c=>
  obtain⟨callee,args,ts⟩:=c;cases callee with
  |builtin bi=>
   cases bi with
   |append=>exact OU hX hh hr h
   |len=>exact(SX hX hr hh.toM h).done hh hr
   |min=>exact(SQ hr h).done hh hr
   |max=>exact(Sp hr h).done hh hr
   |_=>simp[AN]at h
  |value f=>
   simp only[AN]at h
   split at h
   ·rename_i g caps hf;have hc:=Au hr f;rw[hf]at hc;obtain⟨us,hfv,hcs⟩:=NX hc;obtain⟨x,hp',cls,y,hv',h1,h2,h3,h4,h5⟩:=Ov hE hh hr (RC.append (Dy hr args.toList) (hcs.mono fun _ _ _ h=>h.to1.to2)) h;refine⟨x,hp',cls,y,hv',h1,h2,h3,h4,fun KV hk=> ?_⟩
    show(match An m f with|.cl g caps=>Bx R cf g (args.toList.map (An m)++caps) hv b KV|_=>False);rw[hfv];exact h5 KV hk
   ·cases h
  |_=>simp[AN]at h
 |_=>simp[AN]at h
theorem Qs{b:Nat}:∀(hp:THp)(id:Nat),Ao (Ma b hp) id=if id<b then Ao hp id else none
 |[],id=>by simp[Ma,Ao]
 |(k,x)::l,id=>by
  have ih:=Qs (b:=b) l id;unfold Ma at ih⊢
  rw[List.filter_cons];by_cases hk:k<b
  ·have:Nat.blt k b=true:=Nat.ble_eq_true_of_le hk;simp only[this,if_true];rw[Al,Al];by_cases hi:id=k
   ·subst hi;rw[zr rfl,zr rfl,zr hk]
   ·rw[zw hi,zw hi];exact ih
  ·have:Nat.blt k b=false:=by
    cases hb:Nat.blt k b with
    |false=>rfl
    |true=>exact absurd (Nat.lt_of_succ_le (zd3 hb)) hk
   simp only[this,zb3,if_false];rw[Al];by_cases hi:id=k
   ·subst hi;rw[zw hk]at ih⊢;exact ih
   ·rw[zw hi];exact ih
theorem Q4{α:Type}{draw:Bool}{op:Op}{b:Nat}{tm:TTm}{m:Tm}{hp:THp}{hv:Hp}{K:SV->THp->Cls->Option α}{z:α}(hX:XOK P X)(hE:EN R cf X)(hh:RH hp hv)(hr:RT hp tm m)(h:Qj X draw op b tm hp K=some z):
  ∃x hp' cls y hv',K x hp' cls=some z/\RV2 hp' x y/\RH hp' hv'/\RT hp' tm m/\∀KV:AU,KV y hv' cls->CY P R cf draw op b (An m) hv KV:=by
 unfold Qj at h;cases hd:draw&&isR op with
 |true=>
  rw[hd]at h;have hi:isR op=true:=by simp only[za1]at hd;exact hd.2
  obtain⟨x,y,cls,h1,h2,h3⟩:=Pd (R:=R) (cf:=cf) (hp:=hp) (hpm:=Ma b hp) (hvm:=QF b hv) hX hi hr (fun id bb hb=>by
   rw[Qs]at hb
   split at hb
   ·rename_i hlt;obtain⟨k,hk,hrb⟩:=hh id bb hb;exact⟨hb,k,by simp only[QF,zr hlt,hk],hrb⟩
   ·cases hb) h
  refine⟨x,hp,cls,y,hv,h1,h2,hh,hr,fun KV hk=> ?_⟩
  unfold CY;rw[hd];exact h3 (fun x _ cls=>KV x hv cls) hk
 |false=>
  rw[hd]at h;obtain⟨x,hp',cls,y,hv',h1,h2,h3,h4,h5⟩:=QT hX hE hh hr h;refine⟨x,hp',cls,y,hv',h1,h2,h3,h4,fun KV hk=> ?_⟩
  unfold CY;rw[hd];exact h5 KV hk
theorem NL{hp:THp}{tm:TTm}{m:Tm}{x:SV}{y:V}(h:RT hp tm m)(hx:RV2 hp x y)(dst:Option Tmp):RT hp (FL tm dst x) (put m dst y):=by
 cases dst with
 |none=>exact h
 |some d=>
  intro t;simp only[FL,put];rw[BY];unfold upd
  split
  ·exact hx
  ·exact h t
theorem Pi{hp:THp}{tm:TTm}{m:Tm}{op:Op}(hr:RT hp tm m)(h:Mo tm op=true):ND m op=OY tm op:=by
 unfold ND OY;unfold Mo at h;generalize op.operands.toList=l at h⊢
 induction l with
 |nil=>rfl
 |cons y l ih=>
  simp only[za9,zb5,za1]at h;simp only[za7,za9];rw[ih h.2,(CT h.1 (Au hr y)).2.2.1]
theorem F8{α β:Type}{f g:α->List β}:∀{l:List α},(∀x∈l,f x=g x)->l.flatMap f=l.flatMap g
 |[],_=>rfl
 |x::l,h=>by
  rw[za7,za7,h x (List.mem_cons_self ..),F8 fun y hy=>h y (List.mem_cons_of_mem _ hy)]
theorem Lq{hp:THp}{hv:Hp}{tm:TTm}{m:Tm}{op:Op}{ids:List Nat}(hE:EN R cf X)(hh:RH hp hv)(hr:RT hp tm m)(h:Gd X op tm hp=some ids):Df cf op (An m) hv=some ids:=by
 unfold Gd at h
 split at h
 ·rename_i t a x
  split at h
  ·rename_i hc;cases h
   simp only[za1]at hc;simp only[Df];rw[(CT hc.1 (Au hr a)).2.2.1,(CT hc.2 (Au hr x)).2.2.1]
  ·cases h
 ·rename_i f args tys
  split at h
  case h_2=>cases h
  rename_i g caps hf
  split at h
  case h_2=>cases h
  rename_i E hfe;obtain⟨_,_,hbr⟩:=hE g E hfe
  split at h
  case h_2=>cases h
  rename_i args' hargs'
  split at h
  case isFalse=>cases h
  rename_i s1
  split at h
  case h_2=>cases h
  rename_i o ho;cases h
  have hc:=Au hr f;rw[hf]at hc;obtain⟨us,hfv,hcs⟩:=NX hc;obtain⟨ys',hV,hargs2,hlent⟩:=FX hh hargs' (RC.append (Dy hr args.toList) (hcs.mono fun _ _ _ h=>h.to1.to2));obtain⟨a1,a2,a3,a4⟩:=RC.all1 s1 hargs2;rw[<-hbr]at hV hlent;have hclose:Cc hv 64 (ys'.flatMap Ad) []=some o:=by rw[a2];exact CO hh _ _ _ ho
  have hcloseC:BH hv (ys'.flatMap Ad)=some o:=by
   unfold BH;rw[hclose];simp only;rw[zr (by rw[a2];exact Gy hh ho)]
  simp only[Df,hfv,hV,hcloseC,hlent]
 ·rename_i t n parts
  split at h
  ·rename_i hc;cases h
   simp only[Df]
   congr 1
   refine F8 fun p hp=> ?_
   exact(CT (za2.1 hc p hp) (Au hr p.2)).2.2.1
  ·cases h
 ·cases h
theorem QO{hp:THp}{hv:Hp}{tm:TTm}{m:Tm}{all:List Oper}{i:Nat}(hE:EN R cf X)(hh:RH hp hv)(hr:RT hp tm m)(h:OG X all tm hp i=true):Db cf all m hv i=true:=by
 unfold OG at h;unfold Db;cases ha:all[i]? with
 |none=>rw[ha]at h;cases h
 |some a=>
  rw[ha]at h;simp only[za1]at h⊢
  refine⟨h.1,?_⟩
  replace h:=h.2
  cases ht:Gd X a.op tm hp with
  |none=>rw[ht]at h;cases h
  |some ids=>
   rw[ht]at h;rw[Lq hE hh hr ht];simp only at h⊢
   refine za2.2 fun j hj=> ?_
   have h4:=za2.1 h j hj;cases ho:all[j]? with
   |none=>simp
   |some o=>
    rw[ho]at h4;simp only[Bool.or_eq_true,za1]at h4⊢
    rcases h4 with h4|h4|⟨h4,h5,h6⟩
    ·exact .inl h4
    ·exact .inr (.inl h4)
    ·exact .inr (.inr ⟨h4,by rw[Pi hr h5];exact h6⟩)
theorem RK{hp:THp}{hv:Hp}{tm:TTm}{m:Tm}{all:List Oper}{i:Nat}(hE:EN R cf X)(hh:RH hp hv)(hr:RT hp tm m)(h:(eOK all i||OG X all tm hp i)=true):(eOK all i||Db cf all m hv i)=true:=by
 simp only[Bool.or_eq_true]at h⊢
 exact h.imp (fun h=>h) (QO hE hh hr)
theorem PD{α:Type}{draw ok ok':Bool}{cls:Cls}{A:Option α}{z:α}(hok:ok=true->ok'=true)(h:KR draw ok cls A=some z):A=some z/\∀B:Prop,B->drawn draw ok' cls B:=by
 cases draw<;>cases cls<;>first|exact⟨h,fun B hb=>hb⟩|(obtain⟨h1,h2⟩:=Bd h;exact⟨h2,fun B hb=>⟨hok h1,hb⟩⟩)
theorem Ih{α:Type}{all:List Oper}{draw:Bool}(hX:XOK P X)(hE:EN R cf X):∀(l:List Oper)(i:Nat){st:TSt}{s:St}{K:TSt->Option α}{z:α},RS st s->Gr X all draw l i st K=some z->
  ∃st' s',K st'=some z/\RS st' s'/\st'.c=st.c/\∀KV:St->Prop,KV s'->A3 P R cf all draw l i s KV
 |[],i,st,s,K,z,hs,h=>⟨st,s,h,hs,rfl,fun KV hk=>hk⟩
 |o::l,i,st,s,K,z,hs,h=>by
  have go:∀(tm:TTm),RT st.hp tm s.tm->(Qj X draw o.op (16*(st.c+i)) tm st.hp fun x hp cls=>KR draw (eOK all i||OG X all tm st.hp i) cls (Gr X all draw l (i+1) {tm:=FL tm o.dst x,hp:=hp,c:=st.c} K))=some z->
    ∃st' s',K st'=some z/\RS st' s'/\st'.c=st.c/\∀KV:St->Prop,KV s'->CY P R cf draw o.op (16*(s.c+i)) (An s.tm) s.hp fun x hp cls=>drawn draw (eOK all i||Db cf all s.tm s.hp i) cls (A3 P R cf all draw l (i+1) {tm:=put s.tm o.dst x,hp:=hp,c:=s.c} KV):=by
   intro tm hr h;obtain⟨x,hp',cls,y,hv',h1,h2,h3,h4,h5⟩:=Q4 (R:=R) (cf:=cf) hX hE hs.hp hr h;obtain⟨h6,h7⟩:=PD (RK hE hs.hp hr) h1;obtain⟨st',s',q1,q2,q3,q4⟩:=Ih hX hE l (i+1) (st:={tm:=FL tm o.dst x,hp:=hp',c:=st.c}) (s:={tm:=put s.tm o.dst y,hp:=hv',c:=s.c}) ⟨NL h4 h2 o.dst,h3,hs.c⟩ h6;exact⟨st',s',q1,q2,q3,fun KV hk=>by rw[hs.c];exact h5 _ (by have:=h7 _ (q4 KV hk);rw[hs.c]at this;exact this)⟩
  have no:∀(tm:TTm),RT st.hp tm s.tm->Gr X all draw l (i+1) {tm:=FL tm o.dst (.tup []),hp:=st.hp,c:=st.c} K=some z->
    ∃st' s',K st'=some z/\RS st' s'/\st'.c=st.c/\∀KV:St->Prop,KV s'->A3 P R cf all draw l (i+1) {tm:=put s.tm o.dst (.tup []),hp:=s.hp,c:=s.c} KV:=by
   intro tm hr h;exact Ih hX hE l (i+1) (st:={tm:=FL tm o.dst (.tup []),hp:=st.hp,c:=st.c}) (s:={tm:=put s.tm o.dst (.tup []),hp:=s.hp,c:=s.c}) ⟨NL (x:=.tup []) (y:=.tup []) hr ⟨[],rfl,trivial⟩ o.dst,hs.hp,hs.c⟩ h
  simp only[Gr]at h;cases hg:o.guard with
  |none=>
   rw[hg]at h;obtain⟨st',s',q1,q2,q3,q4⟩:=go st.tm hs.tm h;exact⟨st',s',q1,q2,q3,fun KV hk=>by unfold A3;rw[hg];exact q4 KV hk⟩
  |some jw=>
   obtain⟨j,want⟩:=jw;rw[hg]at h;simp only at h;cases hd:(all[j]?).bind (·.dst)with
   |none=>rw[hd]at h;cases h
   |some d=>
    rw[hd]at h;simp only at h;have htd:=hs.tm d;have fin:∀w:Bool,GX (s.tm d) want=some w->(∃st' s',K st'=some z/\RS st' s'/\st'.c=st.c/\∀KV:St->Prop,KV s'->(if w=true then CY P R cf draw o.op (16*(s.c+i)) (An s.tm) s.hp fun x hp cls=>drawn draw (eOK all i||Db cf all s.tm s.hp i) cls (A3 P R cf all draw l (i+1) {tm:=put s.tm o.dst x,hp:=hp,c:=s.c} KV)else A3 P R cf all draw l (i+1) {tm:=put s.tm o.dst (.tup []),hp:=s.hp,c:=s.c} KV))->
      ∃st' s',K st'=some z/\RS st' s'/\st'.c=st.c/\∀KV:St->Prop,KV s'->A3 P R cf all draw (o::l) i s KV:=by
     intro w hw ⟨st',s',q1,q2,q3,q4⟩;refine⟨st',s',q1,q2,q3,fun KV hk=> ?_⟩
     unfold A3;rw[hg];simp only[hd,zc1,Af,hw];exact q4 KV hk
    have same:∀t:Bool,s.tm d=.v (.bool t)->RT st.hp ((d,.bool t)::st.tm) s.tm:=by
     intro t ht t';rw[BY]
     split
     ·rename_i he;rw[he,ht];rfl
     ·exact hs.tm t'
    split at h
    ·rename_i t hv;rw[hv]at htd;have htd:=Fz htd;cases want with
     |true=>
      simp only at h;cases t with
      |true=>
       obtain⟨st',s',q1,q2,q3,q4⟩:=go _ (same true htd) h;exact fin true (by rw[htd];rfl) ⟨st',s',q1,q2,q3,fun KV hk=>by rw[zr rfl];exact q4 KV hk⟩
      |false=>
       obtain⟨st',s',q1,q2,q3,q4⟩:=no _ (same false htd) h;exact fin false (by rw[htd];rfl) ⟨st',s',q1,q2,q3,fun KV hk=>by rw[zw (by simp)];exact q4 KV hk⟩
     |false=>
      simp only at h;cases t with
      |true=>
       obtain⟨st',s',q1,q2,q3,q4⟩:=no _ (same true htd) h;exact fin false (by rw[htd];rfl) ⟨st',s',q1,q2,q3,fun KV hk=>by rw[zw (by simp)];exact q4 KV hk⟩
      |false=>
       obtain⟨st',s',q1,q2,q3,q4⟩:=go _ (same false htd) h;exact fin true (by rw[htd];rfl) ⟨st',s',q1,q2,q3,fun KV hk=>by rw[zr rfl];exact q4 KV hk⟩
    ·rename_i hv;rw[hv]at htd;obtain⟨us,hus,hc⟩:=(show ∃us,s.tm d=.tup us/\RC (RV1 st.hp) [] us from htd);cases us with
     |cons a l=>exact hc.elim
     |nil=>
      obtain⟨st',s',q1,q2,q3,q4⟩:=no _ hs.tm h;exact fin false (by rw[hus];rfl) ⟨st',s',q1,q2,q3,fun KV hk=>by rw[zw (by simp)];exact q4 KV hk⟩
    ·cases h
structure CfOK (cf:Cfg) (g:FuncId) (X:TX):Prop where
 live:∀r an,Ep X.ann.heads r=some an->cf.live g r=CX an
 out:∀r outs ex an,Ep X.ann.outs r=some outs->K9 outs ex=some an->cf.out g r ex=CX an
 join:∀r an,Ep X.ann.joins r=some an->cf.join g r=some (CX an)
 nojoin:∀r,Ep X.ann.joins r=none->cf.join g r=none
 res:cf.res g=(CX X.ann.res).map (·.2)
 par:cf.par g=CX X.ann.params
 rts:cf.rts g=Cd (Jr (Br X.ann.res) X.ann.e 0 (Br X.ann.res))
theorem JI{a b:Ex}(h:Kp a b=true):a=b:=by
 cases a<;>cases b<;>simp[Kp]at h
 ·rfl
 ·rw[h]
 ·rfl
theorem NF{α:Type}{e:Nat}{Q:PT α}{ex:Ex}{st:TSt}{z:α}:∀{l:List (Ex×List Item)}{d:Q9 l},M3 e l ex st=some d->PC Q l d=some z->∃an dd,K9 l ex=some an/\CD e an st=some dd/\Q ex (CW an dd)=some z
 |[],d,h,_=>by cases h
 |[a],d,h,hz=>by
  simp only[M3]at h;obtain⟨h1,h2⟩:=Bd h;have:=JI h1;subst this;refine⟨a.2,d,?_,h2,hz⟩
  show cond (Kp a.1 a.1) (some a.2) _=_;rw[h1];rfl
 |a::b::l,d,h,hz=>by
  simp only[M3]at h;cases hc:Kp a.1 ex with
  |true=>
   rw[hc]at h;simp only[cond_true,za8]at h;obtain⟨dd,h1,rfl⟩:=h;have:=JI hc;subst this;refine⟨a.2,dd,?_,h1,hz⟩
   show cond (Kp a.1 a.1) (some a.2) _=_;rw[hc];rfl
  |false=>
   rw[hc]at h;simp only[cond_false,za8]at h;obtain⟨dd,h1,rfl⟩:=h;obtain⟨an,d2,q1,q2,q3⟩:=NF (l:=b::l) h1 hz;refine⟨an,d2,?_,q2,q3⟩
   show cond (Kp a.1 ex) (some a.2) (K9 (b::l) ex)=_;rw[hc];exact q1
theorem B1(hX:XOK P X)(hE:EN R cf X)(hcf:CfOK cf g X):∀(c:Code){α:Type}{st:TSt}{s:St}{Q:PT α}{z:α},RS st s->wtC X c st Q=some z->
  ∃ex st' s',Q ex st'=some z/\RS st' s'/\∀QV:CL,QV ex s'->we P R cf g X.e c s QV
 |.skip,α,st,s,Q,z,hs,h=>⟨.normal,st,s,h,hs,fun QV hq=>hq⟩
 |.exit id,α,st,s,Q,z,hs,h=>⟨.exit id,st,s,h,hs,fun QV hq=>hq⟩
 |.ret,α,st,s,Q,z,hs,h=>⟨.ret,st,s,h,hs,fun QV hq=>hq⟩
 |.region id ops draw,α,st,s,Q,z,hs,h=>by
  obtain⟨st',s',h1,h2,h3,h4⟩:=Ih (R:=R) (cf:=cf) hX hE _ 0 hs h;refine⟨.normal,_,{s' with c:=s'.c+ops.size},h1,⟨h2.tm,h2.hp,by show s'.c+_=st'.c+_;rw[h2.c]⟩,fun QV hq=> ?_⟩
  unfold we;exact h4 _ hq
 |.seq a b,α,st,s,Q,z,hs,h=>by
  unfold wtC at h;cases hj:Ep X.ann.joins (rid b)with
  |none=>
   rw[hj]at h;simp only at h;obtain⟨ex,st1,s1,h1,h2,h3⟩:=B1 hX hE hcf a hs h;cases ex with
   |normal=>
    obtain⟨ex,st2,s2,q1,q2,q3⟩:=B1 hX hE hcf b h2 h1;exact⟨ex,st2,s2,q1,q2,fun QV hq=>by unfold we;exact h3 _ (by show My _ _ _ _;rw[hcf.nojoin _ hj];exact q3 QV hq)⟩
   |exit id=>exact⟨.exit id,st1,s1,h1,h2,fun QV hq=>by unfold we;exact h3 _ hq⟩
   |ret=>exact⟨.ret,st1,s1,h1,h2,fun QV hq=>by unfold we;exact h3 _ hq⟩
  |some an=>
   rw[hj]at h;simp only at h;obtain⟨w,hw,hz⟩:=AD h;obtain⟨ex,st1,s1,h1,h2,h3⟩:=B1 hX hE hcf a hs hw;have other:∀ex',ex'≠ .normal->ex=ex'->(Q ex' st1).map Sum.inl=some w->∃ex st' s',Q ex st'=some z/\RS st' s'/\∀QV:CL,QV ex s'->we P R cf g X.e (a.seq b) s QV:=by
    intro ex' hne he h1;subst he;simp only[za8]at h1;obtain⟨r,hr,rfl⟩:=h1;simp only[Sum.elim_inl,zx]at hz;subst hz;refine⟨ex,st1,s1,hr,h2,fun QV hq=> ?_⟩
    unfold we;refine h3 _ ?_
    cases ex with
    |normal=>exact absurd rfl hne
    |exit id=>exact hq
    |ret=>exact hq
   cases ex with
   |normal=>
    simp only[za8]at h1;obtain⟨d,hd,rfl⟩:=h1;simp only[Sum.elim_inr]at hz;obtain⟨s2,c1,c2⟩:=En h2 hd;obtain⟨ex,st3,s3,q1,q2,q3⟩:=B1 hX hE hcf b c2 hz;exact⟨ex,st3,s3,q1,q2,fun QV hq=>by unfold we;exact h3 _ (by show My _ _ _ _;rw[hcf.join _ _ hj];exact c1 _ (q3 QV hq))⟩
   |exit id=>exact other (.exit id) (by simp) rfl h1
   |ret=>exact other .ret (by simp) rfl h1
 |.cond c x y,α,st,s,Q,z,hs,h=>by
  unfold wtC at h;have hc:=Au hs.tm c
  split at h
  ·rename_i t ht;rw[ht]at hc;have hc:=Fz hc;cases t with
   |true=>
    obtain⟨ex,st1,s1,h1,h2,h3⟩:=B1 hX hE hcf x hs h;exact⟨ex,st1,s1,h1,h2,fun QV hq=>by unfold we;rw[hc];exact h3 QV hq⟩
   |false=>
    obtain⟨ex,st1,s1,h1,h2,h3⟩:=B1 hX hE hcf y hs h;exact⟨ex,st1,s1,h1,h2,fun QV hq=>by unfold we;rw[hc];exact h3 QV hq⟩
  ·cases h
 |.block id c,α,st,s,Q,z,hs,h=>by
  unfold wtC at h;obtain⟨ex,st1,s1,h1,h2,h3⟩:=B1 hX hE hcf c hs h;cases ex with
  |normal=>exact⟨.normal,st1,s1,h1,h2,fun QV hq=>by unfold we;exact h3 _ hq⟩
  |ret=>exact⟨.ret,st1,s1,h1,h2,fun QV hq=>by unfold we;exact h3 _ hq⟩
  |exit j=>
   simp only at h1;cases hj:Nat.beq j id with
   |true=>
    rw[hj]at h1;have hji:=za3 hj;exact⟨.normal,st1,s1,h1,h2,fun QV hq=>by unfold we;exact h3 _ (by show(if j=id then _ else _);rw[zr hji];exact hq)⟩
   |false=>
    rw[hj]at h1;have hji:j≠id:=fun he=>by subst he;rw[Nat.beq_refl]at hj;cases hj
    exact⟨.exit j,st1,s1,h1,h2,fun QV hq=>by unfold we;exact h3 _ (by show(if j=id then _ else _);rw[zw hji];exact hq)⟩
 |.loop c,α,st,s,Q,z,hs,h=>by
  unfold wtC at h
  split at h
  ·rename_i an outs ha ho;obtain⟨d0,hd0,h⟩:=AD h;obtain⟨w,hw,hz⟩:=AD h;obtain⟨n,hn⟩:=EB hw;obtain⟨s0,c1,c2⟩:=En hs hd0;have key:∀(n:Nat)(d:A6 an)(s0:St),CE (fun d=>wtC X c (CW an d) fun ex s=>match ex with|.normal=>(CD X.e an s).map .inl|ex=>(M3 X.e outs ex s).map .inr) n d=some w->RS (CW an d) s0->
     ∃ex st' s',Q ex st'=some z/\RS st' s'/\∀QV:CL,QV ex s'->Ii P R cf g X.e c s0 QV:=by
    intro n
    induction n with
    |zero=>intro d s0 h _;cases h
    |succ n ih=>
     intro d s0 h hs0;simp only[CE]at h;obtain⟨o,hb,h⟩:=AD h;obtain⟨ex,st1,s1,h1,h2,h3⟩:=B1 hX hE hcf c hs0 hb;have other:∀ex',ex'≠ .normal->ex=ex'->(M3 X.e outs ex' st1).map Sum.inr=some o->∃ex st' s',Q ex st'=some z/\RS st' s'/\∀QV:CL,QV ex s'->Ii P R cf g X.e c s0 QV:=by
      intro ex' hne he h1;subst he;simp only[za8]at h1;obtain⟨w',hw',rfl⟩:=h1;simp only[Sum.elim_inr,zx]at h;subst h;obtain⟨an2,dd,q1,q2,q3⟩:=NF hw' hz;obtain⟨s2,e1,e2⟩:=En h2 q2;refine⟨ex,_,s2,q3,e2,fun QV hq=> ?_⟩
      rw[H9];refine h3 _ ?_
      cases ex with
      |normal=>exact absurd rfl hne
      |exit id=>show Cb _ _ _ _;rw[hcf.out _ _ _ _ ho q1];exact e1 _ hq
      |ret=>show Cb _ _ _ _;rw[hcf.out _ _ _ _ ho q1];exact e1 _ hq
     cases ex with
     |normal=>
      simp only[za8]at h1;obtain⟨d',hd',rfl⟩:=h1;simp only[Sum.elim_inl]at h;obtain⟨s2,e1,e2⟩:=En h2 hd';obtain⟨ex,st3,s3,q1,q2,q3⟩:=ih d' s2 h e2;refine⟨ex,st3,s3,q1,q2,fun QV hq=> ?_⟩
      rw[H9];refine h3 _ ?_
      show Cb _ _ _ _;rw[hcf.live _ _ ha];exact e1 _ (q3 QV hq)
     |exit id=>exact other (.exit id) (by simp) rfl h1
     |ret=>exact other .ret (by simp) rfl h1
   obtain⟨ex,st',s',q1,q2,q3⟩:=key n d0 s0 hn c2;exact⟨ex,st',s',q1,q2,fun QV hq=>by rw[QW,hcf.live _ _ ha];exact c1 _ (q3 QV hq)⟩
  ·cases h
 |.scope c,α,st,s,Q,z,hs,h=>by simp[wtC]at h
 |.label l,α,st,s,Q,z,hs,h=>by simp[wtC]at h
 |.goto l,α,st,s,Q,z,hs,h=>by simp[wtC]at h
 |.rangeFunc ..,α,st,s,Q,z,hs,h=>by simp[wtC]at h
 |.refuse _,α,st,s,Q,z,hs,h=>by simp[wtC]at h
end
end
section
open Go
section
variable {P:Program} {X:TX} {g:FuncId}
structure FnOK (P:Program) (cf:Cfg) (X:TX) (fn:Func) (c:Code):Prop where
 get:P.funcs[X.ann.g]? =some fn
 body:fn.body=some c
 ok:GI fn c (Ce X.ann.params).length=true
 ext:cf.isExt X.ann.g=false
theorem Ku{cf:Cfg}{ext:Rel}{fn:Func}{c:Code}{F:A6 X.ann.params->Option (A6 X.ann.res)}(hX:XOK P X)(hE:EN (DC P cf ext) cf X)(hcf:CfOK cf X.ann.g X)(hf:FnOK P cf X fn c)
  (hF:∀x,wtF X fn x=F x):Ch (DC P cf ext) ⟨X.ann,F⟩:=by
 intro x y args blks st0 hy hs0 hd hid hl he _;have hy:wtF X fn x=some y:=by rw[hF];exact hy
 unfold wtF at hy;rw[hf.body]at hy;simp only at hy;have he:(args.flatMap Ad).eraseDups.length=X.e:=he;obtain⟨s0,k1,hs⟩:=En hs0 hd;obtain⟨ex,st',s',h1,h2,h3⟩:=B1 hX hE hcf c hs hy;have main:∀ex',ex=ex'->(∀i,ex'≠ .exit i)->(MG X st'.tm st'.hp fn.results.toList fun xs=>Ra X.ann.res X.e st' xs)=some y->
   ∃r blks',DC P cf ext X.ann.g args blks r blks'/\ResRel X.ann.res y r blks':=by
  intro ex' hex hno h1;obtain⟨r,blks',q1,q2⟩:=Pm (e:=X.e) (res:=X.ann.res) (rs:=fn.results.toList) (y:=y) hX h2 h1;refine⟨r,blks',DC.intro hf.ext hf.get hf.body (by rw[hl];exact hf.ok) hid ?_,q2⟩
  rw[he,hcf.par];refine k1 _ (h3 _ ?_)
  rw[hcf.res,hcf.rts];subst hex;cases ex with
  |exit i=>exact absurd rfl (hno i)
  |normal=>exact q1
  |ret=>exact q1
 cases ex with
 |exit i=>cases h1
 |normal=>exact main .normal rfl (by simp) h1
 |ret=>exact main .ret rfl (by simp) h1
def MQ(R:Rel)(cf:Cfg):List Ent->Prop
 |[]=>True
 |E::l=>(Ch R E/\cf.byref E.a.g=(B4 E.a.params).map Jc)/\MQ R cf l
theorem KI{R:Rel}{cf:Cfg}{X:TX}(h:MQ R cf X.ents):EN R cf X:=by
 intro g E hE;generalize X.ents=l at h hE
 induction l with
 |nil=>cases hE
 |cons a l ih=>
  simp only[JX]at hE;cases hg:Nat.beq a.a.g g with
  |true=>
   rw[hg]at hE;simp only[cond_true,zx]at hE;subst hE;have:=za3 hg;subst this;exact⟨h.1.1,rfl,h.1.2⟩
  |false=>
   rw[hg]at hE;exact ih h.2 hE
theorem Ps{tab:List FAnn}{ext:FuncId->Bool}{X:TX}(h:FJ tab X.ann.g=some X.ann):CfOK (KL tab ext) X.ann.g X where
 live r an hr:=by simp only[KL,h,zb4,hr]
 out r outs ex an hr he:=by simp only[KL,h,zb4,hr,he]
 join r an hr:=by simp only[KL,h,zb4,hr]
 nojoin r hr:=by simp only[KL,h,zb4,hr]
 res:=by simp only[KL,h]
 par:=by simp only[KL,h]
 rts:=by simp only[KL,h]
end
end
section
open Go Go.RowKit
def shT:Sh->Ty
 |.int k=>.int k
 |.str=>.str
 |.bool=>.bool
 |.sl _ e=>.sl (shT e)
 |.pair a b=>.pair (shT a) (shT b)
def WFS:(s:Sh)->(shT s).den->Prop
 |.int k,n=>(Lit.int k n).wf=true
 |.str,s=>s.length<=Ah
 |.bool,_=>True
 |.sl bytes e,l=>(∀a∈(show List (shT e).den from l),WFS e a)/\(show List (shT e).den from l).length*bytes<=Ah
 |.pair a b,x=>WFS a (show(shT a).den×(shT b).den from x).1/\WFS b (show(shT a).den×(shT b).den from x).2
theorem NE:∀{s:Sh}{xs:List V},DV s xs->∃x,RE (shT s) x xs/\WFS s x
 |.int k,xs,h=>by obtain⟨n,rfl,hn⟩:=h;exact⟨n,rfl,hn⟩
 |.str,xs,h=>by obtain⟨s,rfl,hs⟩:=h;exact⟨s.data.toList,by simp[RE,shT],by show s.data.toList.length<=Ah;rw[Array.length_toList];exact hs⟩
 |.bool,xs,h=>by obtain⟨b,rfl⟩:=h;exact⟨b,rfl,trivial⟩
 |.sl bytes e,xs,h=>by
  obtain⟨rows,rfl,hr,hb⟩:=h;have key:∀rows:List (List V),(∀r∈rows,DV e r)->∃l:List (shT e).den,RLx (RE (shT e)) l rows/\∀a∈l,WFS e a:=by
   intro rows
   induction rows with
   |nil=>intro _;exact⟨[],RLx.nil,by simp⟩
   |cons r rows ih=>
    intro h;obtain⟨a,h1,h2⟩:=NE (h r (by simp));obtain⟨l,h3,h4⟩:=ih fun r' hr'=>h r' (by simp[hr'])
    refine⟨a::l,RLx.cons h1 h3,fun b hb=> ?_⟩
    rcases zb8.1 hb with rfl|hb
    ·exact h2
    ·exact h4 b hb
  obtain⟨l,h1,h2⟩:=key rows hr;exact⟨l,.inr ⟨rows,rfl,h1⟩,h2,by rw[<-h1.1];exact hb⟩
 |.pair a b,xs,h=>by
  obtain⟨l,r,rfl,h1,h2⟩:=h;obtain⟨x,q1,q2⟩:=NE h1;obtain⟨y,q3,q4⟩:=NE h2;exact⟨(x,y),⟨l,r,rfl,q1,q3⟩,q2,q4⟩
def Hd:Sh->AC
 |.int k=>.int k
 |.str=>.str
 |.bool=>.bool
 |.sl _ e=>.im (shT e)
 |.pair _ _=>.bool
def Pc:Sh->Bool
 |.pair _ _=>false
 |_=>true
def WFC:(s:Sh)->(Hd s).den->Prop
 |.int k,n=>WFS (.int k) n
 |.str,s=>WFS .str s
 |.bool,b=>True
 |.sl n e,l=>WFS (.sl n e) l
 |.pair _ _,_=>True
theorem Rm{s:Sh}{x:V}(ho:Pc s=true)(h:DV s [x]):∃d:(Hd s).den,WFC s d/\∀hp,RV2 hp (Oz (Hd s) d) x:=by
 obtain⟨d,h1,h2⟩:=NE h;cases s with
 |int k=>
  have h1:[x]=[V.v (.int k d)]:=h1;cases h1
  exact⟨d,h2,fun hp=>rfl⟩
 |str=>
  have h1:[x]=[V.v (.string ⟨Array.mk d⟩)]:=h1;cases h1
  exact⟨d,h2,fun hp=>rfl⟩
 |bool=>
  have h1:[x]=[V.v (.bool d)]:=h1;cases h1
  exact⟨d,trivial,fun hp=>rfl⟩
 |sl n e=>
  refine⟨d,h2,fun hp=> ?_⟩
  rcases h1 with⟨e1,e2⟩|⟨rows,e2,e3⟩
  ·cases e2;exact .inl ⟨e1,rfl⟩
  ·cases e2;exact .inr ⟨rows,rfl,e3⟩
 |pair a b=>cases ho
def Dr:Nat->List Sh->List Item
 |_,[]=>[]
 |i,s::l=>.slot i (.cell (Hd s))::Dr (i+1) l
def WFP:(i:Nat)->(l:List Sh)->A6 (Dr i l)->Prop
 |_,[],_=>True
 |i,s::l,d=>WFC s (hdI (.slot i (.cell (Hd s))) (Dr (i+1) l) d)/\WFP (i+1) l (tlI (.slot i (.cell (Hd s))) (Dr (i+1) l) d)
def DVs:List Sh->List V->Prop
 |[],[]=>True
 |s::l,x::xs=>DV s [x]/\DVs l xs
 |_,_=>False
theorem DVs.length:∀{l:List Sh}{xs:List V},DVs l xs->xs.length=l.length
 |[],[],_=>rfl
 |_::l,_::xs,h=>by simp[DVs.length h.2]
 |[],_::_,h=>h.elim
 |_::_,[],h=>h.elim
theorem Nu:∀(l:List Sh)(i:Nat){xs:List V},l.all Pc=true->DVs l xs->∃d:A6 (Dr i l),WFP i l d/\(∀k,(AG k (Dr i l) d).2=[])/\∀k hp,RT hp (AG k (Dr i l) d).1 (lk .any (HP i xs))
 |[],i,[],_,_=>⟨(),trivial,fun _=>rfl,fun k hp t=>trivial⟩
 |s::l,i,x::xs,ho,h=>by
  simp only[zb5,za1]at ho;obtain⟨a,h1,h2⟩:=Rm ho.1 h.1;obtain⟨d,h3,h4,h5⟩:=Nu l (i+1) ho.2 h.2;refine⟨D5 (.slot i (.cell (Hd s))) (Dr (i+1) l) a d,⟨?_,?_⟩,fun k=> ?_,fun k hp=> ?_⟩
  ·rw[HU (.slot i (.cell (Hd s)))];exact h1
  ·rw[Gj (.slot i (.cell (Hd s)))];exact h3
  ·simp only[Dr,AG];rw[Gj (.slot i (.cell (Hd s)))];exact h4 k
  ·simp only[Dr,AG];rw[Gj (.slot i (.cell (Hd s))),HU (.slot i (.cell (Hd s)))];intro t;show RV2 hp (A2 ((i,K3 (.cell (Hd s)) a)::_) t) (if t=i then x else lk .any (HP (i+1) xs) t);rw[BY]
   split
   ·exact h2 hp
   ·exact h5 k hp t
 |[],_,_::_,_,h=>h.elim
 |_::_,_,[],_,h=>h.elim
section
variable {P:Program}
def Nx(P:Program):List TypeId->List Sh->Prop
 |[],[]=>True
 |t::ts,s::l=>Fits P t s/\Nx P ts l
 |_,_=>False
theorem Kg{H:Type}{enc:TypeId×Value->H}{W:World}:∀{ts:List TypeId}{l:List Sh}{vs:List Value}{ds:List (DataW H)}{p:List MemPlace},Nx P ts l->l.all Pc=true->DataW.TrodAll enc P W 0 (fun _=>true) true ts vs ds p->
  (∀(j:Nat) t v,ts[j]? =some t->vs[j]? =some v->∃base,Value.okWide P W .any base t v)->(∀n∈DataW.weightsEach P ts ds,n<=reachBytes)->∃xs,DVs l xs/\Lt W xs vs
 |[],[],vs,ds,p,_,_,h,_,_=>by
  obtain⟨rfl,rfl,rfl⟩:=ChangeShapes.trodAll_nil h;exact⟨[],trivial,trivial⟩
 |t::ts,s::l,vs,ds,p,hf,ho,h,hv,hw=>by
  obtain⟨v,vs',d,ds',p1,q,rfl,rfl,rfl,⟨fuel,h1⟩,h2⟩:=ChangeShapes.trodAll_cons h;simp only[zb5,za1]at ho;obtain⟨xs,q1,q2,q3⟩:=FF fuel t s _ _ hf.1 h1 fun n hn=>hw n (by simp[DataW.weightsEach,hn])
  obtain⟨ys,q4,q5⟩:=Kg hf.2 ho.2 h2 (fun j t v h1 h2=>hv (j+1) t v (by simpa using h1) (by simpa using h2)) fun n hn=>hw n (by simp[DataW.weightsEach,hn])
  have hs1:s.size=1:=by cases s<;>first|rfl|(cases ho.1)
  obtain⟨x,rfl⟩:=List.length_eq_one_iff.1 (by rw[q2,hs1]);refine⟨x::ys,⟨q1,q4⟩,?_,q5⟩
  obtain⟨base,hok⟩:=hv 0 t v rfl rfl;have hc:v.cells.toList=[v]:=by
   cases hf.1 with
   |int ht=>simp only[Value.okWide,ht,Cell.okWide]at hok;cases v<;>simp_all [Cell.ok,Value.cells]
   |str ht=>simp only[Value.okWide,ht,Cell.okWide]at hok;cases v<;>simp_all [Cell.ok,Value.cells]
   |bool ht=>simp only[Value.okWide,ht,Cell.okWide]at hok;cases v<;>simp_all [Cell.ok,Value.cells]
   |sl ht=>obtain⟨a,n,c,rfl⟩:=WideShapes.okWide_slice ht hok;rfl
   |st=>cases ho.1
  rw[hc]at q3;exact q3.1
 |[],_::_,_,_,_,h,_,_,_,_=>h.elim
 |_::_,[],_,_,_,h,_,_,_,_=>h.elim
theorem Je{H:Type}{enc:TypeId×Value->H}{W W':World}(hl:laidOutB P=true)(hb:Below W.heap.size W W'):∀{ts:List TypeId}{vs:List Value}{ds:List (DataW H)}{p:List MemPlace},(∀t∈ts,P.readableRec t=true/\t<P.types.size)->DataW.TrodAll enc P W 0 (fun _=>true) true ts vs ds p->
  ∃q,DataW.TrodAll enc P W' 0 (fun b=>decide (b<W.heap.size)) true ts vs ds q
 |[],vs,ds,p,_,h=>by
  obtain⟨rfl,rfl,rfl⟩:=ChangeShapes.trodAll_nil h;exact⟨[],ChangeShapes.trodAll_mk0⟩
 |t::ts,vs,ds,p,hr,h=>by
  obtain⟨v,vs',d,ds',p1,q,rfl,rfl,rfl,h1,h2⟩:=ChangeShapes.trodAll_cons h;obtain⟨q',h3⟩:=Je hl hb (fun t ht=>hr t (by simp[ht])) h2;have hlt:∀x∈p1,x.block<W.heap.size:=by obtain⟨m,hm⟩:=h1;exact DataW.trod_lt m _ _ _ hm
  obtain⟨r1,r2⟩:=hr t (by simp);exact⟨_,trodAll_cons_mk (Below.trod hl r1 r2 h1 hb hlt) h3⟩
end
end
section
open Go Go.RowKit
theorem JB:∀(l:List Sh)(i:Nat),(Ce (Dr i l)).length=l.length
 |[],_=>rfl
 |s::l,i=>by simp[Dr,Ce,JB l (i+1)]
section
variable {P:Program} {J:CK}
def Rz(P:Program):List (Nat×TyD)->Prop
 |[]=>True
 |x::l=>AA P x.1=some x.2/\Rz P l
theorem RP{l:List (Nat×TyD)}(h:Rz P l):∀t d,getD l t=some d->AA P t=some d:=by
 intro t d hd
 induction l with
 |nil=>cases hd
 |cons x l ih=>
  obtain⟨k,y⟩:=x;simp only[getD]at hd;cases hk:Nat.beq t k with
  |true=>
   rw[hk]at hd;simp only[cond_true,zx]at hd;have:=za3 hk;subst this;subst hd;exact h.1
  |false=>
   rw[hk]at hd;exact ih h.2 hd
theorem Pq{cf:Cfg}{ext:Rel}{g:FuncId}{shs:List Sh}{heads joins:List (Nat×List Item)}{outs:List (Nat×List (Ex×List Item))}{F:A6 (Dr 0 shs)->Option Bool}
  (hm:P.follows .mixedOrders=true) (hext:∀g args blks r blks',ext g args blks r blks'->CSpec P J g args blks r blks')
  (hE:Ch (DC P cf ext) ⟨⟨g,0,Dr 0 shs,[.slot 0 (.cell .bool)],heads,outs,joins⟩,F⟩) (hD:∀d,CD 0 (Dr 0 shs) (CW (Dr 0 shs) d)=some d) (hF:∀d,WFP 0 shs d->F d=some true) (ho:shs.all Pc=true)
  {w:World} (hJ:∀x∈J,w.heap[x.1]? =some x.2) {xs:List V} {vals:Array Value} (hx:DVs shs xs) (hv:Lt w xs vals.toList):Calls P g vals w fun e w'=>e=.returned (.bool true)/\Below w.heap.size w w':=by
 obtain⟨d,h1,h2,h3⟩:=Nu shs 0 ho hx;have hrefs:=JD hv;obtain⟨r,blks',q1,q2⟩:=hE d true xs [] (CW (Dr 0 shs) d) (hF d h1) ⟨h3 0 _,(fun id b hb=>by
  rw[show(CW (Dr 0 shs) d).hp=(AG 0 (Dr 0 shs) d).2 from rfl,h2]at hb;exact absurd hb (by simp[Ao])),rfl⟩ (hD d) (Lf hv) (by rw[hx.length];exact(JB shs 0).symm) (by rw[hrefs];rfl) (fun _=>rfl)
 have hr:r=.v (.bool true):=q2.val;have hb:blks'=[]:=zb7 q2.len;subst hr;subst hb;exact NY hm hext hJ hv q1
theorem KO{H:Type}{enc:TypeId×Value->H}{cf:Cfg}{ext:Rel}{g:FuncId}{shs:List Sh}{heads joins:List (Nat×List Item)}{outs:List (Nat×List (Ex×List Item))}{F:A6 (Dr 0 shs)->Option Bool}{fn:Func}{s:ChangeSpec}{ts:List TypeId}{rt:TypeId}
  (hm:P.follows .mixedOrders=true) (hext:∀g args blks r blks',ext g args blks r blks'->CSpec P J g args blks r blks')
  (hE:Ch (DC P cf ext) ⟨⟨g,0,Dr 0 shs,[.slot 0 (.cell .bool)],heads,outs,joins⟩,F⟩) (hD:∀d,CD 0 (Dr 0 shs) (CW (Dr 0 shs) d)=some d) (hF:∀d,WFP 0 shs d->F d=some true) (ho:shs.all Pc=true)
  (hp:fn.params.toList=ts) (hr:fn.resultTypes.toList=[rt]) (hrt:P.underlying rt=some .bool) (hf:Nx P ts shs) (hl:laidOutB P=true) (hread:∀t∈ts,P.readableRec t=true/\t<P.types.size) (hvars:s.vars=[])
  (hs:∀ds:List (DataW H),ds.length=ts.length->s.fn H (ds++[])={results:=[.lit (.bool true)],args:=ds,vars:=[]})
  {W:World} (hJ:∀x∈J,W.heap[x.1]? =some x.2) {base:Nat} {args:Array Value} {ds gs:List (DataW H)} {before:List MemPlace}
  (hval:∀(j:Nat) t v,fn.params[j]? =some t->args[j]? =some v->Value.okWide P W .any base t v) (hW:DataW.Whole enc P fn.params.toList s.vars false W args.toList ds gs before)
  (hsz:(DataW.weightsEach P (fn.params.toList++s.plain.varTypes P) (ds++gs)).all (· <=reachBytes)=true):
  Calls P g args W fun e W'=>∃v,e=.returned v/\s.post enc P fn false true false false W args v W':=by
 have hW':=hW;obtain⟨p,q,hA,hV,rfl,hfz,hnd⟩:=hW;rw[hvars]at hV;obtain⟨rfl,rfl⟩:=ChangeShapes.trodVars_none hV;rw[hp]at hA;have hlen:∀{ts:List TypeId}{vs:List Value}{ds:List (DataW H)}{p:List MemPlace},DataW.TrodAll enc P W 0 (fun _=>true) true ts vs ds p->ds.length=ts.length:=by
  intro ts
  induction ts with
  |nil=>intro vs ds p h;obtain⟨_,rfl,_⟩:=ChangeShapes.trodAll_nil h;rfl
  |cons t ts ih=>intro vs ds p h;obtain⟨v,vs',d,ds',p1,q,rfl,rfl,rfl,h1,h2⟩:=ChangeShapes.trodAll_cons h;simp[ih h2]
 have hdl:=hlen hA;have hwt:∀n∈DataW.weightsEach P ts ds,n<=reachBytes:=by
  intro n hn;have hmem:∀(a b:List TypeId)(c d:List (DataW H)),∀n∈DataW.weightsEach P a c,c.length=a.length->n∈DataW.weightsEach P (a++b) (c++d):=by
   intro a
   induction a with
   |nil=>intro b c d n hn hl;cases c<;>simp[DataW.weightsEach]at hn hl
   |cons t a ih=>
    intro b c d n hn hl;cases c with
    |nil=>simp[DataW.weightsEach]at hn
    |cons x c=>
     simp only[DataW.weightsEach,zb2,List.cons_append]at hn⊢
     rcases hn with hn|hn
     ·exact .inl hn
     ·exact .inr (ih b c d n hn (by simpa using hl))
  rw[hp]at hsz;have:=za2.1 hsz n (hmem ts _ ds _ n hn hdl);simpa using this
 obtain⟨xs,h1,h2⟩:=Kg hf ho hA (fun j t v h1 h2=>⟨base,hval j t v (by rw[<-hp]at h1;simpa using h1) (by simpa using h2)⟩) hwt;refine(Pq hm hext hE hD hF ho hJ h1 h2).mono fun e W' ⟨he,bel⟩=> ?_
 subst he;obtain⟨q',hq⟩:=Je hl bel hread hA;refine⟨_,rfl,ds,[],_,[],q',[],hW',?_,?_,?_,bel.frame _,fun h=>by cases h⟩
 ·rw[hs ds hdl,hr];have:((Value.bool true).resultList fn.resultTypes.size)=[.bool true]:=by
   have:fn.resultTypes.size=1:=by rw[<-Array.length_toList,hr];rfl
   rw[this];rfl
  rw[this];exact ChangeShapes.trodAll_mk1 (shut_bool hrt true)
 ·rw[hs ds hdl,hp];exact hq
 ·rw[hs ds hdl,hvars];rfl
end
end
section
open Go
theorem JC{n:Int}(h1: -9223372036854775808<=n)(h2:n<=9223372036854775807):zi zj n=n:=by rw[IntKind.wrap_i64];omega
section
variable {σ τ ρ ρ':Type} {f:σ->Option (σ⊕ρ)} {g:τ->Option (τ⊕ρ')}
theorem HV{s s':σ}(h:f s=some (.inl s')):AY f s=AY f s':=by rw[Le,h];rfl
theorem Fn{s:σ}{r:ρ}(h:f s=some (.inr r)):AY f s=some r:=by rw[Le,h];rfl
theorem Qe{I:σ->Prop}{R:ρ->Prop}(m:σ->Nat)(h:∀s,I s->(∃s',f s=some (.inl s')/\I s'/\m s'<m s)\/∃r,f s=some (.inr r)/\R r):∀s,I s->∃r,AY f s=some r/\R r:=by
 have:∀n s,m s<n->I s->∃r,AY f s=some r/\R r:=by
  intro n
  induction n with
  |zero=>intro s h;omega
  |succ n ih=>
   intro s hn hs;rcases h s hs with⟨s',h1,h2,h3⟩|⟨r,h1,h2⟩
   ·obtain⟨r,h4,h5⟩:=ih s' (by omega) h2;exact⟨r,by rw[HV h1,h4],h5⟩
   ·exact⟨r,Fn h1,h2⟩
 exact fun s hs=>this (m s+1) s (by omega) hs
end
section
variable {α β γ:Type}
theorem C3(l:List α)(i:Nat):Gl l (i:Int)=l[i]? :=by
 unfold Gl;rw[zr (by omega)];simp
theorem Qr{i n:Nat}(h:i<n):Ky (i:Int) n=some i:=by
 unfold Ky;rw[zr (by omega)];simp
theorem Pl{n b s:Nat}(h1:n*b<=Ah)(h2:n*s<=Ah):Kv (n:Int) b s=some n:=by
 unfold Kv;rw[zr (by simp;omega)];simp
def Lb(E:α->α->Option Bool):List α×List α×Int->Option ((List α×List α×Int)⊕(Unit⊕Bool)):=fun s=>bif decide (s.2.2<((s.1.length:Nat):Int))then(Gl s.1 s.2.2).bind fun x0=>(Gl s.2.1 s.2.2).bind fun x1=>(E x0 x1).bind fun x2=>bif(!x2)then some (.inr (.inr false))else some (Sum.inl (s.1,s.2.1,zi zj (s.2.2+1)))else some (.inr (.inl ()))
theorem Oc{E:α->α->Option Bool}{l m:List α}(hl:l.length<4611686018427387904)(hlm:m.length=l.length)(hE:∀a∈l,∀b∈m,∃t:Bool,E a b=some t/\(t=true↔a=b)):
  ∃r:Unit⊕Bool,AY (Lb E) (l,m,0)=some r/\
   (l=m->r=.inl ())/\(l≠m->r=.inr false):=by
 refine Qe (f:=Lb E)
  (I:=fun s=>∃k:Nat,s=(l,m,(k:Int))/\k<=l.length/\∀j:Nat,j<k->l[j]? =m[j]?) (fun s=>(((s.1.length:Nat):Int)-s.2.2).toNat) ?_ (l,m,0) ⟨0,rfl,by omega,fun j hj=>by omega⟩
 rintro s ⟨k,rfl,hk,hj⟩;by_cases hlt:k<l.length
 ·have e1:l[k]? =some l[k]:=za4 hlt;have e2:m[k]? =some (m[k]'(by omega)):=za4 (by omega);obtain⟨t,h1,h2⟩:=hE l[k] (List.getElem_mem hlt) (m[k]'(by omega)) (List.getElem_mem (by omega));have hd:decide ((k:Int)<(l.length:Int))=true:=by simpa using hlt
  cases t with
  |true=>
   left
   refine⟨(l,m,((k+1:Nat):Int)),?_,⟨k+1,rfl,hlt,fun j hj'=> ?_⟩,?_⟩
   ·unfold Lb;simp only[C3,e1,e2,zb4,h1,hd];rw[JC (by omega) (by omega)];rfl
   ·by_cases hjk:j=k
    ·subst hjk;rw[e1,e2,h2.1 rfl]
    ·exact hj j (by omega)
   ·simp only;omega
  |false=>
   right
   refine⟨.inr false,?_,fun he=> ?_,fun _=>rfl⟩
   ·unfold Lb;simp only[C3,e1,e2,zb4,h1,hd];rfl
   ·subst he;have:=h2.2 rfl;cases this
 ·right
  refine⟨.inl (),?_,fun _=>rfl,fun hne=> ?_⟩
  ·have:decide ((k:Int)<(l.length:Int))=false:=by simpa using hlt
   unfold Lb;simp only[this,cond_false]
  ·exfalso
   apply hne
   apply List.ext_getElem?
   intro j;by_cases hjl:j<k
   ·exact hj j hjl
   ·rw[List.getElem?_eq_none (by omega),List.getElem?_eq_none (by omega)]
end
section
variable {α σ ρ:Type} {body:σ->Option (σ⊕ρ)}
theorem K7{l:List α}{st:Nat->σ}{p:α->Bool}{fin:ρ}{bad:Nat->ρ}(hgo:∀k a,l[k]? =some a->p a=true->body (st k)=some (.inl (st (k+1))))(hbad:∀k a,l[k]? =some a->p a=false->body (st k)=some (.inr (bad k)))(hend:body (st l.length)=some (.inr fin)):
  (l.all p=true->AY body (st 0)=some fin)/\(l.all p=false->∃k,k<l.length/\AY body (st 0)=some (bad k)):=by
 have key:∀(n k:Nat),k+n=l.length->((l.drop k).all p=true->AY body (st k)=some fin)/\((l.drop k).all p=false->∃j,j<l.length/\AY body (st k)=some (bad j)):=by
  intro n
  induction n with
  |zero=>
   intro k hk;have:k=l.length:=by omega
   subst this;rw[List.drop_length];exact⟨fun _=>Fn hend,(fun h=>by cases h)⟩
  |succ n ih=>
   intro k hk;have hlt:k<l.length:=by omega
   have hd:l.drop k=l[k]::l.drop (k+1):=List.drop_eq_getElem_cons hlt;have he:l[k]? =some l[k]:=za4 hlt;rw[hd,zb5];cases hp:p l[k]with
   |true=>
    have h1:=hgo k _ he hp;obtain⟨q1,q2⟩:=ih (k+1) (by omega);rw[Bool.true_and,HV h1];exact⟨q1,q2⟩
   |false=>
    rw[Bool.false_and];exact⟨(fun h=>by cases h),fun _=>⟨k,hlt,Fn (hbad k _ he hp)⟩⟩
 have:=key l.length 0 (by omega)
 rwa[List.drop_zero]at this
end
section
theorem NU{k:Nat}(h:k<4611686018427387904):zi zj ((k:Int)+1)=((k+1:Nat):Int):=by rw[JC (by omega) (by omega)];omega
end
end
section
open Go
variable {P:Program} {J:CK}
def RF:Value:=.slice none 0 0
def Ki(t tb:TypeId):Code:=
 .seq (.region 0 #[⟨some 2,.assign (.const RF),t, "slices.go:355", #[],none⟩] false)
  (.seq (.seq (.region 1 #[⟨some 3,.move (.tmp 0),t, "slices.go:357", #[],none⟩,⟨some 4,.binOp .eql t (.tmp 3) (.const RF) t,tb, "slices.go:357", #[⟨0,.data⟩],none⟩] false)
    (.cond (.tmp 4) (.seq (.region 2 #[⟨some 2,.assign (.const RF),t, "slices.go:358", #[],none⟩] false) .ret) .skip))
   (.seq (.region 3 #[⟨some 5,.buildSlice t 0 #[],t, "slices.go:362", #[],none⟩,⟨some 6,.move (.tmp 0),t, "slices.go:362", #[],none⟩,
     ⟨some 7,.call ⟨.builtin .append, #[.tmp 5,.tmp 6], #[t,t]⟩,t, "slices.go:362", #[⟨0,.data⟩,⟨1,.data⟩],none⟩,
     ⟨some 2,.assign (.tmp 7),t, "slices.go:362", #[⟨2,.data⟩,⟨2,.chain⟩,⟨0,.phase⟩,⟨1,.phase⟩,⟨2,.phase⟩],none⟩] false) .ret))
structure CloneOK (P:Program) (x:FuncId×TypeId×Nat×Bool):Prop where
 ok:∃(fn:Func)(t tb:TypeId)(d de:TyD),P.funcs[x.1]? =some fn/\fn.body=some (Ki t tb)/\GI fn (Ki t tb) 1=true/\fn.results.toList=[.tmp 2]/\
  AA P t=some d/\d.elem=some x.2.1/\AA P x.2.1=some de/\BU P t=false/\de.size=x.2.2.1/\de.zero.all Jp=x.2.2.2
end
section
open Go Go.RowKit
def FI:(c:AC)->c.den->V->Prop
 |.int k,n,v=>v=.v (.int k n)
 |.bool,b,v=>v=.v (.bool b)
 |.str,s,v=>v=.v (.string ⟨s.toArray⟩)
 |.err,b,v=>v=.er b
 |.im t,l,v=>(l=[]/\v=.em)\/∃rows,v=.im rows/\RLx (RE t) l rows
 |.at _,_,_=>False
section
variable {hp hp':THp} {u v:SV} {a:V} {b n:Nat} {c:AC}
theorem KG(hc:c.isU=false)(h:tnC (tmC [] c) u hp b=some (v,hp',n))(hr:RV2 hp u a)(ha:Ad a=[]):hp'=hp/\∀f d,rdC c (AR f v)=some d->FI c d a:=by
 cases c with
 | «at» j=>cases hc
 |im t=>
  simp only[tmC,tnC]at h;cases hl:C7 hp t u with
  |none=>rw[hl]at h;cases h
  |some l=>
   rw[hl]at h;simp only[zx,Prod.mk.injEq]at h;obtain⟨rfl,rfl,_⟩:=h;have key:frV u=[]/\FI (.im t) l a:=by
    cases u with
    |em=>
     simp only[C7,asL,zx]at hl;subst hl;exact⟨rfl,.inl ⟨rfl,hr⟩⟩
    |im t' l'=>
     simp only[C7,asL]at hl
     split at hl
     ·rename_i ht;subst ht;have hl:l'=l:=zv hl;subst hl;exact⟨rfl,hr⟩
     ·cases hl
    |ow id=>
     obtain⟨m,rfl,_⟩:=hr;simp[Ad,Ab]at ha
    |ar id lo m=>
     have hr:a=.ar id lo m:=hr;subst hr;simp[Ad,Ab]at ha
    |_=>simp[C7,asL]at hl
   refine⟨by rw[key.1];rfl,fun f d hd=> ?_⟩
   simp only[AR,BL,rdC,dite_true]at hd;have hd:l=d:=zv hd;subst hd;exact key.2
 |int k=>
  simp only[tmC,tnC,zx,Prod.mk.injEq]at h;obtain⟨rfl,rfl,_⟩:=h;refine⟨rfl,fun f d hd=> ?_⟩
  cases u with
  |int k' m=>
   simp only[AR,BL,rdC]at hd
   split at hd
   ·rename_i hk;subst hk;cases hd;exact hr
   ·cases hd
  |ow id=>simp only[AR,BL]at hd;split at hd<;>cases hd
  |ar id lo m=>simp only[AR,BL]at hd;split at hd<;>cases hd
  |rf id r c=>simp only[AR,BL]at hd;split at hd<;>cases hd
  |cl g caps=>cases hd
  |_=>cases hd
 |bool=>
  simp only[tmC,tnC,zx,Prod.mk.injEq]at h;obtain⟨rfl,rfl,_⟩:=h;refine⟨rfl,fun f d hd=> ?_⟩
  cases u with
  |bool m=>cases hd;exact hr
  |ow id=>simp only[AR,BL]at hd;split at hd<;>cases hd
  |ar id lo m=>simp only[AR,BL]at hd;split at hd<;>cases hd
  |rf id r c=>simp only[AR,BL]at hd;split at hd<;>cases hd
  |cl g caps=>cases hd
  |_=>cases hd
 |str=>
  simp only[tmC,tnC,zx,Prod.mk.injEq]at h;obtain⟨rfl,rfl,_⟩:=h;refine⟨rfl,fun f d hd=> ?_⟩
  cases u with
  |str m=>cases hd;exact hr
  |ow id=>simp only[AR,BL]at hd;split at hd<;>cases hd
  |ar id lo m=>simp only[AR,BL]at hd;split at hd<;>cases hd
  |rf id r c=>simp only[AR,BL]at hd;split at hd<;>cases hd
  |cl g caps=>cases hd
  |_=>cases hd
 |err=>
  simp only[tmC,tnC,zx,Prod.mk.injEq]at h;obtain⟨rfl,rfl,_⟩:=h;refine⟨rfl,fun f d hd=> ?_⟩
  cases u with
  |er m=>cases hd;exact hr
  |ow id=>simp only[AR,BL]at hd;split at hd<;>cases hd
  |ar id lo m=>simp only[AR,BL]at hd;split at hd<;>cases hd
  |rf id r c=>simp only[AR,BL]at hd;split at hd<;>cases hd
  |cl g caps=>cases hd
  |_=>cases hd
end
theorem Te{c:AC}{st:TSt}{x:A6 [.slot 0 (.cell c)]}{a:V}(hc:c.isU=false)(h:CD 0 [.slot 0 (.cell c)] st=some x)(hr:RV2 st.hp (A2 st.tm 0) a)(ha:Ad a=[]):
  ∃d,x=D5 (.slot 0 (.cell c)) [] d ()/\FI c d a:=by
 unfold CD at h
 split at h
 case isFalse=>cases h
 simp only[D8,Br,tmS,tnS,tnV]at h;cases h1:tnC (tmC [] c) (A2 st.tm 0) st.hp (16*st.c)with
 |none=>rw[h1]at h;cases h
 |some z=>
  obtain⟨v,hp1,n⟩:=z;rw[h1]at h;simp only at h
  split at h
  case h_2=>cases h
  rename_i st1 hle
  split at hle
  case isFalse=>cases hle
  cases hle
  obtain⟨rfl,h2⟩:=KG hc h1 hr ha
  split at h
  case h_2=>cases h
  rename_i st2 hst2;unfold GU at hst2
  split at hst2
  case isFalse=>cases hst2
  split at hst2
  case h_2=>cases hst2
  rename_i o ho
  split at hst2
  case isFalse=>cases hst2
  have hst2:=zv hst2;subst hst2;simp only[Ce,za9,List.map_nil,A2,Nat.beq_refl,cond_true]at h;cases hhp:BS st.hp (Bo o) 0 o with
  |cons y l=>rw[hhp]at h;simp only[rdI,Nat.beq_refl,if_true]at h;split at h<;>cases h
  |nil=>
   rw[hhp]at h;simp only[rdI,Nat.beq_refl,if_true,rdS]at h
   split at h
   ·rename_i d hd;exact⟨d,(zv h).symm,h2 _ _ hd⟩
   ·cases h
section
variable {P:Program} {J:CK} {cf:Cfg} {ext:Rel}
theorem JL{args:List V}(h:(args.flatMap Ad).eraseDups.length=0):∀v∈args,Ad v=[]:=by
 have h0:args.flatMap Ad=[]:=by
  cases hr:args.flatMap Ad with
  |nil=>rfl
  |cons i l=>rw[hr]at h;simp[List.eraseDups_cons]at h
 intro v hv;rw[List.flatMap_eq_nil_iff]at h0;exact h0 v hv
theorem Pz{g:FuncId}{c:AC}{res:List Item}{F:A6 [.slot 0 (.cell c)]->Option (A6 res)}(hc:c.isU=false)
  (h:∀d y a,FI c d a->F (D5 (.slot 0 (.cell c)) [] d ())=some y->∃r blks',ext g [a] [] r blks'/\ResRel res y r blks'):
  Ch (DC P cf ext) ⟨⟨g,0,[.slot 0 (.cell c)],res,[],[],[]⟩,F⟩:=by
 intro x y args blks st hF hs hd hid hlen href hb0
 match args,hlen with
 |[a],_=>
  have hb:blks=[]:=hb0 rfl;subst hb;have hn:=JL href;have h0:RV2 st.hp (A2 st.tm 0) a:=hs.tm 0;obtain⟨d,rfl,hA⟩:=Te hc hd h0 (hn a (by simp));obtain⟨r,blks',h1,h2⟩:=h d y a hA hF;exact⟨r,blks',DC.ext h1,h2⟩
def Qy(P:Program)(g:FuncId):Prop:=∃fn,P.funcs[g]? =some fn/\Gz fn=true/\fn.body.isSome=true
theorem LZ{E:Env}{b:Nat}:¬Own E (lkB []) b:=fun⟨id,k,hk,_⟩=>by simp[lkB]at hk
theorem Ou{w w':World}{A:Nat->Prop}{E:Env}(hI:HpInv w (Own E (lkB [])) A E A (lkB []) w)(h:Below w.heap.size w w'):HpInv w (Own E (lkB [])) A E A (lkB []) w':=by
 refine⟨⟨h.os,h.tape,h.output,h.size,fun b hb _=>h.block b hb,fun b cur ty fz hb=>⟨cur,fz,?_,rfl⟩⟩,fun b hb=> ?_,fun b _=>LZ,fun b hb=>absurd hb LZ,fun id k id' k' hk=>by simp[lkB]at hk,fun id k b hk=>by simp[lkB]at hk,fun id k hk=>by simp[lkB]at hk⟩
 ·rw[h.block b (zc7.1 hb).1];exact hb
 ·have h1:=hI.g1 b hb;have:=h.size;exact⟨by omega,h1.2⟩
theorem HG{g:FuncId}{args:List V}{r:V}(hent:Qy P g)
  (h:∀(w:World)(A:Nat->Prop)(E:Env)(vals:List Value),(∀x∈J,w.heap[x.1]? =some x.2)->(∀b,A b->b<w.heap.size)->VL (VR1 w E (lkB []) A) args vals->
   Calls P g vals.toArray w fun e w'=>∃y,e=.returned y/\Below w.heap.size w w'/\VR2 w' E (lkB []) A r y):CSpec P J g args [] r []:=by
 refine⟨hent,fun _ w A E vals hT hI hvl=> ?_⟩
 refine(show Calls P g vals w _ from(h w A E vals.toList (fun x hx=>(hT x hx).1) (fun b hb=>(hI.g1 b hb).1) hvl)).mono ?_
 rintro e w' ⟨y,rfl,hb,hv⟩;exact⟨y,E,A,rfl,Ou hI hb,hv,fun j _ k' hk=>by simp at hk⟩
end
end
section
open Go Go.RowKit
section
variable {P:Program} {J:CK} {cf:Cfg} {ext:Rel} {g:FuncId}
def RZ(P:Program)(J:CK)(name:String)(k:IntKind)(zs:List Int):Prop:=∀w:World,(∀x∈J,w.heap[x.1]? =some x.2)->Lib.TabIs P w name k zs
theorem SD{w:World}{E:Env}{A:Nat->Prop}{x:Value}{ys:List Value}(h:VL (VR1 w E (lkB []) A) [.v x] ys):ys=[x]:=by
 match ys,h with
 |[y],h=>
  have h1:Rep w A (.v x) y:=h.1;cases h1
  rfl
 |[],h=>exact h.elim
 |_::_::_,h=>exact h.2.elim
def IT(n:Int):Option Str:=if-9223372036854775808<=n/\n<=9223372036854775807 then some (Lib.itoa n)else none
def KN(g:FuncId):Rel:=fun g' args blks r blks'=>g'=g/\∃n:Int,-9223372036854775808<=n/\n<=9223372036854775807/\args=[.v (.int .i64 n)]/\blks=[]/\r=.v (.string ⟨(Lib.itoa n).toArray⟩)/\blks'=[]
def ST(g:FuncId):FAnn:=⟨g,0,[.slot 0 (.cell (.int .i64))],[.slot 0 (.cell .str)],[],[],[]⟩
theorem N8(hent:Qy P g)(hc:∀(n:Int) (h0: -9223372036854775808<=n) (h1:n<=9223372036854775807) (w:World) (htab:Lib.TabIs P w "internal/strconv.uint64pow10" .u64 Lib.pow10Tab),
  Calls P g #[.int .i64 n] w fun e w'=>e=.returned (.string ⟨(Lib.itoa n).toArray⟩)/\∃k os,w'=Sort.grow (w.drewN k) os)(hJ:RZ P J "internal/strconv.uint64pow10" .u64 Lib.pow10Tab):
  ∀g' args blks r blks',KN g g' args blks r blks'->CSpec P J g' args blks r blks':=by
 rintro g' args blks r blks' ⟨rfl,n,h0,h1,rfl,rfl,rfl,rfl⟩;refine HG hent fun w A E vals hT hA hvl=> ?_
 rw[SD hvl];refine(hc n h0 h1 w (hJ w hT)).mono ?_
 rintro e w' ⟨rfl,k,os,rfl⟩;exact⟨_,rfl,Lib.below_grow _ w (zb6 _) k os,.v _ rfl⟩
theorem Ph(hx:∀g' args blks r blks',KN g g' args blks r blks'->ext g' args blks r blks'):Ch (DC P cf ext) ⟨ST g,IT⟩:=by
 refine Pz rfl fun d y a ha hF=> ?_
 have hF:IT d=some y:=hF;unfold IT at hF
 split at hF
 ·rename_i h;cases hF
  have ha:a=.v (.int .i64 d):=ha;exact⟨_,[],hx _ _ _ _ _ ⟨rfl,d,h.1,h.2,by rw[ha],rfl,rfl,rfl⟩,rfl,fun id b hb=>by simp[AG,Ao]at hb,rfl⟩
 ·cases hF
end
end
end Go.Proofs.YtiijheppiboglaaDoor.Ev
namespace Go.Proofs
section
open Go.Shelf
def Tryd.lays169_ren:Go.Shelf.Ren:=⟨fun|169=>35|n=>n,fun|70=>58|9=>9|0=>0|72=>60|37=>34|127=>96|3=>3|5=>5|n=>n,fun|n=>n⟩
theorem Tryd.lays169:Go.Proofs.Lays.n169 Tryd.prog Tryd.lays169_ren:={
 mixed:=by kernel_rfl
 f169:=Tryd.func35.trans (congrArg some (by kernel_rfl))
 t0:=Tryd.underlying0
 a0:=Tryd.isAgg0
 z0:=Tryd.sizeOf0
 v0:=Tryd.zeroValue0
 t3:=Tryd.underlying3
 a3:=Tryd.isAgg3
 z3:=Tryd.sizeOf3
 v3:=Tryd.zeroValue3
 t9:=Tryd.underlying9
 a9:=Tryd.isAgg9
 z9:=Tryd.sizeOf9
 v9:=Tryd.zeroValue9
 t37:=Tryd.underlying34
 a37:=Tryd.isAgg34
 z37:=Tryd.sizeOf34
 v37:=Tryd.zeroValue34
 t70:=Tryd.underlying58
 a70:=Tryd.isAgg58
 z70:=Tryd.sizeOf58
 v70:=Tryd.zeroValue58
 t72:=Tryd.underlying60
 a72:=Tryd.isAgg60
 z72:=Tryd.sizeOf60
 v72:=Tryd.zeroValue60
 t127:=Tryd.underlying96
 a127:=Tryd.isAgg96
 z127:=Tryd.sizeOf96
 v127:=Tryd.zeroValue96}
theorem Tryd.Builder_Extra_169:Builder.Extra Tryd.prog Tryd.lays169_ren:={
 sizeBuilder:=by kernel_rfl
 liesBuilder:=by kernel_rfl
 t5:=Tryd.underlying5
 a5:=Tryd.isAgg5
 z5:=Tryd.sizeOf5
 v5:=Tryd.zeroValue5
 infoByte:=by kernel_rfl
 cellsByte:=by kernel_rfl
 sizeByte:=by kernel_rfl
 neB5:=by decide}
open Go.RowKit in
theorem Tryd.Builder_String_any (B b : Nat) (l : List UInt8) (w : World) (h : Lib.IsBuilder 60 5 B b (Lib.byteCells l) w) (hBw : B <= w.heap.size) :
  Calls Tryd.prog 35 #[.pointer (some ⟨b, 0, none⟩)] w fun e w' => e = .returned (.string ⟨l.toArray⟩) /\ Below B w w' := Any.Builder_String_any Tryd.lays169 Tryd.Builder_Extra_169 B b l w h hBw
def Tryd.laysM171_ren:Go.Shelf.Ren:=⟨fun|171=>56|243=>69|246=>78|283=>86|284=>87|285=>88|286=>89|129=>98|317=>97|318=>99|319=>100|320=>101|337=>105|338=>106|n=>n,fun|3=>3|9=>9|2=>2|4=>4|171=>112|0=>0|53=>69|37=>34|5=>5|173=>115|212=>131|51=>121|20=>20|213=>132|46=>105|232=>145|233=>146|n=>n,fun|17=>3|18=>6|19=>7|n=>n⟩
theorem Tryd.laysM171:Go.Proofs.LaysM.n171 Tryd.prog Tryd.laysM171_ren:={
 mixed:=by kernel_rfl
 f129:=Tryd.func98.trans (congrArg some (by kernel_rfl))
 f171:=Tryd.func56.trans (congrArg some (by kernel_rfl))
 f243:=Tryd.func69.trans (congrArg some (by kernel_rfl))
 f246:=Tryd.func78.trans (congrArg some (by kernel_rfl))
 f283:=Tryd.func86.trans (congrArg some (by kernel_rfl))
 f284:=Tryd.func87.trans (congrArg some (by kernel_rfl))
 f285:=Tryd.func88.trans (congrArg some (by kernel_rfl))
 f286:=Tryd.func89.trans (congrArg some (by kernel_rfl))
 f317:=Tryd.func97.trans (congrArg some (by kernel_rfl))
 f318:=Tryd.func99.trans (congrArg some (by kernel_rfl))
 f319:=Tryd.func100.trans (congrArg some (by kernel_rfl))
 f320:=Tryd.func101.trans (congrArg some (by kernel_rfl))
 f337:=Tryd.func105.trans (congrArg some (by kernel_rfl))
 f338:=Tryd.func106.trans (congrArg some (by kernel_rfl))
 t0:=Tryd.underlying0
 a0:=Tryd.isAgg0
 z0:=Tryd.sizeOf0
 v0:=Tryd.zeroValue0
 t2:=Tryd.underlying2
 a2:=Tryd.isAgg2
 z2:=Tryd.sizeOf2
 v2:=Tryd.zeroValue2
 t3:=Tryd.underlying3
 a3:=Tryd.isAgg3
 z3:=Tryd.sizeOf3
 v3:=Tryd.zeroValue3
 t4:=Tryd.underlying4
 a4:=Tryd.isAgg4
 z4:=Tryd.sizeOf4
 v4:=Tryd.zeroValue4
 t5:=Tryd.underlying5
 a5:=Tryd.isAgg5
 z5:=Tryd.sizeOf5
 v5:=Tryd.zeroValue5
 t9:=Tryd.underlying9
 a9:=Tryd.isAgg9
 z9:=Tryd.sizeOf9
 v9:=Tryd.zeroValue9
 t20:=Tryd.underlying20
 a20:=Tryd.isAgg20
 z20:=Tryd.sizeOf20
 v20:=Tryd.zeroValue20
 t37:=Tryd.underlying34
 a37:=Tryd.isAgg34
 z37:=Tryd.sizeOf34
 v37:=Tryd.zeroValue34
 t46:=Tryd.underlying105
 a46:=Tryd.isAgg105
 z46:=Tryd.sizeOf105
 v46:=Tryd.zeroValue105
 t51:=Tryd.underlying121
 a51:=Tryd.isAgg121
 z51:=Tryd.sizeOf121
 v51:=Tryd.zeroValue121
 t53:=Tryd.underlying69
 a53:=Tryd.isAgg69
 z53:=Tryd.sizeOf69
 v53:=Tryd.zeroValue69
 t171:=Tryd.underlying112
 a171:=Tryd.isAgg112
 z171:=Tryd.sizeOf112
 v171:=Tryd.zeroValue112
 t173:=Tryd.underlying115
 a173:=Tryd.isAgg115
 z173:=Tryd.sizeOf115
 v173:=Tryd.zeroValue115
 t212:=Tryd.underlying131
 a212:=Tryd.isAgg131
 z212:=Tryd.sizeOf131
 v212:=Tryd.zeroValue131
 t213:=Tryd.underlying132
 a213:=Tryd.isAgg132
 z213:=Tryd.sizeOf132
 t232:=Tryd.underlying145
 a232:=Tryd.isAgg145
 z232:=Tryd.sizeOf145
 v232:=Tryd.zeroValue145
 t233:=Tryd.underlying146
 a233:=Tryd.isAgg146
 z233:=Tryd.sizeOf146
 v233:=Tryd.zeroValue146
 g17:=by kernel_rfl
 g18:=by kernel_rfl
 g19:=by kernel_rfl
 i0:=by kernel_rfl
 i2:=by kernel_rfl
 i3:=by kernel_rfl
 i4:=by kernel_rfl
 i5:=by kernel_rfl
 i9:=by kernel_rfl
 i20:=by kernel_rfl
 i37:=by kernel_rfl
 i46:=by kernel_rfl
 i51:=by kernel_rfl
 i53:=by kernel_rfl
 i171:=by kernel_rfl
 i173:=by kernel_rfl
 i212:=by kernel_rfl
 i232:=by kernel_rfl
 i233:=by kernel_rfl
 m17:=by kernel_rfl
 m18:=by kernel_rfl
 m19:=by kernel_rfl}
open Go.RowKit Go.Sort Go.Lib in
theorem Tryd.strconv_Itoa (n : Int) (h0 : -9223372036854775808 <= n) (h1 : n <= 9223372036854775807) (w : World) (htab : Lib.TabIs Tryd.prog w "internal/strconv.uint64pow10" .u64 Lib.pow10Tab) :
  Calls Tryd.prog 56 #[.int .i64 n] w fun e w' => e = .returned (.string ⟨(Lib.itoa n).toArray⟩) /\ ∃ k os, w' = grow (w.drewN k) os := Any.strconv_Itoa Tryd.laysM171 n h0 h1 w htab
end
end Go.Proofs
namespace Go.Proofs.YtiijheppiboglaaDoor.Ev
section
open Go Go.RowKit
def Bh:Nat->List AC->List Item
 |_,[]=>[]
 |i,c::l=>.slot i (.cell c)::Bh (i+1) l
def P3:(l:List AC)->(i:Nat)->A6 (Bh i l)->List V->Prop
 |[],_,_,[]=>True
 |c::l,i,d,x::xs=>FI c (hdI (.slot i (.cell c)) (Bh (i+1) l) d) x/\P3 l (i+1) (tlI (.slot i (.cell c)) (Bh (i+1) l) d) xs
 |_,_,_,_=>False
theorem Sg{c:AC}{d:c.den}{a:V}(hp:THp)(h:FI c d a):RV2 hp (Oz c d) a:=by
 cases c with
 |int k=>exact h
 |bool=>exact h
 |str=>exact h
 |err=>exact h
 |im t=>exact h
 | «at» j=>exact h.elim
theorem LG{c:AC}{d:c.den}{a:V}(h:FI c d a):Ad a=[]:=by
 cases c with
 |int k=>have h:a=_:=h;rw[h];rfl
 |bool=>have h:a=_:=h;rw[h];rfl
 |str=>have h:a=_:=h;rw[h];rfl
 |err=>have h:a=_:=h;rw[h];rfl
 |im t=>
  rcases h with⟨_,rfl⟩|⟨rows,rfl,_⟩
  ·rfl
  ·rfl
 | «at» j=>exact h.elim
theorem LA:∀(l:List AC)(i:Nat)(d:A6 (Bh i l)){xs:List V},P3 l i d xs->(∀k,(AG k (Bh i l) d).2=[])/\(∀k hp,RT hp (AG k (Bh i l) d).1 (lk .any (HP i xs)))/\xs.flatMap Ad=[]/\xs.length=(Ce (Bh i l)).length
 |[],i,d,[],_=>⟨fun _=>rfl,fun k hp t=>trivial,rfl,rfl⟩
 |c::l,i,d,x::xs,h=>by
  obtain⟨h1,h2⟩:=h;obtain⟨k1,k2,k3,k4⟩:=LA l (i+1) _ h2;refine⟨fun k=> ?_,fun k hp=> ?_,?_,?_⟩
  ·simp only[Bh,AG];exact k1 k
  ·simp only[Bh,AG];intro t;show RV2 hp (A2 ((i,K3 (.cell c) _)::_) t) (if t=i then x else lk .any (HP (i+1) xs) t);rw[BY]
   split
   ·exact Sg hp h1
   ·exact k2 k hp t
  ·rw[za7,LG h1,k3];rfl
  ·simp only[Bh,Ce,zd4,k4]
 |[],_,_,_::_,h=>h.elim
 |_::_,_,_,[],h=>h.elim
theorem Ir{R:Rel}{g:FuncId}{cs:List AC}{res:List Item}{heads joins:List (Nat×List Item)}{outs:List (Nat×List (Ex×List Item))}{F:A6 (Bh 0 cs)->Option (A6 res)}
  (hE:Ch R ⟨⟨g,0,Bh 0 cs,res,heads,outs,joins⟩,F⟩) {d:A6 (Bh 0 cs)} {y:A6 res} {xs:List V} (hD:CD 0 (Bh 0 cs) (CW (Bh 0 cs) d)=some d) (hA:P3 cs 0 d xs) (hF:F d=some y):
  ∃r blks',R g xs [] r blks'/\ResRel res y r blks'/\xs.flatMap Ad=[]:=by
 obtain⟨k1,k2,k3,k4⟩:=LA cs 0 d hA;obtain⟨r,blks',q1,q2⟩:=hE d y xs [] (CW (Bh 0 cs) d) hF ⟨k2 0 _,(fun id b hb=>by
  rw[show(CW (Bh 0 cs) d).hp=(AG 0 (Bh 0 cs) d).2 from rfl,k1]at hb;exact absurd hb (by simp[Ao])),rfl⟩ hD (by unfold C9;rw[k3];rfl) k4 (by rw[k3];rfl) (fun _=>rfl)
 exact⟨r,blks',q1,q2,k3⟩
section
variable {P:Program} {J:CK}
theorem Eo{g:FuncId}{xs:List V}{x:Value}(hs:CSpec P J g xs [] (.v x) [])(hx:xs.flatMap Ad=[]){w W:World}(hJ:∀x∈J,w.heap[x.1]? =some x.2)(hb:Below w.heap.size w W){A:Nat->Prop}(hA:∀b,A b->b<w.heap.size){vals:List Value}
  (hv:VL (Rep w A) xs vals):Calls P g vals.toArray W fun e w'=>e=.returned x/\Below W.heap.size W w':=by
 have hno:∀E b,¬Own E (lkB []) b:=fun E b ⟨id,k,hk,_⟩=>by simp[lkB]at hk
 have hsz:=hb.size;have hI:HpInv W (Own ⟨fun _=>none,fun _ _=>False⟩ (lkB [])) A ⟨fun _=>none,fun _ _=>False⟩ A (lkB []) W:=
  ⟨Fr.refl _ W,fun b hb=>⟨by have:=hA b hb;omega,.inl hb⟩,fun b _=>hno _ b,fun b h=>absurd h (hno _ b),fun id k id' k' hk=>by simp[lkB]at hk,fun id k b hk=>by simp[lkB]at hk,fun id k hk=>by simp[lkB]at hk⟩
 refine(hs.calls (by unfold C9;rw[hx];rfl) W A ⟨fun _=>none,fun _ _=>False⟩ vals.toArray (fun x hx=>⟨by
  have h1:=hJ x hx;rw[hb.block _ (zc7.1 h1).1];exact h1,hno _ _⟩) hI (hv.mono fun x _ y hx=>by
  have hx:=hx.same (w':=W) (G':=A) (fun b hb'=>hb.block b (hA b hb')) (fun _ h=>h);cases hx with
  |v _ hs=>exact .v _ hs
  |em a=>exact .em a
  |er0=>exact .er0
  |er1 t x=>exact .er1 t x
  |im0 a cap=>exact .im0 a cap
  |im b off cap size rows f h1 h2 h3 h4 h5 h6 h7=>exact .im b off cap size rows f h1 h2 h3 h4 h5 h6 h7)).mono ?_
 rintro e w' ⟨y,E',G',rfl,hI',hy,_⟩;have hyt:y=x:=(Cg hy).1;subst hyt;exact⟨rfl,hI'.fr.os,hI'.fr.tape,hI'.fr.output,hI'.fr.size,fun b hb=>hI'.fr.block b hb (hno _ b)⟩
end
theorem S1{c c' c'':AC}{st:TSt}{x:A6 [.slot 0 (.cell c),.slot 1 (.cell c'),.slot 2 (.cell c'')]}{a a' a'':V}(hc:c.isU=false)(hc':c'.isU=false)(hc'':c''.isU=false)(h:CD 0 [.slot 0 (.cell c),.slot 1 (.cell c'),.slot 2 (.cell c'')] st=some x)
  (hr:RV2 st.hp (A2 st.tm 0) a) (hr':RV2 st.hp (A2 st.tm 1) a') (hr'':RV2 st.hp (A2 st.tm 2) a'') (ha:Ad a=[]) (ha':Ad a'=[]) (ha'':Ad a''=[]):
  ∃d d' d'',x=D5 (.slot 0 (.cell c)) [.slot 1 (.cell c'),.slot 2 (.cell c'')] d (D5 (.slot 1 (.cell c')) [.slot 2 (.cell c'')] d' (D5 (.slot 2 (.cell c'')) [] d'' ()))/\FI c d a/\FI c' d' a'/\FI c'' d'' a'':=by
 unfold CD at h
 split at h
 case isFalse=>cases h
 simp only[D8,Br,tmS,tnS,tnV]at h;cases h1:tnC (tmC [] c) (A2 st.tm 0) st.hp (16*st.c)with
 |none=>rw[h1]at h;cases h
 |some z=>
  obtain⟨v,hp1,n⟩:=z;rw[h1]at h;simp only at h;obtain⟨rfl,h2⟩:=KG hc h1 hr ha
  split at h
  case h_2=>cases h
  rename_i st1 hle
  split at hle
  case isFalse=>cases hle
  have hg:A2 ((0,v)::st.tm) 1=A2 st.tm 1:=rfl;rw[hg]at hle;cases h3:tnC (tmC [] c') (A2 st.tm 1) st.hp (16*(st.c+1))with
  |none=>rw[h3]at hle;cases hle
  |some z=>
   obtain⟨v',hp2,n'⟩:=z;rw[h3]at hle;simp only at hle;obtain⟨rfl,h4⟩:=KG hc' h3 hr' ha'
   split at hle
   case isFalse=>cases hle
   have hg2:A2 ((1,v')::(0,v)::st.tm) 2=A2 st.tm 2:=rfl;rw[hg2]at hle;cases h5:tnC (tmC [] c'') (A2 st.tm 2) st.hp (16*(st.c+1+1))with
   |none=>rw[h5]at hle;cases hle
   |some z=>
    obtain⟨v'',hp3,n''⟩:=z;rw[h5]at hle;simp only at hle;obtain⟨rfl,h6⟩:=KG hc'' h5 hr'' ha''
    split at hle
    case isFalse=>cases hle
    cases hle
    split at h
    case h_2=>cases h
    rename_i st2 hst2;unfold GU at hst2
    split at hst2
    case isFalse=>cases hst2
    split at hst2
    case h_2=>cases hst2
    rename_i o ho
    split at hst2
    case isFalse=>cases hst2
    have hst2:=zv hst2;subst hst2;have g0:A2 ((2,v'')::(1,v')::(0,v)::st.tm) 0=v:=rfl;have g1:A2 ((2,v'')::(1,v')::(0,v)::st.tm) 1=v':=rfl;have g2:A2 ((2,v'')::(1,v')::(0,v)::st.tm) 2=v'':=rfl;simp only[Ce,za9,List.map_nil,g0,g1,g2]at h;cases e1:rdS (.cell c) (AR (Bo o) v)with
    |none=>cases hhp:BS st.hp (Bo o) 0 o<;>(rw[hhp]at h;simp[rdI,e1]at h)
    |some d=>cases e2:rdS (.cell c') (AR (Bo o) v')with
     |none=>cases hhp:BS st.hp (Bo o) 0 o<;>(rw[hhp]at h;simp[rdI,e1,e2]at h)
     |some d'=>cases e3:rdS (.cell c'') (AR (Bo o) v'')with
      |none=>cases hhp:BS st.hp (Bo o) 0 o<;>(rw[hhp]at h;simp[rdI,e1,e2,e3]at h)
      |some d''=>
       cases hhp:BS st.hp (Bo o) 0 o with
       |cons y l=>rw[hhp]at h;simp[rdI,e1,e2,e3]at h
       |nil=>
        rw[hhp]at h;simp only[rdI,e1,e2,e3,Nat.beq_refl,if_true,zx]at h;exact⟨d,d',d'',h.symm,h2 _ _ e1,h4 _ _ e2,h6 _ _ e3⟩
theorem Ql{P:Program}{cf:Cfg}{ext:Rel}{g:FuncId}{c c' c'':AC}{res:List Item}{F:A6 [.slot 0 (.cell c),.slot 1 (.cell c'),.slot 2 (.cell c'')]->Option (A6 res)}(hc:c.isU=false)(hc':c'.isU=false)(hc'':c''.isU=false)
  (h:∀d d' d'' y a a' a'',FI c d a->FI c' d' a'->FI c'' d'' a''->F (D5 (.slot 0 (.cell c)) [.slot 1 (.cell c'),.slot 2 (.cell c'')] d (D5 (.slot 1 (.cell c')) [.slot 2 (.cell c'')] d' (D5 (.slot 2 (.cell c'')) [] d'' ())))=some y->
   ∃r blks',ext g [a,a',a''] [] r blks'/\ResRel res y r blks'):
  Ch (DC P cf ext) ⟨⟨g,0,[.slot 0 (.cell c),.slot 1 (.cell c'),.slot 2 (.cell c'')],res,[],[],[]⟩,F⟩:=by
 intro x y args blks st hF hs hd hid hlen href hb0
 match args,hlen with
 |[a,a',a''],_=>
  have hb:blks=[]:=hb0 rfl;subst hb;have hn:=JL href;have h0:RV2 st.hp (A2 st.tm 0) a:=hs.tm 0;have h1:RV2 st.hp (A2 st.tm 1) a':=hs.tm 1;have h2:RV2 st.hp (A2 st.tm 2) a'':=hs.tm 2;obtain⟨d,d',d'',rfl,hA,hA',hA''⟩:=S1 hc hc' hc'' hd h0 h1 h2 (hn a (by simp)) (hn a' (by simp)) (hn a'' (by simp));obtain⟨r,blks',h1,h2⟩:=h d d' d'' y a a' a'' hA hA' hA'' hF;exact⟨r,blks',DC.ext h1,h2⟩
def iv(n:Int):V:=.v (.int .i64 n)
def D1:V:=.tup [.v (.string ⟨#[]⟩),.v (.bool false)]
abbrev CS(P:Program)(K:CK->Prop)(g:FuncId)(xs:List V)(x:Value):Prop:=∀J,K J->CSpec P J g xs [] (.v x) []
def M9(P:Program)(K:CK->Prop)(g gw ga gh:FuncId):Rel:=fun g' args blks r blks'=>g'=g/\blks=[]/\blks'=[]/\∃(a b:Int)(l:List Int)(x:V),FI (.im (.int .i64)) l x/\args=[iv a,iv b,x]/\
 ∃c1,CS P K gw [iv a,iv 1,iv 10] (.bool c1)/\(c1=false/\r=D1\/c1=true/\∃c2,CS P K gw [iv b,iv 1,iv 10] (.bool c2)/\(c2=false/\r=D1\/c2=true/\
  (¬(l.length:Int)=zi zj (a*b)/\r=D1\/(l.length:Int)=zi zj (a*b)/\∃c3,CS P K ga [x] (.bool c3)/\(c3=false/\r=D1\/c3=true/\
   ∃s:Str,CS P K gh [iv a,iv b] (.string ⟨s.toArray⟩)/\s.length<=1000000/\l.length<=1000000/\r=.tup [.v (.string ⟨(s++A7 (l.map (zi .u8))).toArray⟩),.v (.bool true)]))))
def OA (fw:Int->Int->Int->Option Bool) (fa:List Int->Option Bool) (fh:Int->Int->Option (List UInt8)) (a b:Int) (l:List Int):Option (List UInt8×Bool):=
 (fw a 1 10).bind fun c1=>bif !c1 then some ([],false)else(fw b 1 10).bind fun c2=>bif !c2 then some ([],false)else if ¬(l.length:Int)=zi zj (a*b)then some ([],false)else
 (fa l).bind fun c3=>bif !c3 then some ([],false)else(fh a b).bind fun s=>if s.length<=1000000/\l.length<=1000000 then some (s++A7 (l.map (zi .u8)),true)else none
theorem M0{fw:Int->Int->Int->Option Bool}{fa:List Int->Option Bool}{fh:Int->Int->Option (List UInt8)}{a b:Int}{l:List Int}{y:List UInt8×Bool}(hF:OA fw fa fh a b l=some y):
  fw a 1 10=some false/\y=([],false)\/fw a 1 10=some true/\(fw b 1 10=some false/\y=([],false)\/fw b 1 10=some true/\(¬(l.length:Int)=zi zj (a*b)/\y=([],false)\/(l.length:Int)=zi zj (a*b)/\
   (fa l=some false/\y=([],false)\/fa l=some true/\∃s,fh a b=some s/\s.length<=1000000/\l.length<=1000000/\y=(s++A7 (l.map (zi .u8)),true)))):=by
 unfold OA at hF;cases e1:fw a 1 10 with
 |none=>rw[e1]at hF;cases hF
 |some c1=>
  rw[e1]at hF;cases c1 with
  |false=>exact .inl ⟨rfl,(zv hF).symm⟩
  |true=>
   refine .inr ⟨rfl,?_⟩
   simp only[zb4,Bool.not_true,cond_false]at hF;cases e2:fw b 1 10 with
   |none=>rw[e2]at hF;cases hF
   |some c2=>
    rw[e2]at hF;cases c2 with
    |false=>exact .inl ⟨rfl,(zv hF).symm⟩
    |true=>
     refine .inr ⟨rfl,?_⟩
     simp only[zb4,Bool.not_true,cond_false]at hF;by_cases hl:(l.length:Int)=zi zj (a*b)
     ·rw[zw (fun h=>h hl)]at hF;refine .inr ⟨hl,?_⟩
      cases e3:fa l with
      |none=>rw[e3]at hF;cases hF
      |some c3=>
       rw[e3]at hF;cases c3 with
       |false=>exact .inl ⟨rfl,(zv hF).symm⟩
       |true=>
        simp only[zb4,Bool.not_true,cond_false]at hF;cases e4:fh a b with
        |none=>rw[e4]at hF;cases hF
        |some s=>
         rw[e4]at hF;simp only[zb4]at hF;by_cases hs:s.length<=1000000/\l.length<=1000000
         ·rw[zr hs]at hF;exact .inr ⟨rfl,s,rfl,hs.1,hs.2,(zv hF).symm⟩
         ·rw[zw hs]at hF;cases hF
     ·rw[zr hl]at hF;exact .inl ⟨hl,(zv hF).symm⟩
abbrev rB:List Item:=[.slot 0 (.cell .bool)]
abbrev rS:List Item:=[.slot 0 (.cell .str)]
section
variable {P:Program} {K:CK->Prop} {cf:Cfg} {ext:Rel} {g gw ga gh:FuncId} {hw ha hh jw ja jh:List (Nat×List Item)} {ow oa oh:List (Nat×List (Ex×List Item))}
theorem O8(hm:P.follows .mixedOrders=true)(hext:∀J,K J->∀g args blks r blks',ext g args blks r blks'->CSpec P J g args blks r blks'){g:FuncId}{xs:List V}{x:Value}(h:DC P cf ext g xs [] (.v x) []):CS P K g xs x:=fun J hJ=>by
 obtain⟨k,h⟩:=h;exact GZ hm (hext J hJ) k _ _ _ _ _ h
theorem QD(fw:Int->Int->Int->Option Bool)(fa:List Int->Option Bool)(fh:Int->Int->Option (List UInt8))(hm:P.follows .mixedOrders=true)(hext:∀J,K J->∀g args blks r blks',ext g args blks r blks'->CSpec P J g args blks r blks')
  (Ew:Ch (DC P cf ext) ⟨⟨gw,0,Bh 0 [.int .i64,.int .i64,.int .i64],rB,hw,ow,jw⟩,fun(x:Int×Int×Int)=>fw x.1 x.2.1 x.2.2⟩)
  (Ea:Ch (DC P cf ext) ⟨⟨ga,0,Bh 0 [.im (.int .i64)],rB,ha,oa,ja⟩,fun(x:List Int)=>fa x⟩)
  (Eh:Ch (DC P cf ext) ⟨⟨gh,0,Bh 0 [.int .i64,.int .i64],rS,hh,oh,jh⟩,fun(x:Int×Int)=>fh x.1 x.2⟩)
  (hx:∀g' args blks r blks',M9 P K g gw ga gh g' args blks r blks'->ext g' args blks r blks'):
  Ch (DC P cf ext) ⟨⟨g,0,[.slot 0 (.cell (.int .i64)),.slot 1 (.cell (.int .i64)),.slot 2 (.cell (.im (.int .i64)))],[.slot 0 (.cell .str),.slot 1 (.cell .bool)],[],[],[]⟩,fun(x:Int×Int×List Int)=>OA fw fa fh x.1 x.2.1 x.2.2⟩:=by
 have cw:∀(a:Int){c:Bool},fw a 1 10=some c->CS P K gw [iv a,iv 1,iv 10] (.bool c):=fun a c h=>by
  obtain⟨r,blks',q1,q2,_⟩:=Ir (cs:=[.int .i64,.int .i64,.int .i64]) Ew (d:=((a,1,10):Int×Int×Int)) (y:=c) (xs:=[iv a,iv 1,iv 10]) (by rfl) ⟨rfl,rfl,rfl,trivial⟩ h;have hr:r=.v (.bool c):=q2.val;have hb:blks'=[]:=zb7 q2.len;subst hr;subst hb;exact O8 hm hext q1
 have ca:∀{l:List Int}{x:V}{c:Bool},FI (.im (.int .i64)) l x->fa l=some c->CS P K ga [x] (.bool c):=fun {l x c} hA h=>by
  obtain⟨r,blks',q1,q2,_⟩:=Ir (cs:=[.im (.int .i64)]) Ea (d:=l) (y:=c) (xs:=[x]) (by rfl) ⟨hA,trivial⟩ h;have hr:r=.v (.bool c):=q2.val;have hb:blks'=[]:=zb7 q2.len;subst hr;subst hb;exact O8 hm hext q1
 have ch:∀(a b:Int){s:Str},fh a b=some s->CS P K gh [iv a,iv b] (.string ⟨s.toArray⟩):=fun a b s h=>by
  obtain⟨r,blks',q1,q2,_⟩:=Ir (cs:=[.int .i64,.int .i64]) Eh (d:=((a,b):Int×Int)) (y:=s) (xs:=[iv a,iv b]) (by rfl) ⟨rfl,rfl,trivial⟩ h;have hr:r=.v (.string ⟨s.toArray⟩):=q2.val;have hb:blks'=[]:=zb7 q2.len;subst hr;subst hb;exact O8 hm hext q1
 refine Ql rfl rfl rfl fun a b l y x x' x'' h h' h'' hF=> ?_
 have e:x=iv a:=h;have e':x'=iv b:=h';subst e;subst e';have hF:OA fw fa fh a b l=some y:=hF;have bad:∀{y:List UInt8×Bool},([],false)=y->ResRel [.slot 0 (.cell .str),.slot 1 (.cell .bool)] y D1 []:=by
  rintro _ rfl;exact⟨⟨_,rfl,rfl,rfl,trivial⟩,fun id b hb=>by simp[AG,Ao]at hb,rfl⟩
 rcases M0 hF with⟨e1,hy⟩|⟨e1,⟨e2,hy⟩|⟨e2,⟨hl,hy⟩|⟨hl,⟨e3,hy⟩|⟨e3,s,e4,hs,hn,hy⟩⟩⟩⟩
 ·exact⟨D1,[],hx _ _ _ _ _ ⟨rfl,rfl,rfl,a,b,l,x'',h'',rfl,false,cw a e1,.inl ⟨rfl,rfl⟩⟩,bad hy.symm⟩
 ·exact⟨D1,[],hx _ _ _ _ _ ⟨rfl,rfl,rfl,a,b,l,x'',h'',rfl,true,cw a e1,.inr ⟨rfl,false,cw b e2,.inl ⟨rfl,rfl⟩⟩⟩,bad hy.symm⟩
 ·exact⟨D1,[],hx _ _ _ _ _ ⟨rfl,rfl,rfl,a,b,l,x'',h'',rfl,true,cw a e1,.inr ⟨rfl,true,cw b e2,.inr ⟨rfl,.inl ⟨hl,rfl⟩⟩⟩⟩,bad hy.symm⟩
 ·exact⟨D1,[],hx _ _ _ _ _ ⟨rfl,rfl,rfl,a,b,l,x'',h'',rfl,true,cw a e1,.inr ⟨rfl,true,cw b e2,.inr ⟨rfl,.inr ⟨hl,false,ca h'' e3,.inl ⟨rfl,rfl⟩⟩⟩⟩⟩,bad hy.symm⟩
 ·have hy:y=(s++A7 (List.map (zi .u8) l),true):=hy;subst hy;exact⟨_,[],hx _ _ _ _ _ ⟨rfl,rfl,rfl,a,b,l,x'',h'',rfl,true,cw a e1,.inr ⟨rfl,true,cw b e2,.inr ⟨rfl,.inr ⟨hl,true,ca h'' e3,.inr ⟨rfl,s,ch a b e4,hs,hn,rfl⟩⟩⟩⟩⟩,⟨_,rfl,rfl,rfl,trivial⟩,fun id b hb=>by simp[AG,Ao]at hb,rfl⟩
end
end
section
open Go Go.RowKit
theorem NN:(Tryd.prog.info? 60).map (·.size)=some 2:=by kernel_rfl
theorem Nn:(Tryd.prog.info? 5).map (fun i=>(i.zero,i.size,i.bytes))=some (some (.int .u8 0),1,1):=by kernel_rfl
set_option maxHeartbeats 1000000 in
set_option maxRecDepth 100000 in
theorem Q1 (b : Nat) (w : World) (h0 : w.cell? ⟨b, 0, none⟩ = some (.pointer (some ⟨b, 0, none⟩))) : Calls Tryd.prog 55 #[.pointer (some ⟨b, 0, none⟩)] w fun e w' => e = .returned (.tuple #[]) /\ w' = w := by
 obtain ⟨j, hj, _⟩ := za8.1 NN
 go_enter Tryd.func55, Tryd.ntmps55
 go_wp2
 rw [Lib.run_neq_ptr_same w _ Tryd.underlying58 hj]
 go_wp2
 go_end0
 exact ⟨rfl, rfl⟩
set_option maxHeartbeats 1000000 in
set_option maxRecDepth 100000 in
theorem Qg (b : Nat) (w : World) (h0 : w.cell? ⟨b, 0, none⟩ = some (.pointer none)) (hsh : w.shape? b = some (60, 2)) (hfz : w.frozen? ⟨b, 0, none⟩ = false) :
  Calls Tryd.prog 55 #[.pointer (some ⟨b, 0, none⟩)] w fun e w' => e = .returned (.tuple #[]) /\ w' = w.setCell ⟨b, 0, none⟩ (.pointer (some ⟨b, 0, none⟩)) := by
 obtain ⟨j, hj, hjs⟩ := za8.1 NN
 go_enter Tryd.func55, Tryd.ntmps55
 go_wp2
 rw [Lib.run_to_unsafe w ⟨b, 0, none⟩ Tryd.underlying58 Tryd.underlying103 hj (by rw [hjs]; decide) hsh (Nat.zero_lt_succ 1)];simp only [Result.andThen];rw [Oper.upon_value]
 go_wp2
 rw [run_callFunc_extern Tryd.func68 (by kernel_rfl) (by kernel_rfl) (by kernel_rfl) (e := Extern.AbiNoEscape.same) (by kernel_rfl)];rw [Lib.run_noEscape];simp only [Result.andThen];rw [Oper.upon_value]
 go_wp2
 rw [Lib.run_from_unsafe w ⟨b, 0, none⟩ Tryd.underlying103 Tryd.underlying58 hj hsh (by kernel_rfl)];simp only [Result.andThen];rw [Oper.upon_value]
 go_wp2
 go_end0
 exact ⟨rfl, rfl⟩
theorem P8(B b:Nat)(bs:List Value)(w:World)(h:Lib.IsBuilder 60 5 B b bs w):
  Calls Tryd.prog 55 #[.pointer (some ⟨b,0,none⟩)] w fun e w'=>e=.returned (.tuple #[])/\(Lib.BuilderAt 60 5 B b (.pointer (some ⟨b,0,none⟩)) bs w'/\Below B w w'):=by
 rcases h with h|h
 ·refine(Qg b w h.cell0 h.shape h.frozen0).mono ?_
  rintro e w' ⟨rfl,rfl⟩;exact⟨rfl,h.used _,(Below.refl B w).setCell (p:=⟨b,0,none⟩) h.1 _⟩
 ·refine(Q1 b w h.cell0).mono ?_
  rintro e w' ⟨rfl,rfl⟩;exact⟨rfl,h,Below.refl B _⟩
set_option maxRecDepth 100000 in
theorem QB (B b : Nat) (bs : List Value) (c : Int) (w : World) (h : Lib.IsBuilder 60 5 B b bs w) (hlen : bs.length + 1 <= 140737488355328) (hBw : B <= w.heap.size) :
  Calls Tryd.prog 34 #[.pointer (some ⟨b, 0, none⟩), .int .u8 c] w fun e w' => e = .returned .nilIface /\ (Lib.BuilderAt 60 5 B b (.pointer (some ⟨b, 0, none⟩)) (bs ++ [.int .u8 c]) w' /\ Below B w w') := by
 obtain ⟨i0, hi, hz0, hz1, hz2⟩ := info_parts Nn
 go_enter Tryd.func34, Tryd.ntmps34
 go_wp2_with (go_at_call 55; refine (P8 B b bs _ h).mono ?_)
 rintro e w1 ⟨rfl, h1, hb1⟩;obtain ⟨hB, v, hbk, hown, hne⟩ := h1;have c0 : w1.cell? ⟨b, 0, none⟩ = some (.pointer (some ⟨b, 0, none⟩)) := by rw [Lib.cell_of_heap hbk]; rfl
 have c1 : w1.cell? ⟨b, 1, none⟩ = some v := by rw [Lib.cell_of_heap hbk]; rfl
 go_wp2_with (at_builtin; refine wpList_append_own _ rfl _ _ 34 rfl B 5 i0 (.int .u8 0) 1 1 Tryd.underlying34 hi hz0 hz1 hz2 rfl (by decide) _ _ _ rfl (hown.alloc _) ⟨w1.heap.size, 0, none⟩ 1 1 [.int .u8 c] rfl rfl ?c1 ?c2 ?c3 ?c4 ?c5 ?_)
 case c1 =>
  intro j u hj
  match j, hj with
  | 0, hj => simp at hj; subst hj; simp [Addr.add]
 case c2 => intro u hu; simp at hu; subst hu; rfl
 case c3 => unfold maxLen; omega
 case c4 => omega
 case c5 => have := hb1.size; simp; omega
 intro v' w2 hown' hgrow _;have hlt : b < w1.heap.size := by
  rcases zd7 b w1.heap.size with h' | h'
  ·exact h'
  ·simp [Array.getElem?_eq_none h'] at hbk
 have hb2 : w2.heap[b]? = some (.cells #[.pointer (some ⟨b, 0, none⟩), v] 60 (0, 0)) := by
  rw [hgrow.block b (by simp; omega) (fun e => hne e.symm), Lib.alloc_old w1 _ b hlt];exact hbk
 have d0 : w2.cell? ⟨b, 0, none⟩ = some (.pointer (some ⟨b, 0, none⟩)) := by rw [Lib.cell_of_heap hb2]; rfl
 have d1 : w2.cell? ⟨b, 1, none⟩ = some v := by rw [Lib.cell_of_heap hb2]; rfl
 have f1 : w2.frozen? ⟨b, 1, none⟩ = false := Lib.frozen_of_heap hb2 1;obtain ⟨g, cap, rfl⟩ : ∃ g cap, v' = .slice (some ⟨g, 0, none⟩) (bs.length + 1) cap := by
  rcases hown'.2 with ⟨_, h0⟩ | ⟨g, cap, cur, hv, _⟩
  ·omega
  ·exact ⟨g, cap, hv⟩
 go_wp2
 go_ret
 refine ⟨rfl, ?_, ?_⟩
 ·exact Lib.BuilderAt.put (T := 60) (e := 5) hB hb2 (bs' := bs ++ [.int .u8 c]) (by simpa using hown') (by decide)
 ·exact ((hb1.alloc (by have := hb1.size; omega) _).grown hgrow (by have := hb1.size; simp; omega) (fun k hk => (hown.lt k hk).1)).setCell (p := ⟨b, 1, none⟩) hB _
set_option maxRecDepth 100000 in
theorem Sj (B b : Nat) (bs : List Value) (s : ByteArray) (w : World) (h : Lib.IsBuilder 60 5 B b bs w) (hlen : bs.length + s.size <= 140737488355328) (hBw : B <= w.heap.size) :
  Calls Tryd.prog 32 #[.pointer (some ⟨b, 0, none⟩), .string s] w fun e w' => e = .returned (.tuple #[.int .i64 s.size, .nilIface]) /\ (Lib.BuilderAt 60 5 B b (.pointer (some ⟨b, 0, none⟩)) (bs ++ Lib.strCells s) w' /\ Below B w w') := by
 obtain ⟨i0, hi, hz0, hz1, hz2⟩ := info_parts Nn
 go_enter Tryd.func32, Tryd.ntmps32
 go_wp2_with (go_at_call 55; refine (P8 B b bs _ h).mono ?_)
 rintro e w1 ⟨rfl, h1, hb1⟩;obtain ⟨hB, v, hbk, hown, hne⟩ := h1;have c0 : w1.cell? ⟨b, 0, none⟩ = some (.pointer (some ⟨b, 0, none⟩)) := by rw [Lib.cell_of_heap hbk]; rfl
 have c1 : w1.cell? ⟨b, 1, none⟩ = some v := by rw [Lib.cell_of_heap hbk]; rfl
 go_wp2_with (at_builtin; refine Lib.wpList_append_own_string _ rfl _ _ 34 9 rfl B 5 i0 Tryd.underlying34 Tryd.underlying9 hi hz0 hz1 hz2 _ _ _ rfl hown s rfl ?c3 ?c4 ?c5 ?_)
 case c3 => unfold maxLen; omega
 case c4 => omega
 case c5 => have := hb1.size; omega
 intro v' w2 hown' hgrow _;have hlt : b < w1.heap.size := by
  rcases zd7 b w1.heap.size with h' | h'
  ·exact h'
  ·simp [Array.getElem?_eq_none h'] at hbk
 have hb2 : w2.heap[b]? = some (.cells #[.pointer (some ⟨b, 0, none⟩), v] 60 (0, 0)) := by
  rw [hgrow.block b hlt (fun e => hne e.symm)];exact hbk
 have d0 : w2.cell? ⟨b, 0, none⟩ = some (.pointer (some ⟨b, 0, none⟩)) := by rw [Lib.cell_of_heap hb2]; rfl
 have d1 : w2.cell? ⟨b, 1, none⟩ = some v := by rw [Lib.cell_of_heap hb2]; rfl
 have f1 : w2.frozen? ⟨b, 1, none⟩ = false := Lib.frozen_of_heap hb2 1;obtain ⟨ao, n', cap, rfl⟩ : ∃ ao n' cap, v' = .slice ao n' cap := by
  rcases hown'.2 with ⟨hv, _⟩ | ⟨g, cap, cur, hv, _⟩
  ·exact ⟨_, _, _, hv⟩
  ·exact ⟨_, _, _, hv⟩
 go_wp2
 go_ret2
 refine ⟨rfl, ?_, ?_⟩
 ·exact Lib.BuilderAt.put (T := 60) (e := 5) hB hb2 (bs' := bs ++ Lib.strCells s) (by simpa [Lib.strCells_length] using hown') (by decide)
 ·exact (hb1.grown hgrow (by have := hb1.size; omega) (fun k hk => (hown.lt k hk).1)).setCell (p := ⟨b, 1, none⟩) hB _
theorem Ow(z:List Int):Lib.byteCells (A7 (z.map (zi .u8)))=z.map fun n=>Value.int .u8 (zi .u8 n):=by
 simp only[Lib.byteCells,A7,List.map_map]
 apply List.map_congr_left
 intro n _;have h0:0<=zi .u8 n/\zi .u8 n<256:=by
  rw[show zi .u8 n=n%256 by simp[zi,IntKind.signed,IntKind.bits]];omega
 obtain⟨k,hk⟩:∃k:Nat,zi .u8 n=k:=⟨(zi .u8 n).toNat,by omega⟩;simp only[Function.comp_apply,hk,Int.toNat_natCast];have:k<256:=by omega
 simp[Nat.mod_eq_of_lt this]
theorem J6(n:Int):zi zj n=wrap64 n:=by rw[IntKind.wrap_i64,wrap64]
theorem OO{l:List Int}{k:Nat}{z:Int}(h:l[k]? =some z):l.take (k+1)=l.take k++[z]:=by
 rw[List.take_add_one,h];rfl
set_option maxHeartbeats 4000000 in
set_option maxRecDepth 1000000 in
theorem Qc {w : World} {a b : Int} {ad : Option Addr} {cap : Nat} {l : List Int} {s : Str} (hl : (l.length : Int) = zi zj (a * b)) (hs : s.length <= 1000000) (hn : l.length <= 1000000)
  (hc : ∀ (i : Nat) z, l[i]? = some z -> ∃ bk off, ad = some ⟨bk, off, none⟩ /\ bk < w.heap.size /\ l.length <= cap /\ w.cell? ⟨bk, off + i, none⟩ = some (.int .i64 z))
  (q1 : ∀ W, Below w.heap.size w W -> Calls Tryd.prog 22 #[.int .i64 a, .int .i64 1, .int .i64 10] W fun e w' => e = .returned (.bool true) /\ Below W.heap.size W w')
  (q2 : ∀ W, Below w.heap.size w W -> Calls Tryd.prog 22 #[.int .i64 b, .int .i64 1, .int .i64 10] W fun e w' => e = .returned (.bool true) /\ Below W.heap.size W w')
  (q3 : ∀ W, Below w.heap.size w W -> Calls Tryd.prog 31 #[.slice ad l.length cap] W fun e w' => e = .returned (.bool true) /\ Below W.heap.size W w')
  (q4 : ∀ W, Below w.heap.size w W -> Calls Tryd.prog 33 #[.int .i64 a, .int .i64 b] W fun e w' => e = .returned (.string ⟨s.toArray⟩) /\ Below W.heap.size W w') :
  Calls Tryd.prog 13 #[.int .i64 a, .int .i64 b, .slice ad l.length cap] w fun e w' => e = .returned (.tuple #[.string ⟨(s ++ A7 (l.map (zi .u8))).toArray⟩, .bool true]) /\ Below w.heap.size w w' := by
 have hl2 : wrap64 (a * b) = (l.length : Int) := by rw [hl, J6]
 clear hl
 go_enter Tryd.func13, Tryd.ntmps13
 go_wp2_with (go_at_call 22; refine (q1 w (Below.refl _ _)).mono ?_)
 rintro e w1 ⟨rfl, b1⟩
 go_wp2_with (go_at_call 22; refine (q2 w1 b1).mono ?_)
 rintro e w2 ⟨rfl, b2⟩
 replace b2 := b1.trans (b2.mono b1.size)
 go_wp2_with (go_at_call 31; refine (q3 w2 b2).mono ?_)
 rintro e w3 ⟨rfl, b3⟩
 replace b3 := b2.trans (b3.mono b2.size)
 go_wp2_with (go_at_call 33; refine (q4 _ ?hb3).mono ?_)
 case hb3 => exact b3.alloc b3.size _
 rintro e w4 ⟨rfl, b4⟩;have hsz3 := b3.size;have hsz4 := b4.size;have hal : (w3.alloc (.cells #[.pointer none, .slice none 0 0] 60)).heap.size = w3.heap.size + 1 := by simp
 have hI4 : Lib.IsBuilder 60 5 w.heap.size w3.heap.size [] w4 := Or.inl ⟨hsz3, .slice none 0 0, by
  rw [b4.block _ (by rw [hal]; omega)];exact heap_alloc_new w3 _, World.ownsRow_nil _ _ _ _, by simp [Value.ownBlock]⟩
 have b4' : Below w.heap.size w w4 := (b3.alloc b3.size _).trans (b4.mono (by rw [hal]; omega))
 go_wp2_with (go_at_call 32; refine (Sj w.heap.size w3.heap.size [] ⟨s.toArray⟩ _ hI4 ?hlen (by omega)).mono ?_)
 case hlen => simp [ByteArray.size]; omega
 rintro e w5 ⟨rfl, h5, b5⟩
 replace b5 := b4'.trans b5
 clear q1 q2 q3 q4
 go_wp2
 go_loopw [38] (fun i wr => ∃ k : Nat, k <= l.length /\ i = .int .i64 k /\ Lib.IsBuilder 60 5 w.heap.size w3.heap.size (Lib.byteCells (s ++ A7 ((l.take k).map (zi .u8)))) wr /\ Below w.heap.size w wr) (fun i wr => l.length - (intOf i).toNat)
 case atStart =>
  refine ⟨0, by omega, rfl, ?_, b5⟩
  have : Lib.byteCells (s ++ A7 ((l.take 0).map (zi .u8))) = [] ++ Lib.strCells ⟨s.toArray⟩ := by simp [A7, Lib.strCells_eq]
  rw [this];exact Or.inr h5
 case round =>
  obtain ⟨k, hk, rfl, hI, hb⟩ := hrel;have hbs := hb.size;have hln : (Lib.byteCells (s ++ A7 ((l.take k).map (zi .u8)))).length = s.length + k := by rw [Lib.byteCells_length]; simp [A7]; omega
  by_cases hlt : k < l.length
  ·obtain ⟨z, hz⟩ : ∃ z, l[k]? = some z := ⟨l[k], za4 hlt⟩;obtain ⟨bk, off, rfl, hbk, hcap, hcell⟩ := hc k z hz;have hcell : wr.cell? ⟨bk, off + k, none⟩ = some (.int .i64 z) := by rw [hb.cell (p := ⟨bk, off + k, none⟩) hbk]; exact hcell
   clear hc
   go_wp2_with (go_at_call 34; refine (QB w.heap.size w3.heap.size _ (zi .u8 z) _ hI (by rw [hln]; omega) hbs).mono ?_)
   rintro e w6 ⟨rfl, h6, b6⟩
   go_wp2
   go_roundw
   case rel =>
    refine ⟨k + 1, by omega, by go_num, ?_, hb.trans b6⟩
    rw [OO hz, List.map_append, A7, List.map_append, <- List.append_assoc, Lib.byteCells_append];have h1 := Ow [z];simp only [za9, List.map_nil, A7] at h1;simp only [za9, List.map_nil];rw [h1];exact Or.inr h6
   case measure => simp [intOf]; omega
  ·have hkl : k = l.length := by omega
   subst hkl;rw [List.take_length] at hI
   clear hc
   go_wp2_with (go_at_call 35; refine (Tryd.Builder_String_any w.heap.size w3.heap.size _ _ hI hbs).mono ?_)
   rintro e w6 ⟨rfl, b6⟩
   go_wp2
   go_ret2
   exact ⟨rfl, hb.trans b6⟩
set_option maxHeartbeats 4000000 in
set_option maxRecDepth 1000000 in
theorem QK {w : World} {a b : Int} {ad : Option Addr} {cap : Nat} {n : Nat} {c1 c2 c3 : Bool} (hc : c1 = false \/ c2 = false \/ ¬ (n : Int) = zi zj (a * b) \/ c3 = false)
  (q1 : ∀ W, Below w.heap.size w W -> Calls Tryd.prog 22 #[.int .i64 a, .int .i64 1, .int .i64 10] W fun e w' => e = .returned (.bool c1) /\ Below W.heap.size W w')
  (q2 : c1 = true -> ∀ W, Below w.heap.size w W -> Calls Tryd.prog 22 #[.int .i64 b, .int .i64 1, .int .i64 10] W fun e w' => e = .returned (.bool c2) /\ Below W.heap.size W w')
  (q3 : c1 = true -> c2 = true -> (n : Int) = zi zj (a * b) -> ∀ W, Below w.heap.size w W -> Calls Tryd.prog 31 #[.slice ad n cap] W fun e w' => e = .returned (.bool c3) /\ Below W.heap.size W w') :
  Calls Tryd.prog 13 #[.int .i64 a, .int .i64 b, .slice ad n cap] w fun e w' => e = .returned (.tuple #[.string ⟨#[]⟩, .bool false]) /\ Below w.heap.size w w' := by
 have hw : zi zj (a * b) = wrap64 (a * b) := J6 _;rw [hw] at hc q3
 clear hw
 go_enter Tryd.func13, Tryd.ntmps13
 go_wp2_with (go_at_call 22; refine (q1 w (Below.refl _ _)).mono ?_)
 rintro e w1 ⟨rfl, b1⟩;cases c1 with
 | false =>
  clear hc q1 q2 q3
  go_wp2
  go_ret2
  exact ⟨rfl, b1⟩
 | true =>
  replace q2 := q2 rfl
  replace q3 := q3 rfl
  go_wp2_with (go_at_call 22; refine (q2 w1 b1).mono ?_)
  rintro e w2 ⟨rfl, b2⟩
  replace b2 := b1.trans (b2.mono b1.size)
  cases c2 with
  | false =>
   clear hc q1 q2 q3
   go_wp2
   go_ret2
   exact ⟨rfl, b2⟩
  | true =>
   replace q3 := q3 rfl
   by_cases hl : (n : Int) = wrap64 (a * b)
   ·have h3 : c3 = false := by simpa [hl] using hc
    subst h3
    replace q3 := q3 hl
    have hl2 : wrap64 (a * b) = (n : Int) := hl.symm
    clear hl hc
    go_wp2_with (go_at_call 31; refine (q3 w2 b2).mono ?_)
    rintro e w3 ⟨rfl, b3⟩
    replace b3 := b2.trans (b3.mono b2.size)
    clear q1 q2 q3
    go_wp2
    go_ret2
    exact ⟨rfl, b3⟩
   ·clear hc q1 q2 q3
    go_wp2
    go_ret2
    exact ⟨rfl, b2⟩
theorem Rf{w:World}{A:Nat->Prop}{l:List Int}{x:V}{y:Value}(hx:FI (.im (.int .i64)) l x)(hy:Rep w A x y)(hA:∀b,A b->b<w.heap.size):
  ∃ad cap,y=.slice ad l.length cap/\∀(i:Nat) z,l[i]? =some z->∃bk off,ad=some ⟨bk,off,none⟩/\bk<w.heap.size/\l.length<=cap/\w.cell? ⟨bk,off+i,none⟩=some (.int .i64 z):=by
 rcases hx with⟨rfl,rfl⟩|⟨rows,rfl,hrows⟩
 ·cases hy with
  |em a=>exact⟨a,0,rfl,fun i z h=>by simp at h⟩
 ·cases hy with
  |im0 a cap=>
   have h0:l=[]:=zb7 (by have:=hrows.1;simpa using this.symm);subst h0;exact⟨a,cap,rfl,fun i z h=>by simp at h⟩
  |im b off cap size rows f hb hs hcap hcm hrl hcell hrep=>
   have hll:l.length=rows.length:=by have:=hrows.1;first|exact this|exact this.symm
   refine⟨some ⟨b,off,none⟩,cap,by rw[hll],fun i z hi=> ?_⟩
   obtain⟨row,h1,h2⟩:=hrows.get hi;have h2:row=[V.v (.int .i64 z)]:=h2;subst h2;have hs1:size=1:=by have:=hrl i _ h1;simpa using this.symm
   subst hs1;have h3:=hcell i 0 _ _ h1 rfl;have h4:=hrep i 0 _ _ h1 rfl;rw[Nat.mul_one,Nat.add_zero]at h3;refine⟨b,off,rfl,hA b hb,by omega,?_⟩
   rw[h3];generalize f i 0=u at h4;cases h4
   rfl
theorem PZ{K:CK->Prop}{J:CK}(hent:Qy Tryd.prog 13)(hJ:K J):∀g' args blks r blks',M9 Tryd.prog K 13 22 31 33 g' args blks r blks'->CSpec Tryd.prog J g' args blks r blks':=by
 rintro g' args blks r blks' ⟨rfl,rfl,rfl,a,b,l,x,hx,rfl,c1,h1,hr⟩;refine HG hent fun w A E vals hT hA hvl=> ?_
 obtain⟨y,rfl,hy⟩:∃y,vals=[.int .i64 a,.int .i64 b,y]/\Rep w A x y:=by
  match vals,hvl with
  |[y1,y2,y3],h=>
   have k1:Rep w A (.v (.int .i64 a)) y1:=h.1;have k2:Rep w A (.v (.int .i64 b)) y2:=h.2.1;have k3:Rep w A x y3:=by
    have k:=h.2.2.1;rcases hx with⟨_,rfl⟩|⟨rows,rfl,_⟩
    ·exact k
    ·exact k
   cases k1
   cases k2
   exact⟨y3,rfl,k3⟩
  |[],h=>exact h.elim
  |[_],h=>exact h.2.elim
  |[_,_],h=>exact h.2.2.elim
  |_::_::_::_::_,h=>exact h.2.2.2.elim
 obtain⟨ad,cap,rfl,hcell⟩:=Rf hx hy hA;have hxr:([x]:List V).flatMap Ad=[]:=by rw[za7,LG hx];rfl
 have q1:∀W,Below w.heap.size w W->Calls Tryd.prog 22 #[.int .i64 a,.int .i64 1,.int .i64 10] W fun e w'=>e=.returned (.bool c1)/\Below W.heap.size W w':=fun W hW=>
  Eo (h1 J hJ) rfl hT hW hA (vals:=[.int .i64 a,.int .i64 1,.int .i64 10]) ⟨.v _ rfl,.v _ rfl,.v _ rfl,trivial⟩
 have fin:∀(c2 c3:Bool),r=D1->(c1=false\/c2=false\/¬(l.length:Int)=zi zj (a*b)\/c3=false)->
   (c1=true->CS Tryd.prog K 22 [iv b,iv 1,iv 10] (.bool c2))->(c1=true->c2=true->(l.length:Int)=zi zj (a*b)->CS Tryd.prog K 31 [x] (.bool c3))->
   Calls Tryd.prog 13 [Value.int .i64 a,.int .i64 b,.slice ad l.length cap].toArray w fun e w'=>∃y,e=.returned y/\Below w.heap.size w w'/\VR2 w' E (lkB []) A r y:=by
  rintro c2 c3 rfl hc h2 h3;refine(QK hc q1 (fun e W hW=>Eo (h2 e J hJ) rfl hT hW hA (vals:=[.int .i64 b,.int .i64 1,.int .i64 10]) ⟨.v _ rfl,.v _ rfl,.v _ rfl,trivial⟩)
   (fun e e' e'' W hW=>Eo (h3 e e' e'' J hJ) hxr hT hW hA (vals:=[.slice ad l.length cap]) ⟨hy,trivial⟩)).mono ?_
  rintro e w' ⟨rfl,hb⟩;exact⟨_,rfl,hb,_,rfl,.v _ rfl,.v _ rfl,trivial⟩
 rcases hr with⟨e1,hr⟩|⟨e1,c2,h2,⟨e2,hr⟩|⟨e2,⟨hl,hr⟩|⟨hl,c3,h3,⟨e3,hr⟩|⟨e3,s,h4,hs,hn,hr⟩⟩⟩⟩
 ·exact fin false false hr (.inl e1) (fun e=>by rw[e1]at e;cases e) (fun e=>by rw[e1]at e;cases e)
 ·exact fin c2 false hr (.inr (.inl e2)) (fun _=>h2) (fun _ e=>by rw[e2]at e;cases e)
 ·exact fin c2 false hr (.inr (.inr (.inl hl))) (fun _=>h2) (fun _ _ e=>absurd e hl)
 ·exact fin c2 c3 hr (.inr (.inr (.inr e3))) (fun _=>h2) (fun _ _ _=>h3)
 ·subst e1;subst e2;subst e3;subst hr;refine(Qc hl hs hn hcell q1 (fun W hW=>Eo (h2 J hJ) rfl hT hW hA (vals:=[.int .i64 b,.int .i64 1,.int .i64 10]) ⟨.v _ rfl,.v _ rfl,.v _ rfl,trivial⟩)
   (fun W hW=>Eo (h3 J hJ) hxr hT hW hA (vals:=[.slice ad l.length cap]) ⟨hy,trivial⟩)
   (fun W hW=>Eo (h4 J hJ) rfl hT hW hA (vals:=[.int .i64 a,.int .i64 b]) ⟨.v _ rfl,.v _ rfl,trivial⟩)).mono ?_
  rintro e w' ⟨rfl,hb⟩;exact⟨_,rfl,hb,_,rfl,.v _ rfl,.v _ rfl,trivial⟩
end
section
open Go Go.RowKit
variable {H:Type} {enc:TypeId×Value->H}
theorem Fo{a:Assume}{C:Checked}{os:Os}{f:FuncId}{fn:Func}{s:ChangeSpec}{conds:List PathCond}{apart fresh handsOn again:Bool}{X:World->Array Value->Prop}
  (hX:∀(w w':World)(args:Array Value),w.heap=w'.heap->X w args->X w' args)
  (own:ownKnob C.prog.godebug=none) (started:os.Started) (noInit:C.prog.inits.idxOf? f=none) (hfn:C.prog.funcs[f]? =some fn)
  (witness:∃(w:World)(tape:Tape)(i:Input),w.os=os/\(w.forCall tape i).Shaped C.prog/\i.vars=[]/\Input.okWide C.prog (w.forCall tape i) .any w.heap.size f i/\
   ((s.pre enc C.prog fn conds apart (w.forCall tape i).memory i.args/\X (w.forCall tape i).memory i.args)/\sizedMet enc C.prog fn (OpenSpec.ofChange s) apart (w.forCall tape i).memory i.args)/\a.holds C.prog (lone (Frame.enter C.prog f i.args .normal) [] (w.forCall tape i)))
  (contract:∀(W:World)(base:Nat)(args:Array Value)(ds gs:List (DataW H))(before:List MemPlace),
   (∀(j:Nat) t v,fn.params[j]? =some t->args[j]? =some v->Value.okWide C.prog W .any base t v)->
   DataW.Whole enc C.prog fn.params.toList s.vars apart W args.toList ds gs before->
   (DataW.weightsEach C.prog (fn.params.toList++s.plain.varTypes C.prog) (ds++gs)).all (· <=reachBytes)=true->
   W.ShapedOpen C.prog->X W args->
   Calls C.prog f args W fun e W'=>∃v,e=.returned v/\s.post enc C.prog fn apart fresh handsOn again W args v W'):
  ReturnsInHanded a C os f .any (fun w args=>(s.pre enc C.prog fn conds apart w args/\X w args)/\sizedMet enc C.prog fn (OpenSpec.ofChange s) apart w args) (s.post enc C.prog fn apart fresh handsOn again):=by
 refine returnsInHanded_of_calls own started noInit witness ?_
 intro w tape i _ hsh _ hok hpre hholds;obtain⟨_,_,_,fn',hfn',_,_,_,_,hval⟩:=hok;have e:fn'=fn:=zv (hfn'.symm.trans hfn);subst e;obtain⟨⟨⟨ds,gs,before,hw,hc⟩,hx⟩,hz⟩:=hpre;have hw':=DataW.Whole.of_heap (w':=w.forCall tape i) (by rfl) hw;refine(contract (w.forCall tape i) w.heap.size i.args ds gs before hval hw' (hz.weights hw) hsh (hX _ _ _ (by rfl) hx)).mono fun e W' ⟨v,he,hp⟩=> ?_
 subst he;exact ChangeSpec.post_blind hp
def Jof(w:World)(ids:List Nat):CK:=ids.filterMap fun g=>(w.heap[g]?).map fun o=>(g,o)
theorem P7{w:World}{ids:List Nat}:∀x∈Jof w ids,w.heap[x.1]? =some x.2:=by
 intro x hx;simp only[Jof,List.mem_filterMap,za8]at hx;obtain⟨g,_,o,ho,rfl⟩:=hx;exact ho
theorem O3{w w':World}{ids:List Nat}(h:∀x∈Jof w ids,w'.heap[x.1]? =some x.2){g:Nat}(hg:g∈ids){o:Obj}(ho:w.heap[g]? =some o):w'.heap[g]? =some o:=
 h (g,o) (by simp only[Jof,List.mem_filterMap,za8];exact⟨g,hg,o,ho,rfl⟩)
theorem QJ{P:Program}{w w':World}{ids:List Nat}(h:∀x∈Jof w ids,w'.heap[x.1]? =some x.2){name:String}{g:Nat}(hn:P.globalNamed name=some g)(hg:g∈ids){cs:Array Value}
  (hv:w.var? P name=some cs):w'.var? P name=some cs:=by
 cases ho:w.heap[g]? with
 |none=>simp[World.var?,hn,ho]at hv
 |some o=>
  have:=O3 h hg ho;simp only[World.var?,hn,zb4,ho]at hv;simp only[World.var?,hn,zb4,this];exact hv
theorem S8{P:Program}{w:World}{ids:List Nat}{name:String}{g:Nat}{k:IntKind}{zs:List Int}(hn:P.globalNamed name=some g)(hg:g∈ids)(h:Lib.TabIs P w name k zs):RZ P (Jof w ids) name k zs:=
 fun _ hw=>QJ hw hn hg h
theorem Gp{P:Program}{w:World}:∀(n:Nat){l:List (String×DataW Unit)},laidMet P l w->laidMet P (l.drop n) w
 |0,_,h=>h
 |n+1,[],h=>h
 |n+1,_::_,h=>Gp n h.tail
end
section
open Go
set_option maxRecDepth 100000
def Su:TyD:=⟨1,8,false,[(.v (.int .i64 0))],none,false,(some .i64),[],false⟩
def SR:TyD:=⟨1,1,false,[(.v (.bool false))],none,false,none,[],false⟩
def Sr:TyD:=⟨1,1,false,[(.v (.int .u8 0))],none,false,(some .u8),[],false⟩
def Sz:TyD:=⟨1,16,false,[(.v (.string ⟨#[]⟩))],none,true,none,[],false⟩
def Rs:TyD:=⟨1,24,false,[.em],(some 3),false,none,[],false⟩
def Rp:TyD:=⟨1,24,false,[.em],(some 5),false,none,[],false⟩
theorem ty3:AA Tryd.prog 3=some Su:=by kernel_rfl
theorem ty4:AA Tryd.prog 4=some SR:=by kernel_rfl
theorem ty5:AA Tryd.prog 5=some Sr:=by kernel_rfl
theorem ty9:AA Tryd.prog 9=some Sz:=by kernel_rfl
theorem S7:AA Tryd.prog 28=some Rs:=by kernel_rfl
theorem S5:AA Tryd.prog 34=some Rp:=by kernel_rfl
def J7:List (Nat×TyD):=[(3,Su),(4,SR),(5,Sr),(9,Sz),(28,Rs),(34,Rp)]
def Kk:List (Nat×Ty):=[(3,.int .i64),(5,.int .u8)]
theorem RO:∀t d,getD J7 t=some d->AA Tryd.prog t=some d:=RP (by unfold J7;exact⟨ty3,⟨ty4,⟨ty5,⟨ty9,⟨S7,⟨S5,trivial⟩⟩⟩⟩⟩⟩)
theorem SC:Tryd.prog.underlying 4=some .bool:=by kernel_rfl
theorem M8:∀t,([4]:List Nat).contains t=true->Tryd.prog.underlying t=some .bool:=by
 intro t h;simp at h;rcases h with rfl
 all_goals first|exact SC
theorem R0:∀t,([]:List Nat).contains t=true->SH Tryd.prog t:=by
 intro t h;simp at h
 try exact h.elim
abbrev qC(i:Nat)(c:AC):Item:=.slot i (.cell c)
abbrev qI(i:Nat):Item:=.slot i (.cell (.int .i64))
abbrev qB(i:Nat):Item:=.slot i (.cell .bool)
abbrev qS(i:Nat):Item:=.slot i (.cell .str)
abbrev qA(i:Nat)(l:List AC):Item:=.slot i (.agg l)
abbrev qT(i j:Nat):Item:=.slot i (.ref j true)
abbrev qF(i j:Nat):Item:=.slot i (.ref j false)
abbrev qb:Item:=qC 0 (.im (.int .i64))
abbrev qe:Item:=.blk (.arr 3 true (.int .i64))
abbrev qc:List Item:=[qb]
abbrev qa:List Item:=[qB 0]
abbrev qd:List Item:=[qI 0,qI 1,qC 2 (.im (.int .i64))]
abbrev qf:List Item:=[qb,.slot 1 (.clo 54)]
def Jb:FAnn:=⟨12,0,qc,[qe,qF 0 0],[(3,[qe,qb,qF 3 0,qI 4])],[(3,[(.exit 0,[qe,qF 3 0])])],[]⟩
def Lg:FAnn:=⟨28,0,[qI 0,qI 1,qI 2],qa,[],[],[]⟩
def Jk:FAnn:=⟨29,0,qc,qa,[(2,[qb,qC 5 (.im (.int .i64)),qI 6,qI 7])],[(2,[(.exit 0,qc),(.ret,[qB 2])])],[]⟩
def FA:FAnn:=⟨52,0,[qI 0],[qS 0],[],[],[]⟩
def Fh:FAnn:=⟨30,0,qd,[qS 0],[(3,[qS 7,qC 18 (.im (.int .i64)),qI 19,qI 20])],[(3,[(.exit 0,[qS 7])])],[]⟩
def Ej:FAnn:=⟨11,0,qd,[qS 0,qB 1],[],[],[]⟩
def I7:FAnn:=⟨22,0,[qI 0,qI 1,qI 2],qa,[],[],[]⟩
def Ff:FAnn:=⟨54,0,[qI 0],qa,[],[],[]⟩
def BM:FAnn:=⟨67,0,qf,[qI 0],[(2,[qb,.slot 1 (.clo 54),qI 7,qI 8])],[(2,[(.exit 0,[]),(.ret,[qI 4])])],[]⟩
def Bt:FAnn:=⟨53,0,qf,qa,[],[],[]⟩
def Gx:FAnn:=⟨31,0,qc,qa,[],[],[]⟩
def Fp:FAnn:=⟨56,0,[qI 0],[qS 0],[],[],[]⟩
def LS:FAnn:=⟨33,0,[qI 0,qI 1],[qS 0],[],[],[]⟩
def Ec:FAnn:=⟨13,0,qd,[qS 0,qB 1],[],[],[]⟩
def Jg:FAnn:=⟨14,0,[qb,qC 1 (.im (.int .i64))],qa,[(4,[qb,qC 1 (.im (.int .i64)),qI 5])],[(4,[(.exit 0,[]),(.ret,[qB 4])])],[]⟩
def Bs:FAnn:=⟨4,0,qd,qa,[],[],[]⟩
def PO:List FAnn:=[Jb,Lg,Jk,FA,Fh,Ej,I7,Ff,BM,Bt,Gx,Fp,LS,Ec,Jg,Bs]
structure LibJ (J:CK):Prop where
 tab:RZ Tryd.prog J "internal/strconv.uint64pow10" .u64 Lib.pow10Tab
def Se:Rel:=fun g args blks r blks'=>KN 56 g args blks r blks'\/M9 Tryd.prog LibJ 13 22 31 33 g args blks r blks'
theorem PS:Qy Tryd.prog 56:=⟨Tryd.f56,Tryd.func56,by kernel_rfl,by kernel_rfl⟩
theorem Q0:Qy Tryd.prog 13:=⟨Tryd.f13,Tryd.func13,by kernel_rfl,by kernel_rfl⟩
theorem Lh{J:CK}(hJ:LibJ J):∀g args blks r blks',Se g args blks r blks'->CSpec Tryd.prog J g args blks r blks':=by
 intro g args blks r blks' h;rcases h with h|h
 ·exact N8 PS Tryd.strconv_Itoa hJ.tab _ _ _ _ _ h
 ·exact PZ Q0 hJ _ _ _ _ _ h
def cf0:Cfg:=KL PO fun g=>([56,13]:List Nat).contains g
abbrev RR:Rel:=DC Tryd.prog cf0 Se
structure OKE where
 E:Ent
 k:Ch RR E
 r:cf0.byref E.a.g=(B4 E.a.params).map Jc
theorem SJ:∀l:List OKE,MQ RR cf0 (l.map (·.E))
 |[]=>trivial
 |x::l=>⟨⟨x.k,x.r⟩,SJ l⟩
def fq(a:FAnn)(F:A6 a.params->Option (A6 a.res))(l:List OKE){fn:Func}(h0:Tryd.prog.funcs[a.g]? =some fn)(h1:fn.body.isSome=true:=by rfl)(h2:GI fn (fn.body.get h1) (Ce a.params).length=true:=by kernel_rfl)(h3:cf0.isExt a.g=false:=by rfl)(h:FJ PO a.g=some a:=by kernel_rfl)(hF:∀x,wtF ⟨J7,Kk,[],[4],l.map (·.E),a⟩ fn x=F x:=by intro _;kernel_rfl)(hr:cf0.byref a.g=(B4 a.params).map Jc:=by rfl):OKE:=
 ⟨⟨a,F⟩,Ku (X:=⟨J7,Kk,[],[4],l.map (·.E),a⟩) ⟨RO,M8,R0⟩ (KI (SJ l)) (Ps h) ⟨h0,(Option.some_get h1).symm,h2,h3⟩ hF,hr⟩
def Dc (s0 s1:List Int) (s2:Int):Option ((List Int)×(List Int)×Int⊕(List Int)):=bif decide (s2<(s1.length:Int))then(Gl s1 s2).bind fun x0=>(Ky s2 (List.length s0)).bind fun x1=>(Pt s0 x1).bind fun x2=>some (Sum.inl ((List.set s0 x1 x0),s1,(zi zj (s2+1))))else some (Sum.inr s0)
def CG (a0:List Int):Option (List Int):=(Kv (a0.length:Int) 8 1).bind fun x0=>(AY (fun(s:((List Int)×(List Int)×Int))=>Dc s.1 s.2.1 s.2.2) ((List.replicate x0 (0:Int)),a0,(0:Int))).bind fun x1=>some x1
def IW:OKE:=fq Jb (fun x=>CG x) [] Tryd.func12
def DE (a0 a1 a2:Int):Option Bool:=bif decide (a0>=a1)then some (decide (a0<=a2))else some false
def LC:OKE:=fq Lg (fun x=>DE x.1 x.2.1 x.2.2) [] Tryd.func28
def AZ (s0 s1:List Int) (s2 s3:Int):Option ((List Int)×(List Int)×Int×Int⊕((List Int)⊕Bool)):=bif decide (s3<s2)then(Gl s1 s3).bind fun x0=>(DE x0 0 255).bind fun x1=>bif(!x1)then some (Sum.inr (Sum.inr false))else some (Sum.inl (s0,s1,s2,(zi zj (s3+1))))else some (Sum.inr (Sum.inl s0))
def EP (a0:List Int):Option Bool:=(AY (fun(s:((List Int)×(List Int)×Int×Int))=>AZ s.1 s.2.1 s.2.2.1 s.2.2.2) (a0,a0,(a0.length:Int),(0:Int))).bind fun x0=>Sum.elim (fun x1=>some (decide ((x1.length:Int)<=100))) (fun x2=>some x2) x0
def MZ:OKE:=fq Jk (fun x=>EP x) [LC] Tryd.func29
def Ha (self:Int->Option (List UInt8)) (a0:Int):Option (List UInt8):=bif decide (a0<10)then some (A7 ([(zi .u8 (zi zj ((48:Int)+a0)))]:List Int))else(self (zi zj (Int.tdiv a0 10))).bind fun x0=>(Gv x0 (A7 ([(zi .u8 (zi zj ((48:Int)+(Int.tmod a0 10))))]:List Int))).bind fun x1=>some x1
def CM:Nat->Int->Option (List UInt8)
 |0=>fun _=>none
 |n+1=>Ha (CM n)
def Ia (self:Int->Option (List UInt8)):Ent:=⟨FA,fun x=>self x⟩
def JQ (self:Int->Option (List UInt8)):TX:=⟨J7,Kk,[],[4],[Ia self],FA⟩
theorem Oh(self:(Int)->Option (List UInt8))(a0:Int):wtF (JQ self) Tryd.f52 (a0)=Ha self a0:=by kernel_rfl
theorem HN:∀n,Ch RR (Ia (CM n))
 |0=>fun x y _ _ _ h=>by cases h
 |n+1=>Ku (X:=JQ (CM n)) ⟨RO,M8,R0⟩ (KI (by exact⟨⟨HN n,rfl⟩,trivial⟩)) (Ps (by kernel_rfl)) ⟨Tryd.func52,rfl,by kernel_rfl,rfl⟩ (fun x=>by exact Oh (CM n) x)
def Dk (a0:Int):Option (List UInt8):=CM (a0.toNat+1) a0
def JK:Ent:=⟨FA,fun x=>Dk x⟩
theorem MT:Ch RR JK:=fun x=>HN _ x
def OI:OKE:=⟨JK,MT,rfl⟩
def Bc (s0:List UInt8) (s1:List Int) (s2 s3:Int):Option ((List UInt8)×(List Int)×Int×Int⊕(List UInt8)):=bif decide (s3<s2)then(Gl s1 s3).bind fun x0=>(Gv s0 (A7 ([(zi .u8 x0)]:List Int))).bind fun x1=>some (Sum.inl (x1,s1,s2,(zi zj (s3+1))))else some (Sum.inr s0)
def Cs (a0 a1:Int) (a2:List Int):Option (List UInt8):=(Dk a0).bind fun x0=>(Gv ([80,53,10]:List UInt8) x0).bind fun x1=>(Gv x1 ([32]:List UInt8)).bind fun x2=>(Dk a1).bind fun x3=>(Gv x2 x3).bind fun x4=>(Gv x4 ([10,50,53,53,10]:List UInt8)).bind fun x5=>(AY (fun(s:((List UInt8)×(List Int)×Int×Int))=>Bc s.1 s.2.1 s.2.2.1 s.2.2.2) (x5,a2,(a2.length:Int),(0:Int))).bind fun x6=>some x6
def IX:OKE:=fq Fh (fun x=>Cs x.1 x.2.1 x.2.2) [OI] Tryd.func30
def B0 (a0 a1:Int) (a2:List Int):Option (List UInt8×Bool):=(DE a0 1 10).bind fun x0=>bif(!x0)then some (([]:List UInt8),false)else(DE a1 1 10).bind fun x1=>bif(!x1)then some (([]:List UInt8),false)else bif((a2.length:Int) != (zi zj (a0*a1)))then some (([]:List UInt8),false)else(EP a2).bind fun x2=>bif(!x2)then some (([]:List UInt8),false)else(Cs a0 a1 a2).bind fun x3=>some (x3,true)
def D9:OKE:=fq Ej (fun x=>B0 x.1 x.2.1 x.2.2) [LC,MZ,IX] Tryd.func11
def CJ (a0 a1 a2:Int):Option Bool:=bif decide (a0>=a1)then some (decide (a0<=a2))else some false
def Ip:OKE:=fq I7 (fun x=>CJ x.1 x.2.1 x.2.2) [] Tryd.func22
def Cu (a0:Int):Option Bool:=(CJ a0 0 255).bind fun x0=>some (!x0)
def IY:OKE:=fq Ff (fun x=>Cu x) [Ip] Tryd.func54
def Ai (s0:List Int) (s1 s2:Int):Option ((List Int)×Int×Int⊕(Unit⊕Int)):=bif decide (s2<s1)then(Gl s0 s2).bind fun x0=>(Cu x0).bind fun x1=>bif x1 then some (Sum.inr (Sum.inr s2))else some (Sum.inl (s0,s1,(zi zj (s2+1))))else some (Sum.inr (Sum.inl ()))
def A9 (a0:List Int):Option Int:=(AY (fun(s:((List Int)×Int×Int))=>Ai s.1 s.2.1 s.2.2) (a0,(a0.length:Int),(0:Int))).bind fun x0=>Sum.elim (fun x1=>some (-(1:Int))) (fun x2=>some x2) x0
def De:OKE:=fq BM (fun x=>A9 x) [IY] Tryd.func67
def AV (a0:List Int):Option Bool:=(A9 a0).bind fun x0=>some (decide (x0>=0))
def CN:OKE:=fq Bt (fun x=>AV x) [De] Tryd.func53
def Cx (a0:List Int):Option Bool:=(AV a0).bind fun x0=>some (!x0)
def Km:OKE:=fq Gx (fun x=>Cx x) [CN] Tryd.func31
def BO (a0:Int):Option (List UInt8):=IT a0
def Fi:Ent:=⟨Fp,fun x=>BO x⟩
theorem HQ:Ch RR Fi:=Ph fun _ _ _ _ _ h=>Or.inl h
def IP:OKE:=⟨Fi,HQ,rfl⟩
def EY (a0 a1:Int):Option (List UInt8):=(BO a0).bind fun x0=>(Gv ([80,53,10]:List UInt8) x0).bind fun x1=>(Gv x1 ([32]:List UInt8)).bind fun x2=>(BO a1).bind fun x3=>(Gv x2 x3).bind fun x4=>(Gv x4 ([10,50,53,53,10]:List UInt8)).bind fun x5=>some x5
def Pv:OKE:=fq LS (fun x=>EY x.1 x.2) [IP] Tryd.func33
def BW (a0 a1:Int) (a2:List Int):Option (List UInt8×Bool):=OA CJ Cx EY a0 a1 a2
def El:Ent:=⟨Ec,fun x=>BW x.1 x.2.1 x.2.2⟩
theorem F6:Ch RR El:=QD CJ Cx EY (by kernel_rfl) (fun J hJ=>Lh hJ) Ip.k Km.k Pv.k fun _ _ _ _ _ h=>Or.inr (h)
def Ga (s0 s1:List Int) (s2:Int):Option ((List Int)×(List Int)×Int⊕(Unit⊕Bool)):=bif decide (s2<(s0.length:Int))then(Gl s0 s2).bind fun x0=>(Gl s1 s2).bind fun x1=>bif(x0 != x1)then some (Sum.inr (Sum.inr false))else some (Sum.inl (s0,s1,(zi zj (s2+1))))else some (Sum.inr (Sum.inl ()))
def EL (a0 a1:List Int):Option Bool:=bif((a0.length:Int) != (a1.length:Int))then some false else(AY (fun(s:((List Int)×(List Int)×Int))=>Ga s.1 s.2.1 s.2.2) (a0,a1,(0:Int))).bind fun x0=>Sum.elim (fun x1=>some true) (fun x2=>some x2) x0
def I9:OKE:=fq Jg (fun x=>EL x.1 x.2) [] Tryd.func14
def AP (a0 a1:Int) (a2:List Int):Option Bool:=bif decide ((a2.length:Int)>1048576)then some true else(CG a2).bind fun x0=>(B0 a0 a1 x0).bind fun x1=>(CG a2).bind fun x2=>(BW a0 a1 x2).bind fun x3=>bif(!(x3.1==x1.1))then some false else bif(!(x3.2==x1.2))then some false else(CG a2).bind fun x4=>(EL x2 x4).bind fun x5=>bif(!x5)then some false else some true
def Ed:Ent:=⟨Bs,fun x=>AP x.1 x.2.1 x.2.2⟩
def Cl:TX:=⟨J7,Kk,[],[4],[IW.E,D9.E,El,I9.E],Bs⟩
theorem D2(a0:Int)(a1:Int)(a2:List (Int)):wtF Cl Tryd.f4 (a0,a1,a2)=AP a0 a1 a2:=by kernel_rfl
theorem DZ:Ch RR Ed:=Ku (X:=Cl) ⟨RO,M8,R0⟩ (KI (by exact⟨⟨IW.k,rfl⟩,⟨⟨D9.k,rfl⟩,⟨⟨F6,rfl⟩,⟨⟨I9.k,rfl⟩,trivial⟩⟩⟩⟩)) (Ps (by kernel_rfl)) ⟨Tryd.func4,rfl,by kernel_rfl,rfl⟩ (fun x=>by exact D2 x.1 x.2.1 x.2.2)
end
section
open Go
section
variable {α β σ ρ:Type} {body:σ->Option (σ⊕ρ)}
end
theorem O9{α:Type}{l:List α}{k:Nat}{a:α}(h:l[k]? =some a):k<l.length:=(za0.1 h).1
structure Cur (B:Nat) (c:List Int×Int×Int):Prop where
 bytes:∀b∈c.1,0<=b/\b<=255
 short:c.1.length<=1048576
 lo:0<=c.2.1
 hi:c.2.1<=(B:Int)
 seed0:0<=c.2.2
 seed1:c.2.2<18446744073709551616
theorem Cur.start{l:List Int}(h:∀b∈l,0<=b/\b<=255)(hl:l.length<=1048576):Cur 0 (l,0,0):=⟨h,hl,by simp,by simp,by simp,by simp⟩
theorem Cur.mono{B B':Nat}{c:List Int×Int×Int}(h:Cur B c)(hb:B<=B'):Cur B' c:=⟨h.bytes,h.short,h.lo,by have:=h.hi;omega,h.seed0,h.seed1⟩
theorem obs{α β:Type}(a:α)(f:α->Option β):(some a).bind f=f a:=(rfl)
theorem cT{α:Type}(a b:α):(bif true then a else b)=a:=(rfl)
theorem cF{α:Type}(a b:α):(bif false then a else b)=b:=(rfl)
theorem nT:(!true)=false:=(rfl)
theorem nF:(!false)=true:=(rfl)
end
section
open Go
end
section
open Go
variable {α β γ:Type}
theorem CU{s t:Str}(h:s.length+t.length<=9223372036854775807):Gv s t=some (s++t):=by unfold Gv;rw[zr h]
theorem P0{body:List γ×List α×Int->Option ((List γ×List α×Int)⊕List γ)}{g:α->γ}{z:γ}{l:List α}(hl:l.length<4611686018427387904)
  (hgo:∀(k:Nat)(a:α)(acc:List γ),l[k]? =some a->acc.length=l.length->body (acc,l,(k:Int))=some (.inl (acc.set k (g a),l,((k+1:Nat):Int))))
  (hend:∀acc:List γ,body (acc,l,(l.length:Int))=some (.inr acc)):
  AY body (List.replicate l.length z,l,0)=some (l.map g):=by
 have key:∀(n k:Nat)(acc:List γ),k+n=l.length->acc.length=l.length->acc.take k=(l.take k).map g->AY body (acc,l,(k:Int))=some (l.map g):=by
  intro n
  induction n with
  |zero=>
   intro k acc hk ha ht;have:k=l.length:=by omega
   subst this;rw[Fn (hend acc)];rw[<-ha,List.take_length,ha,List.take_length]at ht;rw[ht]
  |succ n ih=>
   intro k acc hk ha ht;have hlt:k<l.length:=by omega
   have e1:l[k]? =some l[k]:=za4 hlt;rw[HV (hgo k _ acc e1 ha)];refine ih (k+1) _ (by omega) (by simp[ha]) ?_
   rw[List.take_add_one,List.take_add_one,List.map_append,<-ht,List.getElem?_set_self (by omega),e1,List.take_set_of_le (zb6 k)];rfl
 exact key l.length 0 _ (by omega) (by simp) rfl
end
section
open Go
end
section
open Go
def SA(d:Str):Prop:=d=[]\/(d.head?=some 48/\1<d.length)
instance (d:Str):Decidable (SA d):=by unfold SA;infer_instance
end
section
open Go
theorem DU{n:Nat}(h:n<18446744073709551616):(Lib.decDigits n).length<=20:=by rw[Lib.decDigits_length];exact Lib.nDigits_le20 n h
theorem PL{n:Int}(h0: -9223372036854775808<=n)(h1:n<=9223372036854775807):BO n=some (Lib.itoa n):=by
 unfold BO IT;rw[zr ⟨h0,h1⟩]
theorem Px{n:Int}(h:0<=n):Lib.itoa n=Lib.decDigits n.toNat:=by unfold Lib.itoa;rw[zw (by omega)]
theorem Eb{n:Int}(h0: -9223372036854775808<=n)(h1:n<9223372036854775808):(Lib.itoa n).length<=21:=by
 unfold Lib.itoa
 split
 ·have:=DU (n:=n.natAbs) (by omega);simp;omega
 ·have:=DU (n:=n.toNat) (by omega);omega
end
section
open Go
theorem SM{n:Int}(h1:0<=n)(h2:n<256):zi .u8 n=n:=by rw[IntKind.wrap_u8];omega
theorem Jd{n:Nat}(h:n<10):A7 [zi .u8 (zi zj ((48:Int)+(n:Int)))]=[UInt8.ofNat (48+n)]:=by
 rw[JC (by omega) (by omega),SM (by omega) (by omega)];unfold A7;simp only[za9,List.map_nil]
 congr 2
theorem Nj:∀(f n:Nat),n<f->n<9223372036854775808->CM f (n:Int)=some (Lib.decDigits n)
 |0,n,h,_=>by omega
 |f+1,n,h,h1=>by
  unfold CM Ha;by_cases hn:n<10
  ·rw[zp (by omega),cT,Jd hn,Lib.decDigits,dif_pos hn]
  ·have e1:Int.tdiv (n:Int) 10=((n/10:Nat):Int):=by rw[Int.tdiv_eq_ediv_of_nonneg (by omega)];omega
   have e2:Int.tmod (n:Int) 10=((n%10:Nat):Int):=by rw[Int.tmod_eq_emod_of_nonneg (by omega)];omega
   rw[zq (by omega),cF,e1,JC (by omega) (by omega),Nj f (n/10) (by omega) (by omega),obs,e2,Jd (by omega),CU (by
    have:=DU (n:=n/10) (by omega);simp;omega),obs]
   conv=>rhs;rw[Lib.decDigits,dif_neg hn]
theorem Rd{n:Nat}(h:n<9223372036854775808):Dk (n:Int)=some (Lib.decDigits n):=by
 unfold Dk;exact Nj _ n (by omega) h
theorem Lo{n:Int}(h0:0<=n)(h1:n<9223372036854775808):Dk n=some (Lib.itoa n):=by
 obtain⟨m,rfl⟩:∃m:Nat,n=(m:Int):=⟨n.toNat,by omega⟩;rw[Rd (by omega),Px h0,Int.toNat_natCast]
end
section
open Go
end
section
open Go
def Gt(w h:Int):Str:=[80,53,10]++(Lib.itoa w++(32::(Lib.itoa h++[10,50,53,53,10])))
theorem RL{w h:Int}(hw:1<=w/\w<=10)(hh:1<=h/\h<=10):EY w h=some (Gt w h):=by
 unfold EY Gt;have n1:=Eb (n:=w) (by omega) (by omega);have n2:=Eb (n:=h) (by omega) (by omega);rw[PL (by omega) (by omega),obs,CU (by simp;omega),obs,CU (by simp;omega),obs,PL (by omega) (by omega),obs,CU (by simp;omega),obs,CU (by simp;omega),obs]
 try simp
theorem PA{w h:Int}(hw:1<=w/\w<=10)(hh:1<=h/\h<=10):1<=w*h/\w*h<=100:=by
 have h1:w*h<=10*10:=Int.mul_le_mul hw.2 hh.2 (by omega) (by omega);have h2:1*1<=w*h:=Int.mul_le_mul hw.1 hh.1 (by omega) (by omega);omega
theorem Qx{a b c:Int}:DE a b c=some (decide (b<=a/\a<=c)):=by
 unfold DE;by_cases h:a>=b
 ·rw[zp h,cT];congr 1;simp;omega
 ·rw[zq h,cF];congr 1;simp;omega
end
section
open Go
def Jy(x:Int):Bool:=decide (0<=x/\x<=255)
theorem Sy(x:Int):DE x 0 255=some (Jy x):=Qx
theorem Nv{a b c:Int}:CJ a b c=some (decide (b<=a/\a<=c)):=by
 unfold CJ;by_cases h:b<=a
 ·first|(rw[zp h,cT];congr 1;simp;omega)|(simp[h])
 ·first|(rw[zq h,cF];congr 1;simp;omega)|(simp[h])
theorem Rc{l:List Int}(hl:l.length<4611686018427387904):Cx l=some (l.all Jy):=by
 obtain⟨h1,h2⟩:=K7 (l:=l) (st:=fun k=>(l,((l.length:Int),(k:Int)))) (p:=Jy) (body:=fun(s:((List Int)×(Int×Int)))=>Ai s.1 s.2.1 s.2.2) (fin:=.inl ()) (bad:=fun k=>.inr (k:Int))
  (by
   intro k a hk ha;have:=O9 hk;show Ai l (l.length:Int) (k:Int)=_;unfold Ai Cu;rw[zp (by omega),cT,C3,hk,obs,Nv,obs,show decide ((0:Int)<=a/\a<=255)=true from ha,nT,obs,cF,NU (by omega)])
  (by
   intro k a hk ha;have:=O9 hk;show Ai l (l.length:Int) (k:Int)=_;unfold Ai Cu;rw[zp (by omega),cT,C3,hk,obs,Nv,obs,show decide ((0:Int)<=a/\a<=255)=false from ha,nF,obs,cT])
  (by
   show Ai l (l.length:Int) (l.length:Int)=_;unfold Ai;rw[zq (by omega)];rfl)
 unfold Cx AV A9;cases ha:l.all Jy with
 |true=>
  have h1':AY (fun(s:((List Int)×(Int×Int)))=>Ai s.1 s.2.1 s.2.2) (l,((l.length:Int),(0:Int)))=_:=h1 ha;rw[h1'];rfl
 |false=>
  obtain⟨k,hk,h3⟩:=h2 ha;have h3':AY (fun(s:((List Int)×(Int×Int)))=>Ai s.1 s.2.1 s.2.2) (l,((l.length:Int),(0:Int)))=_:=h3;rw[h3',obs];simp only[Sum.elim_inr,obs];rw[zp (by omega)];rfl
theorem QI{l:List Int}(hl:l.length<=100):EP l=some (l.all Jy):=by
 obtain⟨h1,h2⟩:=K7 (l:=l) (st:=fun k=>(l,(l,((l.length:Int),(k:Int))))) (p:=Jy) (body:=fun(s:((List Int)×((List Int)×(Int×Int))))=>AZ s.1 s.2.1 s.2.2.1 s.2.2.2) (fin:=.inl l) (bad:=fun k=>.inr false)
  (by
   intro k a hk ha;have:=O9 hk;show AZ l l (l.length:Int) (k:Int)=_;unfold AZ;rw[zp (by omega),cT,C3,hk,obs,Sy,obs,ha,nT,cF,NU (by omega)])
  (by
   intro k a hk ha;have:=O9 hk;show AZ l l (l.length:Int) (k:Int)=_;unfold AZ;rw[zp (by omega),cT,C3,hk,obs,Sy,obs,ha,nF,cT])
  (by
   show AZ l l (l.length:Int) (l.length:Int)=_;unfold AZ;rw[zq (by omega)];rfl)
 unfold EP;cases ha:l.all Jy with
 |true=>
  have h1':AY (fun(s:((List Int)×((List Int)×(Int×Int))))=>AZ s.1 s.2.1 s.2.2.1 s.2.2.2) (l,(l,((l.length:Int),(0:Int))))=_:=h1 ha;rw[h1',obs];simp only[Sum.elim_inl];rw[zp (by omega)]
 |false=>
  obtain⟨k,hk,h3⟩:=h2 ha;have h3':AY (fun(s:((List Int)×((List Int)×(Int×Int))))=>AZ s.1 s.2.1 s.2.2.1 s.2.2.2) (l,(l,((l.length:Int),(0:Int))))=_:=h3;rw[h3'];rfl
theorem RJ{l:List Int}(hl:l.length<=100):∀(n a:Nat)(s:Str),a+n=l.length->s.length<=1000+a->
  AY (fun(s:((List UInt8)×((List Int)×(Int×Int))))=>Bc s.1 s.2.1 s.2.2.1 s.2.2.2) (s,(l,((l.length:Int),(a:Int))))=some (s++A7 ((l.drop a).map (zi .u8))):=by
 intro n
 induction n with
 |zero=>
  intro a s ha hs;rw[List.drop_eq_nil_of_le (by omega)];refine Fn ?_
  unfold Bc;simp only;rw[zq (by omega),cF];simp[A7]
 |succ n ih=>
  intro a s ha hs;have hlt:a<l.length:=by omega
  have he:l[a]? =some l[a]:=za4 hlt;have hd:l.drop a=l[a]::l.drop (a+1):=List.drop_eq_getElem_cons hlt;generalize l[a]=x at he hd;have hgo:(fun(s:((List UInt8)×((List Int)×(Int×Int))))=>Bc s.1 s.2.1 s.2.2.1 s.2.2.2) (s,(l,((l.length:Int),(a:Int))))=some (.inl (s++A7 [zi .u8 x],(l,((l.length:Int),((a+1:Nat):Int))))):=by
   unfold Bc;simp only;rw[zp (by omega),cT,C3,he,obs,CU (by simp[A7];omega),obs,NU (by omega)]
  rw[HV hgo,ih (a+1) _ (by omega) (by simp[A7];omega),hd];simp[A7]
theorem OF{w h:Int}{l:List Int}(hw:1<=w/\w<=10)(hh:1<=h/\h<=10)(hl:l.length<=100):Cs w h l=some (Gt w h++A7 (l.map (zi .u8))):=by
 unfold Cs;have n1:=Eb (n:=w) (by omega) (by omega);have n2:=Eb (n:=h) (by omega) (by omega);have e:([80,53,10]++Lib.itoa w++[32]++Lib.itoa h++[10,50,53,53,10]:Str)=Gt w h:=by unfold Gt;simp
 have hb:=RJ hl l.length 0 (Gt w h) (by omega) (by rw[<-e];simp;omega);rw[Lo (by omega) (by omega),obs,CU (by simp;omega),obs,CU (by simp;omega),obs,Lo (by omega) (by omega),obs,CU (by simp;omega),obs,CU (by simp;omega),obs];rw[e];have hb':AY (fun(s:((List UInt8)×((List Int)×(Int×Int))))=>Bc s.1 s.2.1 s.2.2.1 s.2.2.2) (Gt w h,(l,((l.length:Int),(0:Int))))=_:=hb;rw[hb',obs,List.drop_zero]
def Nz(w h:Int)(l:List Int):Prop:=1<=w/\w<=10/\1<=h/\h<=10/\(l.length:Int)=w*h/\l.all Jy=true
instance (w h:Int) (l:List Int):Decidable (Nz w h l):=by unfold Nz;exact inferInstance
def PY(w h:Int)(l:List Int):Str×Bool:=if Nz w h l then(Gt w h++A7 (l.map (zi .u8)),true)else([],false)
theorem C1{w h:Int}{l:List Int}(p:¬Nz w h l):PY w h l=([],false):=zw p
theorem I2{w h:Int}{l:List Int}:B0 w h l=some (PY w h l):=by
 unfold B0;rw[Qx,obs];by_cases c1:1<=w/\w<=10
 ·rw[zp c1,nT,cF,Qx,obs];by_cases c2:1<=h/\h<=10
  ·have hm:=PA c1 c2;rw[zp c2,nT,cF,JC (n:=w*h) (by omega) (by omega)];by_cases c3:(l.length:Int)=w*h
   ·rw[show((l.length:Int) != w*h)=false by simpa[bne]using c3,cF,QI (by omega),obs];cases c4:l.all Jy with
    |true=>
     rw[nT,cF,OF c1 c2 (by omega),obs];unfold PY;rw[zr ⟨c1.1,c1.2,c2.1,c2.2,c3,c4⟩]
    |false=>
     rw[nF,cT,C1 (fun p=>by rw[p.2.2.2.2.2]at c4;cases c4)]
   ·rw[show((l.length:Int) != w*h)=true by simpa[bne]using c3,cT,C1 (fun p=>c3 p.2.2.2.2.1)]
  ·rw[zq c2,nF,cT,C1 (fun p=>c2 ⟨p.2.2.1,p.2.2.2.1⟩)]
 ·rw[zq c1,nF,cT,C1 (fun p=>c1 ⟨p.1,p.2.1⟩)]
theorem IZ{w h:Int}{l:List Int}:BW w h l=some (PY w h l):=by
 unfold BW OA;rw[Nv,obs];by_cases c1:1<=w/\w<=10
 ·rw[zp c1,nT,cF,Nv,obs];by_cases c2:1<=h/\h<=10
  ·have hm:=PA c1 c2;rw[zp c2,nT,cF,JC (n:=w*h) (by omega) (by omega)];by_cases c3:(l.length:Int)=w*h
   ·rw[zw (fun h=>h c3),Rc (by omega),obs];cases c4:l.all Jy with
    |true=>
     have n1:=Eb (n:=w) (by omega) (by omega);have n2:=Eb (n:=h) (by omega) (by omega);rw[nT,cF,RL c1 c2,obs,zr ⟨by unfold Gt;simp;omega,by omega⟩];unfold PY;rw[zr ⟨c1.1,c1.2,c2.1,c2.2,c3,c4⟩]
    |false=>
     rw[nF,cT,C1 (fun p=>by rw[p.2.2.2.2.2]at c4;cases c4)]
   ·rw[zr c3,C1 (fun p=>c3 p.2.2.2.2.1)]
  ·rw[zq c2,nF,cT,C1 (fun p=>c2 ⟨p.2.2.1,p.2.2.2.1⟩)]
 ·rw[zq c1,nF,cT,C1 (fun p=>c1 ⟨p.1,p.2.1⟩)]
end
section
open Go
theorem OX{l m:List Int}(hl:l.length<4611686018427387904):EL l m=some (decide (l=m)):=by
 unfold EL;by_cases hlm:m.length=l.length
 ·rw[show((l.length:Int) != (m.length:Int))=false by simp[hlm],cF];obtain⟨r,h1,h2,h3⟩:=Oc (E:=fun a b:Int=>some (a==b)) (l:=l) (m:=m) hl hlm (fun a _ b _=>⟨a==b,rfl,by simp⟩);have e:AY (fun(s:(List Int×(List Int×Int)))=>Ga s.1 s.2.1 s.2.2) (l,m,(0:Int))=some r:=h1;rw[e,obs];by_cases h:l=m
  ·rw[h2 h,zp h];rfl
  ·rw[h3 h,zq h];rfl
 ·rw[show((l.length:Int) != (m.length:Int))=true by simp[bne];omega,cT,zq];rintro rfl;exact hlm rfl
end
section
open Go
theorem Qa{l:List Int}(hl:l.length<=1048576):CG l=some l:=by
 unfold CG;rw[Pl (by unfold Ah;omega) (by unfold Ah;omega),obs];have h:=P0 (body:=fun(s:(List Int×(List Int×Int)))=>Dc s.1 s.2.1 s.2.2) (g:=id) (z:=(0:Int)) (l:=l) (by omega) (by
  intro k a acc hk ha;have hlt:=O9 hk;unfold Dc;simp only;rw[zp (show(k:Int)<(l.length:Int) by omega),cT,C3,hk,obs];rw[Qr (by omega),obs,show Pt acc k=some (acc[k]'(by omega))from za4 (by omega),obs,NU (by omega)];rfl) (by
  intro acc;unfold Dc;simp)
 rw[List.map_id]at h;rw[h,obs]
theorem Eg(w h:Int)(l:List Int):AP w h l=some true:=by
 unfold AP;by_cases c:(l.length:Int)>1048576
 ·rw[zp c];rfl
 ·rw[zq c,cF,Qa (by omega),obs,I2,obs,obs,IZ,obs,beq_self_eq_true,nT,cF,beq_self_eq_true,nT,cF,obs,OX (by omega),obs,zp rfl,nT,cF]
end
end Go.Proofs.YtiijheppiboglaaDoor.Ev
section
namespace Go.Proofs.YtiijheppiboglaaDoor.Ev
open Go Go.RowKit Go.ChangeShapes Go.WideShapes Go.ChangeAt
set_option maxRecDepth 100000
def shs:List Sh:=[.int .i64,.int .i64,.sl 8 (.int .i64)]
theorem fits:Nx Tryd.prog [3,3,28] shs:=by
 exact⟨.int (by kernel_rfl),.int (by kernel_rfl),.sl (e:=3) (by kernel_rfl) (by kernel_rfl) (by kernel_rfl) (.int (by kernel_rfl)),trivial⟩
theorem own:ownKnob Tryd.prog.godebug=none:=by kernel_rfl
theorem laid:laidOutB Tryd.prog=true:=by kernel_rfl
theorem door_met(os:Os)(args:Array Value):laidMetH Tryd.prog Rows.fnExactPictureBytesRow.laid ((World.laidAll Tryd.prog os Rows.fnExactPictureBytesRow.laid).forCall (fun _ _=>0) ⟨#[],args,[]⟩).memory:=by
 rw[MakeChecks.laidMetH_plain _ _ _ (by kernel_rfl)];exact laidMet_laidAll _ (by kernel_rfl) (by kernel_rfl)
theorem starE: "*" ++ "errors.errorString" = "*errors.errorString" :=by decide
def ids:List Nat:=[3]
theorem libJ{W:World}(hsh:W.ShapedOpen Tryd.prog)(hL:laidMetH Tryd.prog Rows.fnExactPictureBytesRow.laid W):LibJ (Jof W ids):=by
 rw[MakeChecks.laidMetH_plain _ _ _ (by kernel_rfl)]at hL;have hP:laidMet Tryd.prog Rows.fnExactPictureBytesRow.laid W:=hL;have htab:Lib.TabIs Tryd.prog W "internal/strconv.uint64pow10" .u64 Lib.pow10Tab:=Lib.tabIs_of_head (g:=3) (t:=131) (e:=69) (n:=20) (by kernel_rfl) (by kernel_rfl) (by kernel_rfl) (by kernel_rfl) (by kernel_rfl) (by kernel_rfl) (show laidMet Tryd.prog ((_,Lib.tabData .u64 Lib.pow10Tab)::_) W from Gp 2 hP);unfold ids;exact {tab:=S8 (g:=3) (by kernel_rfl) (by simp) htab}
theorem lifted(os:Os)(started:os.Started)(H:Type)(enc:TypeId×Value->H):
  ReturnsInHanded {} Tryd.checked os 4 .any (fun w args=>(Rows.fnExactPictureBytesSpec.pre enc Tryd.prog Tryd.f4 [] false w args/\laidMetH Tryd.prog Rows.fnExactPictureBytesRow.laid w)/\sizedMet enc Tryd.prog Tryd.f4 (OpenSpec.ofChange Rows.fnExactPictureBytesSpec) false w args)
   (Rows.fnExactPictureBytesSpec.post enc Tryd.prog Tryd.f4 false true false false):=by
 refine Fo (C:=Tryd.checked) (X:=fun w _=>laidMetH Tryd.prog Rows.fnExactPictureBytesRow.laid w) (fun _ _ _ hh h=>h.of_heap hh) own started (by kernel_rfl) Tryd.func4
  (ChangeSpec.witness_shaped (enc:=enc) (C:=Tryd.checked) (os:=os) (X:=fun w _=>laidMetH Tryd.prog Rows.fnExactPictureBytesRow.laid w) false (World.laidAll Tryd.prog os Rows.fnExactPictureBytesRow.laid) #[.int .i64 0,.int .i64 0,.slice none 0 0] 8 (World.laidAll_os _ _ _) (World.shaped_of_ZipB (by kernel_rfl) (by kernel_rfl)) (by kernel_rfl) (by kernel_rfl) (by kernel_rfl) (door_met os _)) ?_
 intro W base args ds gs before hval hW hsz hsh hL;exact KO (P:=Tryd.prog) (J:=Jof W ids) (cf:=cf0) (ext:=Se) (F:=fun x=>AP x.1 x.2.1 x.2.2) (shs:=shs) (by kernel_rfl) (Lh (libJ hsh hL)) DZ (fun d=>by kernel_rfl)
  (fun d hd=>Eg d.1 d.2.1 d.2.2) rfl rfl rfl (by kernel_rfl) fits laid
  (fun t ht=>by
   have:t=3\/t=28:=by simpa using ht
   rcases this with rfl|rfl<;>exact⟨by kernel_rfl,of_decide_eq_true (by kernel_rfl)⟩) rfl
  (fun ds hl=>by
   match ds,hl with
   |[_,_,_],_=>rfl) P7 hval hW hsz
theorem hfn:Tryd.prog.funcNamed "loop.example/g00409/laws.FnExactPictureBytes" =some 4:=by kernel_rfl
theorem closed:joinedFacts Tryd.prog 4 Tryd.f4 Rows.fnExactPictureBytesSpec Rows.fnExactPictureBytesRow=true:=by
 unfold joinedFacts;simp only[za1]
 repeat' apply And.intro
 all_goals (as_aux_lemma=>kernel_rfl)
theorem over:Rows.fnExactPictureBytesRow.holds Tryd.pinned (OpenSpec.ofChange Rows.fnExactPictureBytesSpec):=
 OpenClaim.holds_of_wide 4 Tryd.f4 rfl rfl rfl rfl rfl rfl rfl ⟨rfl,rfl,rfl,rfl,rfl⟩ rfl rfl rfl rfl rfl hfn Tryd.func4 closed
  (of_decide_eq_true (by as_aux_lemma=>kernel_rfl)) (by unfold Func.isWrapper;first|(rw[zr (by decide+kernel)];kernel_rfl)|(rw[zw (by decide+kernel)];exact⟨rfl,rfl⟩))
  (fun os started H enc _=>lifted os started H enc)
theorem carded:Rows.FnExactPictureBytesCardSaid:=
 Claim7.holds_tied_plain_at .later [] [.data,.data,.data] true (true, "5146221965812b8254fdf35d5e48dd46173306175d4fd86c6c3bcecd8f185ff8") true
  over (fun _ h=>by cases h) (by as_aux_lemma=>kernel_rfl) (fun _ h=>by cases h) fnExactPictureBytes_row_tie rfl ⟨rfl,rfl⟩ (by as_aux_lemma=>kernel_rfl) rfl
  (fun f fn hf hf2=>by
   obtain rfl:f=4:=zv (hfn.symm.trans hf) |>.symm
   obtain rfl:fn=Tryd.f4:=(zv (Tryd.func4.symm.trans hf2)).symm;exact⟨by as_aux_lemma=>kernel_rfl,fun j t ht=>by
    rw[show Tryd.f4.params= #[3,3,28]from rfl]at ht;have hm:t∈[3,3,28]:=by simpa using Array.mem_of_getElem? ht
    have hall:([3,3,28].all fun u=> !Tryd.prog.wantsStandIn u)=true:=by kernel_rfl
    exact(show Tryd.prog.wantsStandIn t=false by simpa using za2.1 hall t hm)⟩)
  (by as_aux_lemma=>kernel_rfl)
end Go.Proofs.YtiijheppiboglaaDoor.Ev
namespace Go.Proofs.YtiijheppiboglaaDoor
theorem fnExactPictureBytes_holds:Rows.FnExactPictureBytesSaid:=Ev.over
theorem fnExactPictureBytes_card_holds:Rows.FnExactPictureBytesCardSaid:=Ev.carded
#print axioms fnExactPictureBytes_card_holds
end Go.Proofs.YtiijheppiboglaaDoor

end
