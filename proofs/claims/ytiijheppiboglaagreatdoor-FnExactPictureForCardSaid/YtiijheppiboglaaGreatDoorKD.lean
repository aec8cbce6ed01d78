/- What the theorem of this claim leans on, part 4. -/
import Derived.Test.YtiijheppiboglaaGreatDoorKC
import Derived.WalkKit
import Derived.SizedLaws
import Derived.IntWalk
import Derived.Below
import Derived.Lib.LaidTab
import Derived.Lib.ItoaMem
import Derived.Lib.AppendIntMem
import Derived.Lib.Itoa
import Derived.Lib.Join
import Derived.Lib.Repeat
import Derived.Lib.Split
import Derived.Lib.SplitLaws
import Derived.Lib.IndexMore
import Derived.Lib.Strings
import Derived.Lib.AtoiAll
import Derived.Lib.AtoiErrMem
import Derived.Shelf.Strings.Builder1
import Derived.Shelf.Strings.Builder2
import Derived.Shelf.Strings.OnBuilder
import Derived.Shelf.Small.Wraps
import Derived.Shelf.Strconv.Atoi
import Derived.Shelf.Strconv.Itoa0
import Derived.Shelf.Strconv.Itoa1
import Derived.Shelf.LaysM
import Derived.Shelf.Strconv.Itoa2
import Derived.Shelf.Strconv.Itoa3
import Derived.Shelf.Strconv.AtoiErrFast
import Derived.Shelf.Strconv.ParseIntEmpty
import Derived.Shelf.Strconv.AtoiFail
import Derived.Shelf.Strconv.Clone
import Derived.Shelf.Strconv.SyntaxError
import Derived.Shelf.LaysC
import Derived.Shelf.Strconv.ToError
import Derived.Shelf.Strconv.Lower
import Derived.Shelf.Strconv.ParseUint10
import Derived.Shelf.Strconv.ParseUint10Empty
import Derived.Shelf.Strconv.ParseUint10Any
import Derived.Shelf.Strconv.ParseInt10
import Derived.Shelf.Strconv.AtoiLong
import Derived.Shelf.Strconv.AtoiInnerAll
import Derived.Shelf.Strconv.RangeError
import Derived.Shelf.Strconv.ToErrorRange
import Derived.Shelf.Strconv.AtoiAll
import Derived.Shelf.Strconv.ErrVarAll
import Derived.Shelf.Strings.Search1
import Derived.Shelf.Strings.Search2
import Derived.Shelf.Strings.Search3
import Derived.Shelf.Strings.Cut
import Derived.Shelf.Strings.Count
import Derived.Shelf.Strings.Shaped
import Derived.Shelf.Strings.Prefix
import Derived.Shelf.Strings.Split
import Derived.Shelf.Strings.SplitShaped
import Derived.Shelf.Strings.Explode
import Derived.Ground.Names2Prog
import Derived.Shelf.Slices.Clone
import Derived.Shelf.Slices.SearchI
import Derived.Ground.SlgnProg
import Derived.Shelf.SlicesE.Clone
import Derived.Test.YtiijheppiboglaaGreatDoorProg
import Derived.HandedShaped
import Derived.LaidMore
import Derived.Shelf.Vars
import Derived.Stop.LaidErr
import Derived.KernelRfl
set_option maxHeartbeats 2000000
open Option renaming bind_some → za0, map_eq_some_iff → zb5, map_some → zd8
open List renaming getElem?_eq_getElem → za1, getElem?_eq_some_iff → za3, mem_of_getElem? → za4, all_eq_true → za5, drop_eq_getElem_cons → zb0, mem_flatMap → zb1, flatMap_cons → zb3, mem_append → zb4, getD_eq_getElem?_getD → zb6, eq_nil_of_length_eq_zero → zb7, map_cons → zb8, getElem?_take → zb9, length_cons → zc0, take_of_length_le → zc3, mem_cons → zc5, getElem?_map → zc8, all_cons → zc9, length_pos_iff → zd0, drop_eq_nil_of_le → zd1, getElem?_drop → zd2, length_append → zd3, mem_map → zd4, length_map → zd5, getElem?_eq_none → ze1, append_nil → ze6, drop_zero → ze7, length_nil → ze9
open Bool renaming and_eq_true → za2, false_eq_true → zc2, true_and → ze2
open Nat renaming eq_of_beq_eq_true → za6, le_refl → za7, mul_le_mul_right → zd6, lt_of_lt_of_le → zd7, lt_or_ge → zd9, zero_add → ze4, le_trans → ze5, add_mul → zf0
open Sum renaming elim_inr → za8
open Int renaming mul_le_mul_of_nonneg_right → za9, mul_le_mul_of_nonneg_left → zb2, toNat_natCast → zc4, tmod_eq_emod_of_nonneg → zc6, tdiv_eq_ediv_of_nonneg → zc7, mul_add → ze0, le_of_lt → ze3, mul_nonneg → ze8
open Array renaming getD_eq_getD_getElem? → zc1
set_option linter.unusedVariables false
set_option linter.unusedSimpArgs false
set_option linter.unusedSectionVars false
namespace Go.Proofs.YtiijheppiboglaaGreatDoor.Ev
section
open Go
section
variable {P:Program} {R:Rel} {cf:Cfg} {X:TX} {g:FuncId}
def L1 (R:Rel) (cf:Cfg) (X:TX):Prop:=∀ g E,Aq5 X.ents g=some E->Ai R E/\E.a.g=g/\cf.byref g=(HF E.a.params).map AF4
theorem A7w {α:Type} {op:Op} {b:Nat} {tm:TTm} {m:Tm} {hp hpm:THp} {hvm:Hp} {K:SV->THp->Cls->Option α} {z : α} (hX:XOK P X) (hisr:isR op=true) (hr:RT hp tm m) (hh:RHm hpm hp hvm) (h:BT X op b tm hpm K=some z):CT P R cf op b m hp hpm hvm K z:=by
 cases op with
 | load t a=>exact A8c hX hr hh h
 | indexAddr t x i=>exact A96 hX hr hh h
 | convert s d x=>exact A6K hX hr hh h
 | slice t x lo hi mx =>
  cases mx with
  | none=>exact A3R hX hr hh h
  | some m' =>
   cases hi with
   | none=>simp[BT] at h
   | some h'=>exact AQ2 hX hr h
 | _=>simp[isR] at hisr
theorem A8U {α:Type} {op:Op} {b:Nat} {tm:TTm} {m:Tm} {hp:THp} {hv:Hp} {K:SV->THp->Cls->Option α} {z : α} (hX:XOK P X) (hE:L1 R cf X) (hh:RH hp hv) (hr:RT hp tm m) (h:BT X op b tm hp K=some z):Ao8 P R cf op b tm m hv K z:=by
 cases op with
 | move x=>exact (Bb2 hr h).done hh hr
 | assign x=>exact (A6F hr h).done hh hr
 | pick c x y=>exact (Bd3 hr h).done hh hr
 | alloc t=>exact A8O hX hh hr h
 | box t x=>exact Bg4 hX hh hr h
 | build t Ap=>exact (A9v hX hr h).done hh hr
 | buildSlice t len Ap=>exact A9q hX hh hr h
 | load t a=>exact (A8c hX hr hh.toM h).done hh hr
 | store t a x=>exact A8D hX hh hr h
 | nilCheck x=>exact (Bk6 hr h).done hh hr
 | binOp op t x y yt=>exact (Bj1 hX hr h).done hh hr
 | unOp u t x=>exact (Bm7 hr h).done hh hr
 | convert s d x=>exact (A6K hX hr hh.toM h).done hh hr
 | makeSlice t l c=>exact Bb7 hX hh hr h
 | slice t x lo hi mx =>
  cases mx with
  | none=>exact (A3R hX hr hh.toM h).done hh hr
  | some m' =>
   cases hi with
   | none=>simp[BT] at h
   | some h'=>exact (AQ2 hX hr h).done hh hr
 | fieldAddr t x k=>exact (A00 hX hr h).done hh hr
 | field t x k=>exact (A9t hX hr h).done hh hr
 | indexAddr t x i=>exact (A96 hX hr hh.toM h).done hh hr
 | index t x i=>exact (A8L hX hr h).done hh hr
 | extract x k=>exact (A4y hr h).done hh hr
 | makeFunc fn first caps =>
  cases fn with
  | func f=>exact (Bd0 hr h).done hh hr
  | _=>simp[BT] at h
 | call c =>
  obtain ⟨callee,args,ts⟩:=c;cases callee with
  | builtin bi =>
   cases bi with
   | append=>exact A7F hX hh hr h
   | len=>exact (Bj2 hX hr hh.toM h).done hh hr
   | min=>exact (Bk0 hr h).done hh hr
   | max=>exact (Bh8 hr h).done hh hr
   | _=>simp[BT] at h
  | value f =>
   simp only[BT] at h
   split at h
   ·rename_i g caps hf;have hc:=Bb hr f;rw[hf] at hc;obtain ⟨us,hfv,hcs⟩:=A3Q hc;obtain ⟨x,hp',cls,y,hv',h1,h2,h3,h4,h5⟩:=A5q hE hh hr (RC.append (KA hr args.toList) (hcs.mono fun _ _ _ h=>h.to1.to2)) h;refine ⟨x,hp',cls,y,hv',h1,h2,h3,h4,fun KV hk=>?_⟩
    show (match AO m f with | .cl g caps=>Es R cf g (args.toList.map (AO m)++caps) hv b KV | _=>False);rw[hfv];exact h5 KV hk
   ·cases h
  | _=>simp[BT] at h
 | _=>simp[BT] at h
theorem A7M {b:Nat}:∀ (hp:THp) (id:Nat),AP (A0r b hp) id=if id<b then AP hp id else none
 | [],id=>by simp[A0r,AP]
 | (k,x)::l,id=>by
  have ih:=A7M (b:=b) l id;unfold A0r at ih ⊢
  rw[List.filter_cons];by_cases hk:k<b
  ·have:Nat.blt k b=true:=Nat.ble_eq_true_of_le hk;simp only[this,if_true];rw[AL,AL];by_cases hi:id=k
   ·subst hi; rw[if_pos rfl,if_pos rfl,if_pos hk]
   ·rw[if_neg hi,if_neg hi]; exact ih
  ·have:Nat.blt k b=false:=by
    cases hb:Nat.blt k b with
    | false=>rfl
    | true=>exact absurd (Nat.lt_of_succ_le (Nat.le_of_ble_eq_true hb)) hk
   simp only[this,zc2,if_false];rw[AL];by_cases hi:id=k
   ·subst hi; rw[if_neg hk] at ih ⊢; exact ih
   ·rw[if_neg hi]; exact ih
theorem A85 {α:Type} {draw:Bool} {op:Op} {b:Nat} {tm:TTm} {m:Tm} {hp:THp} {hv:Hp} {K:SV->THp->Cls->Option α} {z : α} (hX:XOK P X) (hE:L1 R cf X) (hh:RH hp hv) (hr:RT hp tm m) (h:A8u X draw op b tm hp K=some z) :
  ∃ x hp' cls y hv',K x hp' cls=some z/\RV2 hp' x y/\RH hp' hv'/\RT hp' tm m/\∀ KV:Cq,KV y hv' cls->HH P R cf draw op b (AO m) hv KV:=by
 unfold A8u at h;cases hd:draw&&isR op with
 | true =>
  rw[hd] at h;have hi:isR op=true:=by simp only[za2] at hd; exact hd.2
  obtain ⟨x,y,cls,h1,h2,h3⟩:=A7w (R:=R) (cf:=cf) (hp:=hp) (hpm:=A0r b hp) (hvm:=A88 b hv) hX hi hr (fun id bb hb=>by
   rw[A7M] at hb
   split at hb
   ·rename_i hlt;obtain ⟨k,hk,hrb⟩:=hh id bb hb;exact ⟨hb,k,by simp only[A88,if_pos hlt,hk],hrb⟩
   ·cases hb) h
  refine ⟨x,hp,cls,y,hv,h1,h2,hh,hr,fun KV hk=>?_⟩
  unfold HH;rw[hd];exact h3 (fun x _ cls=>KV x hv cls) hk
 | false =>
  rw[hd] at h;obtain ⟨x,hp',cls,y,hv',h1,h2,h3,h4,h5⟩:=A8U hX hE hh hr h;refine ⟨x,hp',cls,y,hv',h1,h2,h3,h4,fun KV hk=>?_⟩
  unfold HH;rw[hd];exact h5 KV hk
theorem A3X {hp:THp} {tm:TTm} {m:Tm} {x:SV} {y:V} (h:RT hp tm m) (hx:RV2 hp x y) (dst:Option Tmp):RT hp (Ru tm dst x) (put m dst y):=by
 cases dst with
 | none=>exact h
 | some d =>
  intro t;simp only[Ru,put];rw[GH];unfold upd
  split
  ·exact hx
  ·exact h t
theorem A7l {hp:THp} {tm:TTm} {m:Tm} {op:Op} (hr:RT hp tm m) (h:A2B tm op=true):A3T m op=A8p tm op:=by
 unfold A3T A8p;unfold A2B at h;generalize op.operands.toList=l at h ⊢
 induction l with
 | nil=>rfl
 | cons y l ih =>
  simp only[zb8,zc9,za2] at h;simp only[zb3,zb8];rw[ih h.2,(Ir h.1 (Bb hr y)).2.2.1]
theorem Uw {α β:Type} {f g : α->List β}:∀ {l:List α},(∀ x∈l,f x=g x)->l.flatMap f=l.flatMap g
 | [],_=>rfl
 | x::l,h=>by
  rw[zb3,zb3,h x (List.mem_cons_self ..),Uw fun y hy=>h y (List.mem_cons_of_mem _ hy)]
theorem A0K {hp:THp} {hv:Hp} {tm:TTm} {m:Tm} {op:Op} {ids:List Nat} (hE:L1 R cf X) (hh:RH hp hv) (hr:RT hp tm m) (h:UU X op tm hp=some ids):Jw cf op (AO m) hv=some ids:=by
 unfold UU at h
 split at h
 ·rename_i t a x
  split at h
  ·rename_i hc;cases h
   simp only[za2] at hc;simp only[Jw];rw[(Ir hc.1 (Bb hr a)).2.2.1,(Ir hc.2 (Bb hr x)).2.2.1]
  ·cases h
 ·rename_i f args tys
  split at h
  case h_2=>cases h
  rename_i g caps hf
  split at h
  case h_2=>cases h
  rename_i E hfe;obtain ⟨_,_,hbr⟩:=hE g E hfe
  split at h
  case h_2=>cases h
  rename_i args' hargs'
  split at h
  case isFalse=>cases h
  rename_i s1
  split at h
  case h_2=>cases h
  rename_i o ho;cases h
  have hc:=Bb hr f;rw[hf] at hc;obtain ⟨us,hfv,hcs⟩:=A3Q hc;obtain ⟨ys',hV,hargs2,hlent⟩:=Tb hh hargs' (RC.append (KA hr args.toList) (hcs.mono fun _ _ _ h=>h.to1.to2));obtain ⟨a1,a2,a3,a4⟩:=RC.all1 s1 hargs2;rw[<-hbr] at hV hlent;have hclose:Ft hv 64 (ys'.flatMap An) []=some o:=by rw[a2]; exact Ia hh _ _ _ ho
  have hcloseC:EG hv (ys'.flatMap An)=some o:=by
   unfold EG;rw[hclose];simp only;rw[if_pos (by rw[a2]; exact Us hh ho)]
  simp only[Jw,hfv,hV,hcloseC,hlent]
 ·rename_i t n Ap
  split at h
  ·rename_i hc;cases h
   simp only[Jw]
   congr 1
   refine Uw fun p hp=>?_
   exact (Ir (za5.1 hc p hp) (Bb hr p.2)).2.2.1
  ·cases h
 ·cases h
theorem A8E {hp:THp} {hv:Hp} {tm:TTm} {m:Tm} {all:List Oper} {i:Nat} (hE:L1 R cf X) (hh:RH hp hv) (hr:RT hp tm m) (h:A5P X all tm hp i=true):Je cf all m hv i=true:=by
 unfold A5P at h;unfold Je;cases ha:all[i]? with
 | none=>rw[ha] at h; cases h
 | some a =>
  rw[ha] at h;simp only[za2] at h ⊢
  refine ⟨h.1,?_⟩
  replace h:=h.2
  cases ht:UU X a.op tm hp with
  | none=>rw[ht] at h; cases h
  | some ids =>
   rw[ht] at h;rw[A0K hE hh hr ht];simp only at h ⊢
   refine za5.2 fun j hj=>?_
   have h4:=za5.1 h j hj;cases ho:all[j]? with
   | none=>simp
   | some o =>
    rw[ho] at h4;simp only[Bool.or_eq_true,za2] at h4 ⊢
    rcases h4 with h4 | h4 | ⟨h4,h5,h6⟩
    ·exact .inl h4
    ·exact .inr (.inl h4)
    ·exact .inr (.inr ⟨h4,by rw[A7l hr h5]; exact h6⟩)
theorem Bc2 {hp:THp} {hv:Hp} {tm:TTm} {m:Tm} {all:List Oper} {i:Nat} (hE:L1 R cf X) (hh:RH hp hv) (hr:RT hp tm m) (h:(eOK all i || A5P X all tm hp i)=true):(eOK all i || Je cf all m hv i)=true:=by
 simp only[Bool.or_eq_true] at h ⊢
 exact h.imp (fun h=>h) (A8E hE hh hr)
theorem A7x {α:Type} {draw ok ok':Bool} {cls:Cls} {A:Option α} {z : α} (hok:ok=true->ok'=true) (h:AF1 draw ok cls A=some z):A=some z/\∀ B:Prop,B->drawn draw ok' cls B:=by
 cases draw <;> cases cls <;> first | exact ⟨h,fun B hb=>hb⟩ | (obtain ⟨h1,h2⟩:=C5 h; exact ⟨h2,fun B hb=>⟨hok h1,hb⟩⟩)
theorem Z1 {α:Type} {all:List Oper} {draw:Bool} (hX:XOK P X) (hE:L1 R cf X):∀ (l:List Oper) (i:Nat) {st:TSt} {s:St} {K:TSt->Option α} {z : α},RS st s->U0 X all draw l i st K=some z ->
  ∃ st' s',K st'=some z/\RS st' s'/\st'.c=st.c/\∀ KV:St->Prop,KV s'->Cz P R cf all draw l i s KV
 | [],i,st,s,K,z,hs,h=>⟨st,s,h,hs,rfl,fun KV hk=>hk⟩
 | o::l,i,st,s,K,z,hs,h=>by
  have go:∀ (tm:TTm),RT st.hp tm s.tm->(A8u X draw o.op (16*(st.c + i)) tm st.hp fun x hp cls=>AF1 draw (eOK all i || A5P X all tm st.hp i) cls (U0 X all draw l (i + 1) { tm:=Ru tm o.dst x,hp:=hp,c:=st.c } K))=some z ->
    ∃ st' s',K st'=some z/\RS st' s'/\st'.c=st.c/\∀ KV:St->Prop,KV s'->HH P R cf draw o.op (16*(s.c + i)) (AO s.tm) s.hp fun x hp cls=>drawn draw (eOK all i || Je cf all s.tm s.hp i) cls (Cz P R cf all draw l (i + 1) { tm:=put s.tm o.dst x,hp:=hp,c:=s.c } KV):=by
   intro tm hr h;obtain ⟨x,hp',cls,y,hv',h1,h2,h3,h4,h5⟩:=A85 (R:=R) (cf:=cf) hX hE hs.hp hr h;obtain ⟨h6,h7⟩:=A7x (Bc2 hE hs.hp hr) h1;obtain ⟨st',s',q1,q2,q3,q4⟩:=Z1 hX hE l (i + 1) (st:={ tm:=Ru tm o.dst x,hp:=hp',c:=st.c }) (s:={ tm:=put s.tm o.dst y,hp:=hv',c:=s.c }) ⟨A3X h4 h2 o.dst,h3,hs.c⟩ h6;exact ⟨st',s',q1,q2,q3,fun KV hk=>by rw[hs.c]; exact h5 _ (by have:=h7 _ (q4 KV hk); rw[hs.c] at this; exact this)⟩
  have no:∀ (tm:TTm),RT st.hp tm s.tm->U0 X all draw l (i + 1) { tm:=Ru tm o.dst (.tup []),hp:=st.hp,c:=st.c } K=some z ->
    ∃ st' s',K st'=some z/\RS st' s'/\st'.c=st.c/\∀ KV:St->Prop,KV s'->Cz P R cf all draw l (i + 1) { tm:=put s.tm o.dst (.tup []),hp:=s.hp,c:=s.c } KV:=by
   intro tm hr h;exact Z1 hX hE l (i + 1) (st:={ tm:=Ru tm o.dst (.tup []),hp:=st.hp,c:=st.c }) (s:={ tm:=put s.tm o.dst (.tup []),hp:=s.hp,c:=s.c }) ⟨A3X (x:=.tup []) (y:=.tup []) hr ⟨[],rfl,trivial⟩ o.dst,hs.hp,hs.c⟩ h
  simp only[U0] at h;cases hg:o.guard with
  | none =>
   rw[hg] at h;obtain ⟨st',s',q1,q2,q3,q4⟩:=go st.tm hs.tm h;exact ⟨st',s',q1,q2,q3,fun KV hk=>by unfold Cz; rw[hg]; exact q4 KV hk⟩
  | some jw =>
   obtain ⟨j,want⟩:=jw;rw[hg] at h;simp only at h;cases hd:(all[j]?).bind (·.dst) with
   | none=>rw[hd] at h; cases h
   | some d =>
    rw[hd] at h;simp only at h;have htd:=hs.tm d;have fin:∀ w:Bool,Vp (s.tm d) want=some w->(∃ st' s',K st'=some z/\RS st' s'/\st'.c=st.c/\∀ KV:St->Prop,KV s'->(if w=true then HH P R cf draw o.op (16*(s.c + i)) (AO s.tm) s.hp fun x hp cls=>drawn draw (eOK all i || Je cf all s.tm s.hp i) cls (Cz P R cf all draw l (i + 1) { tm:=put s.tm o.dst x,hp:=hp,c:=s.c } KV) else Cz P R cf all draw l (i + 1) { tm:=put s.tm o.dst (.tup []),hp:=s.hp,c:=s.c } KV)) ->
      ∃ st' s',K st'=some z/\RS st' s'/\st'.c=st.c/\∀ KV:St->Prop,KV s'->Cz P R cf all draw (o::l) i s KV:=by
     intro w hw ⟨st',s',q1,q2,q3,q4⟩;refine ⟨st',s',q1,q2,q3,fun KV hk=>?_⟩
     unfold Cz;rw[hg];simp only[hd,zd8,Au,hw];exact q4 KV hk
    have same:∀ t:Bool,s.tm d = .v (.bool t)->RT st.hp ((d,.bool t)::st.tm) s.tm:=by
     intro t ht t';rw[GH]
     split
     ·rename_i he; rw[he,ht]; rfl
     ·exact hs.tm t'
    split at h
    ·rename_i t hv;rw[hv] at htd;have htd:=Qv htd;cases want with
     | true =>
      simp only at h;cases t with
      | true =>
       obtain ⟨st',s',q1,q2,q3,q4⟩:=go _ (same true htd) h;exact fin true (by rw[htd]; rfl) ⟨st',s',q1,q2,q3,fun KV hk=>by rw[if_pos rfl]; exact q4 KV hk⟩
      | false =>
       obtain ⟨st',s',q1,q2,q3,q4⟩:=no _ (same false htd) h;exact fin false (by rw[htd]; rfl) ⟨st',s',q1,q2,q3,fun KV hk=>by rw[if_neg (by simp)]; exact q4 KV hk⟩
     | false =>
      simp only at h;cases t with
      | true =>
       obtain ⟨st',s',q1,q2,q3,q4⟩:=no _ (same true htd) h;exact fin false (by rw[htd]; rfl) ⟨st',s',q1,q2,q3,fun KV hk=>by rw[if_neg (by simp)]; exact q4 KV hk⟩
      | false =>
       obtain ⟨st',s',q1,q2,q3,q4⟩:=go _ (same false htd) h;exact fin true (by rw[htd]; rfl) ⟨st',s',q1,q2,q3,fun KV hk=>by rw[if_pos rfl]; exact q4 KV hk⟩
    ·rename_i hv;rw[hv] at htd;obtain ⟨us,hus,hc⟩:=(show ∃ us,s.tm d = .tup us/\RC (RV1 st.hp) [] us from htd);cases us with
     | cons a l=>exact hc.elim
     | nil =>
      obtain ⟨st',s',q1,q2,q3,q4⟩:=no _ hs.tm h;exact fin false (by rw[hus]; rfl) ⟨st',s',q1,q2,q3,fun KV hk=>by rw[if_neg (by simp)]; exact q4 KV hk⟩
    ·cases h
structure CfOK (cf:Cfg) (g:FuncId) (X:TX):Prop where
 live:∀ r an,L6 X.ann.heads r=some an->cf.live g r=II an
 out:∀ r outs ex an,L6 X.ann.outs r=some outs->A0O outs ex=some an->cf.out g r ex=II an
 join:∀ r an,L6 X.ann.joins r=some an->cf.join g r=some (II an)
 nojoin:∀ r,L6 X.ann.joins r=none->cf.join g r=none
 res:cf.res g=(II X.ann.res).map (·.2)
 par:cf.par g=II X.ann.params
 rts:cf.rts g=Gd (Al7 (DE X.ann.res) X.ann.e 0 (DE X.ann.res))
theorem Ay8 {a b:Ex} (h:AM7 a b=true):a=b:=by
 cases a <;> cases b <;> simp[AM7] at h
 ·rfl
 ·rw[h]
 ·rfl
theorem A3p {α:Type} {e:Nat} {Q:A6J α} {ex:Ex} {st:TSt} {z : α}:∀ {l:List (Ex×List Item)} {d:A83 l},A1n e l ex st=some d->A69 Q l d=some z->∃ an dd,A0O l ex=some an/\HB e an st=some dd/\Q ex (LC an dd)=some z
 | [],d,h,_=>by cases h
 | [a],d,h,hz=>by
  simp only[A1n] at h;obtain ⟨h1,h2⟩:=C5 h;have:=Ay8 h1;subst this;refine ⟨a.2,d,?_,h2,hz⟩
  show cond (AM7 a.1 a.1) (some a.2) _=_;rw[h1]; rfl
 | a::b::l,d,h,hz=>by
  simp only[A1n] at h;cases hc:AM7 a.1 ex with
  | true =>
   rw[hc] at h;simp only[cond_true,zb5] at h;obtain ⟨dd,h1,rfl⟩:=h;have:=Ay8 hc;subst this;refine ⟨a.2,dd,?_,h1,hz⟩
   show cond (AM7 a.1 a.1) (some a.2) _=_;rw[hc]; rfl
  | false =>
   rw[hc] at h;simp only[cond_false,zb5] at h;obtain ⟨dd,h1,rfl⟩:=h;obtain ⟨an,d2,q1,q2,q3⟩:=A3p (l:=b::l) h1 hz;refine ⟨an,d2,?_,q2,q3⟩
   show cond (AM7 a.1 ex) (some a.2) (A0O (b::l) ex)=_;rw[hc]; exact q1
theorem FA (hX:XOK P X) (hE:L1 R cf X) (hcf:CfOK cf g X):∀ (c:Code) {α:Type} {st:TSt} {s:St} {Q:A6J α} {z : α},RS st s->wtC X c st Q=some z ->
  ∃ ex st' s',Q ex st'=some z/\RS st' s'/\∀ QV:HW,QV ex s'->we P R cf g X.e c s QV
 | .skip,α,st,s,Q,z,hs,h=>⟨.normal,st,s,h,hs,fun QV hq=>hq⟩
 | .exit id,α,st,s,Q,z,hs,h=>⟨.exit id,st,s,h,hs,fun QV hq=>hq⟩
 | .ret,α,st,s,Q,z,hs,h=>⟨.ret,st,s,h,hs,fun QV hq=>hq⟩
 | .region id ops draw,α,st,s,Q,z,hs,h=>by
  obtain ⟨st',s',h1,h2,h3,h4⟩:=Z1 (R:=R) (cf:=cf) hX hE _ 0 hs h;refine ⟨.normal,_,{ s' with c:=s'.c + ops.size },h1,⟨h2.tm,h2.hp,by show s'.c + _=st'.c + _; rw[h2.c]⟩,fun QV hq=>?_⟩
  unfold we;exact h4 _ hq
 | .seq a b,α,st,s,Q,z,hs,h=>by
  unfold wtC at h;cases hj:L6 X.ann.joins (rid b) with
  | none =>
   rw[hj] at h;simp only at h;obtain ⟨ex,st1,s1,h1,h2,h3⟩:=FA hX hE hcf a hs h;cases ex with
   | normal =>
    obtain ⟨ex,st2,s2,q1,q2,q3⟩:=FA hX hE hcf b h2 h1;exact ⟨ex,st2,s2,q1,q2,fun QV hq=>by unfold we; exact h3 _ (by show AD9 _ _ _ _; rw[hcf.nojoin _ hj]; exact q3 QV hq)⟩
   | exit id=>exact ⟨.exit id,st1,s1,h1,h2,fun QV hq=>by unfold we; exact h3 _ hq⟩
   | ret=>exact ⟨.ret,st1,s1,h1,h2,fun QV hq=>by unfold we; exact h3 _ hq⟩
  | some an =>
   rw[hj] at h;simp only at h;obtain ⟨w,hw,hz⟩:=Bt h;obtain ⟨ex,st1,s1,h1,h2,h3⟩:=FA hX hE hcf a hs hw;have other:∀ ex',ex'≠.normal->ex=ex'->(Q ex' st1).map Sum.inl=some w->∃ ex st' s',Q ex st'=some z/\RS st' s'/\∀ QV:HW,QV ex s'->we P R cf g X.e (a.seq b) s QV:=by
    intro ex' hne he h1;subst he;simp only[zb5] at h1;obtain ⟨r,hr,rfl⟩:=h1;simp only[Sum.elim_inl,Option.some.injEq] at hz;subst hz;refine ⟨ex,st1,s1,hr,h2,fun QV hq=>?_⟩
    unfold we;refine h3 _ ?_
    cases ex with
    | normal=>exact absurd rfl hne
    | exit id=>exact hq
    | ret=>exact hq
   cases ex with
   | normal =>
    simp only[zb5] at h1;obtain ⟨d,hd,rfl⟩:=h1;simp only[za8] at hz;obtain ⟨s2,c1,c2⟩:=Mx h2 hd;obtain ⟨ex,st3,s3,q1,q2,q3⟩:=FA hX hE hcf b c2 hz;exact ⟨ex,st3,s3,q1,q2,fun QV hq=>by unfold we; exact h3 _ (by show AD9 _ _ _ _; rw[hcf.join _ _ hj]; exact c1 _ (q3 QV hq))⟩
   | exit id=>exact other (.exit id) (by simp) rfl h1
   | ret=>exact other .ret (by simp) rfl h1
 | .cond c x y,α,st,s,Q,z,hs,h=>by
  unfold wtC at h;have hc:=Bb hs.tm c
  split at h
  ·rename_i t ht;rw[ht] at hc;have hc:=Qv hc;cases t with
   | true =>
    obtain ⟨ex,st1,s1,h1,h2,h3⟩:=FA hX hE hcf x hs h;exact ⟨ex,st1,s1,h1,h2,fun QV hq=>by unfold we; rw[hc]; exact h3 QV hq⟩
   | false =>
    obtain ⟨ex,st1,s1,h1,h2,h3⟩:=FA hX hE hcf y hs h;exact ⟨ex,st1,s1,h1,h2,fun QV hq=>by unfold we; rw[hc]; exact h3 QV hq⟩
  ·cases h
 | .block id c,α,st,s,Q,z,hs,h=>by
  unfold wtC at h;obtain ⟨ex,st1,s1,h1,h2,h3⟩:=FA hX hE hcf c hs h;cases ex with
  | normal=>exact ⟨.normal,st1,s1,h1,h2,fun QV hq=>by unfold we; exact h3 _ hq⟩
  | ret=>exact ⟨.ret,st1,s1,h1,h2,fun QV hq=>by unfold we; exact h3 _ hq⟩
  | exit j =>
   simp only at h1;cases hj:Nat.beq j id with
   | true =>
    rw[hj] at h1;have hji:=za6 hj;exact ⟨.normal,st1,s1,h1,h2,fun QV hq=>by unfold we; exact h3 _ (by show (if j=id then _ else _); rw[if_pos hji]; exact hq)⟩
   | false =>
    rw[hj] at h1;have hji:j≠id:=fun he=>by subst he; rw[Nat.beq_refl] at hj; cases hj
    exact ⟨.exit j,st1,s1,h1,h2,fun QV hq=>by unfold we; exact h3 _ (by show (if j=id then _ else _); rw[if_neg hji]; exact hq)⟩
 | .loop c,α,st,s,Q,z,hs,h=>by
  unfold wtC at h
  split at h
  ·rename_i an outs ha ho;obtain ⟨d0,hd0,h⟩:=Bt h;obtain ⟨w,hw,hz⟩:=Bt h;obtain ⟨n,hn⟩:=Nd hw;obtain ⟨s0,c1,c2⟩:=Mx hs hd0;have key:∀ (n:Nat) (d:Dg an) (s0:St),HK (fun d=>wtC X c (LC an d) fun ex s=>match ex with | .normal=>(HB X.e an s).map .inl | ex=>(A1n X.e outs ex s).map .inr) n d=some w->RS (LC an d) s0 ->
     ∃ ex st' s',Q ex st'=some z/\RS st' s'/\∀ QV:HW,QV ex s'->Ak8 P R cf g X.e c s0 QV:=by
    intro n
    induction n with
    | zero=>intro d s0 h _; cases h
    | succ n ih =>
     intro d s0 h hs0;simp only[HK] at h;obtain ⟨o,hb,h⟩:=Bt h;obtain ⟨ex,st1,s1,h1,h2,h3⟩:=FA hX hE hcf c hs0 hb;have other:∀ ex',ex'≠.normal->ex=ex'->(A1n X.e outs ex' st1).map Sum.inr=some o->∃ ex st' s',Q ex st'=some z/\RS st' s'/\∀ QV:HW,QV ex s'->Ak8 P R cf g X.e c s0 QV:=by
      intro ex' hne he h1;subst he;simp only[zb5] at h1;obtain ⟨w',hw',rfl⟩:=h1;simp only[za8,Option.some.injEq] at h;subst h;obtain ⟨an2,dd,q1,q2,q3⟩:=A3p hw' hz;obtain ⟨s2,e1,e2⟩:=Mx h2 q2;refine ⟨ex,_,s2,q3,e2,fun QV hq=>?_⟩
      rw[ZM];refine h3 _ ?_
      cases ex with
      | normal=>exact absurd rfl hne
      | exit id=>show Fm _ _ _ _; rw[hcf.out _ _ _ _ ho q1]; exact e1 _ hq
      | ret=>show Fm _ _ _ _; rw[hcf.out _ _ _ _ ho q1]; exact e1 _ hq
     cases ex with
     | normal =>
      simp only[zb5] at h1;obtain ⟨d',hd',rfl⟩:=h1;simp only[Sum.elim_inl] at h;obtain ⟨s2,e1,e2⟩:=Mx h2 hd';obtain ⟨ex,st3,s3,q1,q2,q3⟩:=ih d' s2 h e2;refine ⟨ex,st3,s3,q1,q2,fun QV hq=>?_⟩
      rw[ZM];refine h3 _ ?_
      show Fm _ _ _ _;rw[hcf.live _ _ ha];exact e1 _ (q3 QV hq)
     | exit id=>exact other (.exit id) (by simp) rfl h1
     | ret=>exact other .ret (by simp) rfl h1
   obtain ⟨ex,st',s',q1,q2,q3⟩:=key n d0 s0 hn c2;exact ⟨ex,st',s',q1,q2,fun QV hq=>by rw[A9l,hcf.live _ _ ha]; exact c1 _ (q3 QV hq)⟩
  ·cases h
 | .scope c,α,st,s,Q,z,hs,h=>by simp[wtC] at h
 | .label l,α,st,s,Q,z,hs,h=>by simp[wtC] at h
 | .goto l,α,st,s,Q,z,hs,h=>by simp[wtC] at h
 | .rangeFunc ..,α,st,s,Q,z,hs,h=>by simp[wtC] at h
 | .refuse _,α,st,s,Q,z,hs,h=>by simp[wtC] at h
end
end
section
open Go
section
variable {P:Program} {X:TX} {g:FuncId}
structure FnOK (P:Program) (cf:Cfg) (X:TX) (fn:Func) (c:Code):Prop where
 get:P.funcs[X.ann.g]? = some fn
 body:fn.body=some c
 ok:VY fn c (HX X.ann.params).length=true
 ext:cf.isExt X.ann.g=false
theorem Aa {cf:Cfg} {ext:Rel} {fn:Func} {c:Code} {F:Dg X.ann.params->Option (Dg X.ann.res)} (hX:XOK P X) (hE:L1 (He P cf ext) cf X) (hcf:CfOK cf X.ann.g X) (hf:FnOK P cf X fn c)
  (hF:∀ x,wtF X fn x=F x):Ai (He P cf ext) ⟨X.ann,F⟩:=by
 intro x y args blks st0 hy hs0 hd hid hl he _;have hy:wtF X fn x=some y:=by rw[hF]; exact hy
 unfold wtF at hy;rw[hf.body] at hy;simp only at hy;have he:(args.flatMap An).eraseDups.length=X.e:=he;obtain ⟨s0,k1,hs⟩:=Mx hs0 hd;obtain ⟨ex,st',s',h1,h2,h3⟩:=FA hX hE hcf c hs hy;have main:∀ ex',ex=ex'->(∀ i,ex'≠.exit i)->(A2D X st'.tm st'.hp fn.results.toList fun xs=>A9p X.ann.res X.e st' xs)=some y ->
   ∃ r blks',He P cf ext X.ann.g args blks r blks'/\ResRel X.ann.res y r blks':=by
  intro ex' hex hno h1;obtain ⟨r,blks',q1,q2⟩:=A6T (e:=X.e) (res:=X.ann.res) (rs:=fn.results.toList) (y:=y) hX h2 h1;refine ⟨r,blks',He.intro hf.ext hf.get hf.body (by rw[hl]; exact hf.ok) hid ?_,q2⟩
  rw[he,hcf.par];refine k1 _ (h3 _ ?_)
  rw[hcf.res,hcf.rts];subst hex;cases ex with
  | exit i=>exact absurd rfl (hno i)
  | normal=>exact q1
  | ret=>exact q1
 cases ex with
 | exit i=>cases h1
 | normal=>exact main .normal rfl (by simp) h1
 | ret=>exact main .ret rfl (by simp) h1
theorem A7y {R:Rel} {cf:Cfg} {X:TX} (h:X.ents = []):L1 R cf X:=by
 intro g E hE;rw[h] at hE;cases hE
def A7m (R:Rel) (cf:Cfg):List Ent->Prop
 | []=>True
 | E::l=>(Ai R E/\cf.byref E.a.g=(HF E.a.params).map AF4)/\A7m R cf l
theorem Ab {R:Rel} {cf:Cfg} {X:TX} (h:A7m R cf X.ents):L1 R cf X:=by
 intro g E hE;generalize X.ents=l at h hE
 induction l with
 | nil=>cases hE
 | cons a l ih =>
  simp only[Aq5] at hE;cases hg:Nat.beq a.a.g g with
  | true =>
   rw[hg] at hE;simp only[cond_true,Option.some.injEq] at hE;subst hE;have:=za6 hg;subst this;exact ⟨h.1.1,rfl,h.1.2⟩
  | false =>
   rw[hg] at hE;exact ih h.2 hE
theorem Al {tab:List FAnn} {ext:FuncId->Bool} {X:TX} (h:Tw tab X.ann.g=some X.ann):CfOK (Al8 tab ext) X.ann.g X where
 live r an hr:=by simp only[Al8,h,za0,hr]
 out r outs ex an hr he:=by simp only[Al8,h,za0,hr,he]
 join r an hr:=by simp only[Al8,h,za0,hr]
 nojoin r hr:=by simp only[Al8,h,za0,hr]
 res:=by simp only[Al8,h]
 par:=by simp only[Al8,h]
 rts:=by simp only[Al8,h]
end
end
section
open Go Go.RowKit
def shT:Sh->Ty
 | .int k=>.int k
 | .str=>.str
 | .bool=>.bool
 | .sl _ e=>.sl (shT e)
 | .pair a b=>.pair (shT a) (shT b)
def WFS:(s:Sh)->(shT s).den->Prop
 | .int k,n=>(Lit.int k n).wf=true
 | .str,s=>s.length<=Ag
 | .bool,_=>True
 | .sl bytes e,l=>(∀ a∈(show List (shT e).den from l),WFS e a)/\(show List (shT e).den from l).length*bytes<=Ag
 | .pair a b,x=>WFS a (show (shT a).den×(shT b).den from x).1/\WFS b (show (shT a).den×(shT b).den from x).2
theorem A3B:∀ {s:Sh} {xs:List V},DV s xs->∃ x,RE (shT s) x xs/\WFS s x
 | .int k,xs,h=>by obtain ⟨n,rfl,hn⟩:=h; exact ⟨n,rfl,hn⟩
 | .str,xs,h=>by obtain ⟨s,rfl,hs⟩:=h; exact ⟨s.data.toList,by simp[RE,shT],by show s.data.toList.length<=Ag; rw[Array.length_toList]; exact hs⟩
 | .bool,xs,h=>by obtain ⟨b,rfl⟩:=h; exact ⟨b,rfl,trivial⟩
 | .sl bytes e,xs,h=>by
  obtain ⟨rows,rfl,hr,hb⟩:=h;have key:∀ rows:List (List V),(∀ r∈rows,DV e r)->∃ l:List (shT e).den,RLx (RE (shT e)) l rows/\∀ a∈l,WFS e a:=by
   intro rows
   induction rows with
   | nil=>intro _; exact ⟨[],RLx.nil,by simp⟩
   | cons r rows ih =>
    intro h;obtain ⟨a,h1,h2⟩:=A3B (h r (by simp));obtain ⟨l,h3,h4⟩:=ih fun r' hr'=>h r' (by simp[hr'])
    refine ⟨a::l,RLx.cons h1 h3,fun b hb=>?_⟩
    rcases zc5.1 hb with rfl | hb
    ·exact h2
    ·exact h4 b hb
  obtain ⟨l,h1,h2⟩:=key rows hr;exact ⟨l,.inr ⟨rows,rfl,h1⟩,h2,by rw[<-h1.1]; exact hb⟩
 | .pair a b,xs,h=>by
  obtain ⟨l,r,rfl,h1,h2⟩:=h;obtain ⟨x,q1,q2⟩:=A3B h1;obtain ⟨y,q3,q4⟩:=A3B h2;exact ⟨(x,y),⟨l,r,rfl,q1,q3⟩,q2,q4⟩
def H3:Sh->AC
 | .int k=>.int k
 | .str=>.str
 | .bool=>.bool
 | .sl _ e=>.im (shT e)
 | .pair _ _=>.bool
def A9n:Sh->Bool
 | .pair _ _=>false
 | _=>true
def WFC:(s:Sh)->(H3 s).den->Prop
 | .int k,n=>WFS (.int k) n
 | .str,s=>WFS .str s
 | .bool,b=>True
 | .sl n e,l=>WFS (.sl n e) l
 | .pair _ _,_=>True
theorem Uo {s:Sh} {x:V} (ho:A9n s=true) (h:DV s [x]):∃ d:(H3 s).den,WFC s d/\∀ hp,RV2 hp (A0e (H3 s) d) x:=by
 obtain ⟨d,h1,h2⟩:=A3B h;cases s with
 | int k =>
  have h1:[x] = [V.v (.int k d)]:=h1;cases h1
  exact ⟨d,h2,fun hp=>rfl⟩
 | str =>
  have h1:[x] = [V.v (.string ⟨Array.mk d⟩)]:=h1;cases h1
  exact ⟨d,h2,fun hp=>rfl⟩
 | bool =>
  have h1:[x] = [V.v (.bool d)]:=h1;cases h1
  exact ⟨d,trivial,fun hp=>rfl⟩
 | sl n e =>
  refine ⟨d,h2,fun hp=>?_⟩
  rcases h1 with ⟨e1,e2⟩ | ⟨rows,e2,e3⟩
  ·cases e2; exact .inl ⟨e1,rfl⟩
  ·cases e2; exact .inr ⟨rows,rfl,e3⟩
 | pair a b=>cases ho
def DVs:List Sh->List V->Prop
 | [],[]=>True
 | s::l,x::xs=>DV s [x]/\DVs l xs
 | _,_=>False
theorem DVs.length:∀ {l:List Sh} {xs:List V},DVs l xs->xs.length=l.length
 | [],[],_=>rfl
 | _::l,_::xs,h=>by simp[DVs.length h.2]
 | [],_::_,h=>h.elim
 | _::_,[],h=>h.elim
section
variable {P:Program}
def A31 (P:Program):List TypeId->List Sh->Prop
 | [],[]=>True
 | t::ts,s::l=>Fits P t s/\A31 P ts l
 | _,_=>False
theorem Ag5 {H:Type} {enc:TypeId×Value->H} {W W':World} (hl:laidOutB P=true) (hb:Below W.heap.size W W'):∀ {ts:List TypeId} {vs:List Value} {ds:List (DataW H)} {p:List MemPlace},(∀ t∈ts,P.readableRec t=true/\t<P.types.size)->DataW.TrodAll enc P W 0 (fun _=>true) true ts vs ds p ->
  ∃ q,DataW.TrodAll enc P W' 0 (fun b=>decide (b<W.heap.size)) true ts vs ds q
 | [],vs,ds,p,_,h=>by
  obtain ⟨rfl,rfl,rfl⟩:=ChangeShapes.trodAll_nil h;exact ⟨[],ChangeShapes.trodAll_mk0⟩
 | t::ts,vs,ds,p,hr,h=>by
  obtain ⟨v,vs',d,ds',p1,q,rfl,rfl,rfl,h1,h2⟩:=ChangeShapes.trodAll_cons h;obtain ⟨q',h3⟩:=Ag5 hl hb (fun t ht=>hr t (by simp[ht])) h2;have hlt:∀ x∈p1,x.block<W.heap.size:=by obtain ⟨m,hm⟩:=h1; exact DataW.trod_lt m _ _ _ hm
  obtain ⟨r1,r2⟩:=hr t (by simp);exact ⟨_,trodAll_cons_mk (Below.trod hl r1 r2 h1 hb hlt) h3⟩
end
end
section
open Go Go.RowKit
section
variable {P:Program} {J:Jl}
def A94 (P:Program):List (Nat×TyD)->Prop
 | []=>True
 | x::l=>AZ P x.1=some x.2/\A94 P l
theorem Bc5 {l:List (Nat×TyD)} (h:A94 P l):∀ t d,getD l t=some d->AZ P t=some d:=by
 intro t d hd
 induction l with
 | nil=>cases hd
 | cons x l ih =>
  obtain ⟨k,y⟩:=x;simp only[getD] at hd;cases hk:Nat.beq t k with
  | true =>
   rw[hk] at hd;simp only[cond_true,Option.some.injEq] at hd;have:=za6 hk;subst this;subst hd;exact h.1
  | false =>
   rw[hk] at hd;exact ih h.2 hd
end
end
section
open Go Go.RowKit
def Aj1:Sh->List Sh
 | .pair a b=>Aj1 a++Aj1 b
 | s=>[s]
def aOf:Sh->AS
 | .pair a b=>.agg ((Aj1 (.pair a b)).map H3)
 | s=>.cell (H3 s)
def Ke:Nat->List Sh->List Item
 | _,[]=>[]
 | i,s::l=>.slot i (aOf s)::Ke (i + 1) l
theorem Zf:∀ (s:Sh),(Aj1 s).all A9n=true
 | .pair a b=>by simp only[Aj1,List.all_append,Zf a,Zf b,Bool.and_self]
 | .int _ | .str | .bool | .sl _ _=>rfl
def Bf2:(l:List Sh)->RK (l.map H3)->Prop
 | [],_=>True
 | s::l,d=>WFC s (hdC (H3 s) (l.map H3) d)/\Bf2 l (tlC (H3 s) (l.map H3) d)
def WFA:(s:Sh)->(aOf s).den->Prop
 | .pair a b,d=>Bf2 (Aj1 (.pair a b)) d
 | .int k,n=>WFC (.int k) n
 | .str,n=>WFC .str n
 | .bool,n=>WFC .bool n
 | .sl b e,n=>WFC (.sl b e) n
def WFQ:(i:Nat)->(l:List Sh)->Dg (Ke i l)->Prop
 | _,[],_=>True
 | i,s::l,d=>WFA s (hdI (.slot i (aOf s)) (Ke (i + 1) l) d)/\WFQ (i + 1) l (tlI (.slot i (aOf s)) (Ke (i + 1) l) d)
theorem DVs.append:∀ {a b:List Sh} {xs ys:List V},DVs a xs->DVs b ys->DVs (a++b) (xs++ys)
 | [],_,[],_,_,h=>h
 | _::a,_,_::xs,_,h1,h2=>⟨h1.1,DVs.append h1.2 h2⟩
 | [],_,_::_,_,h,_=>h.elim
 | _::_,_,[],_,h,_=>h.elim
theorem AG9:∀ {s:Sh} {xs:List V},DV s xs->DVs (Aj1 s) xs
 | .pair a b,xs,h=>by
  obtain ⟨l,r,rfl,h1,h2⟩:=h;exact (AG9 h1).append (AG9 h2)
 | .int k,xs,h=>by obtain ⟨n,rfl,hn⟩:=h; exact ⟨⟨n,rfl,hn⟩,trivial⟩
 | .str,xs,h=>by obtain ⟨n,rfl,hn⟩:=h; exact ⟨⟨n,rfl,hn⟩,trivial⟩
 | .bool,xs,h=>by obtain ⟨n,rfl⟩:=h; exact ⟨⟨n,rfl⟩,trivial⟩
 | .sl n e,xs,h=>by obtain ⟨rows,rfl,hn⟩:=h; exact ⟨⟨rows,rfl,hn⟩,trivial⟩
theorem A6i {s:Sh} {d:(H3 s).den} {hp:THp} {x:V} (h:RV2 hp (A0e (H3 s) d) x):RV0 hp (A0e (H3 s) d) x:=by
 cases s <;> exact h
theorem Au3:∀ {l:List Sh} {xs:List V},l.all A9n=true->DVs l xs->∃ d:RK (l.map H3),Bf2 l d/\∀ hp,RC (RV0 hp) (UE (l.map H3) d) xs
 | [],[],_,_=>⟨(),trivial,fun hp=>trivial⟩
 | s::l,x::xs,ho,h=>by
  simp only[zc9,za2] at ho;obtain ⟨a,h1,h2⟩:=Uo ho.1 h.1;obtain ⟨d,h3,h4⟩:=Au3 ho.2 h.2;refine ⟨Aq9 (H3 s) (l.map H3) a d,⟨?_,?_⟩,fun hp=>?_⟩
  ·rw[Zx]; exact h1
  ·rw[Z9]; exact h3
  ·show RC (RV0 hp) (A0e (H3 s) (hdC (H3 s) (l.map H3) (Aq9 (H3 s) (l.map H3) a d))::UE (l.map H3) (tlC (H3 s) (l.map H3) (Aq9 (H3 s) (l.map H3) a d))) (x::xs);rw[Zx,Z9];exact ⟨A6i (h2 hp),h4 hp⟩
 | [],_::_,_,h=>h.elim
 | _::_,[],_,h=>h.elim
def DA:Sh->V->Prop
 | .pair a b,x=>∃ xs,x = .agg xs/\DV (.pair a b) xs
 | s,x=>DV s [x]
def DAs:List Sh->List V->Prop
 | [],[]=>True
 | s::l,x::xs=>DA s x/\DAs l xs
 | _,_=>False
theorem DAs.length:∀ {l:List Sh} {xs:List V},DAs l xs->xs.length=l.length
 | [],[],_=>rfl
 | _::l,_::xs,h=>by simp[DAs.length h.2]
 | [],_::_,h=>h.elim
 | _::_,[],h=>h.elim
theorem Bd1 {s:Sh} {x:V} (h:DA s x):∃ d:(aOf s).den,WFA s d/\∀ hp,RV2 hp (AT5 (aOf s) d) x:=by
 cases s with
 | pair a b =>
  obtain ⟨xs,rfl,h⟩:=h;obtain ⟨d,h1,h2⟩:=Au3 (Zf (.pair a b)) (AG9 h);exact ⟨d,h1,fun hp=>⟨xs,rfl,h2 hp⟩⟩
 | int k=>exact Uo (s:=.int k) rfl h
 | str=>exact Uo (s:=.str) rfl h
 | bool=>exact Uo (s:=.bool) rfl h
 | sl n e=>exact Uo (s:=.sl n e) rfl h
theorem AQ9:∀ (l:List Sh) (i:Nat) {xs:List V},DAs l xs->∃ d:Dg (Ke i l),WFQ i l d/\(∀ k,(BM k (Ke i l) d).2 = [])/\∀ k hp,RT hp (BM k (Ke i l) d).1 (lk .any (YJ i xs))
 | [],i,[],_=>⟨(),trivial,fun _=>rfl,fun k hp t=>trivial⟩
 | s::l,i,x::xs,h=>by
  obtain ⟨a,h1,h2⟩:=Bd1 h.1;obtain ⟨d,h3,h4,h5⟩:=AQ9 l (i + 1) h.2;refine ⟨OJ (.slot i (aOf s)) (Ke (i + 1) l) a d,⟨?_,?_⟩,fun k=>?_,fun k hp=>?_⟩
  ·rw[YN (.slot i (aOf s))]; exact h1
  ·rw[TD (.slot i (aOf s))]; exact h3
  ·simp only[Ke,BM];rw[TD (.slot i (aOf s))];exact h4 k
  ·simp only[Ke,BM];rw[TD (.slot i (aOf s)),YN (.slot i (aOf s))];intro t;show RV2 hp (CJ ((i,AT5 (aOf s) a)::_) t) (if t=i then x else lk .any (YJ (i + 1) xs) t);rw[GH]
   split
   ·exact h2 hp
   ·exact h5 k hp t
 | [],_,_::_,h=>h.elim
 | _::_,_,[],h=>h.elim
theorem AV2:∀ (l:List Sh) (i:Nat),(HX (Ke i l)).length=l.length
 | [],_=>rfl
 | s::l,i=>by simp[Ke,HX,AV2 l (i + 1)]
abbrev TA (w:World) (x:V) (y:Value):Prop:=Rep w (fun b=>b<w.heap.size) x y\/∃ cs us,x = .agg cs/\y = .agg us/\A9E w cs us.toList
theorem A2e {w:World} {G:Nat->Prop} {x:V} {y:Value} (h:Rep w G x y):Am x = []:=by cases h <;> rfl
theorem A1E {w:World} {G:Nat->Prop} {x:V} {y:Value} (h:Rep w G x y):An x = []:=by cases h <;> rfl
theorem A3e {w:World} {xs:List V} {cs:List Value} (h:VL (TA w) xs cs):xs.flatMap An = []:=by
 rw[List.flatMap_eq_nil_iff];intro x hx;obtain ⟨i,hi⟩:=List.getElem?_of_mem hx;obtain ⟨y,_,hr⟩:=h.get i x hi;rcases hr with hr | ⟨cs',us,rfl,_,ht⟩
 ·exact A1E hr
 ·show cs'.flatMap Am = [];rw[List.flatMap_eq_nil_iff];intro z hz;obtain ⟨j,hj⟩:=List.getElem?_of_mem hz;obtain ⟨u,_,hu⟩:=ht.get j z hj;exact A2e hu
theorem A9A {w:World} {E:Env} {hp:Hp} {G:Nat->Prop} {x:V} {y:Value} (h:Rep w G x y):VR0 w E hp G x y:=by
 cases h with
 | v _ hs=>exact .v _ hs
 | em a=>exact .em a
 | er0=>exact .er0
 | er1 t x=>exact .er1 t x
 | im0 a cap=>exact .im0 a cap
 | im b off cap size rows f h1 h2 h3 h4 h5 h6 h7=>exact .im b off cap size rows f h1 h2 h3 h4 h5 h6 h7
theorem A89 {w:World} {E:Env} {hp:Hp} {G:Nat->Prop} {x:V} {y:Value} (h:Rep w G x y):VR1 w E hp G x y:=by
 cases h with
 | v _ hs=>exact .v _ hs
 | em a=>exact .em a
 | er0=>exact .er0
 | er1 t x=>exact .er1 t x
 | im0 a cap=>exact .im0 a cap
 | im b off cap size rows f h1 h2 h3 h4 h5 h6 h7=>exact .im b off cap size rows f h1 h2 h3 h4 h5 h6 h7
section
variable {P:Program} {J:Jl}
theorem A2g {w:World} {cf:Cfg} {ext:Rel} (hm:P.follows .mixedOrders=true) (hext:∀ g args blks r blks',ext g args blks r blks'->CSpec P J g args blks r blks') (hJ:∀ x∈J,w.heap[x.1]? = some x.2) {g:FuncId} {xs:List V} {vals:Array Value}
  (hv:VL (TA w) xs vals.toList) (h:He P cf ext g xs [] (.v (.bool true)) []):Calls P g vals w fun e w'=>e = .returned (.bool true)/\Below w.heap.size w w':=by
 obtain ⟨k,h⟩:=h;have hs:=Qx hm hext k g xs [] _ [] h;have hno:∀ E b,¬Own E (lkB []) b:=fun E b ⟨id,k,hk,_⟩=>by simp[lkB] at hk
 have hI:HpInv w (Own ⟨fun _=>none,fun _ _=>False⟩ (lkB [])) (fun b=>b<w.heap.size) ⟨fun _=>none,fun _ _=>False⟩ (fun b=>b<w.heap.size) (lkB []) w :=
  ⟨Fr.refl _ w,fun b hb=>⟨hb,.inl hb⟩,fun b _=>hno _ b,fun b h=>absurd h (hno _ b),fun id k id' k' hk=>by simp[lkB] at hk,fun id k b hk=>by simp[lkB] at hk,fun id k hk=>by simp[lkB] at hk⟩
 have hids:KD xs []=true:=by unfold KD; rw[A3e hv]; rfl
 refine (hs.calls hids w _ _ vals (fun x hx=>⟨hJ x hx,hno _ _⟩) hI (hv.mono fun x _ y hx=>by
  rcases hx with hx | ⟨cs,us,rfl,rfl,ht⟩
  ·exact A89 hx
  ·exact ⟨us,rfl,ht.mono fun z _ u hz=>A9A hz⟩)).mono ?_
 rintro e w' ⟨y,E',G',rfl,hI',hy,_⟩;have hyt:y = .bool true:=(Hq hy).1;subst hyt;exact ⟨rfl,hI'.fr.os,hI'.fr.tape,hI'.fr.output,hI'.fr.size,fun b hb=>hI'.fr.block b hb (hno _ b)⟩
theorem Ai0 {H:Type} {enc:TypeId×Value->H} {W:World}:∀ {ts:List TypeId} {l:List Sh} {vs:List Value} {ds:List (DataW H)} {p:List MemPlace},A31 P ts l->DataW.TrodAll enc P W 0 (fun _=>true) true ts vs ds p ->
  (∀ (j:Nat) t v,ts[j]? = some t->vs[j]? = some v->∃ base,Value.okWide P W .any base t v)->(∀ n∈DataW.weightsEach P ts ds,n<=reachBytes)->∃ xs,DAs l xs/\VL (TA W) xs vs
 | [],[],vs,ds,p,_,h,_,_=>by
  obtain ⟨rfl,rfl,rfl⟩:=ChangeShapes.trodAll_nil h;exact ⟨[],trivial,trivial⟩
 | t::ts,s::l,vs,ds,p,hf,h,hv,hw=>by
  obtain ⟨v,vs',d,ds',p1,q,rfl,rfl,rfl,⟨fuel,h1⟩,h2⟩:=ChangeShapes.trodAll_cons h;obtain ⟨xs,q1,q2,q3⟩:=Q8 fuel t s _ _ hf.1 h1 fun n hn=>hw n (by simp[DataW.weightsEach,hn])
  obtain ⟨ys,q4,q5⟩:=Ai0 hf.2 h2 (fun j t v h1 h2=>hv (j + 1) t v (by simpa using h1) (by simpa using h2)) fun n hn=>hw n (by simp[DataW.weightsEach,hn])
  obtain ⟨base,hok⟩:=hv 0 t v rfl rfl;by_cases hone:A9n s=true
  ·have hs1:s.size=1:=by cases s <;> first | rfl | (cases hone)
   obtain ⟨x,rfl⟩:=List.length_eq_one_iff.1 (by rw[q2,hs1]);have hc:v.cells.toList = [v]:=by
    cases hf.1 with
    | int ht=>simp only[Value.okWide,ht,Cell.okWide] at hok; cases v <;> simp_all [Cell.ok,Value.cells]
    | str ht=>simp only[Value.okWide,ht,Cell.okWide] at hok; cases v <;> simp_all [Cell.ok,Value.cells]
    | bool ht=>simp only[Value.okWide,ht,Cell.okWide] at hok; cases v <;> simp_all [Cell.ok,Value.cells]
    | sl ht=>obtain ⟨a,n,c,rfl⟩:=WideShapes.okWide_slice ht hok; rfl
    | st=>cases hone
   rw[hc] at q3;refine ⟨x::ys,⟨?_,q4⟩,.inl q3.1,q5⟩
   cases s <;> first | exact q1 | (cases hone)
  ·cases s with
   | pair a b =>
    cases hf.1 with
    | st ht hce hfs =>
     obtain ⟨us,rfl,_⟩:=WideShapes.okWide_struct ht hok;exact ⟨.agg xs::ys,⟨⟨xs,rfl,q1⟩,q4⟩,.inr ⟨xs,us,rfl,rfl,q3⟩,q5⟩
   | _=>exact absurd rfl hone
 | [],_::_,_,_,_,h,_,_,_=>h.elim
 | _::_,[],_,_,_,h,_,_,_=>h.elim
theorem A4O {cf:Cfg} {ext:Rel} {g:FuncId} {shs:List Sh} {heads joins:List (Nat×List Item)} {outs:List (Nat×List (Ex×List Item))} {F:Dg (Ke 0 shs)->Option Bool}
  (hm:P.follows .mixedOrders=true) (hext:∀ g args blks r blks',ext g args blks r blks'->CSpec P J g args blks r blks')
  (hE:Ai (He P cf ext) ⟨⟨g,0,Ke 0 shs,[.slot 0 (.cell .bool)],heads,outs,joins⟩,F⟩) (hD:∀ d,HB 0 (Ke 0 shs) (LC (Ke 0 shs) d)=some d) (hF:∀ d,WFQ 0 shs d->F d=some true)
  {w:World} (hJ:∀ x∈J,w.heap[x.1]? = some x.2) {xs:List V} {vals:Array Value} (hx:DAs shs xs) (hv:VL (TA w) xs vals.toList):Calls P g vals w fun e w'=>e = .returned (.bool true)/\Below w.heap.size w w':=by
 obtain ⟨d,h1,h2,h3⟩:=AQ9 shs 0 hx;have hrefs:=A3e hv;obtain ⟨r,blks',q1,q2⟩:=hE d true xs [] (LC (Ke 0 shs) d) (hF d h1) ⟨h3 0 _,(fun id b hb=>by
  rw[show (LC (Ke 0 shs) d).hp=(BM 0 (Ke 0 shs) d).2 from rfl,h2] at hb;exact absurd hb (by simp[AP])),rfl⟩ (hD d) (by unfold KD; rw[hrefs]; rfl) (by rw[hx.length]; exact (AV2 shs 0).symm) (by rw[hrefs]; rfl) (fun _=>rfl)
 have hr:r = .v (.bool true):=q2.val;have hb:blks' = []:=zb7 q2.len;subst hr;subst hb;exact A2g hm hext hJ hv q1
theorem Ao9 {H:Type} {enc:TypeId×Value->H} {cf:Cfg} {ext:Rel} {g:FuncId} {shs:List Sh} {heads joins:List (Nat×List Item)} {outs:List (Nat×List (Ex×List Item))} {F:Dg (Ke 0 shs)->Option Bool} {fn:Func} {s:ChangeSpec} {ts:List TypeId} {rt:TypeId}
  (hm:P.follows .mixedOrders=true) (hext:∀ g args blks r blks',ext g args blks r blks'->CSpec P J g args blks r blks')
  (hE:Ai (He P cf ext) ⟨⟨g,0,Ke 0 shs,[.slot 0 (.cell .bool)],heads,outs,joins⟩,F⟩) (hD:∀ d,HB 0 (Ke 0 shs) (LC (Ke 0 shs) d)=some d) (hF:∀ d,WFQ 0 shs d->F d=some true)
  (hp:fn.params.toList=ts) (hr:fn.resultTypes.toList = [rt]) (hrt:P.underlying rt=some .bool) (hf:A31 P ts shs) (hl:laidOutB P=true) (hread:∀ t∈ts,P.readableRec t=true/\t<P.types.size) (hvars:s.vars = [])
  (hs:∀ ds:List (DataW H),ds.length=ts.length->s.fn H (ds ++ []) = { results:=[.lit (.bool true)],args:=ds,vars:=[] })
  {W:World} (hJ:∀ x∈J,W.heap[x.1]? = some x.2) {base:Nat} {args:Array Value} {ds gs:List (DataW H)} {before:List MemPlace}
  (hval:∀ (j:Nat) t v,fn.params[j]? = some t->args[j]? = some v->Value.okWide P W .any base t v) (hW:DataW.Whole enc P fn.params.toList s.vars false W args.toList ds gs before)
  (hsz:(DataW.weightsEach P (fn.params.toList++s.plain.varTypes P) (ds++gs)).all (· <= reachBytes)=true) :
  Calls P g args W fun e W'=>∃ v,e = .returned v/\s.post enc P fn false true false false W args v W':=by
 have hW':=hW;obtain ⟨p,q,hA,hV,rfl,hfz,hnd⟩:=hW;rw[hvars] at hV;obtain ⟨rfl,rfl⟩:=ChangeShapes.trodVars_none hV;rw[hp] at hA;have hlen:∀ {ts:List TypeId} {vs:List Value} {ds:List (DataW H)} {p:List MemPlace},DataW.TrodAll enc P W 0 (fun _=>true) true ts vs ds p->ds.length=ts.length:=by
  intro ts
  induction ts with
  | nil=>intro vs ds p h; obtain ⟨_,rfl,_⟩:=ChangeShapes.trodAll_nil h; rfl
  | cons t ts ih=>intro vs ds p h; obtain ⟨v,vs',d,ds',p1,q,rfl,rfl,rfl,h1,h2⟩:=ChangeShapes.trodAll_cons h; simp[ih h2]
 have hdl:=hlen hA;have hwt:∀ n∈DataW.weightsEach P ts ds,n<=reachBytes:=by
  intro n hn;have hmem:∀ (a b:List TypeId) (c d:List (DataW H)),∀ n∈DataW.weightsEach P a c,c.length=a.length->n∈DataW.weightsEach P (a++b) (c++d):=by
   intro a
   induction a with
   | nil=>intro b c d n hn hl; cases c <;> simp[DataW.weightsEach] at hn hl
   | cons t a ih =>
    intro b c d n hn hl;cases c with
    | nil=>simp[DataW.weightsEach] at hn
    | cons x c =>
     simp only[DataW.weightsEach,zb4,List.cons_append] at hn ⊢
     rcases hn with hn | hn
     ·exact .inl hn
     ·exact .inr (ih b c d n hn (by simpa using hl))
  rw[hp] at hsz;have:=za5.1 hsz n (hmem ts _ ds _ n hn hdl);simpa using this
 obtain ⟨xs,h1,h2⟩:=Ai0 hf hA (fun j t v h1 h2=>⟨base,hval j t v (by rw[<-hp] at h1; simpa using h1) (by simpa using h2)⟩) hwt;refine (A4O hm hext hE hD hF hJ h1 h2).mono fun e W' ⟨he,bel⟩=>?_
 subst he;obtain ⟨q',hq⟩:=Ag5 hl bel hread hA;refine ⟨_,rfl,ds,[],_,[],q',[],hW',?_,?_,?_,bel.frame _,fun h=>by cases h⟩
 ·rw[hs ds hdl,hr];have:((Value.bool true).resultList fn.resultTypes.size) = [.bool true]:=by
   have:fn.resultTypes.size=1:=by rw[<-Array.length_toList,hr]; rfl
   rw[this]; rfl
  rw[this];exact ChangeShapes.trodAll_mk1 (shut_bool hrt true)
 ·rw[hs ds hdl,hp];exact hq
 ·rw[hs ds hdl,hvars];rfl
end
end
section
open Go
theorem Aj {n:Int} (h1 : -9223372036854775808<=n) (h2:n<=9223372036854775807):IntKind.wrap .i64 n=n:=by rw[IntKind.wrap_i64]; omega
section
variable {σ τ ρ ρ':Type} {f : σ->Option (σ ⊕ ρ)} {g : τ->Option (τ ⊕ ρ')}
theorem AY {s s' : σ} (h:f s=some (.inl s')):Ah f s=Ah f s':=by rw[AW4,h]; rfl
theorem Aq {s : σ} {r : ρ} (h:f s=some (.inr r)):Ah f s=some r:=by rw[AW4,h]; rfl
theorem Fq {I : σ->Prop} {R : ρ->Prop} (m : σ->Nat) (h:∀ s,I s->(∃ s',f s=some (.inl s')/\I s'/\m s'<m s)\/∃ r,f s=some (.inr r)/\R r):∀ s,I s->∃ r,Ah f s=some r/\R r:=by
 have:∀ n s,m s<n->I s->∃ r,Ah f s=some r/\R r:=by
  intro n
  induction n with
  | zero=>intro s h; omega
  | succ n ih =>
   intro s hn hs;rcases h s hs with ⟨s',h1,h2,h3⟩ | ⟨r,h1,h2⟩
   ·obtain ⟨r,h4,h5⟩:=ih s' (by omega) h2;exact ⟨r,by rw[AY h1,h4],h5⟩
   ·exact ⟨r,Aq h1,h2⟩
 exact fun s hs=>this (m s + 1) s (by omega) hs
end
section
variable {α β γ:Type}
theorem Ao (l:List α) (i:Nat):AQ l (i:Int)=l[i]? := by
 unfold AQ;rw[if_pos (by omega)];simp
theorem A5 {i n:Nat} (h:i<n):A8 (i:Int) n=some i:=by
 unfold A8;rw[if_pos (by omega)];simp
theorem IC {n b s:Nat} (h1:n*b<=Ag) (h2:n*s<=Ag):Re (n:Int) b s=some n:=by
 unfold Re;rw[if_pos (by simp; omega)];simp
def AS3 (E : α->α->Option Bool):List α×List α×Int->Option ((List α×List α×Int) ⊕ (Unit ⊕ Bool)):=fun s=>bif decide (s.2.2<((s.1.length:Nat):Int)) then (AQ s.1 s.2.2).bind fun x0=>(AQ s.2.1 s.2.2).bind fun x1=>(E x0 x1).bind fun x2=>bif (!x2) then some (.inr (.inr false)) else some (Sum.inl (s.1,s.2.1,IntKind.wrap .i64 (s.2.2 + 1))) else some (.inr (.inl ()))
theorem A4S {E : α->α->Option Bool} {l m:List α} (hl:l.length<4611686018427387904) (hlm:m.length=l.length) (hE:∀ a∈l,∀ b∈m,∃ t:Bool,E a b=some t/\(t=true↔a=b)) :
  ∃ r:Unit ⊕ Bool,Ah (AS3 E) (l,m,0)=some r /\
   (l=m->r = .inl ())/\(l≠m->r = .inr false):=by
 refine Fq (f:=AS3 E)
  (I:=fun s=>∃ k:Nat,s=(l,m,(k:Int))/\k<=l.length/\∀ j:Nat,j<k->l[j]? = m[j]?) (fun s=>(((s.1.length:Nat):Int)-s.2.2).toNat) ?_ (l,m,0) ⟨0,rfl,by omega,fun j hj=>by omega⟩
 rintro s ⟨k,rfl,hk,hj⟩;by_cases hlt:k<l.length
 ·have e1:l[k]? = some l[k]:=za1 hlt;have e2:m[k]? = some (m[k]'(by omega)):=za1 (by omega);obtain ⟨t,h1,h2⟩:=hE l[k] (List.getElem_mem hlt) (m[k]'(by omega)) (List.getElem_mem (by omega));have hd:decide ((k:Int)<(l.length:Int))=true:=by simpa using hlt
  cases t with
  | true =>
   left
   refine ⟨(l,m,((k + 1:Nat):Int)),?_,⟨k + 1,rfl,hlt,fun j hj'=>?_⟩,?_⟩
   ·unfold AS3;simp only[Ao,e1,e2,za0,h1,hd];rw[Aj (by omega) (by omega)];rfl
   ·by_cases hjk:j=k
    ·subst hjk; rw[e1,e2,h2.1 rfl]
    ·exact hj j (by omega)
   ·simp only; omega
  | false =>
   right
   refine ⟨.inr false,?_,fun he=>?_,fun _=>rfl⟩
   ·unfold AS3;simp only[Ao,e1,e2,za0,h1,hd];rfl
   ·subst he;have:=h2.2 rfl;cases this
 ·right
  refine ⟨.inl (),?_,fun _=>rfl,fun hne=>?_⟩
  ·have:decide ((k:Int)<(l.length:Int))=false:=by simpa using hlt
   unfold AS3;simp only[this,cond_false]
  ·exfalso
   apply hne
   apply List.ext_getElem?
   intro j;by_cases hjl:j<k
   ·exact hj j hjl
   ·rw[ze1 (by omega),ze1 (by omega)]
end
section
variable {α σ ρ:Type} {body : σ->Option (σ ⊕ ρ)}
theorem KC {l:List α} {st:Nat->σ} {p : α->Bool} {fin : ρ} {bad:Nat->ρ} (hgo:∀ k a,l[k]? = some a->p a=true->body (st k)=some (.inl (st (k + 1)))) (hbad:∀ k a,l[k]? = some a->p a=false->body (st k)=some (.inr (bad k))) (hend:body (st l.length)=some (.inr fin)) :
  (l.all p=true->Ah body (st 0)=some fin)/\(l.all p=false->∃ k,k<l.length/\Ah body (st 0)=some (bad k)):=by
 have key:∀ (n k:Nat),k + n=l.length->((l.drop k).all p=true->Ah body (st k)=some fin)/\((l.drop k).all p=false->∃ j,j<l.length/\Ah body (st k)=some (bad j)):=by
  intro n
  induction n with
  | zero =>
   intro k hk;have:k=l.length:=by omega
   subst this;rw[List.drop_length];exact ⟨fun _=>Aq hend,(fun h=>by cases h)⟩
  | succ n ih =>
   intro k hk;have hlt:k<l.length:=by omega
   have hd:l.drop k=l[k]::l.drop (k + 1):=zb0 hlt;have he:l[k]? = some l[k]:=za1 hlt;rw[hd,zc9];cases hp:p l[k] with
   | true =>
    have h1:=hgo k _ he hp;obtain ⟨q1,q2⟩:=ih (k + 1) (by omega);rw[ze2,AY h1];exact ⟨q1,q2⟩
   | false =>
    rw[Bool.false_and];exact ⟨(fun h=>by cases h),fun _=>⟨k,hlt,Aq (hbad k _ he hp)⟩⟩
 have:=key l.length 0 (by omega)
 rwa [ze7] at this
end
section
def A1V:List Int×Int×Int->Option ((List Int×Int×Int) ⊕ (List Int×Int)):=fun s=>bif decide (s.2.2<((s.1.length:Nat):Int)) then (A8 s.2.2 s.1.length).bind fun x0=>(A1 s.1 x0).bind fun _=>some (Sum.inl (s.1.set x0 s.2.1,IntKind.wrap .i64 (s.2.1 + 1),IntKind.wrap .i64 (s.2.2 + 1))) else some (.inr (s.1,s.2.1))
def A2a:List Int×Int×Int->Option ((List Int×Int×Int) ⊕ (Int ⊕ Int)):=fun s=>bif decide (s.2.2<((s.1.length:Nat):Int)) then (AQ s.1 s.2.2).bind fun x0=>bif (x0 != s.2.1) then some (Sum.inr (Sum.inr (-1))) else some (Sum.inl (s.1,IntKind.wrap .i64 (s.2.1 + 1),IntKind.wrap .i64 (s.2.2 + 1))) else some (.inr (.inl s.2.1))
def Hd (b:Int) (n:Nat):List Int:=(List.range n).map fun (j:Nat)=>b + (j:Int)
theorem AR {k:Nat} (h:k<4611686018427387904):IntKind.wrap .i64 ((k:Int) + 1)=((k + 1:Nat):Int):=by rw[Aj (by omega) (by omega)]; omega
theorem A1w {l:List Int} {b:Int} (hl:l.length<1099511627776) (hb0 : 0<=b) (hb:b<1099511627776):Ah A1V (l,b,0)=some (Hd b l.length,b + l.length):=by
 obtain ⟨r,h1,h2⟩:=Fq (f:=A1V) (I:=fun s=>∃ (k:Nat) (acc:List Int),s=(acc,b + (k:Int),(k:Int))/\k<=l.length/\acc.length=l.length/\∀ j:Nat,j<k->acc[j]? = some (b + (j:Int))) (R:=fun r=>r=(Hd b l.length,b + (l.length:Int))) (fun s=>(((s.1.length:Nat):Int)-s.2.2).toNat) (by
   rintro s ⟨k,acc,rfl,hk,hacc,hj⟩;unfold A1V;by_cases hlt:k<l.length
   ·left
    have hd:decide ((k:Int)<((acc.length:Nat):Int))=true:=by rw[hacc]; simpa using hlt
    have e2:A1 acc k=some acc[k]:=za1 (by omega);refine ⟨(acc.set k (b + (k:Int)),b + ((k + 1:Nat):Int),((k + 1:Nat):Int)),?_,⟨k + 1,_,rfl,hlt,by simp[hacc],fun j hj'=>?_⟩,?_⟩
    ·simp only[hd,cond_true,A5 (show k<acc.length by omega),za0,e2,AR (show k<4611686018427387904 by omega)];rw[Aj (by omega) (by omega)];simp[Int.add_assoc]
    ·rw[List.getElem?_set];by_cases hjk:k=j
     ·subst hjk; rw[if_pos rfl,if_pos (by omega)]
     ·rw[if_neg hjk]; exact hj j (by omega)
    ·simp only[List.length_set]; omega
   ·right
    have hkl:k=l.length:=by omega
    subst hkl;have hd:decide ((l.length:Int)<((acc.length:Nat):Int))=false:=by rw[hacc]; simp
    refine ⟨(acc,b + (l.length:Int)),by simp only[hd,cond_false],?_⟩
    congr 1
    apply List.ext_getElem?
    intro j;unfold Hd;by_cases hjl:j<l.length
    ·rw[hj j hjl,zc8,List.getElem?_range hjl]; rfl
    ·rw[ze1 (by omega),ze1 (by simp; omega)])
  (l,b,0) ⟨0,l,by simp,by omega,rfl,fun j hj=>by omega⟩
 rw[h1,h2]
theorem A1A {n:Nat} {b:Int} (hl:n<1099511627776) (hb0 : 0<=b) (hb:b<1099511627776):Ah A2a (Hd b n,b,0)=some (.inl (b + n)):=by
 have hlen:(Hd b n).length=n:=by simp[Hd]
 obtain ⟨r,h1,h2⟩:=Fq (f:=A2a) (I:=fun s=>∃ (k:Nat),s=(Hd b n,b + (k:Int),(k:Int))/\k<=n) (R:=fun r=>r = .inl (b + (n:Int))) (fun s=>(((s.1.length:Nat):Int)-s.2.2).toNat) (by
   rintro s ⟨k,rfl,hk⟩;unfold A2a;by_cases hlt:k<n
   ·left
    have hd:decide ((k:Int)<(((Hd b n).length:Nat):Int))=true:=by rw[hlen]; simpa using hlt
    have e1:(Hd b n)[k]? = some (b + (k:Int)):=by unfold Hd; rw[zc8,List.getElem?_range hlt]; rfl
    refine ⟨(Hd b n,b + ((k + 1:Nat):Int),((k + 1:Nat):Int)),?_,⟨k + 1,rfl,hlt⟩,by simp only; omega⟩
    simp only[hd,cond_true,Ao,e1,za0,AR (show k<4611686018427387904 by omega),bne_self_eq_false,cond_false];rw[Aj (by omega) (by omega)];simp[Int.add_assoc]
   ·right
    have hkl:k=n:=by omega
    subst hkl;have hd:decide ((k:Int)<(((Hd b k).length:Nat):Int))=false:=by rw[hlen]; simp
    exact ⟨_,by simp only[hd,cond_false],rfl⟩)
  (Hd b n,b,0) ⟨0,by simp,by omega⟩
 rw[h1,h2]
end
theorem F9 {β:Type} {b s:Nat} {l m:List β} (h1:(l.length + m.length)*b<=Ag) (h2:(l.length + m.length)*s<=Ag):De b s l m=some (l++m):=by
 unfold De;rw[if_pos ⟨h1,h2⟩]
end
section
open Go
variable {P:Program} {J:Jl}
def A6m:Value:=.slice none 0 0
def JA (t tb:TypeId):Code :=
 .seq (.region 0 #[⟨some 2,.assign (.const A6m),t, "slices.go:355", #[],none⟩] false)
  (.seq (.seq (.region 1 #[⟨some 3,.move (.tmp 0),t, "slices.go:357", #[],none⟩,⟨some 4,.binOp .eql t (.tmp 3) (.const A6m) t,tb, "slices.go:357", #[⟨0,.data⟩],none⟩] false)
    (.cond (.tmp 4) (.seq (.region 2 #[⟨some 2,.assign (.const A6m),t, "slices.go:358", #[],none⟩] false) .ret) .skip))
   (.seq (.region 3 #[⟨some 5,.buildSlice t 0 #[],t, "slices.go:362", #[],none⟩,⟨some 6,.move (.tmp 0),t, "slices.go:362", #[],none⟩,
     ⟨some 7,.call ⟨.builtin .append,#[.tmp 5,.tmp 6],#[t,t]⟩,t, "slices.go:362", #[⟨0,.data⟩,⟨1,.data⟩],none⟩,
     ⟨some 2,.assign (.tmp 7),t, "slices.go:362", #[⟨2,.data⟩,⟨2,.chain⟩,⟨0,.phase⟩,⟨1,.phase⟩,⟨2,.phase⟩],none⟩] false) .ret))
def cfN (e size:Nat) (deep:Bool):Cfg:={ live:=fun _ _=>[],out:=fun _ _ _=>[],join:=fun _ _=>none,res:=fun _=>[.one (.own e size deep)],par:=fun _=>[(0,.one .keep)],rts:=fun _=>[],byref:=fun _=>[],isExt:=fun _=>false }
theorem A4k {g:FuncId} {fn:Func} {t tb e:TypeId} {d de:TyD} (hfn:P.funcs[g]? = some fn) (hb:fn.body=some (JA t tb)) (hok:VY fn (JA t tb) 1=true) (hr:fn.results.toList = [.tmp 2])
  (hd:AZ P t=some d) (he:d.elem=some e) (hde:AZ P e=some de) (hst:EO P t=false) (a:Option Addr) (c:Nat) :
  He P (cfN e de.size (de.zero.all YE)) (fun _ _ _ _ _=>False) g [.v (.slice a 0 c)] [] (.ar 0 0 0) [AV e de.size (de.zero.all YE) []]:=by
 refine He.intro rfl hfn hb hok rfl ?_
 rw[hr];have hsl:SL P t=true:=by unfold SL; rw[hd]; simp[he]
 cases a with
 | none =>
  simp[Fm,RG,XG,Ow,BI,Zl,YJ,lk,upd,J2,Ft,Ar,An,Am,F7,CX,Cn,lkB,AU,JA,we,reo,Cz,HH,isR,BC,AI,TN,AO,Ev.put,drawn,Jn,Dz,A6m,hsl,AD9,Av9,IE,cfN,outs,HD,Ol,A56,Kq,C1,AH1,Ai7,idx,Fk,AV,CU]
 | some a =>
  simp[Fm,RG,XG,Ow,BI,Zl,YJ,lk,upd,J2,Ft,Ar,An,Am,F7,CX,Cn,lkB,AU,JA,we,reo,Cz,HH,isR,BC,AI,TN,AO,Ev.put,drawn,Jn,Dz,A6m,hsl,AD9,Av9,IE,cfN,outs,HD,Ol,A56,Kq,C1,AH1,Ai7,idx,Fk,AV,CU,AF,hd,he,hde,CL,BL,Ei]
structure CloneOK (P:Program) (x:FuncId×TypeId×Nat×Bool):Prop where
 ok:∃ (fn:Func) (t tb:TypeId) (d de:TyD),P.funcs[x.1]? = some fn/\fn.body=some (JA t tb)/\VY fn (JA t tb) 1=true/\fn.results.toList = [.tmp 2] /\
  AZ P t=some d/\d.elem=some x.2.1/\AZ P x.2.1=some de/\EO P t=false/\de.size=x.2.2.1/\de.zero.all YE=x.2.2.2
theorem WW (hm:P.follows .mixedOrders=true) {x:FuncId×TypeId×Nat×Bool} (h:CloneOK P x) {v:V} (hv:v = .em\/v = .im []):CSpec P J x.1 [v] [] (.ar 0 0 0) [AV x.2.1 x.2.2.1 x.2.2.2 []]:=by
 obtain ⟨fn,t,tb,d,de,h1,h2,h3,h4,h5,h6,h7,h8,h9,h10⟩:=h.ok;have key:∀ (a:Option Addr) (c:Nat),CSpec P J x.1 [.v (.slice a 0 c)] [] (.ar 0 0 0) [AV x.2.1 x.2.2.1 x.2.2.2 []]:=by
  intro a c;obtain ⟨k,hk⟩:=A4k h1 h2 h3 h4 h5 h6 h7 h8 a c;rw[<-h9,<-h10];exact Qx hm (fun _ _ _ _ _ h=>h.elim) k _ _ _ _ _ hk
 refine ⟨(key none 0).enter,fun _ w A E vals hT hI hvl=>?_⟩
 obtain ⟨y,hy⟩:∃ y,vals.toList = [y]:=by
  match hl:vals.toList with
  | []=>rw[hl] at hvl; exact hvl.elim
  | [y]=>exact ⟨y,rfl⟩
  | _::_::_=>rw[hl] at hvl; exact hvl.2.elim
 rw[hy] at hvl;have hv1:=hvl.1;obtain ⟨a,c,hyc⟩:∃ a c,y = .slice a 0 c:=by
  rcases hv with rfl | rfl
  ·have hv1:Rep w A .em y:=hv1;cases hv1 with
   | em a=>exact ⟨a,0,rfl⟩
  ·have hv1:Rep w A (.im []) y:=hv1;cases hv1 with
   | im0 a c=>exact ⟨a,c,rfl⟩
   | im b off cap=>exact ⟨some ⟨b,off,none⟩,cap,rfl⟩
 subst hyc;have hk:=(key a c).calls rfl w A E vals hT hI (by rw[hy]; exact ⟨.v _ rfl,trivial⟩);refine hk.mono fun e w' he=>?_
 obtain ⟨y',E',G',q1,q2,q3,q4⟩:=he;refine ⟨y',E',G',q1,q2,q3,fun j hj=>?_⟩
 rcases hv with rfl | rfl <;> simp[An,Am] at hj
def Y7 (Rc:Rel) (tab:List (FuncId×TypeId×Nat×Bool)):Rel:=fun g args blks r blks' =>
 Rc g args blks r blks'\/∃ x∈tab,g=x.1/\(args = [.em]\/args = [.im []])/\blks = []/\r = .ar 0 0 0/\blks' = [AV x.2.1 x.2.2.1 x.2.2.2 []]
theorem Ap8 {cf:Cfg} {tab:List (FuncId×TypeId×Nat×Bool)} (hm:P.follows .mixedOrders=true) (ht:∀ x∈tab,CloneOK P x) :
  ∀ g args blks r blks',Y7 (He P cf fun _ _ _ _ _=>False) tab g args blks r blks'->CSpec P J g args blks r blks':=by
 intro g args blks r blks' h;rcases h with ⟨k,hk⟩ | ⟨x,hx,rfl,ha,rfl,rfl,rfl⟩
 ·exact Qx hm (fun _ _ _ _ _ h=>h.elim) k _ _ _ _ _ hk
 ·rcases ha with rfl | rfl
  ·exact WW hm (ht x hx) (.inl rfl)
  ·exact WW hm (ht x hx) (.inr rfl)
theorem Ba6 {t:Ty} {st:TSt} {x:Dg [.slot 0 (.cell (.im t))]} (h:HB 0 [.slot 0 (.cell (.im t))] st=some x):Hz st.hp t (CJ st.tm 0)=some (show List t.den from x):=by
 unfold HB at h
 split at h
 case isFalse=>cases h
 simp only[Lm,DE,tmS,tmC,tnS,tnV,tnC] at h;cases ha:Hz st.hp t (CJ st.tm 0) with
 | none=>rw[ha] at h; cases h
 | some l =>
  rw[ha] at h;simp only[Nat.zero_le,Nat.ble_eq,if_true] at h;have hc:∀ c,Sy 0 (HX [.slot 0 (.cell (.im t))]) { tm:=(0,.im t l)::st.tm,hp:=EP st.hp (frV (CJ st.tm 0)),c:=c }=some { tm:=[(0,.im t l)],hp:=[],c:=1 }:=fun c=>rfl
  rw[hc] at h;simp only[rdI,rdS,rdC,Nat.beq_refl,if_true,dite_true] at h;rw[<-Option.some.inj h];rfl
def A7s {α β:Type} (F:List α->Option (List β)) (l:List α):Option (List β):=match l with | []=>some [] | a::l=>F (a::l)
theorem A1x {ext:Rel} {cf:Cfg} {Rc:Rel} {tab:List (FuncId×TypeId×Nat×Bool)} {g:FuncId} {e:TypeId} {deep:Bool} {t:Ty} {heads joins:List (Nat×List Item)} {outs:List (Nat×List (Ex×List Item))} {F:List t.den->Option (List t.den)}
  (h:Ai Rc ⟨⟨g,0,[.slot 0 (.cell (.im t))],[.blk (.arr e deep t),.slot 0 (.ref 0 false)],heads,outs,joins⟩,F⟩) (hmem:(g,e,t.size,deep)∈tab) (hext:∀ g args blks r blks',Y7 Rc tab g args blks r blks'->ext g args blks r blks') :
  Ai (He P cf ext) ⟨⟨g,0,[.slot 0 (.cell (.im t))],[.blk (.arr e deep t),.slot 0 (.ref 0 false)],heads,outs,joins⟩,fun l=>A7s F l⟩:=by
 intro x y args blks st hF hs hd hid hlen href hb0;have ha:=Ba6 hd;cases hx:(show List t.den from x) with
 | cons a l =>
  have hx':x=(show Dg [.slot 0 (.cell (.im t))] from (a::l:List t.den)):=hx;subst hx';obtain ⟨r,blks',q1,q2⟩:=h _ y args blks st hF hs hd hid hlen href hb0;exact ⟨r,blks',He.ext (hext _ _ _ _ _ (.inl q1)),q2⟩
 | nil =>
  have hx':x=(show Dg [.slot 0 (.cell (.im t))] from ([]:List t.den)):=hx;subst hx';have hy:y=(show Dg [.blk (.arr e deep t),.slot 0 (.ref 0 false)] from ([]:List t.den)):=(Option.some.inj hF).symm;subst hy;obtain ⟨v,rfl⟩:∃ v,args = [v]:=by
   match args,hlen with
   | [v],_=>exact ⟨v,rfl⟩
  have hrefs:([v]:List V).flatMap An = []:=by
   cases hr:([v]:List V).flatMap An with
   | nil=>rfl
   | cons i l=>rw[hr] at href; simp[List.eraseDups_cons] at href
  have hv:=hs.tm 0;have hv:RV2 st.hp (CJ st.tm 0) v:=hv;have hcase:v = .em\/v = .im []:=by
   generalize CJ st.tm 0=u at ha hv;cases u with
   | em=>exact .inl hv
   | im t' l =>
    simp only[Hz,asL] at ha;rcases hv with ⟨_,hv⟩ | ⟨rows,hv,hl⟩
    ·exact .inl hv
    ·split at ha
     ·rename_i ht;subst ht;have h0:l = []:=by have:=Option.some.inj ha; exact this
      subst h0;have:rows = []:=zb7 (by have:=hl.1; simpa using this);subst this;exact .inr hv
     ·cases ha
   | ow id =>
    obtain ⟨n,rfl,_⟩:=hv;simp[An,Am] at hrefs
   | ar id lo n =>
    have hv:v = .ar id lo n:=hv;subst hv;simp[An,Am] at hrefs
   | _=>simp[Hz,asL] at ha
  have hblks:blks = []:=hb0 rfl;subst hblks;refine ⟨.ar 0 0 0,[AV e t.size deep []],He.ext (hext _ _ _ _ _ (.inr ⟨_,hmem,rfl,?_,rfl,rfl,rfl⟩)),?_,?_,rfl⟩
  ·rcases hcase with rfl | rfl
   ·exact .inl rfl
   ·exact .inr rfl
  ·exact ⟨0,rfl,fun b hb=>by cases hb; rfl⟩
  ·intro id b hb;have hb:AP [(0,some (TB.arr e deep t []))] id=some b:=hb;simp only[AP] at hb;cases hi:Nat.beq id 0 with
   | false=>rw[hi] at hb; cases hb
   | true =>
    rw[hi] at hb;have hb:some (TB.arr e deep t [])=some b:=hb;cases hb
    have:id=0:=za6 hi;subst this;exact ⟨_,rfl,rfl,rfl,rfl,rfl,RLx.nil⟩
end
section
open Go Go.RowKit
def A0p:(c:AC)->c.den->V->Prop
 | .int k,n,v=>v = .v (.int k n)
 | .bool,b,v=>v = .v (.bool b)
 | .str,s,v=>v = .v (.string ⟨s.toArray⟩)
 | .err,b,v=>v = .er b
 | .im t,l,v=>(l = []/\v = .em)\/∃ rows,v = .im rows/\RLx (RE t) l rows
 | .at _,_,_=>False
section
variable {hp hp':THp} {u v:SV} {a:V} {b n:Nat} {c:AC}
theorem A1T (hc:c.isU=false) (h:tnC (tmC [] c) u hp b=some (v,hp',n)) (hr:RV2 hp u a) (ha:An a = []):hp'=hp/\∀ f d,rdC c (B5 f v)=some d->A0p c d a:=by
 cases c with
 | «at» j=>cases hc
 | im t =>
  simp only[tmC,tnC] at h;cases hl:Hz hp t u with
  | none=>rw[hl] at h; cases h
  | some l =>
   rw[hl] at h;simp only[Option.some.injEq,Prod.mk.injEq] at h;obtain ⟨rfl,rfl,_⟩:=h;have key:frV u = []/\A0p (.im t) l a:=by
    cases u with
    | em =>
     simp only[Hz,asL,Option.some.injEq] at hl;subst hl;exact ⟨rfl,.inl ⟨rfl,hr⟩⟩
    | im t' l' =>
     simp only[Hz,asL] at hl
     split at hl
     ·rename_i ht;subst ht;have hl:l'=l:=Option.some.inj hl;subst hl;exact ⟨rfl,hr⟩
     ·cases hl
    | ow id =>
     obtain ⟨m,rfl,_⟩:=hr;simp[An,Am] at ha
    | ar id lo m =>
     have hr:a = .ar id lo m:=hr;subst hr;simp[An,Am] at ha
    | _=>simp[Hz,asL] at hl
   refine ⟨by rw[key.1]; rfl,fun f d hd=>?_⟩
   simp only[B5,EN,rdC,dite_true] at hd;have hd:l=d:=Option.some.inj hd;subst hd;exact key.2
 | int k =>
  simp only[tmC,tnC,Option.some.injEq,Prod.mk.injEq] at h;obtain ⟨rfl,rfl,_⟩:=h;refine ⟨rfl,fun f d hd=>?_⟩
  cases u with
  | int k' m =>
   simp only[B5,EN,rdC] at hd
   split at hd
   ·rename_i hk; subst hk; cases hd; exact hr
   ·cases hd
  | ow id=>simp only[B5,EN] at hd; split at hd <;> cases hd
  | ar id lo m=>simp only[B5,EN] at hd; split at hd <;> cases hd
  | rf id r c=>simp only[B5,EN] at hd; split at hd <;> cases hd
  | cl g caps=>cases hd
  | _=>cases hd
 | bool =>
  simp only[tmC,tnC,Option.some.injEq,Prod.mk.injEq] at h;obtain ⟨rfl,rfl,_⟩:=h;refine ⟨rfl,fun f d hd=>?_⟩
  cases u with
  | bool m=>cases hd; exact hr
  | ow id=>simp only[B5,EN] at hd; split at hd <;> cases hd
  | ar id lo m=>simp only[B5,EN] at hd; split at hd <;> cases hd
  | rf id r c=>simp only[B5,EN] at hd; split at hd <;> cases hd
  | cl g caps=>cases hd
  | _=>cases hd
 | str =>
  simp only[tmC,tnC,Option.some.injEq,Prod.mk.injEq] at h;obtain ⟨rfl,rfl,_⟩:=h;refine ⟨rfl,fun f d hd=>?_⟩
  cases u with
  | str m=>cases hd; exact hr
  | ow id=>simp only[B5,EN] at hd; split at hd <;> cases hd
  | ar id lo m=>simp only[B5,EN] at hd; split at hd <;> cases hd
  | rf id r c=>simp only[B5,EN] at hd; split at hd <;> cases hd
  | cl g caps=>cases hd
  | _=>cases hd
 | err =>
  simp only[tmC,tnC,Option.some.injEq,Prod.mk.injEq] at h;obtain ⟨rfl,rfl,_⟩:=h;refine ⟨rfl,fun f d hd=>?_⟩
  cases u with
  | er m=>cases hd; exact hr
  | ow id=>simp only[B5,EN] at hd; split at hd <;> cases hd
  | ar id lo m=>simp only[B5,EN] at hd; split at hd <;> cases hd
  | rf id r c=>simp only[B5,EN] at hd; split at hd <;> cases hd
  | cl g caps=>cases hd
  | _=>cases hd
end
theorem Bm9 {c:AC} {st:TSt} {x:Dg [.slot 0 (.cell c)]} {a:V} (hc:c.isU=false) (h:HB 0 [.slot 0 (.cell c)] st=some x) (hr:RV2 st.hp (CJ st.tm 0) a) (ha:An a = []) :
  ∃ d,x=OJ (.slot 0 (.cell c)) [] d ()/\A0p c d a:=by
 unfold HB at h
 split at h
 case isFalse=>cases h
 simp only[Lm,DE,tmS,tnS,tnV] at h;cases h1:tnC (tmC [] c) (CJ st.tm 0) st.hp (16*st.c) with
 | none=>rw[h1] at h; cases h
 | some z =>
  obtain ⟨v,hp1,n⟩:=z;rw[h1] at h;simp only at h
  split at h
  case h_2=>cases h
  rename_i st1 hle
  split at hle
  case isFalse=>cases hle
  cases hle
  obtain ⟨rfl,h2⟩:=A1T hc h1 hr ha
  split at h
  case h_2=>cases h
  rename_i st2 hst2;unfold Sy at hst2
  split at hst2
  case isFalse=>cases hst2
  split at hst2
  case h_2=>cases hst2
  rename_i o ho
  split at hst2
  case isFalse=>cases hst2
  have hst2:=Option.some.inj hst2;subst hst2;simp only[HX,zb8,List.map_nil,CJ,Nat.beq_refl,cond_true] at h;cases hhp:GE st.hp (Ec o) 0 o with
  | cons y l=>rw[hhp] at h; simp only[rdI,Nat.beq_refl,if_true] at h; split at h <;> cases h
  | nil =>
   rw[hhp] at h;simp only[rdI,Nat.beq_refl,if_true,rdS] at h
   split at h
   ·rename_i d hd;exact ⟨d,(Option.some.inj h).symm,h2 _ _ hd⟩
   ·cases h
theorem Bl6 {c c':AC} {st:TSt} {x:Dg [.slot 0 (.cell c),.slot 1 (.cell c')]} {a a':V} (hc:c.isU=false) (hc':c'.isU=false) (h:HB 0 [.slot 0 (.cell c),.slot 1 (.cell c')] st=some x)
  (hr:RV2 st.hp (CJ st.tm 0) a) (hr':RV2 st.hp (CJ st.tm 1) a') (ha:An a = []) (ha':An a' = []) :
  ∃ d d',x=OJ (.slot 0 (.cell c)) [.slot 1 (.cell c')] d (OJ (.slot 1 (.cell c')) [] d' ())/\A0p c d a/\A0p c' d' a':=by
 unfold HB at h
 split at h
 case isFalse=>cases h
 simp only[Lm,DE,tmS,tnS,tnV] at h;cases h1:tnC (tmC [] c) (CJ st.tm 0) st.hp (16*st.c) with
 | none=>rw[h1] at h; cases h
 | some z =>
  obtain ⟨v,hp1,n⟩:=z;rw[h1] at h;simp only at h;obtain ⟨rfl,h2⟩:=A1T hc h1 hr ha
  split at h
  case h_2=>cases h
  rename_i st1 hle
  split at hle
  case isFalse=>cases hle
  have hg:CJ ((0,v)::st.tm) 1=CJ st.tm 1:=rfl;rw[hg] at hle;cases h3:tnC (tmC [] c') (CJ st.tm 1) st.hp (16*(st.c + 1)) with
  | none=>rw[h3] at hle; cases hle
  | some z =>
   obtain ⟨v',hp2,n'⟩:=z;rw[h3] at hle;simp only at hle;obtain ⟨rfl,h4⟩:=A1T hc' h3 hr' ha'
   split at hle
   case isFalse=>cases hle
   cases hle
   split at h
   case h_2=>cases h
   rename_i st2 hst2;unfold Sy at hst2
   split at hst2
   case isFalse=>cases hst2
   split at hst2
   case h_2=>cases hst2
   rename_i o ho
   split at hst2
   case isFalse=>cases hst2
   have hst2:=Option.some.inj hst2;subst hst2;have g0:CJ ((1,v')::(0,v)::st.tm) 0=v:=rfl;have g1:CJ ((1,v')::(0,v)::st.tm) 1=v':=rfl;simp only[HX,zb8,List.map_nil,g0,g1] at h;cases hhp:GE st.hp (Ec o) 0 o with
   | cons y l =>
    rw[hhp] at h;cases e1:rdS (.cell c) (B5 (Ec o) v) with
    | none=>simp[rdI,e1] at h
    | some d=>cases e2:rdS (.cell c') (B5 (Ec o) v') with
     | none=>simp[rdI,e1,e2] at h
     | some d'=>simp[rdI,e1,e2] at h
   | nil =>
    rw[hhp] at h;cases e1:rdS (.cell c) (B5 (Ec o) v) with
    | none=>simp[rdI,e1] at h
    | some d=>cases e2:rdS (.cell c') (B5 (Ec o) v') with
     | none=>simp[rdI,e1,e2] at h
     | some d' =>
      simp only[rdI,e1,e2,Nat.beq_refl,if_true,Option.some.injEq] at h;exact ⟨d,d',h.symm,h2 _ _ e1,h4 _ _ e2⟩
section
variable {P:Program} {J:Jl} {cf:Cfg} {ext:Rel}
theorem Av7 {args:List V} (h:(args.flatMap An).eraseDups.length=0):∀ v∈args,An v = []:=by
 have h0:args.flatMap An = []:=by
  cases hr:args.flatMap An with
  | nil=>rfl
  | cons i l=>rw[hr] at h; simp[List.eraseDups_cons] at h
 intro v hv;rw[List.flatMap_eq_nil_iff] at h0;exact h0 v hv
theorem AT9 {g:FuncId} {c:AC} {res:List Item} {F:Dg [.slot 0 (.cell c)]->Option (Dg res)} (hc:c.isU=false)
  (h:∀ d y a,A0p c d a->F (OJ (.slot 0 (.cell c)) [] d ())=some y->∃ r blks',ext g [a] [] r blks'/\ResRel res y r blks') :
  Ai (He P cf ext) ⟨⟨g,0,[.slot 0 (.cell c)],res,[],[],[]⟩,F⟩:=by
 intro x y args blks st hF hs hd hid hlen href hb0
 match args,hlen with
 | [a],_ =>
  have hb:blks = []:=hb0 rfl;subst hb;have hn:=Av7 href;have h0:RV2 st.hp (CJ st.tm 0) a:=hs.tm 0;obtain ⟨d,rfl,hA⟩:=Bm9 hc hd h0 (hn a (by simp));obtain ⟨r,blks',h1,h2⟩:=h d y a hA hF;exact ⟨r,blks',He.ext h1,h2⟩
theorem A0P {g:FuncId} {c c':AC} {res:List Item} {F:Dg [.slot 0 (.cell c),.slot 1 (.cell c')]->Option (Dg res)} (hc:c.isU=false) (hc':c'.isU=false)
  (h:∀ d d' y a a',A0p c d a->A0p c' d' a'->F (OJ (.slot 0 (.cell c)) [.slot 1 (.cell c')] d (OJ (.slot 1 (.cell c')) [] d' ()))=some y->∃ r blks',ext g [a,a'] [] r blks'/\ResRel res y r blks') :
  Ai (He P cf ext) ⟨⟨g,0,[.slot 0 (.cell c),.slot 1 (.cell c')],res,[],[],[]⟩,F⟩:=by
 intro x y args blks st hF hs hd hid hlen href hb0
 match args,hlen with
 | [a,a'],_ =>
  have hb:blks = []:=hb0 rfl;subst hb;have hn:=Av7 href;have h0:RV2 st.hp (CJ st.tm 0) a:=hs.tm 0;have h1:RV2 st.hp (CJ st.tm 1) a':=hs.tm 1;obtain ⟨d,d',rfl,hA,hA'⟩:=Bl6 hc hc' hd h0 h1 (hn a (by simp)) (hn a' (by simp));obtain ⟨r,blks',h1,h2⟩:=h d d' y a a' hA hA' hF;exact ⟨r,blks',He.ext h1,h2⟩
def An4 (P:Program) (g:FuncId):Prop:=∃ fn,P.funcs[g]? = some fn/\TO fn=true/\fn.body.isSome=true
theorem A0j {E:Env} {b:Nat}:¬Own E (lkB []) b:=fun ⟨id,k,hk,_⟩=>by simp[lkB] at hk
theorem Av8 {w w':World} {A:Nat->Prop} {E:Env} (hI:HpInv w (Own E (lkB [])) A E A (lkB []) w) (h:Below w.heap.size w w'):HpInv w (Own E (lkB [])) A E A (lkB []) w':=by
 refine ⟨⟨h.os,h.tape,h.output,h.size,fun b hb _=>h.block b hb,fun b cur ty fz hb=>⟨cur,fz,?_,rfl⟩⟩,fun b hb=>?_,fun b _=>A0j,fun b hb=>absurd hb A0j,fun id k id' k' hk=>by simp[lkB] at hk,fun id k b hk=>by simp[lkB] at hk,fun id k hk=>by simp[lkB] at hk⟩
 ·rw[h.block b (Array.getElem?_eq_some_iff.1 hb).1]; exact hb
 ·have h1:=hI.g1 b hb;have:=h.size;exact ⟨by omega,h1.2⟩
theorem OT {g:FuncId} {args:List V} {r:V} (hent:An4 P g)
  (h:∀ (w:World) (A:Nat->Prop) (E:Env) (vals:List Value),(∀ x∈J,w.heap[x.1]? = some x.2)->(∀ b,A b->b<w.heap.size)->VL (VR1 w E (lkB []) A) args vals ->
   Calls P g vals.toArray w fun e w'=>∃ y,e = .returned y/\Below w.heap.size w w'/\VR2 w' E (lkB []) A r y):CSpec P J g args [] r []:=by
 refine ⟨hent,fun _ w A E vals hT hI hvl=>?_⟩
 refine (show Calls P g vals w _ from (h w A E vals.toList (fun x hx=>(hT x hx).1) (fun b hb=>(hI.g1 b hb).1) hvl)).mono ?_
 rintro e w' ⟨y,rfl,hb,hv⟩;exact ⟨y,E,A,rfl,Av8 hI hb,hv,fun j _ k' hk=>by simp at hk⟩
theorem AW5 {g:FuncId} {args:List V} {e size:Nat} {deep:Bool} {rows:List (List V)} (hent:An4 P g) (h0 : 0<size) (hna:args.flatMap An = [])
  (h:∀ (w:World) (A:Nat->Prop) (E:Env) (vals:List Value),(∀ x∈J,w.heap[x.1]? = some x.2)->(∀ b,A b->b<w.heap.size)->VL (VR1 w E (lkB []) A) args vals ->
   Calls P g vals.toArray w fun ee w'=>∃ (b cap:Nat) (cur:Array Value),ee = .returned (.slice (some ⟨b,0,none⟩) rows.length cap)/\Below w.heap.size w w'/\w.heap.size<=b/\b<w'.heap.size/\w'.heap[b]? = some (.cells cur e (0,0)) /\
    cur.size=cap*size/\cap<=maxLen/\rows.length<=cap/\(∀ (i:Nat) (row:List V),rows[i]? = some row->row.length=size) /\
    ∀ (i j:Nat) (row:List V) (x:V),rows[i]? = some row->row[j]? = some x->∃ u,cur[i*size + j]? = some u/\∀ G,Rep w' G x u):CSpec P J g args [] (.ar 0 0 rows.length) [AV e size deep rows]:=by
 refine ⟨hent,fun _ w A E vals hT hI hvl=>?_⟩
 refine (show Calls P g vals w _ from (h w A E vals.toList (fun x hx=>(hT x hx).1) (fun b hb=>(hI.g1 b hb).1) hvl)).mono ?_
 rintro ee w' ⟨b,cap,cur,rfl,hb,hbn,hbs,hbk,hsz,hcap,hle,hrl,hre⟩;have hk0:∀ id k,lkB [AV e size deep rows] id=some k->id=0/\k=AV e size deep rows:=by
  intro id k hk;cases id with
  | zero=>simp[lkB] at hk; exact ⟨rfl,hk.symm⟩
  | succ id=>simp[lkB] at hk
 have hown:∀ x,Own ⟨fun i=>if i=0 then some b else none,fun _ _=>False⟩ (lkB [AV e size deep rows]) x->x=b:=by
  rintro x ⟨id,k,hk,_,hx⟩;obtain ⟨rfl,rfl⟩:=hk0 id k hk;rcases hx with hx | hx
  ·simpa using hx.symm
  ·exact hx.elim
 have hI':=Av8 hI hb;refine ⟨_,⟨fun i=>if i=0 then some b else none,fun _ _=>False⟩,A,rfl,⟨hI'.fr,hI'.g1,fun x hx ho=>?_,fun x ho=>?_,fun id k id' k' hk _ hk' _ _ _ _=>?_,fun id k x _ _ _ hn=>hn,fun id k hk=>?_⟩,?_,fun j hj k' hk'=>?_⟩
 ·rw[hown x ho] at hx;have:=(hI.g1 b hx).1;omega
 ·rw[hown x ho];exact ⟨hbs,.inr hbn⟩
 ·rw[(hk0 id k hk).1,(hk0 id' k' hk').1]
 ·obtain ⟨rfl,rfl⟩:=hk0 id k hk;exact .inr ⟨b,cur,cap,rfl,hbk,h0,hsz,hcap,hle,hrl,fun i j row x h1 h2=>by
   obtain ⟨u,h3,h4⟩:=hre i j row x h1 h2;exact ⟨u,h3,h4 _⟩⟩
 ·refine ⟨some ⟨b,0,none⟩,cap,rfl,fun k hk=>?_⟩
  have hk:some (AV e size deep rows)=some k:=hk;cases hk
  refine ⟨by simp[AV],by simp[AV],.inr ⟨b,cur,e,(0,0),rfl,by simp,hle,hbk,by simp[AV]; exact hsz⟩⟩
 ·rw[hna] at hj; cases hj
end
end
section
open Go Go.RowKit
section
variable {P:Program} {J:Jl} {cf:Cfg} {ext:Rel} {g:FuncId}
def Be5 (P:Program) (J:Jl) (name:String) (k:IntKind) (zs:List Int):Prop:=∀ w:World,(∀ x∈J,w.heap[x.1]? = some x.2)->Lib.TabIs P w name k zs
theorem A9J {w:World} {E:Env} {A:Nat->Prop} {x:Value} {ys:List Value} (h:VL (VR1 w E (lkB []) A) [.v x] ys):ys = [x]:=by
 match ys,h with
 | [y],h =>
  have h1:Rep w A (.v x) y:=h.1;cases h1
  rfl
 | [],h=>exact h.elim
 | _::_::_,h=>exact h.2.elim
theorem A9U {w:World} {E:Env} {A:Nat->Prop} {x x':Value} {ys:List Value} (h:VL (VR1 w E (lkB []) A) [.v x,.v x'] ys):ys = [x,x']:=by
 match ys,h with
 | [y,z],h =>
  have h1:Rep w A (.v x) y:=h.1;have h2:Rep w A (.v x') z:=h.2.1;cases h1
  cases h2
  rfl
 | [],h=>exact h.elim
 | [_],h=>exact h.2.elim
 | _::_::_::_,h=>exact h.2.2.elim
def ZW (n:Int):Option Str:=if -9223372036854775808<=n/\n<=9223372036854775807 then some (Lib.itoa n) else none
def AG6 (g:FuncId):Rel:=fun g' args blks r blks'=>g'=g/\∃ n:Int,-9223372036854775808<=n/\n<=9223372036854775807/\args = [.v (.int .i64 n)]/\blks = []/\r = .v (.string ⟨(Lib.itoa n).toArray⟩)/\blks' = []
def Bg6 (g:FuncId):FAnn:=⟨g,0,[.slot 0 (.cell (.int .i64))],[.slot 0 (.cell .str)],[],[],[]⟩
theorem A37 (hent:An4 P g) (hc:∀ (n:Int) (h0 : -9223372036854775808<=n) (h1:n<=9223372036854775807) (w:World) (htab:Lib.TabIs P w "internal/strconv.uint64pow10" .u64 Lib.pow10Tab),
  Calls P g #[.int .i64 n] w fun e w'=>e = .returned (.string ⟨(Lib.itoa n).toArray⟩)/\∃ k os,w'=Sort.grow (w.drewN k) os) (hJ:Be5 P J "internal/strconv.uint64pow10" .u64 Lib.pow10Tab) :
  ∀ g' args blks r blks',AG6 g g' args blks r blks'->CSpec P J g' args blks r blks':=by
 rintro g' args blks r blks' ⟨rfl,n,h0,h1,rfl,rfl,rfl,rfl⟩;refine OT hent fun w A E vals hT hA hvl=>?_
 rw[A9J hvl];refine (hc n h0 h1 w (hJ w hT)).mono ?_
 rintro e w' ⟨rfl,k,os,rfl⟩;exact ⟨_,rfl,Lib.below_grow _ w (za7 _) k os,.v _ rfl⟩
theorem A6e (hx:∀ g' args blks r blks',AG6 g g' args blks r blks'->ext g' args blks r blks'):Ai (He P cf ext) ⟨Bg6 g,ZW⟩:=by
 refine AT9 rfl fun d y a ha hF=>?_
 have hF:ZW d=some y:=hF;unfold ZW at hF
 split at hF
 ·rename_i h;cases hF
  have ha:a = .v (.int .i64 d):=ha;exact ⟨_,[],hx _ _ _ _ _ ⟨rfl,d,h.1,h.2,by rw[ha],rfl,rfl,rfl⟩,rfl,fun id b hb=>by simp[BM,AP] at hb,rfl⟩
 ·cases hF
def A8K (J:Jl) (k:Nat):Prop:=∀ w:World,(∀ x∈J,w.heap[x.1]? = some x.2)->∃ m:Int,w.cell? ⟨k,0,none⟩=some (.int .i64 m)
def K9 (s sub:Str):Option Bool:=if s.length<4294967281 then some (Lib.contains s sub) else none
def Qj (g:FuncId):Rel:=fun g' args blks r blks'=>g'=g/\∃ s p:Str,s.length<4294967281/\args = [.v (.string ⟨s.toArray⟩),.v (.string ⟨p.toArray⟩)]/\blks = []/\r = .v (.bool (Lib.contains s p))/\blks' = []
def A4M (g:FuncId):FAnn:=⟨g,0,[.slot 0 (.cell .str),.slot 1 (.cell .str)],[.slot 0 (.cell .bool)],[],[],[]⟩
theorem An7 {k:Nat} (hent:An4 P g) (hc:∀ (s sub:ByteArray) (m:Int) (w:World) (hs:s.size<4294967281) (hm:w.cell? ⟨k,0,none⟩=some (.int .i64 m)),
  Calls P g #[.string s,.string sub] w fun e w'=>e = .returned (.bool (Lib.contains s.data.toList sub.data.toList))/\w'=w) (hJ:A8K J k) :
  ∀ g' args blks r blks',Qj g g' args blks r blks'->CSpec P J g' args blks r blks':=by
 rintro g' args blks r blks' ⟨rfl,s,p,hs,rfl,rfl,rfl,rfl⟩;refine OT hent fun w A E vals hT hA hvl=>?_
 rw[A9U hvl];obtain ⟨m,hm⟩:=hJ w hT;refine (hc ⟨s.toArray⟩ ⟨p.toArray⟩ m w (by simpa[ByteArray.size] using hs) hm).mono ?_
 rintro e w' ⟨rfl,rfl⟩;exact ⟨_,rfl,Below.refl _ _,.v _ rfl⟩
theorem AK8 (hx:∀ g' args blks r blks',Qj g g' args blks r blks'->ext g' args blks r blks'):Ai (He P cf ext) ⟨A4M g,fun x=>K9 x.1 x.2⟩:=by
 refine A0P rfl rfl fun d d' y a a' ha ha' hF=>?_
 have hF:K9 d d'=some y:=hF;unfold K9 at hF
 split at hF
 ·rename_i h;cases hF
  have ha:a = .v (.string ⟨(show Str from d).toArray⟩):=ha;have ha':a' = .v (.string ⟨(show Str from d').toArray⟩):=ha';exact ⟨_,[],hx _ _ _ _ _ ⟨rfl,d,d',h,by rw[ha,ha'],rfl,rfl,rfl⟩,rfl,fun id b hb=>by simp[BM,AP] at hb,rfl⟩
 ·cases hF
def Gf (s sep:Str):List Str:=(Lib.splitB ⟨sep.toArray⟩ 0 (Lib.countB ⟨s.toArray⟩ ⟨sep.toArray⟩) ⟨s.toArray⟩).map fun b=>b.data.toList
def QD (s sep:Str):Option (List Str):=if s.length<4294967281/\1<=sep.length then some (Gf s sep) else none
def Af8 (g:FuncId) (e:TypeId):Rel:=fun g' args blks r blks'=>g'=g/\∃ s p:Str,s.length<4294967281/\1<=p.length/\args = [.v (.string ⟨s.toArray⟩),.v (.string ⟨p.toArray⟩)]/\blks = [] /\
 r = .ar 0 0 ((Gf s p).map fun x=>[V.v (.string ⟨x.toArray⟩)]).length/\blks' = [AV e 1 true ((Gf s p).map fun x=>[V.v (.string ⟨x.toArray⟩)])]
def Ba9 (g:FuncId) (e:TypeId):FAnn:=⟨g,0,[.slot 0 (.cell .str),.slot 1 (.cell .str)],[.blk (.arr e true .str),.slot 0 (.ref 0 false)],[],[],[]⟩
theorem A1c {k:Nat} {e:TypeId} (hent:An4 P g) (hc:∀ (s sep:ByteArray) (m:Int) (w:World) (hs:s.size<4294967281) (hm:w.cell? ⟨k,0,none⟩=some (.int .i64 m)) (h1 : 1<=sep.size),
  Calls P g #[.string s,.string sep] w fun ee w'=>ee = .returned (.slice (some ⟨w.heap.size,0,none⟩) (Lib.countB s sep + 1) (Lib.countB s sep + 1))/\w'=w.alloc (.cells ((Lib.splitB sep 0 (Lib.countB s sep) s).map Value.string).toArray e)) (hJ:A8K J k) :
  ∀ g' args blks r blks',Af8 g e g' args blks r blks'->CSpec P J g' args blks r blks':=by
 rintro g' args blks r blks' ⟨rfl,s,p,hs,hp,rfl,rfl,rfl,rfl⟩;refine AW5 hent (by decide) rfl fun w A E vals hT hA hvl=>?_
 rw[A9U hvl];obtain ⟨m,hm⟩:=hJ w hT;refine (hc ⟨s.toArray⟩ ⟨p.toArray⟩ m w (by simpa[ByteArray.size] using hs) hm (by simpa[ByteArray.size] using hp)).mono ?_
 rintro ee w' ⟨rfl,rfl⟩;have h1 : 1<=(⟨p.toArray⟩:ByteArray).size:=by simpa[ByteArray.size] using hp
 have hl:=Lib.splitB_all ⟨p.toArray⟩ h1 0 _ ⟨s.toArray⟩ rfl;have hk:=Lib.countB_le ⟨p.toArray⟩ h1 _ ⟨s.toArray⟩ (za7 _);have hk':Lib.countB ⟨s.toArray⟩ ⟨p.toArray⟩<=s.length:=by simpa[ByteArray.size] using hk
 have hrl:((Gf s p).map fun x=>[V.v (.string ⟨x.toArray⟩)]).length=Lib.countB ⟨s.toArray⟩ ⟨p.toArray⟩ + 1:=by unfold Gf; simp[hl]
 refine ⟨w.heap.size,Lib.countB ⟨s.toArray⟩ ⟨p.toArray⟩ + 1,((Lib.splitB ⟨p.toArray⟩ 0 (Lib.countB ⟨s.toArray⟩ ⟨p.toArray⟩) ⟨s.toArray⟩).map Value.string).toArray,by rw[hrl],(Below.refl _ w).alloc (za7 _) _,za7 _,by simp,by unfold World.alloc; simp,by simp[hl],by unfold maxLen; omega,by omega,fun i row hr=>?_,fun i j row x hr hx=>?_⟩
 ·rw[zc8] at hr;cases hz:(Gf s p)[i]? with
  | none=>rw[hz] at hr; cases hr
  | some z=>rw[hz] at hr; cases hr; rfl
 ·rw[zc8] at hr;cases hz:(Gf s p)[i]? with
  | none=>rw[hz] at hr; cases hr
  | some z =>
   rw[hz] at hr;cases hr
   cases j with
   | succ j=>simp at hx
   | zero =>
    simp at hx;subst hx;unfold Gf at hz;rw[zc8,zb5] at hz;obtain ⟨b,hb,rfl⟩:=hz;refine ⟨.string b,?_,fun G=>?_⟩
    ·simp[hb]
    ·exact .v _ rfl
theorem A5E {e:TypeId} (hx:∀ g' args blks r blks',Af8 g e g' args blks r blks'->ext g' args blks r blks'):Ai (He P cf ext) ⟨Ba9 g e,fun x=>QD x.1 x.2⟩:=by
 refine A0P rfl rfl fun d d' y a a' ha ha' hF=>?_
 have hF:QD d d'=some y:=hF;unfold QD at hF
 split at hF
 ·rename_i h;cases hF
  have ha:a = .v (.string ⟨(show Str from d).toArray⟩):=ha;have ha':a' = .v (.string ⟨(show Str from d').toArray⟩):=ha';refine ⟨_,_,hx _ _ _ _ _ ⟨rfl,d,d',h.1,h.2,by rw[ha,ha'],rfl,rfl,rfl⟩,⟨_,rfl,fun b hb=>?_⟩,fun id b hb=>?_,rfl⟩
  ·have hb:some (TB.arr e true .str (Gf d d'))=some b:=hb;cases hb
   simp[FD]
  ·have hb:AP [(0,some (TB.arr e true .str (Gf d d')))] id=some b:=hb;simp only[AP] at hb;cases hi:Nat.beq id 0 with
   | false=>rw[hi] at hb; cases hb
   | true =>
    rw[hi] at hb;have hb:some (TB.arr e true .str (Gf d d'))=some b:=hb;cases hb
    have:id=0:=za6 hi;subst this;refine ⟨_,rfl,rfl,rfl,rfl,rfl,by simp[AV],fun i x row h1 h2=>?_⟩
    have h2:((Gf d d').map fun x=>[V.v (.string ⟨x.toArray⟩)])[i]? = some row:=h2;have h1:(Gf d d')[i]? = some x:=h1;rw[zc8,h1] at h2;cases h2
    rfl
 ·cases hF
def A6P (P:Program) (J:Jl) (name:String):Prop:=∀ w:World,(∀ x∈J,w.heap[x.1]? = some x.2)->∃ tp p,w.var? P name=some #[.iface tp p]
def Rx (s:Str):Int×Bool:=match Lib.atoiAll s with | .ok v=>(v,false) | .range=>(Lib.atoiSat s,true) | _=>(0,true)
def ZC (s:Str):Option (Int×Bool):=if s.length<=281474976710656 then some (Rx s) else none
def AF3 (g:FuncId):Rel:=fun g' args blks r blks'=>g'=g/\∃ s:Str,s.length<=281474976710656/\args = [.v (.string ⟨s.toArray⟩)]/\blks = []/\r = .tup [.v (.int .i64 (Rx s).1),.er (Rx s).2]/\blks' = []
def Bj4 (g:FuncId):FAnn:=⟨g,0,[.slot 0 (.cell .str)],[.slot 0 (.cell (.int .i64)),.slot 1 (.cell .err)],[],[],[]⟩
theorem A4i {t5 t1 t2:TypeId} (hent:An4 P g) (hok:∀ (s:ByteArray) (hmax:s.size<=9223372036854775806) (v:Int) (h:Lib.atoiAll s.data.toList = .ok v) (w:World),
   Calls P g #[.string s] w fun e w'=>e = .returned (.tuple #[.int .i64 v,.nilIface])/\(w'=w\/∃ t,w'=Lib.bytesWorld w t5 t))
  (hsy:∀ (s:ByteArray) (hlim:s.size<=281474976710656) (h:Lib.atoiAll s.data.toList=Lib.atoiAll []) (tp:TypeId) (p:Value) (w:World) (hvar:w.var? P "strconv.ErrSyntax" = some #[.iface tp p]),
   Calls P g #[.string s] w fun e w'=>∃ N,e = .returned (.tuple #[.int .i64 0,.iface t1 (.pointer (some ⟨N,0,none⟩))])/\w.heap.size<=N/\w'.heap[N]? = some (.cells #[.string ⟨#[65,116,111,105]⟩,.string s,.iface tp p] t2 (0,0))/\Below w.heap.size w w')
  (hrg:∀ (s:ByteArray) (hlim:s.size<=281474976710656) (h:Lib.atoiAll s.data.toList = .range) (tp:TypeId) (p:Value) (w:World) (hvar:w.var? P "strconv.ErrRange" = some #[.iface tp p]),
   Calls P g #[.string s] w fun e w'=>∃ N,e = .returned (.tuple #[.int .i64 (Lib.atoiSat s.data.toList),.iface t1 (.pointer (some ⟨N,0,none⟩))])/\w.heap.size<=N/\w'.heap[N]? = some (.cells #[.string ⟨#[65,116,111,105]⟩,.string s,.iface tp p] t2 (0,0))/\Below w.heap.size w w')
  (hJ1:A6P P J "strconv.ErrSyntax") (hJ2:A6P P J "strconv.ErrRange") :
  ∀ g' args blks r blks',AF3 g g' args blks r blks'->CSpec P J g' args blks r blks':=by
 rintro g' args blks r blks' ⟨rfl,s,hs,rfl,rfl,rfl,rfl⟩;refine OT hent fun w A E vals hT hA hvl=>?_
 rw[A9J hvl];have hs':(⟨s.toArray⟩:ByteArray).size<=281474976710656:=by simpa[ByteArray.size] using hs
 cases hz:Lib.atoiAll s
 case ok v =>
  have e0:Rx s=(v,false):=by unfold Rx; rw[hz]
  rw[e0];refine (hok ⟨s.toArray⟩ (by omega) v (by simpa using hz) w).mono ?_
  rintro e w' ⟨rfl,hw⟩;refine ⟨_,rfl,?_,_,rfl,.v _ rfl,.er0,trivial⟩
  rcases hw with rfl | ⟨t,rfl⟩
  ·exact Below.refl _ _
  ·exact Lib.bytesWorld_below w _ t
 case range =>
  have e0:Rx s=(Lib.atoiSat s,true):=by unfold Rx; rw[hz]
  rw[e0];obtain ⟨tp,p,hv⟩:=hJ2 w hT;refine (hrg ⟨s.toArray⟩ hs' (by simpa using hz) tp p w hv).mono ?_
  rintro e w' ⟨N,rfl,_,_,hb⟩;exact ⟨_,rfl,hb,_,rfl,.v _ rfl,.er1 _ _,trivial⟩
 ·have e0:Rx s=(0,true):=by unfold Rx; rw[hz]
  rw[e0];obtain ⟨tp,p,hv⟩:=hJ1 w hT;have he:Lib.atoiAll (⟨s.toArray⟩:ByteArray).data.toList=Lib.atoiAll []:=by
   rw[show (⟨s.toArray⟩:ByteArray).data.toList=s from rfl,hz];rfl
  refine (hsy ⟨s.toArray⟩ hs' he tp p w hv).mono ?_
  rintro e w' ⟨N,rfl,_,_,hb⟩;exact ⟨_,rfl,hb,_,rfl,.v _ rfl,.er1 _ _,trivial⟩
theorem A7L (hx:∀ g' args blks r blks',AF3 g g' args blks r blks'->ext g' args blks r blks'):Ai (He P cf ext) ⟨Bj4 g,ZC⟩:=by
 refine AT9 rfl fun d y a ha hF=>?_
 have hF:ZC d=some y:=hF;unfold ZC at hF
 split at hF
 ·rename_i h;cases hF
  have ha:a = .v (.string ⟨(show Str from d).toArray⟩):=ha;exact ⟨_,[],hx _ _ _ _ _ ⟨rfl,d,h,by rw[ha],rfl,rfl,rfl⟩,⟨_,rfl,rfl,rfl,trivial⟩,fun id b hb=>by simp[BM,AP] at hb,rfl⟩
 ·cases hF
end
end
end Go.Proofs.YtiijheppiboglaaGreatDoor.Ev
namespace Go.Proofs
section
open Go.Shelf
def Tryz.laysM171_ren:Go.Shelf.Ren:=⟨fun | 171=>82 | 243=>146 | 246=>200 | 283=>249 | 284=>250 | 285=>251 | 286=>252 | 129=>286 | 317=>285 | 318=>287 | 319=>288 | 320=>289 | 337=>305 | 338=>306 | n=>n,fun | 3=>3 | 9=>9 | 2=>2 | 4=>4 | 171=>227 | 0=>0 | 53=>113 | 37=>32 | 5=>5 | 173=>230 | 212=>254 | 51=>255 | 20=>20 | 213=>256 | 46=>221 | 232=>280 | 233=>281 | n=>n,fun | 17=>3 | 18=>6 | 19=>7 | n=>n⟩
theorem Tryz.laysM171:Go.Proofs.LaysM.n171 Tryz.prog Tryz.laysM171_ren:={
 mixed:=by kernel_rfl
 f129:=Tryz.func286.trans (congrArg some (by kernel_rfl))
 f171:=Tryz.func82.trans (congrArg some (by kernel_rfl))
 f243:=Tryz.func146.trans (congrArg some (by kernel_rfl))
 f246:=Tryz.func200.trans (congrArg some (by kernel_rfl))
 f283:=Tryz.func249.trans (congrArg some (by kernel_rfl))
 f284:=Tryz.func250.trans (congrArg some (by kernel_rfl))
 f285:=Tryz.func251.trans (congrArg some (by kernel_rfl))
 f286:=Tryz.func252.trans (congrArg some (by kernel_rfl))
 f317:=Tryz.func285.trans (congrArg some (by kernel_rfl))
 f318:=Tryz.func287.trans (congrArg some (by kernel_rfl))
 f319:=Tryz.func288.trans (congrArg some (by kernel_rfl))
 f320:=Tryz.func289.trans (congrArg some (by kernel_rfl))
 f337:=Tryz.func305.trans (congrArg some (by kernel_rfl))
 f338:=Tryz.func306.trans (congrArg some (by kernel_rfl))
 t0:=Tryz.underlying0
 a0:=Tryz.isAgg0
 z0:=Tryz.sizeOf0
 v0:=Tryz.zeroValue0
 t2:=Tryz.underlying2
 a2:=Tryz.isAgg2
 z2:=Tryz.sizeOf2
 v2:=Tryz.zeroValue2
 t3:=Tryz.underlying3
 a3:=Tryz.isAgg3
 z3:=Tryz.sizeOf3
 v3:=Tryz.zeroValue3
 t4:=Tryz.underlying4
 a4:=Tryz.isAgg4
 z4:=Tryz.sizeOf4
 v4:=Tryz.zeroValue4
 t5:=Tryz.underlying5
 a5:=Tryz.isAgg5
 z5:=Tryz.sizeOf5
 v5:=Tryz.zeroValue5
 t9:=Tryz.underlying9
 a9:=Tryz.isAgg9
 z9:=Tryz.sizeOf9
 v9:=Tryz.zeroValue9
 t20:=Tryz.underlying20
 a20:=Tryz.isAgg20
 z20:=Tryz.sizeOf20
 v20:=Tryz.zeroValue20
 t37:=Tryz.underlying32
 a37:=Tryz.isAgg32
 z37:=Tryz.sizeOf32
 v37:=Tryz.zeroValue32
 t46:=Tryz.underlying221
 a46:=Tryz.isAgg221
 z46:=Tryz.sizeOf221
 v46:=Tryz.zeroValue221
 t51:=Tryz.underlying255
 a51:=Tryz.isAgg255
 z51:=Tryz.sizeOf255
 v51:=Tryz.zeroValue255
 t53:=Tryz.underlying113
 a53:=Tryz.isAgg113
 z53:=Tryz.sizeOf113
 v53:=Tryz.zeroValue113
 t171:=Tryz.underlying227
 a171:=Tryz.isAgg227
 z171:=Tryz.sizeOf227
 v171:=Tryz.zeroValue227
 t173:=Tryz.underlying230
 a173:=Tryz.isAgg230
 z173:=Tryz.sizeOf230
 v173:=Tryz.zeroValue230
 t212:=Tryz.underlying254
 a212:=Tryz.isAgg254
 z212:=Tryz.sizeOf254
 v212:=Tryz.zeroValue254
 t213:=Tryz.underlying256
 a213:=Tryz.isAgg256
 z213:=Tryz.sizeOf256
 t232:=Tryz.underlying280
 a232:=Tryz.isAgg280
 z232:=Tryz.sizeOf280
 v232:=Tryz.zeroValue280
 t233:=Tryz.underlying281
 a233:=Tryz.isAgg281
 z233:=Tryz.sizeOf281
 v233:=Tryz.zeroValue281
 g17:=by kernel_rfl
 g18:=by kernel_rfl
 g19:=by kernel_rfl
 i0:=by kernel_rfl
 i2:=by kernel_rfl
 i3:=by kernel_rfl
 i4:=by kernel_rfl
 i5:=by kernel_rfl
 i9:=by kernel_rfl
 i20:=by kernel_rfl
 i37:=by kernel_rfl
 i46:=by kernel_rfl
 i51:=by kernel_rfl
 i53:=by kernel_rfl
 i171:=by kernel_rfl
 i173:=by kernel_rfl
 i212:=by kernel_rfl
 i232:=by kernel_rfl
 i233:=by kernel_rfl
 m17:=by kernel_rfl
 m18:=by kernel_rfl
 m19:=by kernel_rfl }
open Go.RowKit Go.Sort Go.Lib in
theorem Tryz.strconv_Itoa (n:Int) (h0 : -9223372036854775808<=n) (h1:n<=9223372036854775807) (w:World) (htab:Lib.TabIs Tryz.prog w "internal/strconv.uint64pow10" .u64 Lib.pow10Tab) :
  Calls Tryz.prog 82 #[.int .i64 n] w fun e w'=>e = .returned (.string ⟨(Lib.itoa n).toArray⟩)/\∃ k os,w'=grow (w.drewN k) os:=Any.strconv_Itoa Tryz.laysM171 n h0 h1 w htab
def Tryz.laysC172_ren:Go.Shelf.Ren:=⟨fun | 172=>101 | 244=>164 | 245=>165 | 247=>210 | 279=>211 | 280=>212 | 281=>213 | 282=>214 | 287=>260 | 316=>261 | 171=>82 | 205=>262 | 321=>291 | 322=>292 | 243=>146 | 246=>200 | 283=>249 | 284=>250 | 285=>251 | 286=>252 | 129=>286 | 317=>285 | 318=>287 | 319=>288 | 320=>289 | 337=>305 | 338=>306 | n=>n,fun | 9=>9 | 3=>3 | 75=>125 | 76=>126 | 4=>4 | 5=>5 | 167=>205 | 37=>32 | 0=>0 | 85=>206 | 2=>2 | 168=>208 | 53=>113 | 175=>240 | 46=>221 | 210=>244 | 127=>200 | 145=>261 | 143=>259 | 21=>21 | 171=>227 | 173=>230 | 212=>254 | 51=>255 | 20=>20 | 213=>256 | 232=>280 | 233=>281 | 80=>116 | n=>n,fun | 15=>0 | 16=>1 | 17=>3 | 18=>6 | 19=>7 | n=>n⟩
theorem Tryz.laysC172:Go.Proofs.LaysC.n172 Tryz.prog Tryz.laysC172_ren:={
 mixed:=by kernel_rfl
 f129:=Tryz.func286.trans (congrArg some (by kernel_rfl))
 f171:=Tryz.func82.trans (congrArg some (by kernel_rfl))
 f172:=Tryz.func101.trans (congrArg some (by kernel_rfl))
 f205:=Tryz.func262.trans (congrArg some (by kernel_rfl))
 f243:=Tryz.func146.trans (congrArg some (by kernel_rfl))
 f244:=Tryz.func164.trans (congrArg some (by kernel_rfl))
 f245:=Tryz.func165.trans (congrArg some (by kernel_rfl))
 f246:=Tryz.func200.trans (congrArg some (by kernel_rfl))
 f247:=Tryz.func210.trans (congrArg some (by kernel_rfl))
 f279:=Tryz.func211.trans (congrArg some (by kernel_rfl))
 f280:=Tryz.func212.trans (congrArg some (by kernel_rfl))
 f281:=Tryz.func213.trans (congrArg some (by kernel_rfl))
 f282:=Tryz.func214.trans (congrArg some (by kernel_rfl))
 f283:=Tryz.func249.trans (congrArg some (by kernel_rfl))
 f284:=Tryz.func250.trans (congrArg some (by kernel_rfl))
 f285:=Tryz.func251.trans (congrArg some (by kernel_rfl))
 f286:=Tryz.func252.trans (congrArg some (by kernel_rfl))
 f287:=Tryz.func260.trans (congrArg some (by kernel_rfl))
 f316:=Tryz.func261.trans (congrArg some (by kernel_rfl))
 f317:=Tryz.func285.trans (congrArg some (by kernel_rfl))
 f318:=Tryz.func287.trans (congrArg some (by kernel_rfl))
 f319:=Tryz.func288.trans (congrArg some (by kernel_rfl))
 f320:=Tryz.func289.trans (congrArg some (by kernel_rfl))
 f321:=Tryz.func291.trans (congrArg some (by kernel_rfl))
 f322:=Tryz.func292.trans (congrArg some (by kernel_rfl))
 f337:=Tryz.func305.trans (congrArg some (by kernel_rfl))
 f338:=Tryz.func306.trans (congrArg some (by kernel_rfl))
 t0:=Tryz.underlying0
 a0:=Tryz.isAgg0
 z0:=Tryz.sizeOf0
 v0:=Tryz.zeroValue0
 t2:=Tryz.underlying2
 a2:=Tryz.isAgg2
 z2:=Tryz.sizeOf2
 v2:=Tryz.zeroValue2
 t3:=Tryz.underlying3
 a3:=Tryz.isAgg3
 z3:=Tryz.sizeOf3
 v3:=Tryz.zeroValue3
 t4:=Tryz.underlying4
 a4:=Tryz.isAgg4
 z4:=Tryz.sizeOf4
 v4:=Tryz.zeroValue4
 t5:=Tryz.underlying5
 a5:=Tryz.isAgg5
 z5:=Tryz.sizeOf5
 v5:=Tryz.zeroValue5
 t9:=Tryz.underlying9
 a9:=Tryz.isAgg9
 z9:=Tryz.sizeOf9
 v9:=Tryz.zeroValue9
 t20:=Tryz.underlying20
 a20:=Tryz.isAgg20
 z20:=Tryz.sizeOf20
 v20:=Tryz.zeroValue20
 t21:=Tryz.underlying21
 a21:=Tryz.isAgg21
 z21:=Tryz.sizeOf21
 v21:=Tryz.zeroValue21
 t37:=Tryz.underlying32
 a37:=Tryz.isAgg32
 z37:=Tryz.sizeOf32
 v37:=Tryz.zeroValue32
 t46:=Tryz.underlying221
 a46:=Tryz.isAgg221
 z46:=Tryz.sizeOf221
 v46:=Tryz.zeroValue221
 t51:=Tryz.underlying255
 a51:=Tryz.isAgg255
 z51:=Tryz.sizeOf255
 v51:=Tryz.zeroValue255
 t53:=Tryz.underlying113
 a53:=Tryz.isAgg113
 z53:=Tryz.sizeOf113
 v53:=Tryz.zeroValue113
 t75:=Tryz.underlying125
 a75:=Tryz.isAgg125
 z75:=Tryz.sizeOf125
 v75:=Tryz.zeroValue125
 t76:=Tryz.underlying126
 a76:=Tryz.isAgg126
 z76:=Tryz.sizeOf126
 v76:=Tryz.zeroValue126
 t85:=Tryz.underlying206
 a85:=Tryz.isAgg206
 z85:=Tryz.sizeOf206
 v85:=Tryz.zeroValue206
 t127:=Tryz.underlying200
 a127:=Tryz.isAgg200
 z127:=Tryz.sizeOf200
 v127:=Tryz.zeroValue200
 t143:=Tryz.underlying259
 a143:=Tryz.isAgg259
 z143:=Tryz.sizeOf259
 v143:=Tryz.zeroValue259
 t145:=Tryz.underlying261
 a145:=Tryz.isAgg261
 z145:=Tryz.sizeOf261
 v145:=Tryz.zeroValue261
 t167:=Tryz.underlying205
 a167:=Tryz.isAgg205
 z167:=Tryz.sizeOf205
 v167:=Tryz.zeroValue205
 t168:=Tryz.underlying208
 a168:=Tryz.isAgg208
 z168:=Tryz.sizeOf208
 v168:=Tryz.zeroValue208
 t171:=Tryz.underlying227
 a171:=Tryz.isAgg227
 z171:=Tryz.sizeOf227
 v171:=Tryz.zeroValue227
 t173:=Tryz.underlying230
 a173:=Tryz.isAgg230
 z173:=Tryz.sizeOf230
 v173:=Tryz.zeroValue230
 t175:=Tryz.underlying240
 a175:=Tryz.isAgg240
 z175:=Tryz.sizeOf240
 v175:=Tryz.zeroValue240
 t210:=Tryz.underlying244
 a210:=Tryz.isAgg244
 z210:=Tryz.sizeOf244
 v210:=Tryz.zeroValue244
 t212:=Tryz.underlying254
 a212:=Tryz.isAgg254
 z212:=Tryz.sizeOf254
 v212:=Tryz.zeroValue254
 t213:=Tryz.underlying256
 a213:=Tryz.isAgg256
 z213:=Tryz.sizeOf256
 t232:=Tryz.underlying280
 a232:=Tryz.isAgg280
 z232:=Tryz.sizeOf280
 v232:=Tryz.zeroValue280
 t233:=Tryz.underlying281
 a233:=Tryz.isAgg281
 z233:=Tryz.sizeOf281
 v233:=Tryz.zeroValue281
 g15:=by kernel_rfl
 g16:=by kernel_rfl
 g17:=by kernel_rfl
 g18:=by kernel_rfl
 g19:=by kernel_rfl
 t80:=Tryz.underlying116
 a80:=Tryz.isAgg116
 z80:=Tryz.sizeOf116
 v80:=Tryz.zeroValue116
 i0:=by kernel_rfl
 i2:=by kernel_rfl
 i3:=by kernel_rfl
 i4:=by kernel_rfl
 i5:=by kernel_rfl
 i9:=by kernel_rfl
 i20:=by kernel_rfl
 i21:=by kernel_rfl
 i37:=by kernel_rfl
 i46:=by kernel_rfl
 i51:=by kernel_rfl
 i53:=by kernel_rfl
 i75:=by kernel_rfl
 i76:=by kernel_rfl
 i80:=by kernel_rfl
 i85:=by kernel_rfl
 i127:=by kernel_rfl
 i143:=by kernel_rfl
 i145:=by kernel_rfl
 i167:=by kernel_rfl
 i168:=by kernel_rfl
 i171:=by kernel_rfl
 i173:=by kernel_rfl
 i175:=by kernel_rfl
 i210:=by kernel_rfl
 i212:=by kernel_rfl
 i232:=by kernel_rfl
 i233:=by kernel_rfl
 m15:=by kernel_rfl
 m16:=by kernel_rfl
 m17:=by kernel_rfl
 m18:=by kernel_rfl
 m19:=by kernel_rfl
 c0:=by kernel_rfl
 c2:=by kernel_rfl
 c3:=by kernel_rfl
 c4:=by kernel_rfl
 c5:=by kernel_rfl
 c9:=by kernel_rfl
 c20:=by kernel_rfl
 c21:=by kernel_rfl
 c37:=by kernel_rfl
 c46:=by kernel_rfl
 c51:=by kernel_rfl
 c53:=by kernel_rfl
 c75:=by kernel_rfl
 c76:=by kernel_rfl
 c80:=by kernel_rfl
 c85:=by kernel_rfl
 c127:=by kernel_rfl
 c143:=by kernel_rfl
 c145:=by kernel_rfl
 c167:=by kernel_rfl
 c168:=by kernel_rfl
 c171:=by kernel_rfl
 c173:=by kernel_rfl
 c175:=by kernel_rfl
 c210:=by kernel_rfl
 c212:=by kernel_rfl
 c213:=by kernel_rfl
 c232:=by kernel_rfl
 c233:=by kernel_rfl }
open Go.RowKit in
theorem Tryz.strconv_Atoi_ok (s:ByteArray) (hmax:s.size<=9223372036854775806) (v:Int) (h:Lib.atoiAll s.data.toList = .ok v) (w:World) :
  Calls Tryz.prog 101 #[.string s] w fun e w'=>e = .returned (.tuple #[.int .i64 v,.nilIface])/\(w'=w\/∃ t,w'=Lib.bytesWorld w 5 t):=Any.strconv_Atoi_ok Tryz.laysC172 s hmax v h w
open Go.RowKit in
theorem Tryz.strconv_Atoi_syntax_var (s:ByteArray) (hlim:s.size<=281474976710656) (h:Lib.atoiAll s.data.toList=Lib.atoiAll []) (tp:TypeId) (p:Value) (w:World) (hvar:w.var? Tryz.prog "strconv.ErrSyntax" = some #[.iface tp p]) :
  Calls Tryz.prog 101 #[.string s] w fun e w'=>∃ N,e = .returned (.tuple #[.int .i64 0,.iface 208 (.pointer (some ⟨N,0,none⟩))])/\w.heap.size<=N/\w'.heap[N]? = some (.cells #[.string ⟨#[65,116,111,105]⟩,.string s,.iface tp p] 244 (0,0))/\Below w.heap.size w w':=Any.strconv_Atoi_syntax_var Tryz.laysC172 s hlim h tp p w hvar
open Go.RowKit in
theorem Tryz.strconv_Atoi_range_var (s:ByteArray) (hlim:s.size<=281474976710656) (h:Lib.atoiAll s.data.toList = .range) (tp:TypeId) (p:Value) (w:World) (hvar:w.var? Tryz.prog "strconv.ErrRange" = some #[.iface tp p]) :
  Calls Tryz.prog 101 #[.string s] w fun e w'=>∃ N,e = .returned (.tuple #[.int .i64 (Lib.atoiSat s.data.toList),.iface 208 (.pointer (some ⟨N,0,none⟩))])/\w.heap.size<=N/\w'.heap[N]? = some (.cells #[.string ⟨#[65,116,111,105]⟩,.string s,.iface tp p] 244 (0,0))/\Below w.heap.size w w':=Any.strconv_Atoi_range_var Tryz.laysC172 s hlim h tp p w hvar
def Tryz.lays144_ren:Go.Shelf.Ren:=⟨fun | 144=>155 | 143=>207 | 219=>238 | 217=>279 | 225=>280 | 224=>281 | 267=>282 | 266=>303 | 314=>304 | n=>n,fun | 9=>9 | 4=>4 | 3=>3 | 5=>5 | 46=>221 | 146=>266 | 51=>255 | n=>n,fun | 1=>2 | n=>n⟩
theorem Tryz.lays144:Go.Proofs.Lays.n144 Tryz.prog Tryz.lays144_ren:={
 mixed:=by kernel_rfl
 f143:=Tryz.func207.trans (congrArg some (by kernel_rfl))
 f144:=Tryz.func155.trans (congrArg some (by kernel_rfl))
 f217:=Tryz.func279.trans (congrArg some (by kernel_rfl))
 f219:=Tryz.func238.trans (congrArg some (by kernel_rfl))
 f224:=Tryz.func281.trans (congrArg some (by kernel_rfl))
 f225:=Tryz.func280.trans (congrArg some (by kernel_rfl))
 f266:=Tryz.func303.trans (congrArg some (by kernel_rfl))
 f267:=Tryz.func282.trans (congrArg some (by kernel_rfl))
 f314:=Tryz.func304.trans (congrArg some (by kernel_rfl))
 t3:=Tryz.underlying3
 a3:=Tryz.isAgg3
 z3:=Tryz.sizeOf3
 v3:=Tryz.zeroValue3
 t4:=Tryz.underlying4
 a4:=Tryz.isAgg4
 z4:=Tryz.sizeOf4
 v4:=Tryz.zeroValue4
 t5:=Tryz.underlying5
 a5:=Tryz.isAgg5
 z5:=Tryz.sizeOf5
 v5:=Tryz.zeroValue5
 t9:=Tryz.underlying9
 a9:=Tryz.isAgg9
 z9:=Tryz.sizeOf9
 v9:=Tryz.zeroValue9
 t46:=Tryz.underlying221
 a46:=Tryz.isAgg221
 z46:=Tryz.sizeOf221
 v46:=Tryz.zeroValue221
 t51:=Tryz.underlying255
 a51:=Tryz.isAgg255
 z51:=Tryz.sizeOf255
 v51:=Tryz.zeroValue255
 t146:=Tryz.underlying266
 a146:=Tryz.isAgg266
 z146:=Tryz.sizeOf266
 v146:=Tryz.zeroValue266
 g1:=by kernel_rfl }
open Go.RowKit Go.Lib in
theorem Tryz.strings_Contains (s sub:ByteArray) (m:Int) (w:World) (hs:s.size<4294967281) (hm:w.cell? ⟨2,0,none⟩=some (.int .i64 m)) :
  Calls Tryz.prog 155 #[.string s,.string sub] w fun e w'=>e = .returned (.bool (Lib.contains s.data.toList sub.data.toList))/\w'=w:=Any.strings_Contains Tryz.lays144 s sub m w hs hm
def Tryz.lays146_ren:Go.Shelf.Ren:=⟨fun | 146=>91 | 221=>153 | 268=>205 | 138=>206 | 143=>207 | 195=>256 | 197=>257 | 218=>258 | 219=>238 | 260=>290 | 217=>279 | 225=>280 | 224=>281 | 267=>282 | 266=>303 | 314=>304 | n=>n,fun | 9=>9 | 31=>63 | 3=>3 | 4=>4 | 0=>0 | 105=>236 | 21=>21 | 5=>5 | 46=>221 | 119=>269 | 139=>272 | 138=>271 | 146=>266 | 51=>255 | n=>n,fun | 1=>2 | 3=>4 | 4=>5 | n=>n⟩
theorem Tryz.lays146:Go.Proofs.Lays.n146 Tryz.prog Tryz.lays146_ren:={
 mixed:=by kernel_rfl
 f138:=Tryz.func206.trans (congrArg some (by kernel_rfl))
 f143:=Tryz.func207.trans (congrArg some (by kernel_rfl))
 f146:=Tryz.func91.trans (congrArg some (by kernel_rfl))
 f195:=Tryz.func256.trans (congrArg some (by kernel_rfl))
 f197:=Tryz.func257.trans (congrArg some (by kernel_rfl))
 f217:=Tryz.func279.trans (congrArg some (by kernel_rfl))
 f218:=Tryz.func258.trans (congrArg some (by kernel_rfl))
 f219:=Tryz.func238.trans (congrArg some (by kernel_rfl))
 f221:=Tryz.func153.trans (congrArg some (by kernel_rfl))
 f224:=Tryz.func281.trans (congrArg some (by kernel_rfl))
 f225:=Tryz.func280.trans (congrArg some (by kernel_rfl))
 f260:=Tryz.func290.trans (congrArg some (by kernel_rfl))
 f266:=Tryz.func303.trans (congrArg some (by kernel_rfl))
 f267:=Tryz.func282.trans (congrArg some (by kernel_rfl))
 f268:=Tryz.func205.trans (congrArg some (by kernel_rfl))
 f314:=Tryz.func304.trans (congrArg some (by kernel_rfl))
 t0:=Tryz.underlying0
 a0:=Tryz.isAgg0
 z0:=Tryz.sizeOf0
 v0:=Tryz.zeroValue0
 t3:=Tryz.underlying3
 a3:=Tryz.isAgg3
 z3:=Tryz.sizeOf3
 v3:=Tryz.zeroValue3
 t4:=Tryz.underlying4
 a4:=Tryz.isAgg4
 z4:=Tryz.sizeOf4
 v4:=Tryz.zeroValue4
 t5:=Tryz.underlying5
 a5:=Tryz.isAgg5
 z5:=Tryz.sizeOf5
 v5:=Tryz.zeroValue5
 t9:=Tryz.underlying9
 a9:=Tryz.isAgg9
 z9:=Tryz.sizeOf9
 v9:=Tryz.zeroValue9
 t21:=Tryz.underlying21
 a21:=Tryz.isAgg21
 z21:=Tryz.sizeOf21
 v21:=Tryz.zeroValue21
 t31:=Tryz.underlying63
 a31:=Tryz.isAgg63
 z31:=Tryz.sizeOf63
 v31:=Tryz.zeroValue63
 t46:=Tryz.underlying221
 a46:=Tryz.isAgg221
 z46:=Tryz.sizeOf221
 v46:=Tryz.zeroValue221
 t51:=Tryz.underlying255
 a51:=Tryz.isAgg255
 z51:=Tryz.sizeOf255
 v51:=Tryz.zeroValue255
 t105:=Tryz.underlying236
 a105:=Tryz.isAgg236
 z105:=Tryz.sizeOf236
 v105:=Tryz.zeroValue236
 t119:=Tryz.underlying269
 a119:=Tryz.isAgg269
 z119:=Tryz.sizeOf269
 t138:=Tryz.underlying271
 a138:=Tryz.isAgg271
 z138:=Tryz.sizeOf271
 v138:=Tryz.zeroValue271
 t139:=Tryz.underlying272
 a139:=Tryz.isAgg272
 z139:=Tryz.sizeOf272
 v139:=Tryz.zeroValue272
 t146:=Tryz.underlying266
 a146:=Tryz.isAgg266
 z146:=Tryz.sizeOf266
 v146:=Tryz.zeroValue266
 g1:=by kernel_rfl
 g3:=by kernel_rfl
 g4:=by kernel_rfl }
open Go.RowKit Go.Lib in
theorem Tryz.strings_Split (s sep:ByteArray) (m:Int) (w:World) (hs:s.size<4294967281) (hm:w.cell? ⟨2,0,none⟩=some (.int .i64 m)) (h1 : 1<=sep.size) :
  Calls Tryz.prog 91 #[.string s,.string sep] w fun e w' =>
   e = .returned (.slice (some ⟨w.heap.size,0,none⟩) (Lib.countB s sep + 1) (Lib.countB s sep + 1))/\w'=w.alloc (.cells ((Lib.splitB sep 0 (Lib.countB s sep) s).map Value.string).toArray 9):=Any.strings_Split Tryz.lays146 (by kernel_rfl) s sep m w hs hm h1
end
end Go.Proofs
namespace Go.Proofs.YtiijheppiboglaaGreatDoor.Ev
section
open Go Go.RowKit
variable {H:Type} {enc:TypeId×Value->H}
theorem Qa {a:Assume} {C:Checked} {os:Os} {f:FuncId} {fn:Func} {s:ChangeSpec} {conds:List PathCond} {apart fresh handsOn again:Bool} {X:World->Array Value->Prop}
  (hX:∀ (w w':World) (args:Array Value),w.heap=w'.heap->X w args->X w' args)
  (own:ownKnob C.prog.godebug=none) (started:os.Started) (noInit:C.prog.inits.idxOf? f=none) (hfn:C.prog.funcs[f]? = some fn)
  (witness:∃ (w:World) (tape:Tape) (i:Input),w.os=os/\(w.forCall tape i).Shaped C.prog/\i.vars = []/\Input.okWide C.prog (w.forCall tape i) .any w.heap.size f i /\
   ((s.pre enc C.prog fn conds apart (w.forCall tape i).memory i.args/\X (w.forCall tape i).memory i.args)/\sizedMet enc C.prog fn (OpenSpec.ofChange s) apart (w.forCall tape i).memory i.args)/\a.holds C.prog (lone (Frame.enter C.prog f i.args .normal) [] (w.forCall tape i)))
  (contract:∀ (W:World) (base:Nat) (args:Array Value) (ds gs:List (DataW H)) (before:List MemPlace),
   (∀ (j:Nat) t v,fn.params[j]? = some t->args[j]? = some v->Value.okWide C.prog W .any base t v) ->
   DataW.Whole enc C.prog fn.params.toList s.vars apart W args.toList ds gs before ->
   (DataW.weightsEach C.prog (fn.params.toList++s.plain.varTypes C.prog) (ds++gs)).all (· <= reachBytes)=true ->
   W.ShapedOpen C.prog->X W args ->
   Calls C.prog f args W fun e W'=>∃ v,e = .returned v/\s.post enc C.prog fn apart fresh handsOn again W args v W') :
  ReturnsInHanded a C os f .any (fun w args=>(s.pre enc C.prog fn conds apart w args/\X w args)/\sizedMet enc C.prog fn (OpenSpec.ofChange s) apart w args) (s.post enc C.prog fn apart fresh handsOn again):=by
 refine returnsInHanded_of_calls own started noInit witness ?_
 intro w tape i _ hsh _ hok hpre hholds;obtain ⟨_,_,_,fn',hfn',_,_,_,_,hval⟩:=hok;have e:fn'=fn:=Option.some.inj (hfn'.symm.trans hfn);subst e;obtain ⟨⟨⟨ds,gs,before,hw,hc⟩,hx⟩,hz⟩:=hpre;have hw':=DataW.Whole.of_heap (w':=w.forCall tape i) (by rfl) hw;refine (contract (w.forCall tape i) w.heap.size i.args ds gs before hval hw' (hz.weights hw) hsh (hX _ _ _ (by rfl) hx)).mono fun e W' ⟨v,he,hp⟩=>?_
 subst he;exact ChangeSpec.post_blind hp
def Jof (w:World) (ids:List Nat):Jl:=ids.filterMap fun g=>(w.heap[g]?).map fun o=>(g,o)
theorem A57 {w:World} {ids:List Nat}:∀ x∈Jof w ids,w.heap[x.1]? = some x.2:=by
 intro x hx;simp only[Jof,List.mem_filterMap,zb5] at hx;obtain ⟨g,_,o,ho,rfl⟩:=hx;exact ho
theorem A0i {w w':World} {ids:List Nat} (h:∀ x∈Jof w ids,w'.heap[x.1]? = some x.2) {g:Nat} (hg:g∈ids) {o:Obj} (ho:w.heap[g]? = some o):w'.heap[g]? = some o :=
 h (g,o) (by simp only[Jof,List.mem_filterMap,zb5]; exact ⟨g,hg,o,ho,rfl⟩)
theorem A3g {P:Program} {w w':World} {ids:List Nat} (h:∀ x∈Jof w ids,w'.heap[x.1]? = some x.2) {name:String} {g:Nat} (hn:P.globalNamed name=some g) (hg:g∈ids) {cs:Array Value}
  (hv:w.var? P name=some cs):w'.var? P name=some cs:=by
 cases ho:w.heap[g]? with
 | none=>simp[World.var?,hn,ho] at hv
 | some o =>
  have:=A0i h hg ho;simp only[World.var?,hn,za0,ho] at hv;simp only[World.var?,hn,za0,this];exact hv
theorem Bl3 {P:Program} {w:World} {ids:List Nat} {name:String} {g:Nat} {k:IntKind} {zs:List Int} (hn:P.globalNamed name=some g) (hg:g∈ids) (h:Lib.TabIs P w name k zs):Be5 P (Jof w ids) name k zs :=
 fun _ hw=>A3g hw hn hg h
theorem Bl5 {w:World} {ids:List Nat} {g:Nat} (hg:g∈ids) (h:∃ m:Int,w.cell? ⟨g,0,none⟩=some (.int .i64 m)):A8K (Jof w ids) g:=by
 intro w' hw;obtain ⟨m,hm⟩:=h;cases ho:w.heap[g]? with
 | none=>simp[World.cell?,ho] at hm
 | some o =>
  refine ⟨m,?_⟩
  have:=A0i hw hg ho;simp only[World.cell?,ho,this] at hm ⊢
  exact hm
theorem Bi3 {P:Program} {w:World} {ids:List Nat} {name:String} {g:Nat} (hn:P.globalNamed name=some g) (hg:g∈ids) (h:∃ tp p,w.var? P name=some #[.iface tp p]):A6P P (Jof w ids) name:=by
 intro w' hw;obtain ⟨tp,p,h⟩:=h;exact ⟨tp,p,A3g hw hn hg h⟩
theorem Jp {P:Program} {w:World}:∀ (n:Nat) {l:List (String×DataW Unit)},laidMet P l w->laidMet P (l.drop n) w
 | 0,_,h=>h
 | n + 1,[],h=>h
 | n + 1,_::_,h=>Jp n h.tail
end
section
open Go
set_option maxRecDepth 100000
abbrev Tq0:Type:=((Bool×(List Int))×(Bool×(List Int)))
abbrev Tq1:Type:=(Bool×((List Int)×(Bool×(List Int))))
abbrev Tq2:Type:=((((Bool×List (Int))×(Bool×List (Int)))×((Bool×List (Int))×(Bool×List (Int)))))
abbrev Tq3:Type:=(Bool×List (Int)×Bool×List (Int))
abbrev Tq4:Type:=(Bool×List (Int)×Bool×List (Int)×Bool×List (Int)×Bool×List (Int))
abbrev Tq5:Type:=(Int×(Int×(Int×Int)))
abbrev Tq6:Type:=(List (Tq0×Tq0))
abbrev Tq7:Type:=(Bool×(List Int))
abbrev Tq8:Type:=(List (Int×Int))
abbrev Tq9:Type:=(Bool×((List Int)×(Bool×((List Int)×Tq1))))
abbrev Tq10:Type:=(Bool×List (Int))
abbrev Tq11:Type:=((List Int)×(Int×Int))
abbrev Tq12:Type:=((List Int)×((List Int)×(Int×(Int×Int))))
abbrev Tq13:Type:=(List (List UInt8))
abbrev Tq14:Type:=(Tq5×((List Tq0)×((List Tq8)×(Int×Int))))
abbrev Tq15:Type:=((List Int)×((List Int)×Tq11))
abbrev Tq16:Type:=(Tq6×(Int×Int))
abbrev Tq17:Type:=((List Int)×((List Int)×Int))
abbrev Tq18:Type:=(Tq5×((List Tq0)×((List Tq8)×(Int×(Int×((List Tq0)×(Int×Int)))))))
abbrev Tq19:Type:=(List ((Int×Int)))
abbrev Tq20:Type:=((List Int)×((List Int)×((List Int)×(Int×(Int×(Int×Tq5))))))
abbrev Tq21:Type:=(Tq13×(Int×Bool))
abbrev Tq22:Type:=(Int×Int×Int×Int)
abbrev Tq23:Type:=(List (List UInt8)×Int×Bool)
abbrev Tq24:Type:=(Tq13×(Int×Int))
abbrev Tq25:Type:=((List Int)×((List Int)×((List Int)×(Int×Tq5))))
abbrev Tq26:Type:=(Tq5×((List Tq0)×(Tq6×Int)))
abbrev Tq27:Type:=(List (List UInt8)×Int×Int)
abbrev Tq28:Type:=((List UInt8)×(Int×Int))
abbrev Tq29:Type:=((List Int)×((List Int)×Tq5))
abbrev Tq30:Type:=((List Int)×((List Tq0)×(Int×Int)))
abbrev Tq31:Type:=((List Tq0)×Bool)
abbrev Tq32:Type:=(Tq7×(Tq7×(Tq7×((List Int)×(Int×(Int×(Int×((List Int)×(Int×(Int×Tq11))))))))))
abbrev Tq33:Type:=((List Int)×Int)
abbrev Tq34:Type:=(Tq8×(Int×Int))
abbrev Yq0:Ty:=(.pair (.pair (.bool) (.sl (.int .i64))) (.pair (.bool) (.sl (.int .i64))))
abbrev Yq1:Ty:=(.pair (.int .i64) (.int .i64))
abbrev Yq2:Ty:=(.pair Yq0 Yq0)
abbrev Yq3:Ty:=(.pair (.bool) (.sl (.int .i64)))
def Bf5:TyD:=⟨1,8,false,[(.v (.int .i64 0))],none,false,(some .i64),[],false⟩
def Bi6:TyD:=⟨1,1,false,[(.v (.bool false))],none,false,none,[],false⟩
def Bk2:TyD:=⟨1,1,false,[(.v (.int .u8 0))],none,false,(some .u8),[],false⟩
def Bi1:TyD:=⟨1,16,false,[(.v (.string ⟨#[]⟩))],none,true,none,[],false⟩
def A7P:TyD:=⟨1,24,false,[.em],(some 3),false,none,[],false⟩
def A93:TyD:=⟨2,32,true,[(.v (.bool false)),.em],none,false,none,[⟨0,4,1,false⟩,⟨1,22,1,false⟩],false⟩
def A9N:TyD:=⟨4,64,true,[(.v (.bool false)),.em,(.v (.bool false)),.em],none,false,none,[⟨0,24,2,true⟩,⟨2,24,2,true⟩],false⟩
def A9R:TyD:=⟨1,24,false,[.em],(some 87),false,none,[],false⟩
def A9Q:TyD:=⟨2,16,true,[(.v (.int .i64 0)),(.v (.int .i64 0))],none,false,none,[⟨0,3,1,false⟩,⟨1,3,1,false⟩],false⟩
def A9T:TyD:=⟨4,32,true,[(.v (.int .i64 0)),(.v (.int .i64 0)),(.v (.int .i64 0)),(.v (.int .i64 0))],none,false,none,[⟨0,3,1,false⟩,⟨1,3,1,false⟩,⟨2,3,1,false⟩,⟨3,3,1,false⟩],false⟩
def A9Z:TyD:=⟨4,32,true,[(.v (.int .i64 0)),(.v (.int .i64 0)),(.v (.int .i64 0)),(.v (.int .i64 0))],none,false,none,[⟨0,3,1,false⟩,⟨1,3,1,false⟩,⟨2,3,1,false⟩,⟨3,3,1,false⟩],false⟩
def A91:TyD:=⟨1,24,false,[.em],(some 9),false,none,[],false⟩
def A99:TyD:=⟨1,24,false,[.em],(some 26),false,none,[],false⟩
def Ba4:TyD:=⟨1,24,false,[.em],(some 48),false,none,[],false⟩
def A95:TyD:=⟨1,24,false,[.em],(some 161),false,none,[],false⟩
def A6s:TyD:=⟨5,88,true,[.em,(.v (.int .i64 0)),.em,.em,(.v (.bool false))],none,false,none,[⟨0,63,1,false⟩,⟨1,3,1,false⟩,⟨2,33,1,false⟩,⟨3,87,1,false⟩,⟨4,4,1,false⟩],false⟩
def A72:TyD:=⟨1,8,false,[(.v (.int .u64 0))],none,false,(some .u64),[],false⟩
def A59:TyD:=⟨5,88,true,[.em,(.v (.int .i64 0)),.em,.em,(.v (.int .i64 0))],none,false,none,[⟨0,63,1,false⟩,⟨1,3,1,false⟩,⟨2,33,1,false⟩,⟨3,87,1,false⟩,⟨4,3,1,false⟩],false⟩
def A7S:TyD:=⟨1,16,false,[(.v .nilIface)],none,false,none,[],true⟩
def A7z:TyD:=⟨8,128,true,[(.v (.bool false)),.em,(.v (.bool false)),.em,(.v (.bool false)),.em,(.v (.bool false)),.em],none,false,none,[⟨0,26,4,true⟩,⟨4,26,4,true⟩],false⟩
def A6W:TyD:=⟨1,8,false,[(.v (.int .u64 0))],none,false,(some .u64),[],false⟩
def A7H:TyD:=⟨1,24,false,[.em],(some 24),false,none,[],false⟩
theorem ty3:AZ Tryz.prog 3=some Bf5:=by kernel_rfl
theorem ty4:AZ Tryz.prog 4=some Bi6:=by kernel_rfl
theorem ty5:AZ Tryz.prog 5=some Bk2:=by kernel_rfl
theorem ty9:AZ Tryz.prog 9=some Bi1:=by kernel_rfl
theorem Bg8:AZ Tryz.prog 22=some A7P:=by kernel_rfl
theorem Bk8:AZ Tryz.prog 24=some A93:=by kernel_rfl
theorem Bl2:AZ Tryz.prog 26=some A9N:=by kernel_rfl
theorem Bk9:AZ Tryz.prog 33=some A9R:=by kernel_rfl
theorem Bm2:AZ Tryz.prog 48=some A9Q:=by kernel_rfl
theorem Bk7:AZ Tryz.prog 55=some A9T:=by kernel_rfl
theorem Bn1:AZ Tryz.prog 58=some A9Z:=by kernel_rfl
theorem Bl8:AZ Tryz.prog 63=some A91:=by kernel_rfl
theorem Bm3:AZ Tryz.prog 70=some A99:=by kernel_rfl
theorem Bm8:AZ Tryz.prog 87=some Ba4:=by kernel_rfl
theorem Bm4:AZ Tryz.prog 95=some A95:=by kernel_rfl
theorem Bj0:AZ Tryz.prog 108=some A6s:=by kernel_rfl
theorem Bi4:AZ Tryz.prog 113=some A72:=by kernel_rfl
theorem Bj6:AZ Tryz.prog 120=some A59:=by kernel_rfl
theorem Bi2:AZ Tryz.prog 125=some A7S:=by kernel_rfl
theorem Bk5:AZ Tryz.prog 161=some A7z:=by kernel_rfl
theorem Bh4:AZ Tryz.prog 221=some A6W:=by kernel_rfl
theorem Bi8:AZ Tryz.prog 249=some A7H:=by kernel_rfl
def Ak:List (Nat×TyD):=[(3,Bf5),(4,Bi6),(5,Bk2),(9,Bi1),(22,A7P),(24,A93),(26,A9N),(33,A9R),(48,A9Q),(55,A9T),(58,A9Z),(63,A91),(70,A99),(87,Ba4),(95,A95),(108,A6s),(113,A72),(120,A59),(125,A7S),(161,A7z),(221,A6W),(249,A7H)]
def Ae:List (Nat×Ty):=[(3,.int .i64),(9,.str),(24,.pair (.bool) (.sl (.int .i64))),(26,.pair Yq3 Yq3),(48,.pair (.int .i64) (.int .i64)),(87,.sl Yq1),(161,.pair Yq0 Yq0)]
theorem AD:∀ t d,getD Ak t=some d->AZ Tryz.prog t=some d:=Bc5 (by unfold Ak; exact ⟨ty3,⟨ty4,⟨ty5,⟨ty9,⟨Bg8,⟨Bk8,⟨Bl2,⟨Bk9,⟨Bm2,⟨Bk7,⟨Bn1,⟨Bl8,⟨Bm3,⟨Bm8,⟨Bm4,⟨Bj0,⟨Bi4,⟨Bj6,⟨Bi2,⟨Bk5,⟨Bh4,⟨Bi8,trivial⟩⟩⟩⟩⟩⟩⟩⟩⟩⟩⟩⟩⟩⟩⟩⟩⟩⟩⟩⟩⟩⟩)
theorem Bj3:Tryz.prog.underlying 4=some .bool:=by kernel_rfl
theorem Af:∀ t,([4]:List Nat).contains t=true->Tryz.prog.underlying t=some .bool:=by
 intro t h;simp at h;rcases h with rfl
 all_goals first | exact Bj3
theorem AA:∀ t,([]:List Nat).contains t=true->Bh7 Tryz.prog t:=by
 intro t h;simp at h
 try exact h.elim
def NJ:FAnn:=⟨39,0,[.slot 0 (.agg [.int .i64,.int .i64,.int .i64,.int .i64])],[.slot 0 (.agg [.int .i64,.int .i64,.int .i64,.int .i64])],
 [],
 [],
 []⟩
def MO:FAnn:=⟨95,0,[.slot 0 (.cell (.str))],[.blk (.arr 9 true (.str)),.slot 0 (.ref 0 false)],
 [(4,[.blk (.arr 9 true (.str)),.slot 0 (.cell (.str)),.slot 3 (.ref 0 false),.slot 4 (.cell (.int .i64)),.slot 5 (.cell (.int .i64))])],
 [(4,[(.exit 0,[.blk (.arr 9 true (.str)),.slot 0 (.cell (.str)),.slot 3 (.ref 0 false),.slot 4 (.cell (.int .i64))])])],
 []⟩
def Sk:FAnn:=⟨102,0,[.slot 0 (.cell (.str)),.slot 1 (.cell (.int .i64))],[.slot 0 (.cell (.int .i64)),.slot 1 (.cell (.int .i64))],
 [(3,[.slot 0 (.cell (.str)),.slot 1 (.cell (.int .i64)),.slot 6 (.cell (.int .i64)),.slot 7 (.cell (.int .i64))])],
 [(3,[(.exit 0,[.slot 0 (.cell (.str)),.slot 1 (.cell (.int .i64)),.slot 6 (.cell (.int .i64)),.slot 7 (.cell (.int .i64))])])],
 []⟩
def KM:FAnn:=⟨31,0,[.slot 0 (.cell (.str))],[.slot 0 (.cell (.int .i64)),.slot 1 (.cell (.bool))],
 [],
 [],
 [(2,[.slot 0 (.cell (.str)),.slot 4 (.cell (.bool))]),(5,[.slot 4 (.cell (.bool)),.slot 5 (.cell (.str))]),(8,[.slot 4 (.cell (.bool)),.slot 6 (.cell (.int .i64))])]⟩
def I0:FAnn:=⟨161,1,[.blk (.box 120 [.im (.str),.int .i64,.at 1,.at 2,.int .i64]),.blk (.arr 87 false (.sl Yq1)),.blk (.arr 48 true Yq1),.slot 0 (.ref 0 true)],[.blk (.box 120 [.im (.str),.int .i64,.at 1,.at 2,.int .i64]),.blk (.arr 87 false (.sl Yq1)),.blk (.arr 48 true Yq1),.slot 0 (.cell (.int .i64))],
 [],
 [],
 []⟩
def Aa1:FAnn:=⟨90,0,[.slot 0 (.cell (.int .i64)),.slot 1 (.cell (.int .i64)),.slot 2 (.cell (.int .i64))],[.slot 0 (.cell (.bool))],
 [],
 [],
 []⟩
def R0:FAnn:=⟨166,0,[.slot 0 (.agg [.int .i64,.int .i64])],[.slot 0 (.cell (.bool))],
 [],
 [],
 []⟩
def Kz:FAnn:=⟨162,1,[.blk (.box 120 [.im (.str),.int .i64,.at 1,.at 2,.int .i64]),.blk (.arr 87 false (.sl Yq1)),.blk (.arr 48 true Yq1),.slot 0 (.ref 0 true),.slot 1 (.agg [.int .i64,.int .i64])],[.blk (.box 120 [.im (.str),.int .i64,.at 1,.at 2,.int .i64]),.blk (.arr 87 false (.sl Yq1)),.blk (.arr 48 true Yq1)],
 [],
 [],
 []⟩
def HY:FAnn:=⟨96,1,[.blk (.box 120 [.im (.str),.int .i64,.at 1,.at 2,.int .i64]),.blk (.arr 87 false (.sl Yq1)),.blk (.arr 48 true Yq1),.slot 0 (.ref 0 true)],[.blk (.box 120 [.im (.str),.int .i64,.at 1,.at 2,.int .i64]),.blk (.arr 87 false (.sl Yq1)),.blk (.arr 48 true Yq1)],
 [(4,[.blk (.box 120 [.im (.str),.int .i64,.at 2,.at 3,.int .i64]),.blk (.arr 9 true (.str)),.blk (.arr 87 false (.sl Yq1)),.blk (.arr 48 true Yq1),.slot 0 (.ref 0 true),.slot 2 (.cell (.str)),.slot 3 (.cell (.bool)),.slot 4 (.cell (.bool)),.slot 28 (.ref 1 false),.slot 29 (.cell (.int .i64)),.slot 30 (.cell (.int .i64))])],
 [(4,[(.exit 0,[.blk (.box 120 [.im (.str),.int .i64,.at 1,.at 2,.int .i64]),.blk (.arr 87 false (.sl Yq1)),.blk (.arr 48 true Yq1),.slot 0 (.ref 0 true),.slot 2 (.cell (.str)),.slot 3 (.cell (.bool)),.slot 4 (.cell (.bool))])])],
 [(16,[.blk (.box 120 [.im (.str),.int .i64,.at 1,.at 2,.int .i64]),.blk (.arr 87 false (.sl Yq1)),.blk (.arr 48 true Yq1),.slot 0 (.ref 0 true),.slot 2 (.cell (.str)),.slot 3 (.cell (.bool))]),(21,[.blk (.box 120 [.im (.str),.int .i64,.at 2,.at 3,.int .i64]),.blk (.box 48 [.int .i64,.int .i64]),.blk (.arr 87 false (.sl Yq1)),.blk (.arr 48 true Yq1),.slot 0 (.ref 0 true),.slot 2 (.cell (.str)),.slot 7 (.ref 1 true)])]⟩
def LV:FAnn:=⟨25,0,[.slot 0 (.cell (.str))],[.blk (.arr 87 false (.sl Yq1)),.slot 0 (.ref 0 false),.slot 1 (.cell (.int .i64)),.slot 2 (.cell (.int .i64)),.slot 3 (.cell (.bool))],
 [(4,[.blk (.box 120 [.im (.str),.int .i64,.at 1,.at 2,.int .i64]),.blk (.arr 87 false (.sl Yq1)),.blk (.arr 48 true Yq1),.slot 6 (.ref 0 true)])],
 [(4,[(.exit 0,[.blk (.box 120 [.im (.str),.int .i64,.at 1,.at 2,.int .i64]),.blk (.arr 87 false (.sl Yq1)),.blk (.arr 48 true Yq1),.slot 6 (.ref 0 true)])])],
 [(8,[.blk (.box 120 [.im (.str),.int .i64,.at 1,.at 2,.int .i64]),.blk (.arr 87 false (.sl Yq1)),.blk (.arr 48 true Yq1),.slot 6 (.ref 0 true)])]⟩
def J5:FAnn:=⟨117,0,[.slot 0 (.agg [.int .i64,.int .i64,.int .i64,.int .i64])],[.slot 0 (.cell (.bool))],
 [],
 [],
 []⟩
def V0:FAnn:=⟨188,0,[.slot 0 (.cell (.im (.int .i64)))],[.blk (.arr 3 true (.int .i64)),.slot 0 (.ref 0 false)],
 [(1,[.slot 0 (.cell (.im (.int .i64)))])],
 [(1,[(.exit 0,[.slot 0 (.cell (.im (.int .i64)))])])],
 []⟩
def Sd:FAnn:=⟨133,0,[.slot 0 (.cell (.bool)),.slot 1 (.cell (.im (.int .i64)))],[.blk (.arr 3 true (.int .i64)),.slot 0 (.agg [.bool,.at 0])],
 [],
 [],
 []⟩
def Vw:FAnn:=⟨72,0,[.slot 0 (.cell (.int .i64))],[.slot 0 (.agg [.bool,.im (.int .i64)])],
 [(3,[.blk (.box 24 [.bool,.im (.int .i64)]),.blk (.arr 3 true (.int .i64)),.slot 0 (.cell (.int .i64)),.slot 2 (.ref 0 true),.slot 3 (.ref 1 false),.slot 4 (.cell (.int .i64))])],
 [(3,[(.exit 0,[.blk (.box 24 [.bool,.im (.int .i64)]),.blk (.arr 3 true (.int .i64)),.slot 0 (.cell (.int .i64)),.slot 2 (.ref 0 true),.slot 3 (.ref 1 false)])])],
 []⟩
def V5:FAnn:=⟨118,0,[.slot 0 (.cell (.int .i64))],[.slot 0 (.agg [.bool,.im (.int .i64),.bool,.im (.int .i64)])],
 [],
 [],
 []⟩
def Wa:FAnn:=⟨152,0,[.slot 0 (.cell (.im Yq1))],[.slot 0 (.cell (.bool))],
 [(2,[.slot 5 (.cell (.im Yq1)),.slot 6 (.cell (.int .i64)),.slot 7 (.cell (.int .i64))])],
 [(2,[(.exit 0,[]),(.ret,[.slot 2 (.cell (.bool))])])],
 []⟩
def V2:FAnn:=⟨89,0,[.slot 0 (.cell (.im Yq1))],[.slot 0 (.cell (.bool))],
 [],
 [],
 []⟩
def Vt:FAnn:=⟨176,0,[.slot 0 (.agg [.int .i64,.int .i64])],[.slot 0 (.agg [.bool,.im (.int .i64),.bool,.im (.int .i64),.bool,.im (.int .i64),.bool,.im (.int .i64)])],
 [],
 [],
 []⟩
def Sp:FAnn:=⟨119,0,[.slot 0 (.cell (.im Yq1))],[.blk (.arr 161 false Yq2),.slot 0 (.ref 0 false),.slot 1 (.cell (.bool))],
 [(5,[.blk (.arr 161 false Yq2),.slot 4 (.ref 0 false),.slot 10 (.cell (.im Yq1)),.slot 11 (.cell (.int .i64)),.slot 12 (.cell (.int .i64))])],
 [(5,[(.exit 0,[.blk (.arr 161 false Yq2),.slot 4 (.ref 0 false)])])],
 []⟩
def P6:FAnn:=⟨216,0,[.slot 0 (.agg [.bool,.im (.int .i64)])],[.slot 0 (.cell (.bool))],
 [(2,[.blk (.box 24 [.bool,.im (.int .i64)]),.slot 1 (.ref 0 true),.slot 7 (.cell (.im (.int .i64))),.slot 8 (.cell (.int .i64)),.slot 9 (.cell (.int .i64))])],
 [(2,[(.exit 0,[.blk (.box 24 [.bool,.im (.int .i64)]),.slot 1 (.ref 0 true)]),(.ret,[.slot 2 (.cell (.bool))])])],
 []⟩
def VJ:FAnn:=⟨217,0,[.slot 0 (.cell (.im (.int .i64))),.slot 1 (.cell (.im (.int .i64)))],[.slot 0 (.cell (.int .i64))],
 [(6,[.slot 0 (.cell (.im (.int .i64))),.slot 1 (.cell (.im (.int .i64))),.slot 5 (.cell (.int .i64))])],
 [(6,[(.exit 0,[]),(.ret,[.slot 4 (.cell (.int .i64))])])],
 []⟩
def P0:FAnn:=⟨239,0,[.slot 0 (.cell (.im (.int .i64))),.slot 1 (.cell (.int .i64))],[.blk (.arr 3 true (.int .i64)),.blk (.arr 3 true (.int .i64)),.slot 0 (.ref 0 false),.slot 1 (.ref 1 false)],
 [(4,[.blk (.arr 3 true (.int .i64)),.slot 0 (.cell (.im (.int .i64))),.slot 1 (.cell (.int .i64)),.slot 6 (.ref 0 false),.slot 7 (.cell (.int .i64)),.slot 8 (.cell (.int .i64))])],
 [(4,[(.exit 0,[.blk (.arr 3 true (.int .i64)),.slot 6 (.ref 0 false),.slot 7 (.cell (.int .i64))])])],
 []⟩
def Ai5:FAnn:=⟨240,0,[.slot 0 (.cell (.im (.int .i64))),.slot 1 (.cell (.int .i64))],[.blk (.arr 3 true (.int .i64)),.slot 0 (.ref 0 false)],
 [(3,[.blk (.arr 3 true (.int .i64)),.slot 1 (.cell (.int .i64)),.slot 5 (.ref 0 false),.slot 13 (.cell (.im (.int .i64))),.slot 14 (.cell (.int .i64)),.slot 15 (.cell (.int .i64))])],
 [(3,[(.exit 0,[.blk (.arr 3 true (.int .i64)),.slot 5 (.ref 0 false)])])],
 []⟩
def Pq:FAnn:=⟨241,0,[.slot 0 (.cell (.im (.int .i64))),.slot 1 (.cell (.im (.int .i64))),.slot 2 (.cell (.int .i64))],[.slot 0 (.cell (.int .i64))],
 [(5,[.slot 0 (.cell (.im (.int .i64))),.slot 1 (.cell (.im (.int .i64))),.slot 2 (.cell (.int .i64)),.slot 7 (.cell (.int .i64)),.slot 9 (.cell (.int .i64)),.slot 10 (.cell (.int .i64))])],
 [(5,[(.exit 0,[.slot 9 (.cell (.int .i64))])])],
 [(6,[.slot 0 (.cell (.im (.int .i64))),.slot 1 (.cell (.im (.int .i64))),.slot 2 (.cell (.int .i64)),.slot 7 (.cell (.int .i64)),.slot 9 (.cell (.int .i64)),.slot 10 (.cell (.int .i64))])]⟩
def SU:FAnn:=⟨276,0,[.slot 0 (.cell (.im (.int .i64))),.slot 1 (.cell (.int .i64))],[.slot 0 (.cell (.int .i64))],
 [],
 [],
 []⟩
def Td:FAnn:=⟨242,1,[.blk (.arr 3 true (.int .i64)),.slot 0 (.ref 0 false),.slot 1 (.cell (.im (.int .i64))),.slot 2 (.cell (.int .i64)),.slot 3 (.cell (.int .i64))],[.blk (.arr 3 true (.int .i64)),.slot 0 (.cell (.int .i64))],
 [(3,[.blk (.arr 3 true (.int .i64)),.slot 0 (.ref 0 false),.slot 1 (.cell (.im (.int .i64))),.slot 2 (.cell (.int .i64)),.slot 3 (.cell (.int .i64)),.slot 9 (.cell (.int .i64)),.slot 10 (.cell (.int .i64))])],
 [(3,[(.exit 0,[.blk (.arr 3 true (.int .i64)),.slot 9 (.cell (.int .i64))])])],
 [(10,[.blk (.arr 3 true (.int .i64)),.slot 0 (.ref 0 false),.slot 1 (.cell (.im (.int .i64))),.slot 2 (.cell (.int .i64)),.slot 3 (.cell (.int .i64)),.slot 9 (.cell (.int .i64)),.slot 10 (.cell (.int .i64)),.slot 11 (.cell (.int .i64))])]⟩
def S1:FAnn:=⟨243,1,[.blk (.arr 3 true (.int .i64)),.slot 0 (.ref 0 false),.slot 1 (.cell (.im (.int .i64))),.slot 2 (.cell (.int .i64))],[.blk (.arr 3 true (.int .i64))],
 [(2,[.blk (.arr 3 true (.int .i64)),.slot 0 (.ref 0 false),.slot 1 (.cell (.im (.int .i64))),.slot 2 (.cell (.int .i64)),.slot 6 (.cell (.int .i64)),.slot 7 (.cell (.int .i64))])],
 [(2,[(.exit 0,[.blk (.arr 3 true (.int .i64))])])],
 []⟩
def Ss:FAnn:=⟨244,0,[.slot 0 (.cell (.im (.int .i64))),.slot 1 (.cell (.int .i64))],[.blk (.arr 3 true (.int .i64)),.slot 0 (.ref 0 false)],
 [(3,[.blk (.arr 3 true (.int .i64)),.slot 0 (.cell (.im (.int .i64))),.slot 1 (.cell (.int .i64)),.slot 5 (.ref 0 false),.slot 11 (.cell (.int .i64)),.slot 12 (.cell (.int .i64))])],
 [(3,[(.exit 0,[.blk (.arr 3 true (.int .i64)),.slot 5 (.ref 0 false)])])],
 []⟩
def Kv:FAnn:=⟨189,0,[.slot 0 (.cell (.im (.int .i64))),.slot 1 (.cell (.im (.int .i64)))],[.blk (.arr 3 true (.int .i64)),.blk (.arr 3 true (.int .i64)),.slot 0 (.ref 0 false),.slot 1 (.ref 1 false)],
 [(7,[.blk (.arr 3 true (.int .i64)),.slot 0 (.ref 0 false),.slot 1 (.cell (.im (.int .i64))),.slot 6 (.cell (.int .i64))]),(13,[.blk (.arr 3 true (.int .i64)),.blk (.arr 3 true (.int .i64)),.blk (.arr 3 true (.int .i64)),.slot 6 (.cell (.int .i64)),.slot 7 (.ref 0 false),.slot 8 (.ref 1 false),.slot 9 (.ref 2 false),.slot 10 (.cell (.int .i64))])],
 [(7,[(.exit 0,[.blk (.arr 3 true (.int .i64)),.slot 0 (.ref 0 false),.slot 1 (.cell (.im (.int .i64))),.slot 6 (.cell (.int .i64))])]),(13,[(.exit 2,[.blk (.arr 3 true (.int .i64)),.blk (.arr 3 true (.int .i64)),.slot 6 (.cell (.int .i64)),.slot 7 (.ref 0 false),.slot 9 (.ref 1 false)])])],
 []⟩
def WB:FAnn:=⟨134,0,[.slot 0 (.cell (.im (.int .i64))),.slot 1 (.cell (.im (.int .i64)))],[.blk (.arr 3 true (.int .i64)),.slot 0 (.ref 0 false)],
 [(1,[.slot 0 (.cell (.im (.int .i64))),.slot 1 (.cell (.im (.int .i64)))])],
 [(1,[(.exit 0,[.slot 0 (.cell (.im (.int .i64)))])])],
 []⟩
def PV:FAnn:=⟨311,0,[.slot 0 (.agg [.bool,.im (.int .i64),.bool,.im (.int .i64)])],[.slot 0 (.cell (.bool))],
 [],
 [],
 []⟩
def Pf:FAnn:=⟨297,0,[.slot 0 (.agg [.bool,.im (.int .i64),.bool,.im (.int .i64)])],[.slot 0 (.cell (.bool))],
 [],
 [],
 []⟩
def NK:FAnn:=⟨270,0,[.slot 0 (.cell (.im Yq2))],[.slot 0 (.cell (.bool))],
 [(2,[.slot 0 (.cell (.im Yq2)),.slot 5 (.cell (.im Yq2)),.slot 6 (.cell (.int .i64)),.slot 7 (.cell (.int .i64))])],
 [(2,[(.exit 0,[.slot 0 (.cell (.im Yq2))]),(.ret,[.slot 2 (.cell (.bool))])])],
 []⟩
def MU:FAnn:=⟨298,0,[.slot 0 (.agg [.bool,.im (.int .i64),.bool,.im (.int .i64)])],[.slot 0 (.cell (.bool))],
 [],
 [],
 []⟩
def VD:FAnn:=⟨271,0,[.slot 0 (.agg [.bool,.im (.int .i64),.bool,.im (.int .i64),.bool,.im (.int .i64),.bool,.im (.int .i64)])],[.slot 0 (.cell (.bool))],
 [],
 [],
 []⟩
def KB:FAnn:=⟨232,0,[.slot 0 (.cell (.im (.int .i64))),.slot 1 (.cell (.im (.int .i64)))],[.blk (.arr 3 true (.int .i64)),.slot 0 (.ref 0 false)],
 [(3,[.blk (.arr 3 true (.int .i64)),.slot 1 (.cell (.im (.int .i64))),.slot 5 (.ref 0 false),.slot 18 (.cell (.im (.int .i64))),.slot 19 (.cell (.int .i64)),.slot 20 (.cell (.int .i64))]),(7,[.blk (.arr 3 true (.int .i64)),.slot 1 (.cell (.im (.int .i64))),.slot 5 (.ref 0 false),.slot 6 (.cell (.int .i64)),.slot 7 (.cell (.int .i64)),.slot 8 (.cell (.int .i64)),.slot 9 (.cell (.int .i64)),.slot 18 (.cell (.im (.int .i64))),.slot 19 (.cell (.int .i64)),.slot 20 (.cell (.int .i64))])],
 [(3,[(.exit 0,[.blk (.arr 3 true (.int .i64)),.slot 5 (.ref 0 false)])]),(7,[(.exit 2,[.blk (.arr 3 true (.int .i64)),.slot 1 (.cell (.im (.int .i64))),.slot 5 (.ref 0 false),.slot 18 (.cell (.im (.int .i64))),.slot 19 (.cell (.int .i64)),.slot 20 (.cell (.int .i64))])])],
 [(9,[.blk (.arr 3 true (.int .i64)),.slot 1 (.cell (.im (.int .i64))),.slot 5 (.ref 0 false),.slot 6 (.cell (.int .i64)),.slot 7 (.cell (.int .i64)),.slot 8 (.cell (.int .i64)),.slot 9 (.cell (.int .i64)),.slot 18 (.cell (.im (.int .i64))),.slot 19 (.cell (.int .i64)),.slot 20 (.cell (.int .i64))])]⟩
def Vr:FAnn:=⟨179,0,[.slot 0 (.agg [.bool,.im (.int .i64)]),.slot 1 (.agg [.bool,.im (.int .i64)])],[.slot 0 (.agg [.bool,.im (.int .i64)])],
 [],
 [],
 []⟩
def Nu:FAnn:=⟨215,0,[.slot 0 (.agg [.bool,.im (.int .i64)]),.slot 1 (.agg [.bool,.im (.int .i64)])],[.slot 0 (.cell (.int .i64))],
 [],
 [],
 []⟩
def V9:FAnn:=⟨168,0,[.slot 0 (.agg [.bool,.im (.int .i64),.bool,.im (.int .i64)]),.slot 1 (.agg [.bool,.im (.int .i64),.bool,.im (.int .i64)])],[.slot 0 (.cell (.int .i64))],
 [],
 [],
 []⟩
def MV:FAnn:=⟨316,0,[.slot 0 (.agg [.bool,.im (.int .i64),.bool,.im (.int .i64),.bool,.im (.int .i64),.bool,.im (.int .i64)]),.slot 1 (.cell (.bool))],[.slot 0 (.agg [.bool,.im (.int .i64),.bool,.im (.int .i64)])],
 [],
 [],
 []⟩
def PW:FAnn:=⟨313,0,[.slot 0 (.agg [.bool,.im (.int .i64),.bool,.im (.int .i64),.bool,.im (.int .i64),.bool,.im (.int .i64)]),.slot 1 (.cell (.bool)),.slot 2 (.agg [.bool,.im (.int .i64),.bool,.im (.int .i64)]),.slot 3 (.cell (.bool))],[.slot 0 (.cell (.int .i64))],
 [],
 [],
 []⟩
def Ww:FAnn:=⟨136,0,[.slot 0 (.agg [.bool,.im (.int .i64)])],[.slot 0 (.agg [.bool,.im (.int .i64)])],
 [],
 [],
 []⟩
def Ws:FAnn:=⟨301,0,[.slot 0 (.agg [.bool,.im (.int .i64),.bool,.im (.int .i64)])],[.slot 0 (.agg [.bool,.im (.int .i64),.bool,.im (.int .i64)])],
 [],
 [],
 []⟩
def Ku:FAnn:=⟨230,0,[.slot 0 (.cell (.im (.int .i64))),.slot 1 (.cell (.im (.int .i64)))],[.blk (.arr 3 true (.int .i64)),.slot 0 (.ref 0 false)],
 [(4,[.blk (.arr 3 true (.int .i64)),.slot 0 (.cell (.im (.int .i64))),.slot 1 (.cell (.im (.int .i64))),.slot 5 (.ref 0 false),.slot 6 (.cell (.int .i64)),.slot 7 (.cell (.int .i64))])],
 [(4,[(.exit 0,[.blk (.arr 3 true (.int .i64)),.slot 5 (.ref 0 false)])])],
 [(6,[.blk (.arr 3 true (.int .i64)),.slot 0 (.cell (.im (.int .i64))),.slot 1 (.cell (.im (.int .i64))),.slot 5 (.ref 0 false),.slot 6 (.cell (.int .i64)),.slot 7 (.cell (.int .i64))])]⟩
def Km:FAnn:=⟨231,0,[.slot 0 (.cell (.im (.int .i64))),.slot 1 (.cell (.im (.int .i64)))],[.blk (.arr 3 true (.int .i64)),.slot 0 (.ref 0 false)],
 [(4,[.blk (.arr 3 true (.int .i64)),.slot 0 (.cell (.im (.int .i64))),.slot 1 (.cell (.im (.int .i64))),.slot 5 (.ref 0 false),.slot 6 (.cell (.int .i64)),.slot 10 (.cell (.int .i64)),.slot 11 (.cell (.int .i64))])],
 [(4,[(.exit 0,[.blk (.arr 3 true (.int .i64)),.slot 5 (.ref 0 false)])])],
 []⟩
def Vc:FAnn:=⟨178,0,[.slot 0 (.agg [.bool,.im (.int .i64)]),.slot 1 (.agg [.bool,.im (.int .i64)])],[.slot 0 (.agg [.bool,.im (.int .i64)])],
 [],
 [],
 []⟩
def VQ:FAnn:=⟨135,0,[.slot 0 (.agg [.bool,.im (.int .i64)]),.slot 1 (.agg [.bool,.im (.int .i64)])],[.slot 0 (.agg [.bool,.im (.int .i64)]),.slot 1 (.agg [.bool,.im (.int .i64)])],
 [],
 [],
 []⟩
def Ta:FAnn:=⟨71,0,[.slot 0 (.agg [.bool,.im (.int .i64)]),.slot 1 (.agg [.bool,.im (.int .i64)])],[.slot 0 (.agg [.bool,.im (.int .i64),.bool,.im (.int .i64)])],
 [],
 [],
 []⟩
def Wb:FAnn:=⟨121,0,[.slot 0 (.agg [.bool,.im (.int .i64),.bool,.im (.int .i64)]),.slot 1 (.agg [.bool,.im (.int .i64),.bool,.im (.int .i64)])],[.slot 0 (.agg [.bool,.im (.int .i64),.bool,.im (.int .i64)])],
 [],
 [],
 []⟩
def Wj:FAnn:=⟨274,0,[.slot 0 (.agg [.bool,.im (.int .i64),.bool,.im (.int .i64)]),.slot 1 (.agg [.bool,.im (.int .i64),.bool,.im (.int .i64)])],[.slot 0 (.agg [.bool,.im (.int .i64),.bool,.im (.int .i64)])],
 [],
 [],
 []⟩
def V3:FAnn:=⟨275,0,[.slot 0 (.agg [.bool,.im (.int .i64),.bool,.im (.int .i64)]),.slot 1 (.agg [.bool,.im (.int .i64),.bool,.im (.int .i64)])],[.slot 0 (.agg [.bool,.im (.int .i64),.bool,.im (.int .i64)])],
 [],
 [],
 []⟩
def Wi:FAnn:=⟨171,0,[.slot 0 (.agg [.bool,.im (.int .i64),.bool,.im (.int .i64)]),.slot 1 (.agg [.bool,.im (.int .i64),.bool,.im (.int .i64)])],[.slot 0 (.agg [.bool,.im (.int .i64),.bool,.im (.int .i64)])],
 [],
 [],
 []⟩
def OO:FAnn:=⟨318,0,[.slot 0 (.agg [.bool,.im (.int .i64),.bool,.im (.int .i64)]),.slot 1 (.agg [.bool,.im (.int .i64),.bool,.im (.int .i64)]),.slot 2 (.agg [.bool,.im (.int .i64),.bool,.im (.int .i64)])],[.slot 0 (.agg [.bool,.im (.int .i64),.bool,.im (.int .i64)])],
 [],
 [],
 []⟩
def RX:FAnn:=⟨317,0,[.slot 0 (.agg [.bool,.im (.int .i64),.bool,.im (.int .i64),.bool,.im (.int .i64),.bool,.im (.int .i64)]),.slot 1 (.agg [.bool,.im (.int .i64),.bool,.im (.int .i64),.bool,.im (.int .i64),.bool,.im (.int .i64)]),.slot 2 (.agg [.bool,.im (.int .i64),.bool,.im (.int .i64)])],[.slot 0 (.agg [.bool,.im (.int .i64),.bool,.im (.int .i64),.bool,.im (.int .i64),.bool,.im (.int .i64)])],
 [],
 [],
 []⟩
def RV:FAnn:=⟨314,0,[.slot 0 (.agg [.bool,.im (.int .i64),.bool,.im (.int .i64),.bool,.im (.int .i64),.bool,.im (.int .i64)]),.slot 1 (.agg [.bool,.im (.int .i64),.bool,.im (.int .i64),.bool,.im (.int .i64),.bool,.im (.int .i64)]),.slot 2 (.cell (.bool)),.slot 3 (.agg [.bool,.im (.int .i64),.bool,.im (.int .i64)])],[.slot 0 (.agg [.bool,.im (.int .i64),.bool,.im (.int .i64),.bool,.im (.int .i64),.bool,.im (.int .i64)])],
 [],
 [],
 []⟩
def Pg:FAnn:=⟨300,0,[.slot 0 (.cell (.im Yq2)),.slot 1 (.cell (.bool)),.slot 2 (.agg [.bool,.im (.int .i64),.bool,.im (.int .i64)]),.slot 3 (.cell (.bool))],[.blk (.arr 161 false Yq2),.slot 0 (.ref 0 false)],
 [(3,[.blk (.box 26 [.bool,.im (.int .i64),.bool,.im (.int .i64)]),.blk (.arr 161 false Yq2),.slot 0 (.cell (.im Yq2)),.slot 1 (.cell (.bool)),.slot 3 (.cell (.bool)),.slot 6 (.ref 0 true),.slot 9 (.ref 1 false),.slot 15 (.cell (.im Yq2)),.slot 16 (.cell (.int .i64)),.slot 17 (.cell (.int .i64))])],
 [(3,[(.exit 0,[.blk (.arr 161 false Yq2),.slot 9 (.ref 0 false)])])],
 []⟩
def Tg:FAnn:=⟨273,0,[.slot 0 (.cell (.im Yq2)),.slot 1 (.agg [.bool,.im (.int .i64),.bool,.im (.int .i64),.bool,.im (.int .i64),.bool,.im (.int .i64)]),.slot 2 (.agg [.bool,.im (.int .i64),.bool,.im (.int .i64),.bool,.im (.int .i64),.bool,.im (.int .i64)])],[.blk (.arr 161 false Yq2),.slot 0 (.ref 0 false)],
 [],
 [],
 []⟩
def R2:FAnn:=⟨70,0,[.slot 0 (.agg [.bool,.im (.int .i64),.bool,.im (.int .i64)])],[.slot 0 (.agg [.bool,.im (.int .i64),.bool,.im (.int .i64)]),.slot 1 (.cell (.bool))],
 [],
 [],
 []⟩
def Ph:FAnn:=⟨312,0,[.slot 0 (.agg [.bool,.im (.int .i64),.bool,.im (.int .i64),.bool,.im (.int .i64),.bool,.im (.int .i64)])],[.slot 0 (.agg [.bool,.im (.int .i64),.bool,.im (.int .i64),.bool,.im (.int .i64),.bool,.im (.int .i64)]),.slot 1 (.cell (.bool))],
 [],
 [],
 []⟩
def Ti:FAnn:=⟨299,0,[.slot 0 (.cell (.im Yq2))],[.slot 0 (.cell (.im Yq2)),.slot 1 (.cell (.bool))],
 [(3,[.blk (.arr 161 false Yq2),.slot 4 (.ref 0 false),.slot 9 (.cell (.im Yq2)),.slot 10 (.cell (.int .i64)),.slot 11 (.cell (.int .i64))])],
 [(3,[(.exit 0,[.blk (.arr 161 false Yq2),.slot 4 (.ref 0 false)]),(.ret,[.slot 2 (.cell (.im Yq2)),.slot 3 (.cell (.bool))])])],
 []⟩
def PI:FAnn:=⟨272,0,[.slot 0 (.cell (.im Yq2))],[.slot 0 (.cell (.im Yq2)),.slot 1 (.cell (.bool))],
 [],
 [],
 []⟩
def PZ:FAnn:=⟨228,0,[.slot 0 (.cell (.im Yq2)),.slot 1 (.agg [.bool,.im (.int .i64),.bool,.im (.int .i64),.bool,.im (.int .i64),.bool,.im (.int .i64)]),.slot 2 (.agg [.bool,.im (.int .i64),.bool,.im (.int .i64),.bool,.im (.int .i64),.bool,.im (.int .i64)])],[.slot 0 (.cell (.im Yq2)),.slot 1 (.cell (.bool))],
 [],
 [],
 []⟩
def Qk:FAnn:=⟨229,0,[.slot 0 (.cell (.im Yq2))],[.slot 0 (.agg [.bool,.im (.int .i64),.bool,.im (.int .i64)])],
 [(3,[.blk (.box 26 [.bool,.im (.int .i64),.bool,.im (.int .i64)]),.blk (.box 26 [.bool,.im (.int .i64),.bool,.im (.int .i64)]),.slot 0 (.cell (.im Yq2)),.slot 2 (.ref 0 true),.slot 3 (.ref 1 true),.slot 8 (.cell (.im Yq2)),.slot 9 (.cell (.int .i64)),.slot 10 (.cell (.int .i64))])],
 [(3,[(.exit 0,[.blk (.box 26 [.bool,.im (.int .i64),.bool,.im (.int .i64)]),.blk (.box 26 [.bool,.im (.int .i64),.bool,.im (.int .i64)]),.slot 2 (.ref 0 true),.slot 3 (.ref 1 true)])])],
 []⟩
def NH:FAnn:=⟨177,0,[.slot 0 (.cell (.im Yq2)),.slot 1 (.cell (.int .i64)),.slot 2 (.cell (.int .i64))],[.slot 0 (.agg [.bool,.im (.int .i64),.bool,.im (.int .i64)]),.slot 1 (.cell (.bool))],
 [],
 [],
 []⟩
def ML:FAnn:=⟨120,0,[.slot 0 (.cell (.im Yq2)),.slot 1 (.agg [.int .i64,.int .i64,.int .i64,.int .i64])],[.slot 0 (.cell (.im Yq0)),.slot 1 (.cell (.bool))],
 [(5,[.blk (.box 58 [.int .i64,.int .i64,.int .i64,.int .i64]),.blk (.arr 26 false Yq0),.slot 0 (.cell (.im Yq2)),.slot 3 (.ref 0 true),.slot 6 (.ref 1 false),.slot 7 (.cell (.int .i64))]),(8,[.blk (.box 58 [.int .i64,.int .i64,.int .i64,.int .i64]),.blk (.arr 26 false Yq0),.slot 0 (.cell (.im Yq2)),.slot 3 (.ref 0 true),.slot 6 (.ref 1 false),.slot 7 (.cell (.int .i64)),.slot 8 (.cell (.int .i64))])],
 [(5,[(.exit 0,[.blk (.arr 26 false Yq0),.slot 6 (.ref 0 false)]),(.ret,[.slot 4 (.cell (.im Yq0)),.slot 5 (.cell (.bool))])]),(8,[(.exit 2,[.blk (.box 58 [.int .i64,.int .i64,.int .i64,.int .i64]),.blk (.arr 26 false Yq0),.slot 0 (.cell (.im Yq2)),.slot 3 (.ref 0 true),.slot 6 (.ref 1 false),.slot 7 (.cell (.int .i64))]),(.ret,[.slot 4 (.cell (.im Yq0)),.slot 5 (.cell (.bool))])])],
 []⟩
def LT:FAnn:=⟨51,0,[.slot 0 (.cell (.str)),.slot 1 (.agg [.int .i64,.int .i64,.int .i64,.int .i64])],[.slot 0 (.cell (.im Yq0)),.slot 1 (.cell (.bool))],
 [(6,[.blk (.box 58 [.int .i64,.int .i64,.int .i64,.int .i64]),.blk (.arr 87 false (.sl Yq1)),.blk (.arr 26 false Yq0),.slot 3 (.ref 0 true),.slot 6 (.ref 1 false),.slot 10 (.ref 2 false),.slot 11 (.cell (.int .i64))]),(10,[.blk (.box 58 [.int .i64,.int .i64,.int .i64,.int .i64]),.blk (.arr 26 false Yq0),.blk (.arr 87 false (.sl Yq1)),.slot 3 (.ref 0 true),.slot 10 (.ref 1 false),.slot 49 (.ref 2 false),.slot 50 (.cell (.int .i64)),.slot 51 (.cell (.int .i64))]),(17,[.blk (.box 58 [.int .i64,.int .i64,.int .i64,.int .i64]),.blk (.arr 26 false Yq0),.blk (.arr 87 false (.sl Yq1)),.slot 3 (.ref 0 true),.slot 10 (.ref 1 false),.slot 49 (.ref 2 false),.slot 50 (.cell (.int .i64)),.slot 51 (.cell (.int .i64)),.slot 68 (.cell (.im Yq0)),.slot 69 (.cell (.int .i64)),.slot 70 (.cell (.int .i64))])],
 [(6,[(.exit 0,[.blk (.box 58 [.int .i64,.int .i64,.int .i64,.int .i64]),.blk (.arr 87 false (.sl Yq1)),.blk (.arr 26 false Yq0),.slot 3 (.ref 0 true),.slot 6 (.ref 1 false),.slot 10 (.ref 2 false)])]),(10,[(.exit 2,[.blk (.arr 26 false Yq0),.slot 10 (.ref 0 false)]),(.ret,[.slot 4 (.cell (.im Yq0)),.slot 5 (.cell (.bool))])]),(17,[(.exit 4,[.blk (.box 58 [.int .i64,.int .i64,.int .i64,.int .i64]),.blk (.arr 26 false Yq0),.blk (.arr 87 false (.sl Yq1)),.slot 3 (.ref 0 true),.slot 10 (.ref 1 false),.slot 49 (.ref 2 false),.slot 50 (.cell (.int .i64)),.slot 51 (.cell (.int .i64))]),(.ret,[.slot 4 (.cell (.im Yq0)),.slot 5 (.cell (.bool))])])],
 []⟩
def VV:FAnn:=⟨167,0,[.slot 0 (.agg [.bool,.im (.int .i64),.bool,.im (.int .i64)])],[.slot 0 (.agg [.bool,.im (.int .i64),.bool,.im (.int .i64)])],
 [],
 [],
 []⟩
def VM:FAnn:=⟨218,0,[.slot 0 (.agg [.bool,.im (.int .i64)]),.slot 1 (.agg [.bool,.im (.int .i64)])],[.slot 0 (.agg [.bool,.im (.int .i64)])],
 [],
 [],
 []⟩
def OZ:FAnn:=⟨170,0,[.slot 0 (.agg [.bool,.im (.int .i64),.bool,.im (.int .i64)])],[.slot 0 (.agg [.bool,.im (.int .i64)])],
 [],
 [],
 []⟩
def VO:FAnn:=⟨169,0,[.slot 0 (.agg [.bool,.im (.int .i64)])],[.slot 0 (.cell (.int .i64)),.slot 1 (.cell (.bool))],
 [(8,[.blk (.box 24 [.bool,.im (.int .i64)]),.slot 1 (.ref 0 true),.slot 5 (.cell (.int .i64)),.slot 6 (.cell (.int .i64))])],
 [(8,[(.exit 0,[.blk (.box 24 [.bool,.im (.int .i64)]),.slot 1 (.ref 0 true),.slot 5 (.cell (.int .i64))])])],
 []⟩
def Pz:FAnn:=⟨108,0,[.slot 0 (.agg [.bool,.im (.int .i64),.bool,.im (.int .i64)])],[.slot 0 (.cell (.int .i64))],
 [],
 [],
 []⟩
def Ks:FAnn:=⟨38,0,[.slot 0 (.cell (.str)),.slot 1 (.agg [.int .i64,.int .i64,.int .i64,.int .i64])],[.blk (.arr 3 true (.int .i64)),.slot 0 (.ref 0 false),.slot 1 (.cell (.bool))],
 [(6,[.blk (.arr 3 true (.int .i64)),.slot 8 (.ref 0 false),.slot 19 (.cell (.im Yq0)),.slot 20 (.cell (.int .i64)),.slot 21 (.cell (.int .i64))])],
 [(6,[(.exit 0,[.blk (.arr 3 true (.int .i64)),.slot 8 (.ref 0 false)])])],
 []⟩
def S9:FAnn:=⟨85,0,[.slot 0 (.cell (.int .i64)),.slot 1 (.cell (.int .i64)),.slot 2 (.cell (.int .i64))],[.slot 0 (.cell (.bool))],
 [],
 [],
 []⟩
def Oy:FAnn:=⟨91,0,[.slot 0 (.cell (.str)),.slot 1 (.cell (.str))],[.blk (.arr 9 true (.str)),.slot 0 (.ref 0 false)],
 [],
 [],
 []⟩
def CG:FAnn:=⟨259,0,[.slot 0 (.cell (.im (.str))),.slot 1 (.cell (.str))],[.slot 0 (.cell (.int .i64))],
 [(2,[.slot 0 (.cell (.im (.str))),.slot 1 (.cell (.str)),.slot 7 (.cell (.int .i64)),.slot 8 (.cell (.int .i64))])],
 [(2,[(.exit 0,[]),(.ret,[.slot 4 (.cell (.int .i64))])])],
 []⟩
def Cb:FAnn:=⟨208,0,[.slot 0 (.cell (.im (.str))),.slot 1 (.cell (.str))],[.slot 0 (.cell (.bool))],
 [],
 [],
 []⟩
def J4:FAnn:=⟨154,1,[.blk (.box 108 [.im (.str),.int .i64,.at 1,.at 2,.bool]),.blk (.arr 87 false (.sl Yq1)),.blk (.arr 48 true Yq1),.slot 0 (.ref 0 true),.slot 1 (.cell (.str))],[.blk (.box 108 [.im (.str),.int .i64,.at 1,.at 2,.bool]),.blk (.arr 87 false (.sl Yq1)),.blk (.arr 48 true Yq1),.slot 0 (.cell (.int .i64))],
 [],
 [],
 []⟩
def JT:FAnn:=⟨155,0,[.slot 0 (.cell (.str)),.slot 1 (.cell (.str))],[.slot 0 (.cell (.bool))],
 [],
 [],
 []⟩
def PP:FAnn:=⟨101,0,[.slot 0 (.cell (.str))],[.slot 0 (.cell (.int .i64)),.slot 1 (.cell (.err))],
 [],
 [],
 []⟩
def Nf:FAnn:=⟨98,0,[.slot 0 (.cell (.int .i64))],[.slot 0 (.cell (.bool))],
 [],
 [],
 []⟩
def P8:FAnn:=⟨82,0,[.slot 0 (.cell (.int .i64))],[.slot 0 (.cell (.str))],
 [],
 [],
 []⟩
def Kd:FAnn:=⟨30,0,[.slot 0 (.cell (.str))],[.slot 0 (.cell (.int .i64)),.slot 1 (.cell (.bool))],
 [],
 [],
 []⟩
def IZ:FAnn:=⟨156,1,[.blk (.box 108 [.im (.str),.int .i64,.at 1,.at 2,.bool]),.blk (.arr 87 false (.sl Yq1)),.blk (.arr 48 true Yq1),.slot 0 (.ref 0 true)],[.blk (.box 108 [.im (.str),.int .i64,.at 1,.at 2,.bool]),.blk (.arr 87 false (.sl Yq1)),.blk (.arr 48 true Yq1),.slot 0 (.cell (.int .i64)),.slot 1 (.cell (.bool))],
 [],
 [],
 []⟩
def LR:FAnn:=⟨157,1,[.blk (.box 108 [.im (.str),.int .i64,.at 1,.at 2,.bool]),.blk (.arr 87 false (.sl Yq1)),.blk (.arr 48 true Yq1),.slot 0 (.ref 0 true),.slot 1 (.cell (.str)),.slot 2 (.cell (.im (.int .i64)))],[.blk (.box 108 [.im (.str),.int .i64,.at 1,.at 2,.bool]),.blk (.arr 87 false (.sl Yq1)),.blk (.arr 48 true Yq1),.slot 0 (.agg [.int .i64,.int .i64])],
 [],
 [],
 [(4,[.blk (.box 108 [.im (.str),.int .i64,.at 3,.at 4,.bool]),.blk (.box 48 [.int .i64,.int .i64]),.blk (.box 48 [.int .i64,.int .i64]),.blk (.arr 87 false (.sl Yq1)),.blk (.arr 48 true Yq1),.slot 1 (.cell (.str)),.slot 2 (.cell (.im (.int .i64))),.slot 6 (.ref 1 true),.slot 7 (.ref 2 true)])]⟩
def SD:FAnn:=⟨104,0,[.slot 0 (.agg [.int .i64,.int .i64])],[.slot 0 (.cell (.bool))],
 [],
 [],
 []⟩
def Ie:FAnn:=⟨92,1,[.blk (.box 108 [.im (.str),.int .i64,.at 1,.at 2,.bool]),.blk (.arr 87 false (.sl Yq1)),.blk (.arr 48 true Yq1),.slot 0 (.ref 0 true)],[.blk (.box 108 [.im (.str),.int .i64,.at 1,.at 2,.bool]),.blk (.arr 87 false (.sl Yq1)),.blk (.arr 48 true Yq1),.slot 0 (.cell (.int .i64)),.slot 1 (.cell (.int .i64))],
 [(14,[.blk (.box 108 [.im (.str),.int .i64,.at 2,.at 3,.bool]),.blk (.arr 3 true (.int .i64)),.blk (.arr 87 false (.sl Yq1)),.blk (.arr 48 true Yq1),.slot 0 (.ref 0 true),.slot 4 (.cell (.str)),.slot 7 (.ref 1 false),.slot 62 (.cell (.int .i64)),.slot 63 (.cell (.int .i64))])],
 [(14,[(.exit 0,[.blk (.box 108 [.im (.str),.int .i64,.at 2,.at 3,.bool]),.blk (.arr 3 true (.int .i64)),.blk (.arr 87 false (.sl Yq1)),.blk (.arr 48 true Yq1),.slot 0 (.ref 0 true),.slot 4 (.cell (.str)),.slot 7 (.ref 1 false)]),(.ret,[.blk (.box 108 [.im (.str),.int .i64,.at 1,.at 2,.bool]),.blk (.arr 87 false (.sl Yq1)),.blk (.arr 48 true Yq1),.slot 2 (.cell (.int .i64)),.slot 3 (.cell (.int .i64))])])],
 [(12,[.blk (.box 108 [.im (.str),.int .i64,.at 1,.at 2,.bool]),.blk (.arr 87 false (.sl Yq1)),.blk (.arr 48 true Yq1),.slot 0 (.ref 0 true),.slot 4 (.cell (.str)),.slot 6 (.cell (.int .i64))])]⟩
def LY:FAnn:=⟨22,0,[.slot 0 (.cell (.str))],[.slot 0 (.cell (.im (.sl Yq1))),.slot 1 (.cell (.int .i64)),.slot 2 (.cell (.int .i64)),.slot 3 (.cell (.bool))],
 [(4,[.blk (.box 108 [.im (.str),.int .i64,.at 1,.at 2,.bool]),.blk (.arr 87 false (.sl Yq1)),.blk (.arr 48 true Yq1),.slot 6 (.ref 0 true)])],
 [(4,[(.exit 0,[.blk (.box 108 [.im (.str),.int .i64,.at 1,.at 2,.bool]),.blk (.arr 87 false (.sl Yq1)),.blk (.arr 48 true Yq1),.slot 6 (.ref 0 true)]),(.ret,[.slot 2 (.cell (.im (.sl Yq1))),.slot 3 (.cell (.int .i64)),.slot 4 (.cell (.int .i64)),.slot 5 (.cell (.bool))])])],
 []⟩
def JX:FAnn:=⟨58,0,[.slot 0 (.agg [.int .i64,.int .i64,.int .i64,.int .i64])],[.slot 0 (.cell (.bool))],
 [],
 [],
 []⟩
def Vv:FAnn:=⟨137,0,[.slot 0 (.cell (.int .i64))],[.slot 0 (.agg [.bool,.im (.int .i64)])],
 [(6,[.blk (.box 24 [.bool,.im (.int .i64)]),.blk (.arr 3 true (.int .i64)),.slot 2 (.ref 0 true),.slot 3 (.cell (.bool)),.slot 4 (.cell (.int .u64)),.slot 5 (.ref 1 false)])],
 [(6,[(.exit 0,[.blk (.box 24 [.bool,.im (.int .i64)]),.blk (.arr 3 true (.int .i64)),.slot 2 (.ref 0 true),.slot 3 (.cell (.bool)),.slot 5 (.ref 1 false)])])],
 [(5,[.blk (.box 24 [.bool,.im (.int .i64)]),.slot 2 (.ref 0 true),.slot 3 (.cell (.bool)),.slot 4 (.cell (.int .u64))])]⟩
def WL:FAnn:=⟨73,0,[.slot 0 (.cell (.int .i64))],[.slot 0 (.agg [.bool,.im (.int .i64),.bool,.im (.int .i64)])],
 [],
 [],
 []⟩
def R7:FAnn:=⟨76,0,[.slot 0 (.cell (.im Yq1))],[.blk (.arr 161 false Yq2),.slot 0 (.ref 0 false)],
 [(3,[.blk (.arr 161 false Yq2),.slot 3 (.ref 0 false),.slot 7 (.cell (.im Yq1)),.slot 8 (.cell (.int .i64)),.slot 9 (.cell (.int .i64))])],
 [(3,[(.exit 0,[.blk (.arr 161 false Yq2),.slot 3 (.ref 0 false)])])],
 []⟩
def LX:FAnn:=⟨293,0,[.slot 0 (.cell (.int .i64))],[.slot 0 (.cell (.bool))],
 [],
 [],
 []⟩
def CQ:FAnn:=⟨233,0,[.slot 0 (.cell (.im (.int .i64))),.slot 1 (.clo 293)],[.slot 0 (.cell (.int .i64))],
 [(2,[.slot 0 (.cell (.im (.int .i64))),.slot 1 (.clo 293),.slot 7 (.cell (.int .i64)),.slot 8 (.cell (.int .i64))])],
 [(2,[(.exit 0,[]),(.ret,[.slot 4 (.cell (.int .i64))])])],
 []⟩
def Ct:FAnn:=⟨180,0,[.slot 0 (.cell (.im (.int .i64))),.slot 1 (.clo 293)],[.slot 0 (.cell (.bool))],
 [],
 [],
 []⟩
def OS:FAnn:=⟨265,0,[.slot 0 (.agg [.bool,.im (.int .i64)])],[.slot 0 (.cell (.bool))],
 [],
 [],
 []⟩
def MX:FAnn:=⟨278,0,[.slot 0 (.agg [.bool,.im (.int .i64)])],[.slot 0 (.cell (.bool))],
 [],
 [],
 []⟩
def Cl:FAnn:=⟨302,0,[.slot 0 (.cell (.im Yq3)),.slot 1 (.clo 278)],[.slot 0 (.cell (.int .i64))],
 [(2,[.slot 0 (.cell (.im Yq3)),.slot 1 (.clo 278),.slot 7 (.cell (.int .i64)),.slot 8 (.cell (.int .i64))])],
 [(2,[(.exit 0,[]),(.ret,[.slot 4 (.cell (.int .i64))])])],
 []⟩
def BV:FAnn:=⟨277,0,[.slot 0 (.cell (.im Yq3)),.slot 1 (.clo 278)],[.slot 0 (.cell (.bool))],
 [],
 [],
 []⟩
def Sw:FAnn:=⟨234,0,[.slot 0 (.cell (.im Yq3))],[.slot 0 (.cell (.bool))],
 [],
 [],
 []⟩
def Ny:FAnn:=⟨235,0,[.slot 0 (.agg [.bool,.im (.int .i64)])],[.slot 0 (.cell (.int .i64))],
 [],
 [],
 []⟩
def Jb:FAnn:=⟨284,0,[.slot 0 (.cell (.int .i64))],[.slot 0 (.cell (.bool))],
 [],
 [],
 []⟩
def HE:FAnn:=⟨248,0,[.slot 0 (.cell (.int .i64)),.slot 1 (.cell (.int .i64))],[.slot 0 (.cell (.int .i64))],
 [],
 [],
 []⟩
def Ih:FAnn:=⟨195,0,[.slot 0 (.cell (.im (.int .i64))),.slot 1 (.cell (.im (.int .i64)))],[.slot 0 (.cell (.int .i64))],
 [(4,[.slot 0 (.cell (.im (.int .i64))),.slot 1 (.cell (.im (.int .i64))),.slot 5 (.cell (.int .i64))])],
 [(4,[(.exit 0,[]),(.ret,[.slot 4 (.cell (.int .i64))])])],
 []⟩
def AC7:FAnn:=⟨247,0,[.slot 0 (.cell (.im (.int .i64)))],[.slot 0 (.cell (.im (.int .i64)))],
 [(2,[.slot 0 (.cell (.im (.int .i64))),.slot 3 (.cell (.int .i64))])],
 [(2,[(.exit 0,[.slot 0 (.cell (.im (.int .i64))),.slot 3 (.cell (.int .i64))])])],
 []⟩
def M6:FAnn:=⟨283,0,[.slot 0 (.cell (.im (.int .i64))),.slot 1 (.cell (.int .i64))],[.slot 0 (.cell (.im (.int .i64))),.slot 1 (.cell (.int .i64))],
 [(4,[.blk (.arr 3 true (.int .i64)),.slot 0 (.cell (.im (.int .i64))),.slot 1 (.cell (.int .i64)),.slot 6 (.ref 0 false),.slot 7 (.cell (.int .i64)),.slot 8 (.cell (.int .i64))])],
 [(4,[(.exit 0,[.blk (.arr 3 true (.int .i64)),.slot 6 (.ref 0 false),.slot 7 (.cell (.int .i64))])])],
 []⟩
def BY:FAnn:=⟨246,0,[.slot 0 (.cell (.im (.int .i64)))],[.blk (.arr 3 true (.int .i64)),.slot 0 (.ref 0 false)],
 [],
 [],
 []⟩
def V4:FAnn:=⟨193,0,[.slot 0 (.cell (.bool)),.slot 1 (.cell (.im (.int .i64)))],[.blk (.arr 3 true (.int .i64)),.slot 0 (.agg [.bool,.at 0])],
 [],
 [],
 []⟩
def Qn:FAnn:=⟨139,0,[.slot 0 (.agg [.bool,.im (.int .i64)]),.slot 1 (.agg [.bool,.im (.int .i64)])],[.blk (.arr 3 true (.int .i64)),.slot 0 (.agg [.bool,.at 0])],
 [(3,[.blk (.box 24 [.bool,.im (.int .i64)]),.blk (.box 24 [.bool,.im (.int .i64)]),.blk (.box 24 [.bool,.im (.int .i64)]),.blk (.arr 3 true (.int .i64)),.slot 2 (.ref 0 true),.slot 3 (.ref 1 true),.slot 4 (.ref 2 true),.slot 5 (.ref 3 false),.slot 20 (.cell (.im (.int .i64))),.slot 21 (.cell (.int .i64)),.slot 22 (.cell (.int .i64))]),(7,[.blk (.box 24 [.bool,.im (.int .i64)]),.blk (.box 24 [.bool,.im (.int .i64)]),.blk (.box 24 [.bool,.im (.int .i64)]),.blk (.arr 3 true (.int .i64)),.slot 2 (.ref 0 true),.slot 3 (.ref 1 true),.slot 4 (.ref 2 true),.slot 5 (.ref 3 false),.slot 6 (.cell (.int .i64)),.slot 7 (.cell (.int .i64)),.slot 8 (.cell (.int .i64)),.slot 20 (.cell (.im (.int .i64))),.slot 21 (.cell (.int .i64)),.slot 22 (.cell (.int .i64)),.slot 28 (.cell (.im (.int .i64))),.slot 29 (.cell (.int .i64)),.slot 30 (.cell (.int .i64))])],
 [(3,[(.exit 0,[.blk (.box 24 [.bool,.im (.int .i64)]),.blk (.box 24 [.bool,.im (.int .i64)]),.blk (.box 24 [.bool,.im (.int .i64)]),.blk (.arr 3 true (.int .i64)),.slot 2 (.ref 0 true),.slot 3 (.ref 1 true),.slot 4 (.ref 2 true),.slot 5 (.ref 3 false)])]),(7,[(.exit 2,[.blk (.box 24 [.bool,.im (.int .i64)]),.blk (.box 24 [.bool,.im (.int .i64)]),.blk (.box 24 [.bool,.im (.int .i64)]),.blk (.arr 3 true (.int .i64)),.slot 2 (.ref 0 true),.slot 3 (.ref 1 true),.slot 4 (.ref 2 true),.slot 5 (.ref 3 false),.slot 6 (.cell (.int .i64)),.slot 8 (.cell (.int .i64)),.slot 20 (.cell (.im (.int .i64))),.slot 21 (.cell (.int .i64)),.slot 22 (.cell (.int .i64))])])],
 []⟩
def NP:FAnn:=⟨245,0,[.slot 0 (.cell (.im (.int .i64))),.slot 1 (.cell (.im (.int .i64)))],[.slot 0 (.cell (.im (.int .i64))),.slot 1 (.cell (.im (.int .i64)))],
 [(10,[.blk (.arr 3 true (.int .i64)),.blk (.arr 3 true (.int .i64)),.slot 0 (.cell (.im (.int .i64))),.slot 6 (.cell (.int .i64)),.slot 9 (.cell (.int .i64)),.slot 10 (.ref 0 false),.slot 11 (.ref 1 false)]),(14,[.blk (.arr 3 true (.int .i64)),.blk (.arr 3 true (.int .i64)),.blk (.arr 3 true (.int .i64)),.slot 6 (.cell (.int .i64)),.slot 9 (.cell (.int .i64)),.slot 10 (.ref 0 false),.slot 11 (.ref 1 false),.slot 12 (.ref 2 false),.slot 13 (.cell (.int .i64))]),(18,[.blk (.arr 3 true (.int .i64)),.blk (.arr 3 true (.int .i64)),.blk (.arr 3 true (.int .i64)),.slot 6 (.cell (.int .i64)),.slot 9 (.cell (.int .i64)),.slot 10 (.ref 0 false),.slot 11 (.ref 1 false),.slot 12 (.ref 2 false),.slot 13 (.cell (.int .i64)),.slot 15 (.cell (.int .i64)),.slot 16 (.cell (.int .i64))]),(23,[.blk (.arr 3 true (.int .i64)),.blk (.arr 3 true (.int .i64)),.blk (.arr 3 true (.int .i64)),.slot 6 (.cell (.int .i64)),.slot 9 (.cell (.int .i64)),.slot 10 (.ref 0 false),.slot 11 (.ref 1 false),.slot 12 (.ref 2 false),.slot 13 (.cell (.int .i64)),.slot 15 (.cell (.int .i64)),.slot 17 (.cell (.int .i64)),.slot 153 (.cell (.int .i64)),.slot 154 (.cell (.int .i64))]),(37,[.blk (.arr 3 true (.int .i64)),.blk (.arr 3 true (.int .i64)),.blk (.arr 3 true (.int .i64)),.slot 6 (.cell (.int .i64)),.slot 9 (.cell (.int .i64)),.slot 10 (.ref 0 false),.slot 11 (.ref 1 false),.slot 12 (.ref 2 false),.slot 13 (.cell (.int .i64)),.slot 15 (.cell (.int .i64)),.slot 20 (.cell (.int .i64)),.slot 208 (.cell (.int .i64)),.slot 209 (.cell (.int .i64))])],
 [(10,[(.exit 0,[.blk (.arr 3 true (.int .i64)),.blk (.arr 3 true (.int .i64)),.slot 6 (.cell (.int .i64)),.slot 9 (.cell (.int .i64)),.slot 10 (.ref 0 false),.slot 11 (.ref 1 false)])]),(14,[(.exit 2,[.blk (.arr 3 true (.int .i64)),.blk (.arr 3 true (.int .i64)),.slot 6 (.cell (.int .i64)),.slot 9 (.cell (.int .i64)),.slot 10 (.ref 0 false),.slot 12 (.ref 1 false)])]),(18,[(.exit 4,[.blk (.arr 3 true (.int .i64)),.blk (.arr 3 true (.int .i64)),.blk (.arr 3 true (.int .i64)),.slot 6 (.cell (.int .i64)),.slot 9 (.cell (.int .i64)),.slot 10 (.ref 0 false),.slot 11 (.ref 1 false),.slot 12 (.ref 2 false),.slot 13 (.cell (.int .i64)),.slot 15 (.cell (.int .i64))])]),(23,[(.exit 6,[.blk (.arr 3 true (.int .i64)),.blk (.arr 3 true (.int .i64)),.blk (.arr 3 true (.int .i64)),.slot 6 (.cell (.int .i64)),.slot 9 (.cell (.int .i64)),.slot 10 (.ref 0 false),.slot 11 (.ref 1 false),.slot 12 (.ref 2 false),.slot 13 (.cell (.int .i64)),.slot 15 (.cell (.int .i64)),.slot 17 (.cell (.int .i64))])]),(37,[(.exit 8,[.blk (.arr 3 true (.int .i64)),.blk (.arr 3 true (.int .i64)),.blk (.arr 3 true (.int .i64)),.slot 6 (.cell (.int .i64)),.slot 9 (.cell (.int .i64)),.slot 10 (.ref 0 false),.slot 11 (.ref 1 false),.slot 12 (.ref 2 false),.slot 13 (.cell (.int .i64)),.slot 15 (.cell (.int .i64)),.slot 20 (.cell (.int .i64))])])],
 [(19,[.blk (.arr 3 true (.int .i64)),.blk (.arr 3 true (.int .i64)),.blk (.arr 3 true (.int .i64)),.slot 6 (.cell (.int .i64)),.slot 9 (.cell (.int .i64)),.slot 10 (.ref 0 false),.slot 11 (.ref 1 false),.slot 12 (.ref 2 false),.slot 13 (.cell (.int .i64)),.slot 15 (.cell (.int .i64)),.slot 16 (.cell (.int .i64))]),(30,[.blk (.arr 3 true (.int .i64)),.blk (.arr 3 true (.int .i64)),.blk (.arr 3 true (.int .i64)),.slot 6 (.cell (.int .i64)),.slot 9 (.cell (.int .i64)),.slot 10 (.ref 0 false),.slot 11 (.ref 1 false),.slot 12 (.ref 2 false),.slot 13 (.cell (.int .i64)),.slot 15 (.cell (.int .i64)),.slot 17 (.cell (.int .i64)),.slot 18 (.cell (.int .i64)),.slot 19 (.cell (.int .i64)),.slot 153 (.cell (.int .i64)),.slot 154 (.cell (.int .i64))])]⟩
def Pk:FAnn:=⟨190,0,[.slot 0 (.agg [.bool,.im (.int .i64)]),.slot 1 (.agg [.bool,.im (.int .i64)])],[.slot 0 (.agg [.bool,.im (.int .i64)])],
 [(2,[.blk (.box 24 [.bool,.im (.int .i64)]),.slot 4 (.ref 0 true),.slot 5 (.cell (.im (.int .i64))),.slot 6 (.cell (.im (.int .i64)))])],
 [(2,[(.exit 0,[.blk (.box 24 [.bool,.im (.int .i64)]),.slot 4 (.ref 0 true),.slot 5 (.cell (.im (.int .i64)))])])],
 []⟩
def Le:FAnn:=⟨236,0,[.slot 0 (.agg [.bool,.im (.int .i64)]),.slot 1 (.agg [.bool,.im (.int .i64)])],[.slot 0 (.cell (.int .i64))],
 [],
 [],
 []⟩
def Qp:FAnn:=⟨182,0,[.slot 0 (.agg [.bool,.im (.int .i64),.bool,.im (.int .i64)])],[.slot 0 (.cell (.bool))],
 [],
 [],
 []⟩
def Qi:FAnn:=⟨124,0,[.slot 0 (.cell (.im Yq0))],[.slot 0 (.cell (.bool))],
 [(2,[.slot 5 (.cell (.im Yq0)),.slot 6 (.cell (.int .i64)),.slot 7 (.cell (.int .i64))])],
 [(2,[(.exit 0,[]),(.ret,[.slot 2 (.cell (.bool))])])],
 []⟩
def I1:FAnn:=⟨144,0,[.slot 0 (.agg [.bool,.im (.int .i64),.bool,.im (.int .i64)]),.slot 1 (.cell (.int .i64))],[.slot 0 (.cell (.bool))],
 [],
 [],
 []⟩
def WI:FAnn:=⟨225,0,[.slot 0 (.agg [.bool,.im (.int .i64),.bool,.im (.int .i64),.bool,.im (.int .i64),.bool,.im (.int .i64)]),.slot 1 (.cell (.int .i64))],[.slot 0 (.cell (.bool))],
 [],
 [],
 []⟩
def KX:FAnn:=⟨224,0,[.slot 0 (.agg [.bool,.im (.int .i64),.bool,.im (.int .i64),.bool,.im (.int .i64),.bool,.im (.int .i64)])],[.slot 0 (.cell (.bool))],
 [],
 [],
 []⟩
def Ck:FAnn:=⟨267,0,[.slot 0 (.cell (.im Yq2)),.slot 1 (.clo 224)],[.slot 0 (.cell (.int .i64))],
 [(2,[.slot 0 (.cell (.im Yq2)),.slot 1 (.clo 224),.slot 7 (.cell (.int .i64)),.slot 8 (.cell (.int .i64))])],
 [(2,[(.exit 0,[]),(.ret,[.slot 4 (.cell (.int .i64))])])],
 []⟩
def BU:FAnn:=⟨223,0,[.slot 0 (.cell (.im Yq2)),.slot 1 (.clo 224)],[.slot 0 (.cell (.bool))],
 [],
 [],
 []⟩
def Nb:FAnn:=⟨174,0,[.slot 0 (.cell (.im Yq2))],[.slot 0 (.cell (.bool))],
 [],
 [],
 []⟩
def JR:FAnn:=⟨264,0,[.slot 0 (.agg [.bool,.im (.int .i64),.bool,.im (.int .i64)]),.slot 1 (.agg [.bool,.im (.int .i64),.bool,.im (.int .i64)])],[.slot 0 (.cell (.int .i64))],
 [],
 [],
 []⟩
def NC:FAnn:=⟨220,0,[.slot 0 (.agg [.bool,.im (.int .i64),.bool,.im (.int .i64)]),.slot 1 (.agg [.bool,.im (.int .i64),.bool,.im (.int .i64)])],[.slot 0 (.cell (.bool))],
 [],
 [],
 []⟩
def Gq:FAnn:=⟨309,0,[.slot 0 (.agg [.bool,.im (.int .i64),.bool,.im (.int .i64),.bool,.im (.int .i64),.bool,.im (.int .i64)]),.slot 1 (.cell (.bool))],[.slot 0 (.agg [.bool,.im (.int .i64),.bool,.im (.int .i64)])],
 [],
 [],
 []⟩
def Sn:FAnn:=⟨308,3,[.blk (.box 4 [.bool]),.blk (.box 4 [.bool]),.blk (.box 26 [.bool,.im (.int .i64),.bool,.im (.int .i64)]),.slot 0 (.agg [.bool,.im (.int .i64),.bool,.im (.int .i64),.bool,.im (.int .i64),.bool,.im (.int .i64)]),.slot 1 (.ref 0 true),.slot 2 (.ref 1 true),.slot 3 (.ref 2 true)],[.blk (.box 4 [.bool]),.blk (.box 4 [.bool]),.blk (.box 26 [.bool,.im (.int .i64),.bool,.im (.int .i64)]),.slot 0 (.cell (.bool))],
 [],
 [],
 []⟩
def P9:FAnn:=⟨191,0,[.slot 0 (.agg [.bool,.im (.int .i64)])],[.slot 0 (.agg [.bool,.im (.int .i64)])],
 [],
 [],
 []⟩
def OW:FAnn:=⟨197,0,[.slot 0 (.agg [.bool,.im (.int .i64),.bool,.im (.int .i64)])],[.slot 0 (.agg [.bool,.im (.int .i64),.bool,.im (.int .i64)])],
 [],
 [],
 []⟩
def MW:FAnn:=⟨194,0,[.slot 0 (.cell (.im (.int .i64))),.slot 1 (.cell (.im (.int .i64)))],[.blk (.arr 3 true (.int .i64)),.slot 0 (.ref 0 false)],
 [(4,[.blk (.arr 3 true (.int .i64)),.slot 0 (.cell (.im (.int .i64))),.slot 1 (.cell (.im (.int .i64))),.slot 5 (.ref 0 false),.slot 6 (.cell (.int .i64)),.slot 7 (.cell (.int .i64))])],
 [(4,[(.exit 0,[.blk (.arr 3 true (.int .i64)),.slot 5 (.ref 0 false)])])],
 [(6,[.blk (.arr 3 true (.int .i64)),.slot 0 (.cell (.im (.int .i64))),.slot 1 (.cell (.im (.int .i64))),.slot 5 (.ref 0 false),.slot 6 (.cell (.int .i64)),.slot 7 (.cell (.int .i64))]),(8,[.blk (.arr 3 true (.int .i64)),.slot 0 (.cell (.im (.int .i64))),.slot 1 (.cell (.im (.int .i64))),.slot 5 (.ref 0 false),.slot 6 (.cell (.int .i64)),.slot 7 (.cell (.int .i64))]),(10,[.blk (.arr 3 true (.int .i64)),.slot 0 (.cell (.im (.int .i64))),.slot 1 (.cell (.im (.int .i64))),.slot 5 (.ref 0 false),.slot 6 (.cell (.int .i64)),.slot 7 (.cell (.int .i64))])]⟩
def Nh:FAnn:=⟨196,0,[.slot 0 (.cell (.im (.int .i64))),.slot 1 (.cell (.im (.int .i64)))],[.slot 0 (.cell (.im (.int .i64)))],
 [(4,[.blk (.arr 3 true (.int .i64)),.slot 1 (.cell (.im (.int .i64))),.slot 5 (.ref 0 false),.slot 6 (.cell (.int .i64)),.slot 11 (.cell (.int .i64)),.slot 12 (.cell (.int .i64))])],
 [(4,[(.exit 0,[.blk (.arr 3 true (.int .i64)),.slot 5 (.ref 0 false)])])],
 [(9,[.blk (.arr 3 true (.int .i64)),.slot 1 (.cell (.im (.int .i64))),.slot 5 (.ref 0 false),.slot 7 (.cell (.int .i64)),.slot 11 (.cell (.int .i64)),.slot 12 (.cell (.int .i64))])]⟩
def PY:FAnn:=⟨140,0,[.slot 0 (.agg [.bool,.im (.int .i64)]),.slot 1 (.agg [.bool,.im (.int .i64)])],[.slot 0 (.agg [.bool,.im (.int .i64)])],
 [],
 [],
 []⟩
def PM:FAnn:=⟨192,0,[.slot 0 (.agg [.bool,.im (.int .i64)]),.slot 1 (.agg [.bool,.im (.int .i64)])],[.slot 0 (.agg [.bool,.im (.int .i64)]),.slot 1 (.agg [.bool,.im (.int .i64)])],
 [],
 [],
 []⟩
def WH:FAnn:=⟨138,0,[.slot 0 (.agg [.bool,.im (.int .i64)]),.slot 1 (.agg [.bool,.im (.int .i64)])],[.slot 0 (.agg [.bool,.im (.int .i64),.bool,.im (.int .i64)])],
 [],
 [],
 [(4,[.blk (.box 24 [.bool,.im (.int .i64)]),.blk (.box 24 [.bool,.im (.int .i64)]),.blk (.box 26 [.bool,.im (.int .i64),.bool,.im (.int .i64)]),.blk (.box 24 [.bool,.im (.int .i64)]),.slot 2 (.ref 0 true),.slot 3 (.ref 1 true),.slot 4 (.ref 2 true),.slot 5 (.ref 3 true)])]⟩
def P4:FAnn:=⟨74,0,[.slot 0 (.agg [.bool,.im (.int .i64),.bool,.im (.int .i64)]),.slot 1 (.agg [.bool,.im (.int .i64),.bool,.im (.int .i64)])],[.slot 0 (.agg [.bool,.im (.int .i64),.bool,.im (.int .i64)])],
 [],
 [],
 []⟩
def PO:FAnn:=⟨142,0,[.slot 0 (.agg [.bool,.im (.int .i64),.bool,.im (.int .i64)]),.slot 1 (.agg [.bool,.im (.int .i64),.bool,.im (.int .i64)])],[.slot 0 (.agg [.bool,.im (.int .i64),.bool,.im (.int .i64)])],
 [],
 [],
 []⟩
def P3:FAnn:=⟨198,0,[.slot 0 (.agg [.bool,.im (.int .i64),.bool,.im (.int .i64)]),.slot 1 (.agg [.bool,.im (.int .i64),.bool,.im (.int .i64)])],[.slot 0 (.agg [.bool,.im (.int .i64),.bool,.im (.int .i64)])],
 [],
 [],
 []⟩
def PF:FAnn:=⟨141,0,[.slot 0 (.agg [.bool,.im (.int .i64),.bool,.im (.int .i64)]),.slot 1 (.agg [.bool,.im (.int .i64),.bool,.im (.int .i64)])],[.slot 0 (.agg [.bool,.im (.int .i64),.bool,.im (.int .i64)])],
 [],
 [],
 []⟩
def AG1:FAnn:=⟨310,0,[.slot 0 (.agg [.bool,.im (.int .i64),.bool,.im (.int .i64),.bool,.im (.int .i64),.bool,.im (.int .i64)]),.slot 1 (.agg [.bool,.im (.int .i64),.bool,.im (.int .i64),.bool,.im (.int .i64),.bool,.im (.int .i64)]),.slot 2 (.agg [.bool,.im (.int .i64),.bool,.im (.int .i64)])],[.slot 0 (.agg [.bool,.im (.int .i64),.bool,.im (.int .i64),.bool,.im (.int .i64),.bool,.im (.int .i64)])],
 [],
 [],
 []⟩
def Af2:FAnn:=⟨296,0,[.slot 0 (.cell (.im Yq2)),.slot 1 (.cell (.bool)),.slot 2 (.cell (.bool)),.slot 3 (.agg [.bool,.im (.int .i64),.bool,.im (.int .i64)])],[.blk (.arr 161 false Yq2),.slot 0 (.ref 0 false)],
 [(4,[.blk (.box 4 [.bool]),.blk (.box 26 [.bool,.im (.int .i64),.bool,.im (.int .i64)]),.blk (.box 4 [.bool]),.blk (.arr 161 false Yq2),.slot 0 (.cell (.im Yq2)),.slot 5 (.ref 0 true),.slot 7 (.ref 1 true),.slot 9 (.cap 308 [2,0,1]),.slot 10 (.ref 3 false),.slot 17 (.cell (.im Yq2)),.slot 18 (.cell (.int .i64)),.slot 19 (.cell (.int .i64))])],
 [(4,[(.exit 0,[.blk (.arr 161 false Yq2),.slot 10 (.ref 0 false)])])],
 [(10,[.blk (.box 4 [.bool]),.blk (.box 26 [.bool,.im (.int .i64),.bool,.im (.int .i64)]),.blk (.box 4 [.bool]),.blk (.arr 161 false Yq2),.blk (.box 161 [.bool,.im (.int .i64),.bool,.im (.int .i64),.bool,.im (.int .i64),.bool,.im (.int .i64)]),.slot 0 (.cell (.im Yq2)),.slot 5 (.ref 0 true),.slot 7 (.ref 1 true),.slot 9 (.cap 308 [2,0,1]),.slot 10 (.ref 3 false),.slot 12 (.ref 4 true),.slot 17 (.cell (.im Yq2)),.slot 18 (.cell (.int .i64)),.slot 19 (.cell (.int .i64))])]⟩
def O0:FAnn:=⟨269,0,[.slot 0 (.cell (.im Yq2)),.slot 1 (.agg [.bool,.im (.int .i64),.bool,.im (.int .i64),.bool,.im (.int .i64),.bool,.im (.int .i64)]),.slot 2 (.agg [.bool,.im (.int .i64),.bool,.im (.int .i64),.bool,.im (.int .i64),.bool,.im (.int .i64)])],[.blk (.arr 161 false Yq2),.slot 0 (.ref 0 false)],
 [],
 [],
 []⟩
def R5:FAnn:=⟨315,0,[.slot 0 (.agg [.bool,.im (.int .i64),.bool,.im (.int .i64)])],[.slot 0 (.agg [.bool,.im (.int .i64),.bool,.im (.int .i64)])],
 [],
 [],
 []⟩
def Sj:FAnn:=⟨307,0,[.slot 0 (.agg [.bool,.im (.int .i64),.bool,.im (.int .i64),.bool,.im (.int .i64),.bool,.im (.int .i64)])],[.slot 0 (.agg [.bool,.im (.int .i64),.bool,.im (.int .i64),.bool,.im (.int .i64),.bool,.im (.int .i64)])],
 [],
 [],
 []⟩
def Pd:FAnn:=⟨295,0,[.slot 0 (.cell (.im Yq2))],[.blk (.arr 161 false Yq2),.slot 0 (.ref 0 false)],
 [(3,[.blk (.arr 161 false Yq2),.slot 3 (.ref 0 false),.slot 7 (.cell (.im Yq2)),.slot 8 (.cell (.int .i64)),.slot 9 (.cell (.int .i64))])],
 [(3,[(.exit 0,[.blk (.arr 161 false Yq2),.slot 3 (.ref 0 false)])])],
 []⟩
def I4:FAnn:=⟨268,0,[.slot 0 (.cell (.im Yq2))],[.blk (.arr 161 false Yq2),.slot 0 (.ref 0 false),.slot 1 (.cell (.bool))],
 [],
 [],
 []⟩
def PC:FAnn:=⟨226,0,[.slot 0 (.cell (.im Yq2)),.slot 1 (.agg [.bool,.im (.int .i64),.bool,.im (.int .i64),.bool,.im (.int .i64),.bool,.im (.int .i64)]),.slot 2 (.agg [.bool,.im (.int .i64),.bool,.im (.int .i64),.bool,.im (.int .i64),.bool,.im (.int .i64)])],[.blk (.arr 161 false Yq2),.slot 0 (.ref 0 false),.slot 1 (.cell (.bool))],
 [],
 [],
 []⟩
def N5:FAnn:=⟨143,0,[.slot 0 (.agg [.bool,.im (.int .i64),.bool,.im (.int .i64)])],[.slot 0 (.agg [.bool,.im (.int .i64),.bool,.im (.int .i64)])],
 [],
 [],
 []⟩
def N4:FAnn:=⟨75,0,[.slot 0 (.cell (.im Yq2))],[.slot 0 (.agg [.bool,.im (.int .i64),.bool,.im (.int .i64)])],
 [(3,[.blk (.box 26 [.bool,.im (.int .i64),.bool,.im (.int .i64)]),.blk (.box 26 [.bool,.im (.int .i64),.bool,.im (.int .i64)]),.slot 0 (.cell (.im Yq2)),.slot 2 (.ref 0 true),.slot 3 (.ref 1 true),.slot 8 (.cell (.im Yq2)),.slot 9 (.cell (.int .i64)),.slot 10 (.cell (.int .i64))])],
 [(3,[(.exit 0,[.blk (.box 26 [.bool,.im (.int .i64),.bool,.im (.int .i64)]),.blk (.box 26 [.bool,.im (.int .i64),.bool,.im (.int .i64)]),.slot 2 (.ref 0 true),.slot 3 (.ref 1 true)])])],
 []⟩
def K7:FAnn:=⟨77,0,[.slot 0 (.agg [.bool,.im (.int .i64),.bool,.im (.int .i64)])],[.slot 0 (.agg [.bool,.im (.int .i64),.bool,.im (.int .i64)]),.slot 1 (.cell (.bool))],
 [],
 [],
 []⟩
def N7:FAnn:=⟨227,0,[.slot 0 (.cell (.im Yq2))],[.slot 0 (.agg [.bool,.im (.int .i64),.bool,.im (.int .i64)]),.slot 1 (.cell (.bool))],
 [],
 [],
 []⟩
def OU:FAnn:=⟨175,0,[.slot 0 (.cell (.im Yq2)),.slot 1 (.cell (.int .i64)),.slot 2 (.cell (.int .i64))],[.slot 0 (.agg [.bool,.im (.int .i64),.bool,.im (.int .i64)]),.slot 1 (.cell (.bool))],
 [],
 [],
 []⟩
def MZ:FAnn:=⟨116,0,[.slot 0 (.cell (.im Yq2)),.slot 1 (.agg [.int .i64,.int .i64,.int .i64,.int .i64])],[.slot 0 (.cell (.im Yq0)),.slot 1 (.cell (.bool))],
 [(5,[.blk (.box 58 [.int .i64,.int .i64,.int .i64,.int .i64]),.blk (.arr 26 false Yq0),.slot 0 (.cell (.im Yq2)),.slot 3 (.ref 0 true),.slot 6 (.ref 1 false),.slot 7 (.cell (.int .i64))]),(8,[.blk (.box 58 [.int .i64,.int .i64,.int .i64,.int .i64]),.blk (.arr 26 false Yq0),.slot 0 (.cell (.im Yq2)),.slot 3 (.ref 0 true),.slot 6 (.ref 1 false),.slot 7 (.cell (.int .i64)),.slot 8 (.cell (.int .i64))])],
 [(5,[(.exit 0,[.blk (.arr 26 false Yq0),.slot 6 (.ref 0 false)]),(.ret,[.slot 4 (.cell (.im Yq0)),.slot 5 (.cell (.bool))])]),(8,[(.exit 2,[.blk (.box 58 [.int .i64,.int .i64,.int .i64,.int .i64]),.blk (.arr 26 false Yq0),.slot 0 (.cell (.im Yq2)),.slot 3 (.ref 0 true),.slot 6 (.ref 1 false),.slot 7 (.cell (.int .i64))]),(.ret,[.slot 4 (.cell (.im Yq0)),.slot 5 (.cell (.bool))])])],
 []⟩
def LI:FAnn:=⟨50,0,[.slot 0 (.cell (.str)),.slot 1 (.agg [.int .i64,.int .i64,.int .i64,.int .i64])],[.slot 0 (.cell (.im Yq0)),.slot 1 (.cell (.bool))],
 [(6,[.blk (.box 58 [.int .i64,.int .i64,.int .i64,.int .i64]),.blk (.arr 26 false Yq0),.slot 3 (.ref 0 true),.slot 6 (.cell (.im (.sl Yq1))),.slot 10 (.ref 1 false),.slot 36 (.cell (.int .i64)),.slot 37 (.cell (.int .i64))]),(10,[.blk (.box 58 [.int .i64,.int .i64,.int .i64,.int .i64]),.blk (.arr 26 false Yq0),.slot 3 (.ref 0 true),.slot 10 (.ref 1 false),.slot 44 (.cell (.im (.sl Yq1))),.slot 45 (.cell (.int .i64)),.slot 46 (.cell (.int .i64))]),(16,[.blk (.box 58 [.int .i64,.int .i64,.int .i64,.int .i64]),.blk (.arr 26 false Yq0),.slot 3 (.ref 0 true),.slot 10 (.ref 1 false),.slot 44 (.cell (.im (.sl Yq1))),.slot 45 (.cell (.int .i64)),.slot 46 (.cell (.int .i64)),.slot 59 (.cell (.im Yq0)),.slot 60 (.cell (.int .i64)),.slot 61 (.cell (.int .i64))])],
 [(6,[(.exit 0,[.blk (.box 58 [.int .i64,.int .i64,.int .i64,.int .i64]),.blk (.arr 26 false Yq0),.slot 3 (.ref 0 true),.slot 6 (.cell (.im (.sl Yq1))),.slot 10 (.ref 1 false)])]),(10,[(.exit 2,[.blk (.arr 26 false Yq0),.slot 10 (.ref 0 false)]),(.ret,[.slot 4 (.cell (.im Yq0)),.slot 5 (.cell (.bool))])]),(16,[(.exit 4,[.blk (.box 58 [.int .i64,.int .i64,.int .i64,.int .i64]),.blk (.arr 26 false Yq0),.slot 3 (.ref 0 true),.slot 10 (.ref 1 false),.slot 44 (.cell (.im (.sl Yq1))),.slot 45 (.cell (.int .i64)),.slot 46 (.cell (.int .i64))]),(.ret,[.slot 4 (.cell (.im Yq0)),.slot 5 (.cell (.bool))])])],
 []⟩
def PG:FAnn:=⟨263,0,[.slot 0 (.agg [.bool,.im (.int .i64)])],[.slot 0 (.agg [.bool,.im (.int .i64)])],
 [],
 [],
 []⟩
def OK:FAnn:=⟨219,0,[.slot 0 (.agg [.bool,.im (.int .i64),.bool,.im (.int .i64)])],[.slot 0 (.agg [.bool,.im (.int .i64),.bool,.im (.int .i64)])],
 [],
 [],
 []⟩
def Qh:FAnn:=⟨294,0,[.slot 0 (.agg [.bool,.im (.int .i64)]),.slot 1 (.agg [.bool,.im (.int .i64)])],[.slot 0 (.agg [.bool,.im (.int .i64)])],
 [],
 [],
 []⟩
def HQ:FAnn:=⟨266,0,[.slot 0 (.agg [.bool,.im (.int .i64)]),.slot 1 (.agg [.bool,.im (.int .i64)])],[.slot 0 (.agg [.bool,.im (.int .i64)])],
 [],
 [],
 []⟩
def LM:FAnn:=⟨222,0,[.slot 0 (.agg [.bool,.im (.int .i64),.bool,.im (.int .i64)])],[.slot 0 (.agg [.bool,.im (.int .i64)])],
 [],
 [],
 []⟩
def Vu:FAnn:=⟨221,0,[.slot 0 (.agg [.bool,.im (.int .i64)])],[.slot 0 (.cell (.int .i64)),.slot 1 (.cell (.bool))],
 [(5,[.blk (.box 24 [.bool,.im (.int .i64)]),.slot 1 (.ref 0 true),.slot 4 (.cell (.int .i64)),.slot 5 (.cell (.int .i64))])],
 [(5,[(.exit 0,[.blk (.box 24 [.bool,.im (.int .i64)]),.slot 1 (.ref 0 true),.slot 4 (.cell (.int .i64))])])],
 []⟩
def Sq:FAnn:=⟨172,0,[.slot 0 (.agg [.bool,.im (.int .i64),.bool,.im (.int .i64)])],[.slot 0 (.cell (.int .i64))],
 [],
 [],
 [(4,[.blk (.box 26 [.bool,.im (.int .i64),.bool,.im (.int .i64)]),.slot 1 (.ref 0 true)])]⟩
def Ps:FAnn:=⟨109,0,[.slot 0 (.cell (.im Yq0))],[.blk (.arr 3 true (.int .i64)),.slot 0 (.ref 0 false)],
 [(3,[.blk (.arr 3 true (.int .i64)),.slot 3 (.ref 0 false),.slot 7 (.cell (.im Yq0)),.slot 8 (.cell (.int .i64)),.slot 9 (.cell (.int .i64))])],
 [(3,[(.exit 0,[.blk (.arr 3 true (.int .i64)),.slot 3 (.ref 0 false)])])],
 []⟩
def K2:FAnn:=⟨40,0,[.slot 0 (.cell (.str)),.slot 1 (.agg [.int .i64,.int .i64,.int .i64,.int .i64])],[.blk (.arr 3 true (.int .i64)),.slot 0 (.ref 0 false),.slot 1 (.cell (.bool))],
 [],
 [],
 []⟩
def R4:FAnn:=⟨41,0,[.slot 0 (.cell (.im (.int .i64))),.slot 1 (.cell (.im (.int .i64)))],[.slot 0 (.cell (.bool))],
 [(4,[.slot 0 (.cell (.im (.int .i64))),.slot 1 (.cell (.im (.int .i64))),.slot 5 (.cell (.int .i64))])],
 [(4,[(.exit 0,[]),(.ret,[.slot 4 (.cell (.bool))])])],
 []⟩
def M4:FAnn:=⟨42,1,[.blk (.arr 3 true (.int .i64)),.slot 0 (.ref 0 false),.slot 1 (.cell (.int .i64))],[.blk (.arr 3 true (.int .i64)),.slot 0 (.cell (.int .i64))],
 [(2,[.blk (.arr 3 true (.int .i64)),.slot 0 (.ref 0 false),.slot 1 (.cell (.int .i64)),.slot 5 (.cell (.int .i64))])],
 [(2,[(.exit 0,[.blk (.arr 3 true (.int .i64)),.slot 1 (.cell (.int .i64))])])],
 []⟩
def Nq:FAnn:=⟨43,0,[.slot 0 (.cell (.im (.int .i64))),.slot 1 (.cell (.int .i64))],[.slot 0 (.cell (.int .i64))],
 [(2,[.slot 0 (.cell (.im (.int .i64))),.slot 1 (.cell (.int .i64)),.slot 5 (.cell (.int .i64))])],
 [(2,[(.exit 0,[.slot 1 (.cell (.int .i64))]),(.ret,[.slot 4 (.cell (.int .i64))])])],
 []⟩
def EK:FAnn:=⟨6,0,[.slot 0 (.cell (.str)),.slot 1 (.agg [.int .i64,.int .i64,.int .i64,.int .i64])],[.slot 0 (.cell (.bool))],
 [],
 [],
 []⟩
def Bd2:List FAnn:=[NJ,MO,Sk,KM,I0,Aa1,R0,Kz,HY,LV,J5,V0,Sd,Vw,V5,Wa,V2,Vt,Sp,P6,VJ,P0,Ai5,Pq,SU,Td,S1,Ss,Kv,WB,PV,Pf,NK,MU,VD,KB,Vr,Nu,V9,MV,PW,Ww,Ws,Ku,Km,Vc,VQ,Ta,Wb,Wj,V3,Wi,OO,RX,RV,Pg,Tg,R2,Ph,Ti,PI,PZ,Qk,NH,ML,LT,VV,VM,OZ,VO,Pz,Ks,S9,Oy,CG,Cb,J4,JT,PP,Nf,P8,Kd,IZ,LR,SD,Ie,LY,JX,Vv,WL,R7,LX,CQ,Ct,OS,MX,Cl,BV,Sw,Ny,Jb,HE,Ih,AC7,M6,BY,V4,Qn,NP,Pk,Le,Qp,Qi,I1,WI,KX,Ck,BU,Nb,JR,NC,Gq,Sn,P9,OW,MW,Nh,PY,PM,WH,P4,PO,P3,PF,AG1,Af2,O0,R5,Sj,Pd,I4,PC,N5,N4,K7,N7,OU,MZ,LI,PG,OK,Qh,HQ,LM,Vu,Sq,Ps,K2,R4,M4,Nq,EK]
def Ba0:Rel:=fun _ _ _ _ _=>False
def cfC:Cfg:=Al8 [BY] fun _=>false
def Z5:List (FuncId×TypeId×Nat×Bool):=[(246,3,Ty.size (.int .i64),true)]
theorem LZ:CloneOK Tryz.prog (246,3,Ty.size (.int .i64),true):=⟨Tryz.f246,22,4,A7P,Bf5,Tryz.func246,by kernel_rfl,by kernel_rfl,rfl,Bg8,rfl,ty3,by kernel_rfl,rfl,rfl⟩
theorem A5c:∀ x∈Z5,CloneOK Tryz.prog x:=by
 intro x hx;simp only[Z5,zc5,List.not_mem_nil,or_false] at hx;rcases hx with rfl
 exact LZ
def Bc6:Rel:=fun g args blks r blks'=>Y7 (He Tryz.prog cfC Ba0) Z5 g args blks r blks'\/Af8 91 9 g args blks r blks'\/Qj 155 g args blks r blks'\/AF3 101 g args blks r blks'\/AG6 82 g args blks r blks'
theorem A4E:An4 Tryz.prog 91:=⟨Tryz.f91,Tryz.func91,by kernel_rfl,by kernel_rfl⟩
theorem AC8:An4 Tryz.prog 155:=⟨Tryz.f155,Tryz.func155,by kernel_rfl,by kernel_rfl⟩
theorem A7d:An4 Tryz.prog 101:=⟨Tryz.f101,Tryz.func101,by kernel_rfl,by kernel_rfl⟩
theorem A8s:An4 Tryz.prog 82:=⟨Tryz.f82,Tryz.func82,by kernel_rfl,by kernel_rfl⟩
structure LibJ (J:Jl):Prop where
 tab:Be5 Tryz.prog J "internal/strconv.uint64pow10" .u64 Lib.pow10Tab
 max:A8K J 2
 syn:A6P Tryz.prog J "strconv.ErrSyntax"
 rng:A6P Tryz.prog J "strconv.ErrRange"
theorem A7A {J:Jl} (hJ:LibJ J):∀ g args blks r blks',Bc6 g args blks r blks'->CSpec Tryz.prog J g args blks r blks':=by
 intro g args blks r blks' h;rcases h with h | h | h | h | h
 ·exact Ap8 (by kernel_rfl) A5c _ _ _ _ _ h
 ·exact A1c A4E Tryz.strings_Split hJ.max _ _ _ _ _ h
 ·exact An7 AC8 Tryz.strings_Contains hJ.max _ _ _ _ _ h
 ·exact A4i A7d Tryz.strconv_Atoi_ok Tryz.strconv_Atoi_syntax_var Tryz.strconv_Atoi_range_var hJ.syn hJ.rng _ _ _ _ _ h
 ·exact A37 A8s Tryz.strconv_Itoa hJ.tab _ _ _ _ _ h
def cf0:Cfg:=Al8 Bd2 fun g=>([246,91,155,101,82]:List Nat).contains g
abbrev RR:Rel:=He Tryz.prog cf0 Bc6
noncomputable def Eb (a0:Tq5):Option (Tq22) :=
 some (a0.1,(a0.2.1,(a0.2.2.1,a0.2.2.2)))
noncomputable def UT:Ent:=⟨NJ,fun x=>Eb x⟩
noncomputable def T5:TX:=⟨Ak,Ae,[],[4],[],NJ⟩
theorem AD2 (a0:Tq22):wtF T5 Tryz.f39 (a0)=Eb a0:=by kernel_rfl
theorem Ao5:Ai RR UT:=Aa (X:=T5) ⟨AD,Af,AA⟩ (Ab (by exact trivial)) (Al (by kernel_rfl)) ⟨Tryz.func39,rfl,by kernel_rfl,rfl⟩ (fun x=>by exact AD2 x)
noncomputable def EU (s0:Tq13) (s1:(List UInt8)) (s2:Int) (s3:Int):Option ((Tq13×Tq28) ⊕ (Tq13×((List UInt8)×Int))) :=
 bif decide (s3<(((List.length s1):Nat):Int)) then
  ((AQ s1 s3)).bind fun x0 =>
  bif ((((UInt8.toNat x0):Nat):Int)==(32:Int)) then
   ((LL s2 s3 (List.length s1))).bind fun x1 =>
   ((De 16 1 s0 (List.cons (List.drop x1.1 (List.take x1.2 s1)) (List.nil:List (List UInt8))))).bind fun x2 =>
   some (Sum.inl (x2,(s1,((IntKind.wrap .i64 (s3 + (1:Int))),(IntKind.wrap .i64 (s3 + (1:Int)))))))
  else
  some (Sum.inl (s0,(s1,(s2,(IntKind.wrap .i64 (s3 + (1:Int)))))))
 else
 some (Sum.inr (s0,(s1,s2)))
noncomputable def G6 (a0:(List UInt8)):Option Tq13 :=
 (Ah (fun (s:(Tq13×Tq28))=>EU s.1 s.2.1 s.2.2.1 s.2.2.2) ((List.nil:List (List UInt8)),(a0,((0:Int),(0:Int))))).bind fun x0 =>
 ((LL x0.2.2 (((List.length x0.2.1):Nat):Int) (List.length x0.2.1))).bind fun x1 =>
 ((De 16 1 x0.1 (List.cons (List.drop x1.1 (List.take x1.2 x0.2.1)) (List.nil:List (List UInt8))))).bind fun x2 =>
 some x2
noncomputable def U9:Ent:=⟨MO,fun x=>G6 x⟩
noncomputable def UC:TX:=⟨Ak,Ae,[],[4],[],MO⟩
theorem AI4 (a0:List UInt8):wtF UC Tryz.f95 (a0)=G6 a0:=by kernel_rfl
theorem Ao3:Ai RR U9:=Aa (X:=UC) ⟨AD,Af,AA⟩ (Ab (by exact trivial)) (Al (by kernel_rfl)) ⟨Tryz.func95,rfl,by kernel_rfl,rfl⟩ (fun x=>by exact AI4 x)
noncomputable def Dl (s0:(List UInt8)) (s1:Int) (s2:Int) (s3:Int):Option (((List UInt8)×(Int×(Int×Int))) ⊕ ((List UInt8)×(Int×(Int×Int)))) :=
 bif decide (s3<(((List.length s0):Nat):Int)) then
  bif decide (s3<(IntKind.wrap .i64 (s1 + (4:Int)))) then
   ((AQ s0 s3)).bind fun x0 =>
   bif decide ((((UInt8.toNat x0):Nat):Int)>=(48:Int)) then
    ((AQ s0 s3)).bind fun x1 =>
    bif decide ((((UInt8.toNat x1):Nat):Int)<=(57:Int)) then
     ((AQ s0 s3)).bind fun x2 =>
     some (Sum.inl (s0,(s1,((IntKind.wrap .i64 ((IntKind.wrap .i64 ((10:Int)*s2)) + (IntKind.wrap .i64 (Go.IntKind.wrap Go.IntKind.u8 ((((UInt8.toNat x2):Nat):Int)-(48:Int)))))),(IntKind.wrap .i64 (s3 + (1:Int)))))))
    else
    some (Sum.inr (s0,(s1,(s2,s3))))
   else
   some (Sum.inr (s0,(s1,(s2,s3))))
  else
  some (Sum.inr (s0,(s1,(s2,s3))))
 else
 some (Sum.inr (s0,(s1,(s2,s3))))
noncomputable def Kr (a0:(List UInt8)) (a1:Int):Option (Int×Int) :=
 (Ah (fun (s:((List UInt8)×(Int×(Int×Int))))=>Dl s.1 s.2.1 s.2.2.1 s.2.2.2) (a0,(a1,((0:Int),a1)))).bind fun x0 =>
 bif (x0.2.2.2==x0.2.1) then
  some ((-(1:Int)),x0.2.1)
 else
 ((AQ x0.1 x0.2.1)).bind fun x1 =>
 bif ((((UInt8.toNat x1):Nat):Int)==(48:Int)) then
  bif decide (x0.2.2.2>(IntKind.wrap .i64 (x0.2.1 + (1:Int)))) then
   some ((-(1:Int)),x0.2.1)
  else
  some (x0.2.2.1,x0.2.2.2)
 else
 some (x0.2.2.1,x0.2.2.2)
noncomputable def ZU:Ent:=⟨Sk,fun x=>Kr x.1 x.2⟩
noncomputable def Zr:TX:=⟨Ak,Ae,[],[4],[],Sk⟩
theorem A1J (a0:List UInt8) (a1:Int):wtF Zr Tryz.f102 (a0,a1)=Kr a0 a1:=by kernel_rfl
theorem AN6:Ai RR ZU:=Aa (X:=Zr) ⟨AD,Af,AA⟩ (Ab (by exact trivial)) (Al (by kernel_rfl)) ⟨Tryz.func102,rfl,by kernel_rfl,rfl⟩ (fun x=>by exact A1J x.1 x.2)
noncomputable def E4 (a0:(List UInt8)):Option (Int×Bool) :=
 (bif decide ((((List.length a0):Nat):Int)>(0:Int)) then
   ((AQ a0 (0:Int))).bind fun x0 =>
   some (Sum.inr (a0,((((UInt8.toNat x0):Nat):Int)==(45:Int))))
  else
  some (Sum.inr (a0,false))).bind fun x1 =>
 Sum.elim
  (fun x2 =>
  some x2)
  (fun x3 =>
  (bif x3.2 then
    ((LL (1:Int) (((List.length x3.1):Nat):Int) (List.length x3.1))).bind fun x4 =>
    some (Sum.inr (x3.2,(List.drop x4.1 (List.take x4.2 x3.1))))
   else
   some (Sum.inr (x3.2,x3.1))).bind fun x5 =>
  Sum.elim
   (fun x6 =>
   some x6)
   (fun x7 =>
   ((Kr x7.2 (0:Int))).bind fun x8 =>
   (bif decide (x8.1<(0:Int)) then
     some (Sum.inl ((0:Int),false))
    else
    bif decide (x8.2<(((List.length x7.2):Nat):Int)) then
     some (Sum.inl ((0:Int),false))
    else
    bif x7.1 then
     bif (x8.1==(0:Int)) then
      some (Sum.inl ((0:Int),false))
     else
     some (Sum.inr (x7.1,x8.1))
    else
    some (Sum.inr (x7.1,x8.1))).bind fun x9 =>
   Sum.elim
    (fun x10 =>
    some x10)
    (fun x11 =>
    bif x11.1 then
     some ((IntKind.wrap .i64 ((0:Int)-x11.2)),true)
    else
    some (x11.2,true))
    x9)
   x5)
  x1
noncomputable def OG:Ent:=⟨KM,fun x=>E4 x⟩
noncomputable def Ql:TX:=⟨Ak,Ae,[],[4],[ZU],KM⟩
theorem Ab6 (a0:List UInt8):wtF Ql Tryz.f31 (a0)=E4 a0:=by kernel_rfl
theorem Yt:Ai RR OG:=Aa (X:=Ql) ⟨AD,Af,AA⟩ (Ab (by exact ⟨⟨AN6,rfl⟩,trivial⟩)) (Al (by kernel_rfl)) ⟨Tryz.func31,rfl,by kernel_rfl,rfl⟩ (fun x=>by exact Ab6 x)
noncomputable def Av (a0:Tq24) (a1:(List Tq8)) (a2:Tq8):Option (Tq27×List Tq19×List ((Int×Int))×Int) :=
 bif (a0.2.2 != (0:Int)) then
  some ((a0.1,(a0.2.1,a0.2.2)),(a1,(a2,(0:Int))))
 else
 bif (a0.2.1==(((List.length a0.1):Nat):Int)) then
  some ((a0.1,(a0.2.1,(3:Int))),(a1,(a2,(0:Int))))
 else
 ((AQ a0.1 a0.2.1)).bind fun x0 =>
 ((E4 x0)).bind fun x1 =>
 bif (!x1.2) then
  some ((a0.1,(a0.2.1,(3:Int))),(a1,(a2,(0:Int))))
 else
 some ((a0.1,((IntKind.wrap .i64 (a0.2.1 + (1:Int))),a0.2.2)),(a1,(a2,x1.1)))
noncomputable def On:Ent:=⟨I0,fun x=>Av x.1 x.2.1 x.2.2⟩
noncomputable def Oe:TX:=⟨Ak,Ae,[],[4],[OG],I0⟩
theorem YD (a0:Tq27) (a1:List Tq19) (a2:List ((Int×Int))):wtF Oe Tryz.f161 (a0,a1,a2)=Av a0 a1 a2:=by kernel_rfl
theorem VW:Ai RR On:=Aa (X:=Oe) ⟨AD,Af,AA⟩ (Ab (by exact ⟨⟨Yt,rfl⟩,trivial⟩)) (Al (by kernel_rfl)) ⟨Tryz.func161,rfl,by kernel_rfl,rfl⟩ (fun x=>by exact YD x.1 x.2.1 x.2.2)
noncomputable def C0 (a0:Int) (a1:Int) (a2:Int):Option (Bool) :=
 bif decide (a0>=a1) then
  some (decide (a0<=a2))
 else
 some false
noncomputable def Pp:Ent:=⟨Aa1,fun x=>C0 x.1 x.2.1 x.2.2⟩
noncomputable def AU2:TX:=⟨Ak,Ae,[],[4],[],Aa1⟩
theorem A7U (a0:Int) (a1:Int) (a2:Int):wtF AU2 Tryz.f90 (a0,a1,a2)=C0 a0 a1 a2:=by kernel_rfl
theorem QI:Ai RR Pp:=Aa (X:=AU2) ⟨AD,Af,AA⟩ (Ab (by exact trivial)) (Al (by kernel_rfl)) ⟨Tryz.func90,rfl,by kernel_rfl,rfl⟩ (fun x=>by exact A7U x.1 x.2.1 x.2.2)
noncomputable def Fo (a0:(Int×Int)):Option (Bool) :=
 ((C0 a0.1 (-(1000:Int)) (1000:Int))).bind fun x0 =>
 bif x0 then
  ((C0 a0.2 (-(1000:Int)) (1000:Int))).bind fun x1 =>
  some x1
 else
 some false
noncomputable def Sm:Ent:=⟨R0,fun x=>Fo x⟩
noncomputable def Ah7:TX:=⟨Ak,Ae,[],[4],[Pp],R0⟩
theorem A1v (a0:(Int×Int)):wtF Ah7 Tryz.f166 (a0)=Fo a0:=by kernel_rfl
theorem X7:Ai RR Sm:=Aa (X:=Ah7) ⟨AD,Af,AA⟩ (Ab (by exact ⟨⟨QI,rfl⟩,trivial⟩)) (Al (by kernel_rfl)) ⟨Tryz.func166,rfl,by kernel_rfl,rfl⟩ (fun x=>by exact A1v x)
noncomputable def AK (a0:Tq24) (a1:(List Tq8)) (a2:Tq8) (a3:(Int×Int)):Option (Tq27×List Tq19×List ((Int×Int))) :=
 bif (a0.2.2 != (0:Int)) then
  some ((a0.1,(a0.2.1,a0.2.2)),(a1,a2))
 else
 ((Fo (a3.1,a3.2))).bind fun x0 =>
 bif (!x0) then
  some ((a0.1,((IntKind.wrap .i64 (a0.2.1-(1:Int))),(6:Int))),(a1,a2))
 else
 ((De 16 2 a2 (List.cons (a3.1,a3.2) (List.nil:List (Int×Int))))).bind fun x1 =>
 some ((a0.1,(a0.2.1,a0.2.2)),(a1,x1))
noncomputable def Qt:Ent:=⟨Kz,fun x=>AK x.1 x.2.1 x.2.2.1 x.2.2.2⟩
noncomputable def PH:TX:=⟨Ak,Ae,[],[4],[Sm],Kz⟩
theorem Ai1 (a0:Tq27) (a1:List Tq19) (a2:List ((Int×Int))) (a3:(Int×Int)):wtF PH Tryz.f162 (a0,a1,a2,a3)=AK a0 a1 a2 a3:=by kernel_rfl
theorem Ys:Ai RR Qt:=Aa (X:=PH) ⟨AD,Af,AA⟩ (Ab (by exact ⟨⟨X7,rfl⟩,trivial⟩)) (Al (by kernel_rfl)) ⟨Tryz.func162,rfl,by kernel_rfl,rfl⟩ (fun x=>by exact Ai1 x.1 x.2.1 x.2.2.1 x.2.2.2)
noncomputable def Dc (s0:Tq24) (s1:Tq13) (s2:(List Tq8)) (s3:Tq8) (s4:(List UInt8)) (s5:Bool) (s6:Bool) (s7:Int) (s8:Int):Option ((Tq24×(Tq13×((List Tq8)×(Tq8×((List UInt8)×(Bool×(Bool×(Int×Int)))))))) ⊕ (Tq24×((List Tq8)×(Tq8×((List UInt8)×(Bool×Bool)))))) :=
 bif decide (s8<s7) then
  ((A8 s8 (List.length s1))).bind fun x0 =>
  ((A1 s1 x0)).bind fun x1 =>
  bif s6 then
   some (Sum.inl ((s0.1,(s0.2.1,s0.2.2)),(s1,(s2,(s3,(s4,(s5,(true,(s7,(IntKind.wrap .i64 (s8 + (1:Int))))))))))))
  else
  some (Sum.inl ((s0.1,(s0.2.1,s0.2.2)),(s1,(s2,(s3,(s4,(s5,((x1==s4),(s7,(IntKind.wrap .i64 (s8 + (1:Int))))))))))))
 else
 some (Sum.inr ((s0.1,(s0.2.1,s0.2.2)),(s2,(s3,(s4,(s5,s6))))))
noncomputable def Ay (a0:Tq24) (a1:(List Tq8)) (a2:Tq8):Option (Tq27×List Tq19×List ((Int×Int))) :=
 ((AQ a0.1 a0.2.1)).bind fun x0 =>
 (Ah (fun (s:(Tq24×(Tq13×((List Tq8)×(Tq8×((List UInt8)×(Bool×(Bool×(Int×Int)))))))))=>Dc s.1 s.2.1 s.2.2.1 s.2.2.2.1 s.2.2.2.2.1 s.2.2.2.2.2.1 s.2.2.2.2.2.2.1 s.2.2.2.2.2.2.2.1 s.2.2.2.2.2.2.2.2) ((a0.1,(a0.2.1,a0.2.2)),((List.cons (List.cons 77 (List.nil:List UInt8)) (List.cons (List.cons 76 (List.nil:List UInt8)) (List.cons (List.cons 108 (List.nil:List UInt8)) (List.cons (List.cons 72 (List.nil:List UInt8)) (List.cons (List.cons 104 (List.nil:List UInt8)) (List.cons (List.cons 86 (List.nil:List UInt8)) (List.cons (List.cons 118 (List.nil:List UInt8)) (List.cons (List.cons 90 (List.nil:List UInt8)) (List.nil:List (List UInt8)))))))))),(a1,(a2,(x0,(decide ((((List.length a2):Nat):Int)>(0:Int)),(false,(((8:Nat):Int),(0:Int)))))))))).bind fun x1 =>
 (bif (!x1.2.2.2.2.2) then
   some (Sum.inr ((x1.1.1,(x1.1.2.1,(2:Int))),(x1.2.1,(x1.2.2.1,(x1.2.2.2.1,x1.2.2.2.2.1)))))
  else
  bif (x1.2.2.2.2.1==(x1.2.2.2.1==(List.cons 77 (List.nil:List UInt8)))) then
   some (Sum.inr ((x1.1.1,(x1.1.2.1,(4:Int))),(x1.2.1,(x1.2.2.1,(x1.2.2.2.1,x1.2.2.2.2.1)))))
  else
  bif (x1.2.2.2.1==(List.cons 77 (List.nil:List UInt8))) then
   bif ((((List.length x1.2.1):Nat):Int)==(4:Int)) then
    bif ((((List.length x1.2.1):Nat):Int)==(4:Int)) then
     some (Sum.inr ((x1.1.1,(x1.1.2.1,(5:Int))),(x1.2.1,(x1.2.2.1,(x1.2.2.2.1,x1.2.2.2.2.1)))))
    else
    some (Sum.inr ((x1.1.1,(x1.1.2.1,x1.1.2.2)),(x1.2.1,(x1.2.2.1,(x1.2.2.2.1,x1.2.2.2.2.1)))))
   else
   bif (x1.2.2.2.1==(List.cons 90 (List.nil:List UInt8))) then
    bif decide ((((List.length x1.2.2.1):Nat):Int)<(3:Int)) then
     bif decide ((((List.length x1.2.2.1):Nat):Int)<(3:Int)) then
      some (Sum.inr ((x1.1.1,(x1.1.2.1,(5:Int))),(x1.2.1,(x1.2.2.1,(x1.2.2.2.1,x1.2.2.2.2.1)))))
     else
     some (Sum.inr ((x1.1.1,(x1.1.2.1,x1.1.2.2)),(x1.2.1,(x1.2.2.1,(x1.2.2.2.1,x1.2.2.2.2.1)))))
    else
    bif (!(x1.2.2.2.1==(List.cons 90 (List.nil:List UInt8)))) then
     bif ((((List.length x1.2.2.1):Nat):Int)==(12:Int)) then
      some (Sum.inr ((x1.1.1,(x1.1.2.1,(5:Int))),(x1.2.1,(x1.2.2.1,(x1.2.2.2.1,x1.2.2.2.2.1)))))
     else
     some (Sum.inr ((x1.1.1,(x1.1.2.1,x1.1.2.2)),(x1.2.1,(x1.2.2.1,(x1.2.2.2.1,x1.2.2.2.2.1)))))
    else
    some (Sum.inr ((x1.1.1,(x1.1.2.1,x1.1.2.2)),(x1.2.1,(x1.2.2.1,(x1.2.2.2.1,x1.2.2.2.2.1)))))
   else
   bif (!(x1.2.2.2.1==(List.cons 90 (List.nil:List UInt8)))) then
    bif ((((List.length x1.2.2.1):Nat):Int)==(12:Int)) then
     some (Sum.inr ((x1.1.1,(x1.1.2.1,(5:Int))),(x1.2.1,(x1.2.2.1,(x1.2.2.2.1,x1.2.2.2.2.1)))))
    else
    some (Sum.inr ((x1.1.1,(x1.1.2.1,x1.1.2.2)),(x1.2.1,(x1.2.2.1,(x1.2.2.2.1,x1.2.2.2.2.1)))))
   else
   some (Sum.inr ((x1.1.1,(x1.1.2.1,x1.1.2.2)),(x1.2.1,(x1.2.2.1,(x1.2.2.2.1,x1.2.2.2.2.1)))))
  else
  bif (x1.2.2.2.1==(List.cons 90 (List.nil:List UInt8))) then
   bif decide ((((List.length x1.2.2.1):Nat):Int)<(3:Int)) then
    bif decide ((((List.length x1.2.2.1):Nat):Int)<(3:Int)) then
     some (Sum.inr ((x1.1.1,(x1.1.2.1,(5:Int))),(x1.2.1,(x1.2.2.1,(x1.2.2.2.1,x1.2.2.2.2.1)))))
    else
    some (Sum.inr ((x1.1.1,(x1.1.2.1,x1.1.2.2)),(x1.2.1,(x1.2.2.1,(x1.2.2.2.1,x1.2.2.2.2.1)))))
   else
   bif (!(x1.2.2.2.1==(List.cons 90 (List.nil:List UInt8)))) then
    bif ((((List.length x1.2.2.1):Nat):Int)==(12:Int)) then
     some (Sum.inr ((x1.1.1,(x1.1.2.1,(5:Int))),(x1.2.1,(x1.2.2.1,(x1.2.2.2.1,x1.2.2.2.2.1)))))
    else
    some (Sum.inr ((x1.1.1,(x1.1.2.1,x1.1.2.2)),(x1.2.1,(x1.2.2.1,(x1.2.2.2.1,x1.2.2.2.2.1)))))
   else
   some (Sum.inr ((x1.1.1,(x1.1.2.1,x1.1.2.2)),(x1.2.1,(x1.2.2.1,(x1.2.2.2.1,x1.2.2.2.2.1)))))
  else
  bif (!(x1.2.2.2.1==(List.cons 90 (List.nil:List UInt8)))) then
   bif ((((List.length x1.2.2.1):Nat):Int)==(12:Int)) then
    some (Sum.inr ((x1.1.1,(x1.1.2.1,(5:Int))),(x1.2.1,(x1.2.2.1,(x1.2.2.2.1,x1.2.2.2.2.1)))))
   else
   some (Sum.inr ((x1.1.1,(x1.1.2.1,x1.1.2.2)),(x1.2.1,(x1.2.2.1,(x1.2.2.2.1,x1.2.2.2.2.1)))))
  else
  some (Sum.inr ((x1.1.1,(x1.1.2.1,x1.1.2.2)),(x1.2.1,(x1.2.2.1,(x1.2.2.2.1,x1.2.2.2.2.1)))))).bind fun x2 =>
 Sum.elim
  (fun x3 =>
  some x3)
  (fun x4 =>
  bif (x4.1.2.2 != (0:Int)) then
   some ((x4.1.1,(x4.1.2.1,x4.1.2.2)),(x4.2.1,x4.2.2.1))
  else
  (bif x4.2.2.2.2 then
    ((A8 (IntKind.wrap .i64 ((((List.length x4.2.2.1):Nat):Int)-(1:Int))) (List.length x4.2.2.1))).bind fun x5 =>
    ((A1 x4.2.2.1 x5)).bind fun x6 =>
    some (Sum.inr ((x4.1.1,((IntKind.wrap .i64 (x4.1.2.1 + (1:Int))),x4.1.2.2)),((x6.1,x6.2),(x4.2.1,(x4.2.2.1,x4.2.2.2.1)))))
   else
   some (Sum.inr ((x4.1.1,((IntKind.wrap .i64 (x4.1.2.1 + (1:Int))),x4.1.2.2)),(((0:Int),(0:Int)),(x4.2.1,(x4.2.2.1,x4.2.2.2.1)))))).bind fun x7 =>
  Sum.elim
   (fun x8 =>
   some x8)
   (fun x9 =>
   bif (x9.2.2.2.2==(List.cons 77 (List.nil:List UInt8))) then
    bif (x9.2.2.2.2==(List.cons 77 (List.nil:List UInt8))) then
     ((Av (x9.1.1,(x9.1.2.1,x9.1.2.2)) x9.2.2.1 x9.2.2.2.1)).bind fun x10 =>
     ((Av (x10.1.1,(x10.1.2.1,x10.1.2.2)) x10.2.1 x10.2.2.1)).bind fun x11 =>
     ((AK (x11.1.1,(x11.1.2.1,x11.1.2.2)) x11.2.1 x11.2.2.1 (x10.2.2.2,x11.2.2.2))).bind fun x12 =>
     some ((x12.1.1,(x12.1.2.1,x12.1.2.2)),(x12.2.1,x12.2.2))
    else
    bif (x9.2.2.2.2==(List.cons 108 (List.nil:List UInt8))) then
     ((Av (x9.1.1,(x9.1.2.1,x9.1.2.2)) x9.2.2.1 x9.2.2.2.1)).bind fun x13 =>
     ((Av (x13.1.1,(x13.1.2.1,x13.1.2.2)) x13.2.1 x13.2.2.1)).bind fun x14 =>
     ((AK (x14.1.1,(x14.1.2.1,x14.1.2.2)) x14.2.1 x14.2.2.1 ((IntKind.wrap .i64 (x9.2.1.1 + x13.2.2.2)),(IntKind.wrap .i64 (x9.2.1.2 + x14.2.2.2))))).bind fun x15 =>
     some ((x15.1.1,(x15.1.2.1,x15.1.2.2)),(x15.2.1,x15.2.2))
    else
    bif (x9.2.2.2.2==(List.cons 72 (List.nil:List UInt8))) then
     ((Av (x9.1.1,(x9.1.2.1,x9.1.2.2)) x9.2.2.1 x9.2.2.2.1)).bind fun x16 =>
     ((AK (x16.1.1,(x16.1.2.1,x16.1.2.2)) x16.2.1 x16.2.2.1 (x16.2.2.2,x9.2.1.2))).bind fun x17 =>
     some ((x17.1.1,(x17.1.2.1,x17.1.2.2)),(x17.2.1,x17.2.2))
    else
    bif (x9.2.2.2.2==(List.cons 104 (List.nil:List UInt8))) then
     ((Av (x9.1.1,(x9.1.2.1,x9.1.2.2)) x9.2.2.1 x9.2.2.2.1)).bind fun x18 =>
     ((AK (x18.1.1,(x18.1.2.1,x18.1.2.2)) x18.2.1 x18.2.2.1 ((IntKind.wrap .i64 (x9.2.1.1 + x18.2.2.2)),x9.2.1.2))).bind fun x19 =>
     some ((x19.1.1,(x19.1.2.1,x19.1.2.2)),(x19.2.1,x19.2.2))
    else
    bif (x9.2.2.2.2==(List.cons 86 (List.nil:List UInt8))) then
     ((Av (x9.1.1,(x9.1.2.1,x9.1.2.2)) x9.2.2.1 x9.2.2.2.1)).bind fun x20 =>
     ((AK (x20.1.1,(x20.1.2.1,x20.1.2.2)) x20.2.1 x20.2.2.1 (x9.2.1.1,x20.2.2.2))).bind fun x21 =>
     some ((x21.1.1,(x21.1.2.1,x21.1.2.2)),(x21.2.1,x21.2.2))
    else
    bif (x9.2.2.2.2==(List.cons 118 (List.nil:List UInt8))) then
     ((Av (x9.1.1,(x9.1.2.1,x9.1.2.2)) x9.2.2.1 x9.2.2.2.1)).bind fun x22 =>
     ((AK (x22.1.1,(x22.1.2.1,x22.1.2.2)) x22.2.1 x22.2.2.1 (x9.2.1.1,(IntKind.wrap .i64 (x9.2.1.2 + x22.2.2.2))))).bind fun x23 =>
     some ((x23.1.1,(x23.1.2.1,x23.1.2.2)),(x23.2.1,x23.2.2))
    else
    ((De 24 1 x9.2.2.1 (List.cons x9.2.2.2.1 (List.nil:List Tq8)))).bind fun x24 =>
    some ((x9.1.1,(x9.1.2.1,x9.1.2.2)),(x24,(List.nil:List (Int×Int))))
   else
   bif (x9.2.2.2.2==(List.cons 76 (List.nil:List UInt8))) then
    ((Av (x9.1.1,(x9.1.2.1,x9.1.2.2)) x9.2.2.1 x9.2.2.2.1)).bind fun x25 =>
    ((Av (x25.1.1,(x25.1.2.1,x25.1.2.2)) x25.2.1 x25.2.2.1)).bind fun x26 =>
    ((AK (x26.1.1,(x26.1.2.1,x26.1.2.2)) x26.2.1 x26.2.2.1 (x25.2.2.2,x26.2.2.2))).bind fun x27 =>
    some ((x27.1.1,(x27.1.2.1,x27.1.2.2)),(x27.2.1,x27.2.2))
   else
   bif (x9.2.2.2.2==(List.cons 108 (List.nil:List UInt8))) then
    ((Av (x9.1.1,(x9.1.2.1,x9.1.2.2)) x9.2.2.1 x9.2.2.2.1)).bind fun x28 =>
    ((Av (x28.1.1,(x28.1.2.1,x28.1.2.2)) x28.2.1 x28.2.2.1)).bind fun x29 =>
    ((AK (x29.1.1,(x29.1.2.1,x29.1.2.2)) x29.2.1 x29.2.2.1 ((IntKind.wrap .i64 (x9.2.1.1 + x28.2.2.2)),(IntKind.wrap .i64 (x9.2.1.2 + x29.2.2.2))))).bind fun x30 =>
    some ((x30.1.1,(x30.1.2.1,x30.1.2.2)),(x30.2.1,x30.2.2))
   else
   bif (x9.2.2.2.2==(List.cons 72 (List.nil:List UInt8))) then
    ((Av (x9.1.1,(x9.1.2.1,x9.1.2.2)) x9.2.2.1 x9.2.2.2.1)).bind fun x31 =>
    ((AK (x31.1.1,(x31.1.2.1,x31.1.2.2)) x31.2.1 x31.2.2.1 (x31.2.2.2,x9.2.1.2))).bind fun x32 =>
    some ((x32.1.1,(x32.1.2.1,x32.1.2.2)),(x32.2.1,x32.2.2))
   else
   bif (x9.2.2.2.2==(List.cons 104 (List.nil:List UInt8))) then
    ((Av (x9.1.1,(x9.1.2.1,x9.1.2.2)) x9.2.2.1 x9.2.2.2.1)).bind fun x33 =>
    ((AK (x33.1.1,(x33.1.2.1,x33.1.2.2)) x33.2.1 x33.2.2.1 ((IntKind.wrap .i64 (x9.2.1.1 + x33.2.2.2)),x9.2.1.2))).bind fun x34 =>
    some ((x34.1.1,(x34.1.2.1,x34.1.2.2)),(x34.2.1,x34.2.2))
   else
   bif (x9.2.2.2.2==(List.cons 86 (List.nil:List UInt8))) then
    ((Av (x9.1.1,(x9.1.2.1,x9.1.2.2)) x9.2.2.1 x9.2.2.2.1)).bind fun x35 =>
    ((AK (x35.1.1,(x35.1.2.1,x35.1.2.2)) x35.2.1 x35.2.2.1 (x9.2.1.1,x35.2.2.2))).bind fun x36 =>
    some ((x36.1.1,(x36.1.2.1,x36.1.2.2)),(x36.2.1,x36.2.2))
   else
   bif (x9.2.2.2.2==(List.cons 118 (List.nil:List UInt8))) then
    ((Av (x9.1.1,(x9.1.2.1,x9.1.2.2)) x9.2.2.1 x9.2.2.2.1)).bind fun x37 =>
    ((AK (x37.1.1,(x37.1.2.1,x37.1.2.2)) x37.2.1 x37.2.2.1 (x9.2.1.1,(IntKind.wrap .i64 (x9.2.1.2 + x37.2.2.2))))).bind fun x38 =>
    some ((x38.1.1,(x38.1.2.1,x38.1.2.2)),(x38.2.1,x38.2.2))
   else
   ((De 24 1 x9.2.2.1 (List.cons x9.2.2.2.1 (List.nil:List Tq8)))).bind fun x39 =>
   some ((x9.1.1,(x9.1.2.1,x9.1.2.2)),(x39,(List.nil:List (Int×Int)))))
   x7)
  x2
noncomputable def Mv:Ent:=⟨HY,fun x=>Ay x.1 x.2.1 x.2.2⟩
noncomputable def Mh:TX:=⟨Ak,Ae,[],[4],[On,Qt],HY⟩
theorem WA (a0:Tq27) (a1:List Tq19) (a2:List ((Int×Int))):wtF Mh Tryz.f96 (a0,a1,a2)=Ay a0 a1 a2:=by kernel_rfl
theorem T0:Ai RR Mv:=Aa (X:=Mh) ⟨AD,Af,AA⟩ (Ab (by exact ⟨⟨VW,rfl⟩,⟨⟨Ys,rfl⟩,trivial⟩⟩)) (Al (by kernel_rfl)) ⟨Tryz.func96,rfl,by kernel_rfl,rfl⟩ (fun x=>by exact WA x.1 x.2.1 x.2.2)
noncomputable def Di (s0:Tq24) (s1:(List Tq8)) (s2:Tq8):Option ((Tq24×((List Tq8)×Tq8)) ⊕ (Tq24×((List Tq8)×Tq8))) :=
 bif decide (s0.2.1<(((List.length s0.1):Nat):Int)) then
  bif (s0.2.2==(0:Int)) then
   ((Ay (s0.1,(s0.2.1,s0.2.2)) s1 s2)).bind fun x0 =>
   some (Sum.inl ((x0.1.1,(x0.1.2.1,x0.1.2.2)),(x0.2.1,x0.2.2)))
  else
  some (Sum.inr ((s0.1,(s0.2.1,s0.2.2)),(s1,s2)))
 else
 some (Sum.inr ((s0.1,(s0.2.1,s0.2.2)),(s1,s2)))
noncomputable def FX (a0:(List UInt8)):Option (List Tq19×Int×Int×Bool) :=
 bif ((((List.length a0):Nat):Int)==(0:Int)) then
  some ((List.nil:List Tq8),((1:Int),((0:Int),false)))
 else
 bif decide ((((List.length a0):Nat):Int)>(400:Int)) then
  some ((List.nil:List Tq8),((1:Int),((0:Int),false)))
 else
 ((G6 a0)).bind fun x0 =>
 (Ah (fun (s:(Tq24×((List Tq8)×Tq8)))=>Di s.1 s.2.1 s.2.2) ((x0,((0:Int),(0:Int))),((List.nil:List Tq8),(List.nil:List (Int×Int))))).bind fun x1 =>
 (bif (x1.1.2.2==(0:Int)) then
   bif decide ((((List.length x1.2.2):Nat):Int)>(0:Int)) then
    some (Sum.inr ((x1.1.1,(x1.1.2.1,(7:Int))),(x1.2.1,x1.2.2)))
   else
   some (Sum.inr ((x1.1.1,(x1.1.2.1,x1.1.2.2)),(x1.2.1,x1.2.2)))
  else
  some (Sum.inr ((x1.1.1,(x1.1.2.1,x1.1.2.2)),(x1.2.1,x1.2.2)))).bind fun x2 =>
 Sum.elim
  (fun x3 =>
  some x3)
  (fun x4 =>
  bif (x4.1.2.2 != (0:Int)) then
   some ((List.nil:List Tq8),(x4.1.2.2,(x4.1.2.1,false)))
  else
  some (x4.2.1,((0:Int),((0:Int),true))))
  x2
noncomputable def Ry:Ent:=⟨LV,fun x=>FX x⟩
noncomputable def Rp:TX:=⟨Ak,Ae,[],[4],[U9,Mv],LV⟩
theorem Ap2 (a0:List UInt8):wtF Rp Tryz.f25 (a0)=FX a0:=by kernel_rfl
theorem ZN:Ai RR Ry:=Aa (X:=Rp) ⟨AD,Af,AA⟩ (Ab (by exact ⟨⟨Ao3,rfl⟩,⟨⟨T0,rfl⟩,trivial⟩⟩)) (Al (by kernel_rfl)) ⟨Tryz.func25,rfl,by kernel_rfl,rfl⟩ (fun x=>by exact Ap2 x)
noncomputable def C6 (a0:Tq5):Option (Bool) :=
 ((C0 a0.1 (-(20:Int)) (20:Int))).bind fun x0 =>
 bif x0 then
  ((C0 a0.2.1 (-(20:Int)) (20:Int))).bind fun x1 =>
  bif x1 then
   ((C0 a0.2.2.1 (1:Int) (8:Int))).bind fun x2 =>
   bif x2 then
    ((C0 a0.2.2.2 (1:Int) (8:Int))).bind fun x3 =>
    some x3
   else
   some false
  else
  some false
 else
 some false
noncomputable def KI:Ent:=⟨J5,fun x=>C6 x⟩
noncomputable def OR:TX:=⟨Ak,Ae,[],[4],[Pp],J5⟩
theorem Ad1 (a0:Tq22):wtF OR Tryz.f117 (a0)=C6 a0:=by kernel_rfl
theorem Ot:Ai RR KI:=Aa (X:=OR) ⟨AD,Af,AA⟩ (Ab (by exact ⟨⟨QI,rfl⟩,trivial⟩)) (Al (by kernel_rfl)) ⟨Tryz.func117,rfl,by kernel_rfl,rfl⟩ (fun x=>by exact Ad1 x)
noncomputable def Lz (s0:(List Int)):Option ((List Int) ⊕ (List Int)) :=
 bif decide ((((List.length s0):Nat):Int)>(0:Int)) then
  ((AQ s0 (IntKind.wrap .i64 ((((List.length s0):Nat):Int)-(1:Int))))).bind fun x0 =>
  bif (x0==(0:Int)) then
   ((LL (0:Int) (IntKind.wrap .i64 ((((List.length s0):Nat):Int)-(1:Int))) (List.length s0))).bind fun x1 =>
   some (Sum.inl (List.drop x1.1 (List.take x1.2 s0)))
  else
  some (Sum.inr s0)
 else
 some (Sum.inr s0)
noncomputable def Cs (a0:(List Int)):Option (List (Int)) :=
 (Ah (fun (s:(List Int))=>Lz s) a0).bind fun x0 =>
 bif (AA3 (List.length x0) 8 1) then
  some x0
 else
 none
noncomputable def GA:Ent:=⟨V0,fun x=>Cs x⟩
noncomputable def Ar9:TX:=⟨Ak,Ae,[],[4],[],V0⟩
theorem A4v (a0:List (Int)):wtF Ar9 Tryz.f188 (a0)=Cs a0:=by kernel_rfl
theorem Gi:Ai RR GA:=Aa (X:=Ar9) ⟨AD,Af,AA⟩ (Ab (by exact trivial)) (Al (by kernel_rfl)) ⟨Tryz.func188,rfl,by kernel_rfl,rfl⟩ (fun x=>by exact A4v x)
noncomputable def Bs (a0:Bool) (a1:(List Int)):Option (List (Int)×(Bool)) :=
 ((Cs a1)).bind fun x0 =>
 bif a0 then
  some (x0,decide ((((List.length x0):Nat):Int)>(0:Int)))
 else
 some (x0,false)
noncomputable def Ef:Ent:=⟨Sd,fun x=>Bs x.1 x.2⟩
noncomputable def Zn:TX:=⟨Ak,Ae,[],[4],[GA],Sd⟩
theorem A1G (a0:Bool) (a1:List (Int)):wtF Zn Tryz.f133 (a0,a1)=Bs a0 a1:=by kernel_rfl
theorem D3:Ai RR Ef:=Aa (X:=Zn) ⟨AD,Af,AA⟩ (Ab (by exact ⟨⟨Gi,rfl⟩,trivial⟩)) (Al (by kernel_rfl)) ⟨Tryz.func133,rfl,by kernel_rfl,rfl⟩ (fun x=>by exact A1G x.1 x.2)
noncomputable def LF (s0:Tq7) (s1:(List Int)) (s2:Int) (s3:Int):Option ((Tq7×Tq11) ⊕ (Tq7×Tq33)) :=
 bif (s3 != (0:Int)) then
  bif decide ((Int.tmod s3 (65536:Int))<(0:Int)) then
   ((De 8 1 s1 (List.cons (IntKind.wrap .i64 ((0:Int)-(Int.tmod s3 (65536:Int)))) (List.nil:List Int)))).bind fun x0 =>
   some (Sum.inl ((s0.1,s0.2),(x0,(s2,(IntKind.wrap .i64 (Int.tdiv s3 (65536:Int)))))))
  else
  ((De 8 1 s1 (List.cons (Int.tmod s3 (65536:Int)) (List.nil:List Int)))).bind fun x1 =>
  some (Sum.inl ((s0.1,s0.2),(x1,(s2,(IntKind.wrap .i64 (Int.tdiv s3 (65536:Int)))))))
 else
 some (Sum.inr ((s0.1,s0.2),(s1,s2)))
noncomputable def DN (a0:Int):Option (Tq10) :=
 (Ah (fun (s:(Tq7×Tq11))=>LF s.1 s.2.1 s.2.2.1 s.2.2.2) ((false,(List.nil:List Int)),((List.nil:List Int),(a0,a0)))).bind fun x0 =>
 ((Bs (decide (x0.2.2<(0:Int))) x0.2.1)).bind fun x1 =>
 some (x1.2,x1.1)
noncomputable def L2:Ent:=⟨Vw,fun x=>DN x⟩
noncomputable def Az3:TX:=⟨Ak,Ae,[],[4],[Ef],Vw⟩
theorem A5C (a0:Int):wtF Az3 Tryz.f72 (a0)=DN a0:=by kernel_rfl
theorem Nn:Ai RR L2:=Aa (X:=Az3) ⟨AD,Af,AA⟩ (Ab (by exact ⟨⟨D3,rfl⟩,trivial⟩)) (Al (by kernel_rfl)) ⟨Tryz.func72,rfl,by kernel_rfl,rfl⟩ (fun x=>by exact A5C x)
noncomputable def Cx (a0:Int):Option (Tq3) :=
 ((DN a0)).bind fun x0 =>
 ((DN (1:Int))).bind fun x1 =>
 some (x0.1,(x0.2,(x1.1,x1.2)))
noncomputable def L9:Ent:=⟨V5,fun x=>Cx x⟩
noncomputable def Aw5:TX:=⟨Ak,Ae,[],[4],[L2],V5⟩
theorem A5g (a0:Int):wtF Aw5 Tryz.f118 (a0)=Cx a0:=by kernel_rfl
theorem N6:Ai RR L9:=Aa (X:=Aw5) ⟨AD,Af,AA⟩ (Ab (by exact ⟨⟨Nn,rfl⟩,trivial⟩)) (Al (by kernel_rfl)) ⟨Tryz.func118,rfl,by kernel_rfl,rfl⟩ (fun x=>by exact A5g x)
noncomputable def ID (s0:Tq8) (s1:Int) (s2:Int):Option (Tq34 ⊕ (Unit ⊕ Bool)) :=
 bif decide (s2<s1) then
  ((AQ s0 s2)).bind fun x0 =>
  ((Fo (x0.1,x0.2))).bind fun x1 =>
  bif (!x1) then
   some (Sum.inr (Sum.inr false))
  else
  some (Sum.inl (s0,(s1,(IntKind.wrap .i64 (s2 + (1:Int))))))
 else
 some (Sum.inr (Sum.inl ()))
noncomputable def Mi (a0:Tq8):Option (Bool) :=
 (Ah (fun (s:Tq34)=>ID s.1 s.2.1 s.2.2) (a0,((((List.length a0):Nat):Int),(0:Int)))).bind fun x0 =>
 Sum.elim
  (fun x1 =>
  some true)
  (fun x2 =>
  some x2)
  x0
noncomputable def Aw1:Ent:=⟨Wa,fun x=>Mi x⟩
noncomputable def Ax4:TX:=⟨Ak,Ae,[],[4],[Sm],Wa⟩
theorem A4x (a0:List ((Int×Int))):wtF Ax4 Tryz.f152 (a0)=Mi a0:=by kernel_rfl
theorem A1k:Ai RR Aw1:=Aa (X:=Ax4) ⟨AD,Af,AA⟩ (Ab (by exact ⟨⟨X7,rfl⟩,trivial⟩)) (Al (by kernel_rfl)) ⟨Tryz.func152,rfl,by kernel_rfl,rfl⟩ (fun x=>by exact A4x x)
noncomputable def Mt (a0:Tq8):Option (Bool) :=
 ((C0 (((List.length a0):Nat):Int) (3:Int) (12:Int))).bind fun x0 =>
 bif x0 then
  ((Mi a0)).bind fun x1 =>
  some x1
 else
 some false
noncomputable def Az6:Ent:=⟨V2,fun x=>Mt x⟩
noncomputable def Au1:TX:=⟨Ak,Ae,[],[4],[Pp,Aw1],V2⟩
theorem A4L (a0:List ((Int×Int))):wtF Au1 Tryz.f89 (a0)=Mt a0:=by kernel_rfl
theorem A1R:Ai RR Az6:=Aa (X:=Au1) ⟨AD,Af,AA⟩ (Ab (by exact ⟨⟨QI,rfl⟩,⟨⟨A1k,rfl⟩,trivial⟩⟩)) (Al (by kernel_rfl)) ⟨Tryz.func89,rfl,by kernel_rfl,rfl⟩ (fun x=>by exact A4L x)
noncomputable def H6 (a0:(Int×Int)):Option (Tq4) :=
 ((Cx a0.1)).bind fun x0 =>
 ((Cx a0.2)).bind fun x1 =>
 some (x0.1,(x0.2.1,(x0.2.2.1,(x0.2.2.2,(x1.1,(x1.2.1,(x1.2.2.1,x1.2.2.2)))))))
noncomputable def Wn:Ent:=⟨Vt,fun x=>H6 x⟩
noncomputable def Az7:TX:=⟨Ak,Ae,[],[4],[L9],Vt⟩
theorem A4r (a0:(Int×Int)):wtF Az7 Tryz.f176 (a0)=H6 a0:=by kernel_rfl
theorem Zg:Ai RR Wn:=Aa (X:=Az7) ⟨AD,Af,AA⟩ (Ab (by exact ⟨⟨N6,rfl⟩,trivial⟩)) (Al (by kernel_rfl)) ⟨Tryz.func176,rfl,by kernel_rfl,rfl⟩ (fun x=>by exact A4r x)
noncomputable def Dt (s0:Tq6) (s1:Tq8) (s2:Int) (s3:Int):Option ((Tq6×Tq34) ⊕ Tq6) :=
 bif decide (s3<s2) then
  ((AQ s1 s3)).bind fun x0 =>
  ((H6 (x0.1,x0.2))).bind fun x1 =>
  ((De 128 8 s0 (List.cons (((x1.1,x1.2.1),(x1.2.2.1,x1.2.2.2.1)),((x1.2.2.2.2.1,x1.2.2.2.2.2.1),(x1.2.2.2.2.2.2.1,x1.2.2.2.2.2.2.2))) (List.nil:List (Tq0×Tq0))))).bind fun x2 =>
  some (Sum.inl (x2,(s1,(s2,(IntKind.wrap .i64 (s3 + (1:Int)))))))
 else
 some (Sum.inr s0)
noncomputable def JU (a0:Tq8):Option (List Tq2×Bool) :=
 ((Mt a0)).bind fun x0 =>
 bif (!x0) then
  some ((List.nil:List (Tq0×Tq0)),false)
 else
 (Ah (fun (s:(Tq6×Tq34))=>Dt s.1 s.2.1 s.2.2.1 s.2.2.2) ((List.nil:List (Tq0×Tq0)),(a0,((((List.length a0):Nat):Int),(0:Int))))).bind fun x1 =>
 some (x1,true)
noncomputable def Ac3:Ent:=⟨Sp,fun x=>JU x⟩
noncomputable def Ad7:TX:=⟨Ak,Ae,[],[4],[Az6,Wn],Sp⟩
theorem A2s (a0:List ((Int×Int))):wtF Ad7 Tryz.f119 (a0)=JU a0:=by kernel_rfl
theorem AU9:Ai RR Ac3:=Aa (X:=Ad7) ⟨AD,Af,AA⟩ (Ab (by exact ⟨⟨A1R,rfl⟩,⟨⟨Zg,rfl⟩,trivial⟩⟩)) (Al (by kernel_rfl)) ⟨Tryz.func119,rfl,by kernel_rfl,rfl⟩ (fun x=>by exact A2s x)
noncomputable def F4 (s0:Tq7) (s1:(List Int)) (s2:Int) (s3:Int):Option ((Tq7×Tq11) ⊕ (Tq7 ⊕ Bool)) :=
 bif decide (s3<s2) then
  ((AQ s1 s3)).bind fun x0 =>
  ((C0 x0 (0:Int) (65535:Int))).bind fun x1 =>
  bif (!x1) then
   some (Sum.inr (Sum.inr false))
  else
  some (Sum.inl ((s0.1,s0.2),(s1,(s2,(IntKind.wrap .i64 (s3 + (1:Int)))))))
 else
 some (Sum.inr (Sum.inl (s0.1,s0.2)))
noncomputable def Fd (a0:Tq7):Option (Bool) :=
 (Ah (fun (s:(Tq7×Tq11))=>F4 s.1 s.2.1 s.2.2.1 s.2.2.2) ((a0.1,a0.2),(a0.2,((((List.length a0.2):Nat):Int),(0:Int))))).bind fun x0 =>
 Sum.elim
  (fun x1 =>
  bif ((((List.length x1.2):Nat):Int)==(0:Int)) then
   some (!x1.1)
  else
  bif decide ((((List.length x1.2):Nat):Int)<=(40:Int)) then
   ((AQ x1.2 (IntKind.wrap .i64 ((((List.length x1.2):Nat):Int)-(1:Int))))).bind fun x2 =>
   some (x2 != (0:Int))
  else
  some false)
  (fun x3 =>
  some x3)
  x0
noncomputable def Pw:Ent:=⟨P6,fun x=>Fd x⟩
noncomputable def XR:TX:=⟨Ak,Ae,[],[4],[Pp],P6⟩
theorem AP0 (a0:Tq10):wtF XR Tryz.f216 (a0)=Fd a0:=by kernel_rfl
theorem TT:Ai RR Pw:=Aa (X:=XR) ⟨AD,Af,AA⟩ (Ab (by exact ⟨⟨QI,rfl⟩,trivial⟩)) (Al (by kernel_rfl)) ⟨Tryz.func216,rfl,by kernel_rfl,rfl⟩ (fun x=>by exact AP0 x)
noncomputable def Du (s0:(List Int)) (s1:(List Int)) (s2:Int):Option (Tq17 ⊕ (Unit ⊕ Int)) :=
 bif decide (s2>=(0:Int)) then
  ((AQ s0 s2)).bind fun x0 =>
  ((AQ s1 s2)).bind fun x1 =>
  bif decide (x0<x1) then
   some (Sum.inr (Sum.inr (-(1:Int))))
  else
  ((AQ s0 s2)).bind fun x2 =>
  ((AQ s1 s2)).bind fun x3 =>
  bif decide (x2>x3) then
   some (Sum.inr (Sum.inr (1:Int)))
  else
  some (Sum.inl (s0,(s1,(IntKind.wrap .i64 (s2-(1:Int))))))
 else
 some (Sum.inr (Sum.inl ()))
noncomputable def Cf (a0:(List Int)) (a1:(List Int)):Option (Int) :=
 bif ((((List.length a0):Nat):Int) != (((List.length a1):Nat):Int)) then
  bif decide ((((List.length a0):Nat):Int)<(((List.length a1):Nat):Int)) then
   some (-(1:Int))
  else
  some (1:Int)
 else
 (Ah (fun (s:Tq17)=>Du s.1 s.2.1 s.2.2) (a0,(a1,(IntKind.wrap .i64 ((((List.length a0):Nat):Int)-(1:Int)))))).bind fun x0 =>
 Sum.elim
  (fun x1 =>
  some (0:Int))
  (fun x2 =>
  some x2)
  x0
noncomputable def JC:Ent:=⟨VJ,fun x=>Cf x.1 x.2⟩
noncomputable def Ar3:TX:=⟨Ak,Ae,[],[4],[],VJ⟩
theorem A4Y (a0:List (Int)) (a1:List (Int)):wtF Ar3 Tryz.f217 (a0,a1)=Cf a0 a1:=by kernel_rfl
theorem Lf:Ai RR JC:=Aa (X:=Ar3) ⟨AD,Af,AA⟩ (Ab (by exact trivial)) (Al (by kernel_rfl)) ⟨Tryz.func217,rfl,by kernel_rfl,rfl⟩ (fun x=>by exact A4Y x.1 x.2)
noncomputable def FZ (s0:(List Int)) (s1:(List Int)) (s2:Int) (s3:Int) (s4:Int):Option (Tq12 ⊕ Tq33) :=
 bif decide (s4>=(0:Int)) then
  ((AQ s1 s4)).bind fun x0 =>
  bif (s2==(0:Int)) then
   none
  else
  ((A8 s4 (List.length s0))).bind fun x1 =>
  ((A1 s0 x1)).bind fun x2 =>
  bif (s2==(0:Int)) then
   none
  else
  some (Sum.inl ((List.set s0 x1 (IntKind.wrap .i64 (Int.tdiv (IntKind.wrap .i64 ((IntKind.wrap .i64 (s3*(65536:Int))) + x0)) s2))),(s1,(s2,((Int.tmod (IntKind.wrap .i64 ((IntKind.wrap .i64 (s3*(65536:Int))) + x0)) s2),(IntKind.wrap .i64 (s4-(1:Int))))))))
 else
 some (Sum.inr (s0,s3))
noncomputable def IR (a0:(List Int)) (a1:Int):Option (List (Int)×List (Int)) :=
 ((Re (((List.length a0):Nat):Int) 8 1)).bind fun x0 =>
 (Ah (fun (s:Tq12)=>FZ s.1 s.2.1 s.2.2.1 s.2.2.2.1 s.2.2.2.2) ((List.replicate x0 (0:Int)),(a0,(a1,((0:Int),(IntKind.wrap .i64 ((((List.length a0):Nat):Int)-(1:Int)))))))).bind fun x1 =>
 ((Cs x1.1)).bind fun x2 =>
 ((Cs (List.cons x1.2 (List.nil:List Int)))).bind fun x3 =>
 some (x2,x3)
noncomputable def WU:Ent:=⟨P0,fun x=>IR x.1 x.2⟩
noncomputable def WY:TX:=⟨Ak,Ae,[],[4],[GA],P0⟩
theorem AS5 (a0:List (Int)) (a1:Int):wtF WY Tryz.f239 (a0,a1)=IR a0 a1:=by kernel_rfl
theorem AF2:Ai RR WU:=Aa (X:=WY) ⟨AD,Af,AA⟩ (Ab (by exact ⟨⟨Gi,rfl⟩,trivial⟩)) (Al (by kernel_rfl)) ⟨Tryz.func239,rfl,by kernel_rfl,rfl⟩ (fun x=>by exact AS5 x.1 x.2)
noncomputable def NO (s0:(List Int)) (s1:Int) (s2:(List Int)) (s3:Int) (s4:Int):Option (((List Int)×(Int×Tq11)) ⊕ (List Int)) :=
 bif decide (s4<s3) then
  ((AQ s2 s4)).bind fun x0 =>
  bif decide ((IntKind.wrap .u64 s1)<(0:Int)) then
   none
  else
  ((A8 s4 (List.length s0))).bind fun x1 =>
  ((A1 s0 x1)).bind fun x2 =>
  ((A8 s4 (List.length s0))).bind fun x3 =>
  ((A1 s0 x3)).bind fun x4 =>
  ((A8 (IntKind.wrap .i64 (s4 + (1:Int))) (List.length (List.set s0 x3 (orI Go.IntKind.i64 x2 (Int.tmod (WD Go.IntKind.i64 x0 (IntKind.wrap .u64 s1)) (65536:Int))))))).bind fun x5 =>
  ((A1 (List.set s0 x3 (orI Go.IntKind.i64 x2 (Int.tmod (WD Go.IntKind.i64 x0 (IntKind.wrap .u64 s1)) (65536:Int)))) x5)).bind fun x6 =>
  some (Sum.inl ((List.set (List.set s0 x3 (orI Go.IntKind.i64 x2 (Int.tmod (WD Go.IntKind.i64 x0 (IntKind.wrap .u64 s1)) (65536:Int)))) x5 (IntKind.wrap .i64 (Int.tdiv (WD Go.IntKind.i64 x0 (IntKind.wrap .u64 s1)) (65536:Int)))),(s1,(s2,(s3,(IntKind.wrap .i64 (s4 + (1:Int))))))))
 else
 some (Sum.inr s0)
noncomputable def Mp (a0:(List Int)) (a1:Int):Option (List (Int)) :=
 ((Re (IntKind.wrap .i64 ((((List.length a0):Nat):Int) + (1:Int))) 8 1)).bind fun x0 =>
 (Ah (fun (s:((List Int)×(Int×Tq11)))=>NO s.1 s.2.1 s.2.2.1 s.2.2.2.1 s.2.2.2.2) ((List.replicate x0 (0:Int)),(a1,(a0,((((List.length a0):Nat):Int),(0:Int)))))).bind fun x1 =>
 some x1
noncomputable def A0x:Ent:=⟨Ai5,fun x=>Mp x.1 x.2⟩
noncomputable def A0l:TX:=⟨Ak,Ae,[],[4],[],Ai5⟩
theorem A8i (a0:List (Int)) (a1:Int):wtF A0l Tryz.f240 (a0,a1)=Mp a0 a1:=by kernel_rfl
theorem A5n:Ai RR A0x:=Aa (X:=A0l) ⟨AD,Af,AA⟩ (Ab (by exact trivial)) (Al (by kernel_rfl)) ⟨Tryz.func240,rfl,by kernel_rfl,rfl⟩ (fun x=>by exact A8i x.1 x.2)
noncomputable def Ez (s0:(List Int)) (s1:(List Int)) (s2:Int) (s3:Int) (s4:Int) (s5:Int):Option (Tq29 ⊕ Int) :=
 (bif decide (s5<(65536:Int)) then
   bif decide (s4>=(65536:Int)) then
    some (Sum.inr (s0,(s1,(s2,(s3,(s4,s5))))))
   else
   ((AQ s1 (IntKind.wrap .i64 (s3-(2:Int))))).bind fun x0 =>
   ((AQ s0 (IntKind.wrap .i64 ((IntKind.wrap .i64 (s2 + s3))-(2:Int))))).bind fun x1 =>
   bif decide ((IntKind.wrap .i64 (s4*x0))>(IntKind.wrap .i64 ((IntKind.wrap .i64 (s5*(65536:Int))) + x1))) then
    some (Sum.inr (s0,(s1,(s2,(s3,(s4,s5))))))
   else
   some (Sum.inl (Sum.inr s4))
  else
  some (Sum.inl (Sum.inr s4))).bind fun x2 =>
 Sum.elim
  (fun x3 =>
  some x3)
  (fun x4 =>
  ((AQ x4.2.1 (IntKind.wrap .i64 (x4.2.2.2.1-(1:Int))))).bind fun x5 =>
  some (Sum.inl (x4.1,(x4.2.1,(x4.2.2.1,(x4.2.2.2.1,((IntKind.wrap .i64 (x4.2.2.2.2.1-(1:Int))),(IntKind.wrap .i64 (x4.2.2.2.2.2 + x5)))))))))
  x2
noncomputable def IU (a0:(List Int)) (a1:(List Int)) (a2:Int):Option (Int) :=
 ((AQ a0 (IntKind.wrap .i64 (a2 + (((List.length a1):Nat):Int))))).bind fun x0 =>
 ((AQ a0 (IntKind.wrap .i64 ((IntKind.wrap .i64 (a2 + (((List.length a1):Nat):Int)))-(1:Int))))).bind fun x1 =>
 ((AQ a1 (IntKind.wrap .i64 ((((List.length a1):Nat):Int)-(1:Int))))).bind fun x2 =>
 bif (x2==(0:Int)) then
  none
 else
 ((AQ a1 (IntKind.wrap .i64 ((((List.length a1):Nat):Int)-(1:Int))))).bind fun x3 =>
 bif (x3==(0:Int)) then
  none
 else
 (Ah (fun (s:Tq29)=>Ez s.1 s.2.1 s.2.2.1 s.2.2.2.1 s.2.2.2.2.1 s.2.2.2.2.2) (a0,(a1,(a2,((((List.length a1):Nat):Int),((IntKind.wrap .i64 (Int.tdiv (IntKind.wrap .i64 ((IntKind.wrap .i64 (x0*(65536:Int))) + x1)) x2)),(Int.tmod (IntKind.wrap .i64 ((IntKind.wrap .i64 (x0*(65536:Int))) + x1)) x3))))))).bind fun x4 =>
 some x4
noncomputable def X0:Ent:=⟨Pq,fun x=>IU x.1 x.2.1 x.2.2⟩
noncomputable def XX:TX:=⟨Ak,Ae,[],[4],[],Pq⟩
theorem AQ3 (a0:List (Int)) (a1:List (Int)) (a2:Int):wtF XX Tryz.f241 (a0,a1,a2)=IU a0 a1 a2:=by kernel_rfl
theorem AE0:Ai RR X0:=Aa (X:=XX) ⟨AD,Af,AA⟩ (Ab (by exact trivial)) (Al (by kernel_rfl)) ⟨Tryz.func241,rfl,by kernel_rfl,rfl⟩ (fun x=>by exact AQ3 x.1 x.2.1 x.2.2)
noncomputable def Dd (a0:(List Int)) (a1:Int):Option (Int) :=
 bif decide (a1<(((List.length a0):Nat):Int)) then
  ((AQ a0 a1)).bind fun x0 =>
  some x0
 else
 some (0:Int)
noncomputable def Gp:Ent:=⟨SU,fun x=>Dd x.1 x.2⟩
noncomputable def Af9:TX:=⟨Ak,Ae,[],[4],[],SU⟩
theorem A13 (a0:List (Int)) (a1:Int):wtF Af9 Tryz.f276 (a0,a1)=Dd a0 a1:=by kernel_rfl
theorem Gy:Ai RR Gp:=Aa (X:=Af9) ⟨AD,Af,AA⟩ (Ab (by exact trivial)) (Al (by kernel_rfl)) ⟨Tryz.func276,rfl,by kernel_rfl,rfl⟩ (fun x=>by exact A13 x.1 x.2)
noncomputable def Jk (s0:(List Int)) (s1:(List Int)) (s2:Int) (s3:Int) (s4:Int) (s5:Int):Option (Tq29 ⊕ Tq33) :=
 bif decide (s5<=(((List.length s1):Nat):Int)) then
  ((A8 (IntKind.wrap .i64 (s2 + s5)) (List.length s0))).bind fun x0 =>
  ((A1 s0 x0)).bind fun x1 =>
  ((Dd s1 s5)).bind fun x2 =>
  (bif decide ((IntKind.wrap .i64 ((IntKind.wrap .i64 (x1-(IntKind.wrap .i64 (s3*x2))))-s4))<(0:Int)) then
    some (Sum.inr (s0,(s1,(s2,(s3,((IntKind.wrap .i64 (Int.tdiv (IntKind.wrap .i64 ((IntKind.wrap .i64 ((IntKind.wrap .i64 ((0:Int)-(IntKind.wrap .i64 ((IntKind.wrap .i64 (x1-(IntKind.wrap .i64 (s3*x2))))-s4)))) + (65536:Int)))-(1:Int))) (65536:Int))),(s5,(IntKind.wrap .i64 ((IntKind.wrap .i64 ((IntKind.wrap .i64 (x1-(IntKind.wrap .i64 (s3*x2))))-s4)) + (IntKind.wrap .i64 ((IntKind.wrap .i64 (Int.tdiv (IntKind.wrap .i64 ((IntKind.wrap .i64 ((IntKind.wrap .i64 ((0:Int)-(IntKind.wrap .i64 ((IntKind.wrap .i64 (x1-(IntKind.wrap .i64 (s3*x2))))-s4)))) + (65536:Int)))-(1:Int))) (65536:Int)))*(65536:Int))))))))))))
   else
   some (Sum.inr (s0,(s1,(s2,(s3,((0:Int),(s5,(IntKind.wrap .i64 ((IntKind.wrap .i64 (x1-(IntKind.wrap .i64 (s3*x2))))-s4)))))))))).bind fun x3 =>
  Sum.elim
   (fun x4 =>
   some x4)
   (fun x5 =>
   ((A8 (IntKind.wrap .i64 (x5.2.2.1 + x5.2.2.2.2.2.1)) (List.length x5.1))).bind fun x6 =>
   ((A1 x5.1 x6)).bind fun x7 =>
   some (Sum.inl ((List.set x5.1 x6 x5.2.2.2.2.2.2),(x5.2.1,(x5.2.2.1,(x5.2.2.2.1,(x5.2.2.2.2.1,(IntKind.wrap .i64 (x5.2.2.2.2.2.1 + (1:Int))))))))))
   x3
 else
 some (Sum.inr (s0,s4))
noncomputable def J6 (a0:(List Int)) (a1:(List Int)) (a2:Int) (a3:Int):Option (List (Int)×Int) :=
 (Ah (fun (s:Tq29)=>Jk s.1 s.2.1 s.2.2.1 s.2.2.2.1 s.2.2.2.2.1 s.2.2.2.2.2) (a0,(a1,(a2,(a3,((0:Int),(0:Int))))))).bind fun x0 =>
 some (x0.1,x0.2)
noncomputable def Af0:Ent:=⟨Td,fun x=>J6 x.1 x.2.1 x.2.2.1 x.2.2.2⟩
noncomputable def Ae4:TX:=⟨Ak,Ae,[],[4],[Gp],Td⟩
theorem A1r (a0:List (Int)) (a1:List (Int)) (a2:Int) (a3:Int):wtF Ae4 Tryz.f242 (a0,a1,a2,a3)=J6 a0 a1 a2 a3:=by kernel_rfl
theorem A0J:Ai RR Af0:=Aa (X:=Ae4) ⟨AD,Af,AA⟩ (Ab (by exact ⟨⟨Gy,rfl⟩,trivial⟩)) (Al (by kernel_rfl)) ⟨Tryz.func242,rfl,by kernel_rfl,rfl⟩ (fun x=>by exact A1r x.1 x.2.1 x.2.2.1 x.2.2.2)
noncomputable def Ju (s0:(List Int)) (s1:(List Int)) (s2:Int) (s3:Int) (s4:Int):Option (Tq12 ⊕ (List Int)) :=
 bif decide (s4<=(((List.length s1):Nat):Int)) then
  ((A8 (IntKind.wrap .i64 (s2 + s4)) (List.length s0))).bind fun x0 =>
  ((A1 s0 x0)).bind fun x1 =>
  ((Dd s1 s4)).bind fun x2 =>
  ((A8 (IntKind.wrap .i64 (s2 + s4)) (List.length s0))).bind fun x3 =>
  ((A1 s0 x3)).bind fun x4 =>
  some (Sum.inl ((List.set s0 x3 (Int.tmod (IntKind.wrap .i64 ((IntKind.wrap .i64 (x1 + x2)) + s3)) (65536:Int))),(s1,(s2,((IntKind.wrap .i64 (Int.tdiv (IntKind.wrap .i64 ((IntKind.wrap .i64 (x1 + x2)) + s3)) (65536:Int))),(IntKind.wrap .i64 (s4 + (1:Int))))))))
 else
 some (Sum.inr s0)
noncomputable def J0 (a0:(List Int)) (a1:(List Int)) (a2:Int):Option (List (Int)) :=
 (Ah (fun (s:Tq12)=>Ju s.1 s.2.1 s.2.2.1 s.2.2.2.1 s.2.2.2.2) (a0,(a1,(a2,((0:Int),(0:Int)))))).bind fun x0 =>
 some x0
noncomputable def Aa9:Ent:=⟨S1,fun x=>J0 x.1 x.2.1 x.2.2⟩
noncomputable def Ac1:TX:=⟨Ak,Ae,[],[4],[Gp],S1⟩
theorem A1a (a0:List (Int)) (a1:List (Int)) (a2:Int):wtF Ac1 Tryz.f243 (a0,a1,a2)=J0 a0 a1 a2:=by kernel_rfl
theorem AU6:Ai RR Aa9:=Aa (X:=Ac1) ⟨AD,Af,AA⟩ (Ab (by exact ⟨⟨Gy,rfl⟩,trivial⟩)) (Al (by kernel_rfl)) ⟨Tryz.func243,rfl,by kernel_rfl,rfl⟩ (fun x=>by exact A1a x.1 x.2.1 x.2.2)
noncomputable def Jv (s0:(List Int)) (s1:(List Int)) (s2:Int) (s3:Int) (s4:Int):Option (Tq12 ⊕ (List Int)) :=
 bif decide (s4<s3) then
  ((AQ s1 s4)).bind fun x0 =>
  ((Dd s1 (IntKind.wrap .i64 (s4 + (1:Int))))).bind fun x1 =>
  bif decide ((IntKind.wrap .u64 s2)<(0:Int)) then
   none
  else
  ((A8 s4 (List.length s0))).bind fun x2 =>
  ((A1 s0 x2)).bind fun x3 =>
  some (Sum.inl ((List.set s0 x2 (Int.tmod (A6Q Go.IntKind.i64 (orI Go.IntKind.i64 x0 (WD Go.IntKind.i64 x1 (16:Int))) (IntKind.wrap .u64 s2)) (65536:Int))),(s1,(s2,(s3,(IntKind.wrap .i64 (s4 + (1:Int))))))))
 else
 some (Sum.inr s0)
noncomputable def JS (a0:(List Int)) (a1:Int):Option (List (Int)) :=
 ((Re (((List.length a0):Nat):Int) 8 1)).bind fun x0 =>
 (Ah (fun (s:Tq12)=>Jv s.1 s.2.1 s.2.2.1 s.2.2.2.1 s.2.2.2.2) ((List.replicate x0 (0:Int)),(a0,(a1,((((List.length a0):Nat):Int),(0:Int)))))).bind fun x1 =>
 ((Cs x1)).bind fun x2 =>
 some x2
noncomputable def Ah3:Ent:=⟨Ss,fun x=>JS x.1 x.2⟩
noncomputable def Zs:TX:=⟨Ak,Ae,[],[4],[Gp,GA],Ss⟩
theorem A06 (a0:List (Int)) (a1:Int):wtF Zs Tryz.f244 (a0,a1)=JS a0 a1:=by kernel_rfl
theorem AR5:Ai RR Ah3:=Aa (X:=Zs) ⟨AD,Af,AA⟩ (Ab (by exact ⟨⟨Gy,rfl⟩,⟨⟨Gi,rfl⟩,trivial⟩⟩)) (Al (by kernel_rfl)) ⟨Tryz.func244,rfl,by kernel_rfl,rfl⟩ (fun x=>by exact A06 x.1 x.2)
noncomputable def D1 (s0:(List Int)) (s1:(List Int)) (s2:Int):Option (Tq17 ⊕ Tq17) :=
 ((AQ s1 (IntKind.wrap .i64 ((((List.length s1):Nat):Int)-(1:Int))))).bind fun x0 =>
 bif decide ((IntKind.wrap .u64 s2)<(0:Int)) then
  none
 else
 bif decide ((WD Go.IntKind.i64 x0 (IntKind.wrap .u64 s2))<(32768:Int)) then
  some (Sum.inl (s0,(s1,(IntKind.wrap .i64 (s2 + (1:Int))))))
 else
 some (Sum.inr (s0,(s1,s2)))
noncomputable def Cu (s0:(List Int)) (s1:(List Int)) (s2:(List Int)) (s3:Int) (s4:Int):Option (Tq15 ⊕ Tq17) :=
 bif decide (s4>=(0:Int)) then
  ((IU s0 s1 s4)).bind fun x0 =>
  ((J6 s0 s1 s4 x0)).bind fun x1 =>
  bif decide ((List.length x1.1)=(List.length s0)) then
   bif decide (x1.2>(0:Int)) then
    ((J0 x1.1 s1 s4)).bind fun x2 =>
    bif decide ((List.length x2)=(List.length x1.1)) then
     ((A8 s4 (List.length s2))).bind fun x3 =>
     ((A1 s2 x3)).bind fun x4 =>
     some (Sum.inl (x2,(s1,((List.set s2 x3 (IntKind.wrap .i64 (x0-(1:Int)))),(s3,(IntKind.wrap .i64 (s4-(1:Int))))))))
    else
    none
   else
   ((A8 s4 (List.length s2))).bind fun x5 =>
   ((A1 s2 x5)).bind fun x6 =>
   some (Sum.inl (x1.1,(s1,((List.set s2 x5 x0),(s3,(IntKind.wrap .i64 (s4-(1:Int))))))))
  else
  none
 else
 some (Sum.inr (s0,(s2,s3)))
noncomputable def DT (a0:(List Int)) (a1:(List Int)):Option (List (Int)×List (Int)) :=
 ((Cs a0)).bind fun x0 =>
 ((Cf x0 a1)).bind fun x1 =>
 bif decide (x1<(0:Int)) then
  some ((List.nil:List Int),x0)
 else
 bif ((((List.length a1):Nat):Int)==(1:Int)) then
  ((AQ a1 (0:Int))).bind fun x2 =>
  ((IR x0 x2)).bind fun x3 =>
  some (x3.1,x3.2)
 else
 (Ah (fun (s:Tq17)=>D1 s.1 s.2.1 s.2.2) (x0,(a1,(0:Int)))).bind fun x4 =>
 ((Mp x4.1 x4.2.2)).bind fun x5 =>
 ((Mp x4.2.1 x4.2.2)).bind fun x6 =>
 ((Cs x6)).bind fun x7 =>
 ((Re (IntKind.wrap .i64 ((IntKind.wrap .i64 ((((List.length x4.1):Nat):Int)-(((List.length x4.2.1):Nat):Int))) + (1:Int))) 8 1)).bind fun x8 =>
 (Ah (fun (s:Tq15)=>Cu s.1 s.2.1 s.2.2.1 s.2.2.2.1 s.2.2.2.2) (x5,(x7,((List.replicate x8 (0:Int)),(x4.2.2,(IntKind.wrap .i64 ((((List.length x4.1):Nat):Int)-(((List.length x4.2.1):Nat):Int)))))))).bind fun x9 =>
 ((Cs x9.2.1)).bind fun x10 =>
 ((Cs x9.1)).bind fun x11 =>
 ((JS x11 x9.2.2)).bind fun x12 =>
 some (x10,x12)
noncomputable def Lg:Ent:=⟨Kv,fun x=>DT x.1 x.2⟩
noncomputable def Qq:TX:=⟨Ak,Ae,[],[4],[GA,JC,WU,A0x,X0,Af0,Aa9,Ah3],Kv⟩
theorem ZR (a0:List (Int)) (a1:List (Int)):wtF Qq Tryz.f189 (a0,a1)=DT a0 a1:=by kernel_rfl
theorem OB:Ai RR Lg:=Aa (X:=Qq) ⟨AD,Af,AA⟩ (Ab (by exact ⟨⟨Gi,rfl⟩,⟨⟨Lf,rfl⟩,⟨⟨AF2,rfl⟩,⟨⟨A5n,rfl⟩,⟨⟨AE0,rfl⟩,⟨⟨A0J,rfl⟩,⟨⟨AU6,rfl⟩,⟨⟨AR5,rfl⟩,trivial⟩⟩⟩⟩⟩⟩⟩⟩)) (Al (by kernel_rfl)) ⟨Tryz.func189,rfl,by kernel_rfl,rfl⟩ (fun x=>by exact ZR x.1 x.2)
noncomputable def Lr (s0:(List Int)) (s1:(List Int)):Option (((List Int)×(List Int)) ⊕ (List Int)) :=
 bif decide ((((List.length s1):Nat):Int)>(0:Int)) then
  ((DT s0 s1)).bind fun x0 =>
  some (Sum.inl (s1,x0.2))
 else
 some (Sum.inr s0)
noncomputable def JE (a0:(List Int)) (a1:(List Int)):Option (List (Int)) :=
 (Ah (fun (s:((List Int)×(List Int)))=>Lr s.1 s.2) (a0,a1)).bind fun x0 =>
 ((Cs x0)).bind fun x1 =>
 some x1
noncomputable def VZ:Ent:=⟨WB,fun x=>JE x.1 x.2⟩
noncomputable def Ar7:TX:=⟨Ak,Ae,[],[4],[Lg,GA],WB⟩
theorem A5k (a0:List (Int)) (a1:List (Int)):wtF Ar7 Tryz.f134 (a0,a1)=JE a0 a1:=by kernel_rfl
theorem Ac2:Ai RR VZ:=Aa (X:=Ar7) ⟨AD,Af,AA⟩ (Ab (by exact ⟨⟨OB,rfl⟩,⟨⟨Gi,rfl⟩,trivial⟩⟩)) (Al (by kernel_rfl)) ⟨Tryz.func134,rfl,by kernel_rfl,rfl⟩ (fun x=>by exact A5k x.1 x.2)
noncomputable def GF (a0:Tq1):Option (Bool) :=
 ((Fd (a0.1,a0.2.1))).bind fun x0 =>
 bif (!x0) then
  some false
 else
 ((Fd (a0.2.2.1,a0.2.2.2))).bind fun x1 =>
 bif (!x1) then
  some false
 else
 bif a0.2.2.1 then
  some false
 else
 bif ((((List.length a0.2.2.2):Nat):Int)==(0:Int)) then
  some false
 else
 ((JE a0.2.1 a0.2.2.2)).bind fun x2 =>
 ((Cf x2 (List.cons (1:Int) (List.nil:List Int)))).bind fun x3 =>
 some (x3==(0:Int))
noncomputable def Qd:Ent:=⟨PV,fun x=>GF x⟩
noncomputable def Xm:TX:=⟨Ak,Ae,[],[4],[Pw,VZ,JC],PV⟩
theorem AT1 (a0:Tq3):wtF Xm Tryz.f311 (a0)=GF a0:=by kernel_rfl
theorem Ua:Ai RR Qd:=Aa (X:=Xm) ⟨AD,Af,AA⟩ (Ab (by exact ⟨⟨TT,rfl⟩,⟨⟨Ac2,rfl⟩,⟨⟨Lf,rfl⟩,trivial⟩⟩⟩)) (Al (by kernel_rfl)) ⟨Tryz.func311,rfl,by kernel_rfl,rfl⟩ (fun x=>by exact AT1 x)
noncomputable def Gx (a0:Tq1):Option (Bool) :=
 bif decide ((((List.length a0.2.1):Nat):Int)<=(8:Int)) then
  bif decide ((((List.length a0.2.2.2):Nat):Int)<=(8:Int)) then
   ((GF (a0.1,(a0.2.1,(a0.2.2.1,a0.2.2.2))))).bind fun x0 =>
   some x0
  else
  some false
 else
 some false
noncomputable def Xh:Ent:=⟨Pf,fun x=>Gx x⟩
noncomputable def W5:TX:=⟨Ak,Ae,[],[4],[Qd],Pf⟩
theorem A0f (a0:Tq3):wtF W5 Tryz.f297 (a0)=Gx a0:=by kernel_rfl
theorem AH4:Ai RR Xh:=Aa (X:=W5) ⟨AD,Af,AA⟩ (Ab (by exact ⟨⟨Ua,rfl⟩,trivial⟩)) (Al (by kernel_rfl)) ⟨Tryz.func297,rfl,by kernel_rfl,rfl⟩ (fun x=>by exact A0f x)
noncomputable def CE (s0:Tq6) (s1:Tq6) (s2:Int) (s3:Int):Option ((Tq6×Tq16) ⊕ (Tq6 ⊕ Bool)) :=
 bif decide (s3<s2) then
  ((AQ s1 s3)).bind fun x0 =>
  ((Gx (x0.1.1.1,(x0.1.1.2,(x0.1.2.1,x0.1.2.2))))).bind fun x1 =>
  bif (!x1) then
   some (Sum.inr (Sum.inr false))
  else
  ((Gx (x0.2.1.1,(x0.2.1.2,(x0.2.2.1,x0.2.2.2))))).bind fun x2 =>
  bif (!x2) then
   some (Sum.inr (Sum.inr false))
  else
  some (Sum.inl (s0,(s1,(s2,(IntKind.wrap .i64 (s3 + (1:Int)))))))
 else
 some (Sum.inr (Sum.inl s0))
noncomputable def Fx (a0:Tq6):Option (Bool) :=
 (Ah (fun (s:(Tq6×Tq16))=>CE s.1 s.2.1 s.2.2.1 s.2.2.2) (a0,(a0,((((List.length a0):Nat):Int),(0:Int))))).bind fun x0 =>
 Sum.elim
  (fun x1 =>
  some (decide ((((List.length x1):Nat):Int)<=(40:Int))))
  (fun x2 =>
  some x2)
  x0
noncomputable def NQ:Ent:=⟨NK,fun x=>Fx x⟩
noncomputable def Vb:TX:=⟨Ak,Ae,[],[4],[Xh],NK⟩
theorem AH6 (a0:List Tq2):wtF Vb Tryz.f270 (a0)=Fx a0:=by kernel_rfl
theorem RA:Ai RR NQ:=Aa (X:=Vb) ⟨AD,Af,AA⟩ (Ab (by exact ⟨⟨AH4,rfl⟩,trivial⟩)) (Al (by kernel_rfl)) ⟨Tryz.func270,rfl,by kernel_rfl,rfl⟩ (fun x=>by exact AH6 x)
noncomputable def FF (a0:Tq1):Option (Bool) :=
 bif decide ((((List.length a0.2.1):Nat):Int)<=(2:Int)) then
  bif decide ((((List.length a0.2.2.2):Nat):Int)<=(2:Int)) then
   ((GF (a0.1,(a0.2.1,(a0.2.2.1,a0.2.2.2))))).bind fun x0 =>
   some x0
  else
  some false
 else
 some false
noncomputable def Ud:Ent:=⟨MU,fun x=>FF x⟩
noncomputable def TP:TX:=⟨Ak,Ae,[],[4],[Qd],MU⟩
theorem AG5 (a0:Tq3):wtF TP Tryz.f298 (a0)=FF a0:=by kernel_rfl
theorem Ap4:Ai RR Ud:=Aa (X:=TP) ⟨AD,Af,AA⟩ (Ab (by exact ⟨⟨Ua,rfl⟩,trivial⟩)) (Al (by kernel_rfl)) ⟨Tryz.func298,rfl,by kernel_rfl,rfl⟩ (fun x=>by exact AG5 x)
noncomputable def JB (a0:Tq9):Option (Bool) :=
 ((FF (a0.1,(a0.2.1,(a0.2.2.1,a0.2.2.2.1))))).bind fun x0 =>
 bif x0 then
  ((FF (a0.2.2.2.2.1,(a0.2.2.2.2.2.1,(a0.2.2.2.2.2.2.1,a0.2.2.2.2.2.2.2))))).bind fun x1 =>
  some x1
 else
 some false
noncomputable def At1:Ent:=⟨VD,fun x=>JB x⟩
noncomputable def As9:TX:=⟨Ak,Ae,[],[4],[Ud],VD⟩
theorem A4Z (a0:Tq4):wtF As9 Tryz.f271 (a0)=JB a0:=by kernel_rfl
theorem A1O:Ai RR At1:=Aa (X:=As9) ⟨AD,Af,AA⟩ (Ab (by exact ⟨⟨Ap4,rfl⟩,trivial⟩)) (Al (by kernel_rfl)) ⟨Tryz.func271,rfl,by kernel_rfl,rfl⟩ (fun x=>by exact A4Z x)
noncomputable def DK (s0:(List Int)) (s1:(List Int)) (s2:Int) (s3:Int) (s4:Int) (s5:Int) (s6:(List Int)) (s7:Int) (s8:Int):Option (((List Int)×((List Int)×(Int×(Int×(Int×(Int×Tq11)))))) ⊕ Tq15) :=
 (bif decide (s5<(((List.length s1):Nat):Int)) then
   some (Sum.inr (s0,(s1,(s2,(s3,(s4,(s5,(s6,(s7,s8)))))))))
  else
  bif decide (s4>(0:Int)) then
   some (Sum.inr (s0,(s1,(s2,(s3,(s4,(s5,(s6,(s7,s8)))))))))
  else
  some (Sum.inl (Sum.inr (s0,(s1,(s6,(s7,s8))))))).bind fun x0 =>
 Sum.elim
  (fun x1 =>
  some x1)
  (fun x2 =>
  ((A8 (IntKind.wrap .i64 (x2.2.2.1 + x2.2.2.2.2.2.1)) (List.length x2.1))).bind fun x3 =>
  ((A1 x2.1 x3)).bind fun x4 =>
  ((Dd x2.2.1 x2.2.2.2.2.2.1)).bind fun x5 =>
  ((A8 (IntKind.wrap .i64 (x2.2.2.1 + x2.2.2.2.2.2.1)) (List.length x2.1))).bind fun x6 =>
  ((A1 x2.1 x6)).bind fun x7 =>
  some (Sum.inl ((List.set x2.1 x6 (Int.tmod (IntKind.wrap .i64 ((IntKind.wrap .i64 (x4 + (IntKind.wrap .i64 (x2.2.2.2.1*x5)))) + x2.2.2.2.2.1)) (65536:Int))),(x2.2.1,(x2.2.2.1,(x2.2.2.2.1,((IntKind.wrap .i64 (Int.tdiv (IntKind.wrap .i64 ((IntKind.wrap .i64 (x4 + (IntKind.wrap .i64 (x2.2.2.2.1*x5)))) + x2.2.2.2.2.1)) (65536:Int))),((IntKind.wrap .i64 (x2.2.2.2.2.2.1 + (1:Int))),(x2.2.2.2.2.2.2.1,(x2.2.2.2.2.2.2.2.1,x2.2.2.2.2.2.2.2.2))))))))))
  x0
noncomputable def FE (s0:(List Int)) (s1:(List Int)) (s2:(List Int)) (s3:Int) (s4:Int):Option (Tq15 ⊕ (List Int)) :=
 bif decide (s4<s3) then
  ((AQ s2 s4)).bind fun x0 =>
  (Ah (fun (s:((List Int)×((List Int)×(Int×(Int×(Int×(Int×Tq11)))))))=>DK s.1 s.2.1 s.2.2.1 s.2.2.2.1 s.2.2.2.2.1 s.2.2.2.2.2.1 s.2.2.2.2.2.2.1 s.2.2.2.2.2.2.2.1 s.2.2.2.2.2.2.2.2) (s0,(s1,(s4,(x0,((0:Int),((0:Int),(s2,(s3,s4))))))))).bind fun x1 =>
  some (Sum.inl (x1.1,(x1.2.1,(x1.2.2.1,(x1.2.2.2.1,(IntKind.wrap .i64 (x1.2.2.2.2 + (1:Int))))))))
 else
 some (Sum.inr s0)
noncomputable def Fu (a0:(List Int)) (a1:(List Int)):Option (List (Int)) :=
 ((Re (IntKind.wrap .i64 ((IntKind.wrap .i64 ((((List.length a0):Nat):Int) + (((List.length a1):Nat):Int))) + (1:Int))) 8 1)).bind fun x0 =>
 (Ah (fun (s:Tq15)=>FE s.1 s.2.1 s.2.2.1 s.2.2.2.1 s.2.2.2.2) ((List.replicate x0 (0:Int)),(a1,(a0,((((List.length a0):Nat):Int),(0:Int)))))).bind fun x1 =>
 ((Cs x1)).bind fun x2 =>
 some x2
noncomputable def Pt:Ent:=⟨KB,fun x=>Fu x.1 x.2⟩
noncomputable def Pb:TX:=⟨Ak,Ae,[],[4],[Gp,GA],KB⟩
theorem Y8 (a0:List (Int)) (a1:List (Int)):wtF Pb Tryz.f232 (a0,a1)=Fu a0 a1:=by kernel_rfl
theorem Yv:Ai RR Pt:=Aa (X:=Pb) ⟨AD,Af,AA⟩ (Ab (by exact ⟨⟨Gy,rfl⟩,⟨⟨Gi,rfl⟩,trivial⟩⟩)) (Al (by kernel_rfl)) ⟨Tryz.func232,rfl,by kernel_rfl,rfl⟩ (fun x=>by exact Y8 x.1 x.2)
noncomputable def CY (a0:Tq7) (a1:Tq7):Option (Tq10) :=
 ((Fu a0.2 a1.2)).bind fun x0 =>
 ((Bs (!(a0.1==a1.1)) x0)).bind fun x1 =>
 some (x1.2,x1.1)
noncomputable def Mj:Ent:=⟨Vr,fun x=>CY x.1 x.2⟩
noncomputable def As6:TX:=⟨Ak,Ae,[],[4],[Pt,Ef],Vr⟩
theorem A48 (a0:Tq10) (a1:Tq10):wtF As6 Tryz.f179 (a0,a1)=CY a0 a1:=by kernel_rfl
theorem MK:Ai RR Mj:=Aa (X:=As6) ⟨AD,Af,AA⟩ (Ab (by exact ⟨⟨Yv,rfl⟩,⟨⟨D3,rfl⟩,trivial⟩⟩)) (Al (by kernel_rfl)) ⟨Tryz.func179,rfl,by kernel_rfl,rfl⟩ (fun x=>by exact A48 x.1 x.2)
noncomputable def Ht (a0:Tq7) (a1:Tq7):Option (Int) :=
 bif a0.1 then
  bif (!a1.1) then
   some (-(1:Int))
  else
  bif (!a0.1) then
   bif a1.1 then
    some (1:Int)
   else
   bif a0.1 then
    ((Cf a1.2 a0.2)).bind fun x0 =>
    some x0
   else
   ((Cf a0.2 a1.2)).bind fun x1 =>
   some x1
  else
  bif a0.1 then
   ((Cf a1.2 a0.2)).bind fun x2 =>
   some x2
  else
  ((Cf a0.2 a1.2)).bind fun x3 =>
  some x3
 else
 bif (!a0.1) then
  bif a1.1 then
   some (1:Int)
  else
  bif a0.1 then
   ((Cf a1.2 a0.2)).bind fun x4 =>
   some x4
  else
  ((Cf a0.2 a1.2)).bind fun x5 =>
  some x5
 else
 bif a0.1 then
  ((Cf a1.2 a0.2)).bind fun x6 =>
  some x6
 else
 ((Cf a0.2 a1.2)).bind fun x7 =>
 some x7
noncomputable def UG:Ent:=⟨Nu,fun x=>Ht x.1 x.2⟩
noncomputable def UZ:TX:=⟨Ak,Ae,[],[4],[JC],Nu⟩
theorem AH5 (a0:Tq10) (a1:Tq10):wtF UZ Tryz.f215 (a0,a1)=Ht a0 a1:=by kernel_rfl
theorem Am2:Ai RR UG:=Aa (X:=UZ) ⟨AD,Af,AA⟩ (Ab (by exact ⟨⟨Lf,rfl⟩,trivial⟩)) (Al (by kernel_rfl)) ⟨Tryz.func215,rfl,by kernel_rfl,rfl⟩ (fun x=>by exact AH5 x.1 x.2)
noncomputable def GU (a0:Tq1) (a1:Tq1):Option (Int) :=
 ((CY (a0.1,a0.2.1) (a1.2.2.1,a1.2.2.2))).bind fun x0 =>
 ((CY (a1.1,a1.2.1) (a0.2.2.1,a0.2.2.2))).bind fun x1 =>
 ((Ht (x0.1,x0.2) (x1.1,x1.2))).bind fun x2 =>
 some x2
noncomputable def Q6:Ent:=⟨V9,fun x=>GU x.1 x.2⟩
noncomputable def AB1:TX:=⟨Ak,Ae,[],[4],[Mj,UG],V9⟩
theorem A32 (a0:Tq3) (a1:Tq3):wtF AB1 Tryz.f168 (a0,a1)=GU a0 a1:=by kernel_rfl
theorem R8:Ai RR Q6:=Aa (X:=AB1) ⟨AD,Af,AA⟩ (Ab (by exact ⟨⟨MK,rfl⟩,⟨⟨Am2,rfl⟩,trivial⟩⟩)) (Al (by kernel_rfl)) ⟨Tryz.func168,rfl,by kernel_rfl,rfl⟩ (fun x=>by exact A32 x.1 x.2)
noncomputable def FO (a0:Tq9) (a1:Bool):Option (Tq3) :=
 bif a1 then
  some (a0.2.2.2.2.1,(a0.2.2.2.2.2.1,(a0.2.2.2.2.2.2.1,a0.2.2.2.2.2.2.2)))
 else
 some (a0.1,(a0.2.1,(a0.2.2.1,a0.2.2.2.1)))
noncomputable def MQ:Ent:=⟨MV,fun x=>FO x.1 x.2⟩
noncomputable def T4:TX:=⟨Ak,Ae,[],[4],[],MV⟩
theorem AB8 (a0:Tq4) (a1:Bool):wtF T4 Tryz.f316 (a0,a1)=FO a0 a1:=by kernel_rfl
theorem Rn:Ai RR MQ:=Aa (X:=T4) ⟨AD,Af,AA⟩ (Ab (by exact trivial)) (Al (by kernel_rfl)) ⟨Tryz.func316,rfl,by kernel_rfl,rfl⟩ (fun x=>by exact AB8 x.1 x.2)
noncomputable def GV (a0:Tq9) (a1:Bool) (a2:Tq1) (a3:Bool):Option (Int) :=
 ((FO (a0.1,(a0.2.1,(a0.2.2.1,(a0.2.2.2.1,(a0.2.2.2.2.1,(a0.2.2.2.2.2.1,(a0.2.2.2.2.2.2.1,a0.2.2.2.2.2.2.2))))))) a1)).bind fun x0 =>
 ((GU (x0.1,(x0.2.1,(x0.2.2.1,x0.2.2.2))) (a2.1,(a2.2.1,(a2.2.2.1,a2.2.2.2))))).bind fun x1 =>
 bif a3 then
  some (IntKind.wrap .i64 ((0:Int)-x1))
 else
 some x1
noncomputable def XH:Ent:=⟨PW,fun x=>GV x.1 x.2.1 x.2.2.1 x.2.2.2⟩
noncomputable def XV:TX:=⟨Ak,Ae,[],[4],[MQ,Q6],PW⟩
theorem AS6 (a0:Tq4) (a1:Bool) (a2:Tq3) (a3:Bool):wtF XV Tryz.f313 (a0,a1,a2,a3)=GV a0 a1 a2 a3:=by kernel_rfl
theorem AD4:Ai RR XH:=Aa (X:=XV) ⟨AD,Af,AA⟩ (Ab (by exact ⟨⟨Rn,rfl⟩,⟨⟨R8,rfl⟩,trivial⟩⟩)) (Al (by kernel_rfl)) ⟨Tryz.func313,rfl,by kernel_rfl,rfl⟩ (fun x=>by exact AS6 x.1 x.2.1 x.2.2.1 x.2.2.2)
noncomputable def GK (a0:Tq7):Option (Tq10) :=
 ((Bs (!a0.1) a0.2)).bind fun x0 =>
 some (x0.2,x0.1)
noncomputable def QF:Ent:=⟨Ww,fun x=>GK x⟩
noncomputable def As1:TX:=⟨Ak,Ae,[],[4],[Ef],Ww⟩
theorem A46 (a0:Tq10):wtF As1 Tryz.f136 (a0)=GK a0:=by kernel_rfl
theorem S8:Ai RR QF:=Aa (X:=As1) ⟨AD,Af,AA⟩ (Ab (by exact ⟨⟨D3,rfl⟩,trivial⟩)) (Al (by kernel_rfl)) ⟨Tryz.func136,rfl,by kernel_rfl,rfl⟩ (fun x=>by exact A46 x)
noncomputable def MG (a0:Tq1):Option (Tq3) :=
 ((GK (a0.1,a0.2.1))).bind fun x0 =>
 some (x0.1,(x0.2,(a0.2.2.1,a0.2.2.2)))
noncomputable def At0:Ent:=⟨Ws,fun x=>MG x⟩
noncomputable def Aw0:TX:=⟨Ak,Ae,[],[4],[QF],Ws⟩
theorem A5W (a0:Tq3):wtF Aw0 Tryz.f301 (a0)=MG a0:=by kernel_rfl
theorem A1p:Ai RR At0:=Aa (X:=Aw0) ⟨AD,Af,AA⟩ (Ab (by exact ⟨⟨S8,rfl⟩,trivial⟩)) (Al (by kernel_rfl)) ⟨Tryz.func301,rfl,by kernel_rfl,rfl⟩ (fun x=>by exact A5W x)
noncomputable def DQ (s0:(List Int)) (s1:(List Int)) (s2:(List Int)) (s3:Int) (s4:Int):Option (Tq15 ⊕ (List Int)) :=
 (bif decide (s4<(((List.length s1):Nat):Int)) then
   some (Sum.inr (s0,(s1,(s2,(s3,s4)))))
  else
  bif decide (s4<(((List.length s2):Nat):Int)) then
   some (Sum.inr (s0,(s1,(s2,(s3,s4)))))
  else
  bif decide (s3>(0:Int)) then
   some (Sum.inr (s0,(s1,(s2,(s3,s4)))))
  else
  some (Sum.inl (Sum.inr s0))).bind fun x0 =>
 Sum.elim
  (fun x1 =>
  some x1)
  (fun x2 =>
  ((Dd x2.2.1 x2.2.2.2.2)).bind fun x3 =>
  ((Dd x2.2.2.1 x2.2.2.2.2)).bind fun x4 =>
  ((De 8 1 x2.1 (List.cons (Int.tmod (IntKind.wrap .i64 ((IntKind.wrap .i64 (x3 + x4)) + x2.2.2.2.1)) (65536:Int)) (List.nil:List Int)))).bind fun x5 =>
  some (Sum.inl (x5,(x2.2.1,(x2.2.2.1,((IntKind.wrap .i64 (Int.tdiv (IntKind.wrap .i64 ((IntKind.wrap .i64 (x3 + x4)) + x2.2.2.2.1)) (65536:Int))),(IntKind.wrap .i64 (x2.2.2.2.2 + (1:Int)))))))))
  x0
noncomputable def Fb (a0:(List Int)) (a1:(List Int)):Option (List (Int)) :=
 (Ah (fun (s:Tq15)=>DQ s.1 s.2.1 s.2.2.1 s.2.2.2.1 s.2.2.2.2) ((List.nil:List Int),(a0,(a1,((0:Int),(0:Int)))))).bind fun x0 =>
 some x0
noncomputable def O9:Ent:=⟨Ku,fun x=>Fb x.1 x.2⟩
noncomputable def O1:TX:=⟨Ak,Ae,[],[4],[Gp],Ku⟩
theorem ZK (a0:List (Int)) (a1:List (Int)):wtF O1 Tryz.f230 (a0,a1)=Fb a0 a1:=by kernel_rfl
theorem Yr:Ai RR O9:=Aa (X:=O1) ⟨AD,Af,AA⟩ (Ab (by exact ⟨⟨Gy,rfl⟩,trivial⟩)) (Al (by kernel_rfl)) ⟨Tryz.func230,rfl,by kernel_rfl,rfl⟩ (fun x=>by exact ZK x.1 x.2)
noncomputable def FN (s0:(List Int)) (s1:(List Int)) (s2:(List Int)) (s3:Int) (s4:Int) (s5:Int):Option (((List Int)×Tq12) ⊕ (List Int)) :=
 bif decide (s5<s4) then
  ((AQ s1 s5)).bind fun x0 =>
  ((Dd s2 s5)).bind fun x1 =>
  bif decide ((IntKind.wrap .i64 ((IntKind.wrap .i64 (x0-x1))-s3))<(0:Int)) then
   ((De 8 1 s0 (List.cons (IntKind.wrap .i64 ((IntKind.wrap .i64 ((IntKind.wrap .i64 (x0-x1))-s3)) + (65536:Int))) (List.nil:List Int)))).bind fun x2 =>
   some (Sum.inl (x2,(s1,(s2,((1:Int),(s4,(IntKind.wrap .i64 (s5 + (1:Int)))))))))
  else
  ((De 8 1 s0 (List.cons (IntKind.wrap .i64 ((IntKind.wrap .i64 (x0-x1))-s3)) (List.nil:List Int)))).bind fun x3 =>
  some (Sum.inl (x3,(s1,(s2,((0:Int),(s4,(IntKind.wrap .i64 (s5 + (1:Int)))))))))
 else
 some (Sum.inr s0)
noncomputable def DM (a0:(List Int)) (a1:(List Int)):Option (List (Int)) :=
 (Ah (fun (s:((List Int)×Tq12))=>FN s.1 s.2.1 s.2.2.1 s.2.2.2.1 s.2.2.2.2.1 s.2.2.2.2.2) ((List.nil:List Int),(a0,(a1,((0:Int),((((List.length a0):Nat):Int),(0:Int))))))).bind fun x0 =>
 ((Cs x0)).bind fun x1 =>
 some x1
noncomputable def Pe:Ent:=⟨Km,fun x=>DM x.1 x.2⟩
noncomputable def Pi:TX:=⟨Ak,Ae,[],[4],[Gp,GA],Km⟩
theorem Ai2 (a0:List (Int)) (a1:List (Int)):wtF Pi Tryz.f231 (a0,a1)=DM a0 a1:=by kernel_rfl
theorem YA:Ai RR Pe:=Aa (X:=Pi) ⟨AD,Af,AA⟩ (Ab (by exact ⟨⟨Gy,rfl⟩,⟨⟨Gi,rfl⟩,trivial⟩⟩)) (Al (by kernel_rfl)) ⟨Tryz.func231,rfl,by kernel_rfl,rfl⟩ (fun x=>by exact Ai2 x.1 x.2)
noncomputable def JN (a0:Tq7) (a1:Tq7):Option (Tq10) :=
 bif (a0.1==a1.1) then
  ((Fb a0.2 a1.2)).bind fun x0 =>
  ((Bs a0.1 x0)).bind fun x1 =>
  some (x1.2,x1.1)
 else
 ((Cf a0.2 a1.2)).bind fun x2 =>
 bif decide (x2>=(0:Int)) then
  ((DM a0.2 a1.2)).bind fun x3 =>
  ((Bs a0.1 x3)).bind fun x4 =>
  some (x4.2,x4.1)
 else
 ((DM a1.2 a0.2)).bind fun x5 =>
 ((Bs a1.1 x5)).bind fun x6 =>
 some (x6.2,x6.1)
noncomputable def Wc:Ent:=⟨Vc,fun x=>JN x.1 x.2⟩
noncomputable def Ax6:TX:=⟨Ak,Ae,[],[4],[O9,Ef,JC,Pe],Vc⟩
theorem A5v (a0:Tq10) (a1:Tq10):wtF Ax6 Tryz.f178 (a0,a1)=JN a0 a1:=by kernel_rfl
theorem Ak7:Ai RR Wc:=Aa (X:=Ax6) ⟨AD,Af,AA⟩ (Ab (by exact ⟨⟨Yr,rfl⟩,⟨⟨D3,rfl⟩,⟨⟨Lf,rfl⟩,⟨⟨YA,rfl⟩,trivial⟩⟩⟩⟩)) (Al (by kernel_rfl)) ⟨Tryz.func178,rfl,by kernel_rfl,rfl⟩ (fun x=>by exact A5v x.1 x.2)
noncomputable def HZ (a0:Tq7) (a1:Tq7):Option (Tq10×Tq10) :=
 ((DT a0.2 a1.2)).bind fun x0 =>
 ((Bs (!(a0.1==a1.1)) x0.1)).bind fun x1 =>
 ((Bs a0.1 x0.2)).bind fun x2 =>
 some ((x1.2,x1.1),(x2.2,x2.1))
noncomputable def WE:Ent:=⟨VQ,fun x=>HZ x.1 x.2⟩
noncomputable def As8:TX:=⟨Ak,Ae,[],[4],[Lg,Ef],VQ⟩
theorem A4l (a0:Tq10) (a1:Tq10):wtF As8 Tryz.f135 (a0,a1)=HZ a0 a1:=by kernel_rfl
theorem Aa4:Ai RR WE:=Aa (X:=As8) ⟨AD,Af,AA⟩ (Ab (by exact ⟨⟨OB,rfl⟩,⟨⟨D3,rfl⟩,trivial⟩⟩)) (Al (by kernel_rfl)) ⟨Tryz.func135,rfl,by kernel_rfl,rfl⟩ (fun x=>by exact A4l x.1 x.2)
noncomputable def Fp (a0:Tq7) (a1:Tq7):Option (Tq3) :=
 ((JE a0.2 a1.2)).bind fun x0 =>
 ((Bs false x0)).bind fun x1 =>
 ((HZ (a0.1,a0.2) (x1.2,x1.1))).bind fun x2 =>
 ((HZ (a1.1,a1.2) (x1.2,x1.1))).bind fun x3 =>
 bif x3.1.1 then
  ((GK (x2.1.1,x2.1.2))).bind fun x4 =>
  ((GK (x3.1.1,x3.1.2))).bind fun x5 =>
  some (x4.1,(x4.2,(x5.1,x5.2)))
 else
 some (x2.1.1,(x2.1.2,(x3.1.1,x3.1.2)))
noncomputable def KY:Ent:=⟨Ta,fun x=>Fp x.1 x.2⟩
noncomputable def Al2:TX:=⟨Ak,Ae,[],[4],[VZ,Ef,WE,QF],Ta⟩
theorem A1h (a0:Tq10) (a1:Tq10):wtF Al2 Tryz.f71 (a0,a1)=Fp a0 a1:=by kernel_rfl
theorem Ls:Ai RR KY:=Aa (X:=Al2) ⟨AD,Af,AA⟩ (Ab (by exact ⟨⟨Ac2,rfl⟩,⟨⟨D3,rfl⟩,⟨⟨Aa4,rfl⟩,⟨⟨S8,rfl⟩,trivial⟩⟩⟩⟩)) (Al (by kernel_rfl)) ⟨Tryz.func71,rfl,by kernel_rfl,rfl⟩ (fun x=>by exact A1h x.1 x.2)
noncomputable def Fy (a0:Tq1) (a1:Tq1):Option (Tq3) :=
 ((CY (a0.1,a0.2.1) (a1.2.2.1,a1.2.2.2))).bind fun x0 =>
 ((CY (a1.1,a1.2.1) (a0.2.2.1,a0.2.2.2))).bind fun x1 =>
 ((JN (x0.1,x0.2) (x1.1,x1.2))).bind fun x2 =>
 ((CY (a0.2.2.1,a0.2.2.2) (a1.2.2.1,a1.2.2.2))).bind fun x3 =>
 ((Fp (x2.1,x2.2) (x3.1,x3.2))).bind fun x4 =>
 some (x4.1,(x4.2.1,(x4.2.2.1,x4.2.2.2)))
noncomputable def JL:Ent:=⟨Wb,fun x=>Fy x.1 x.2⟩
noncomputable def Az9:TX:=⟨Ak,Ae,[],[4],[Mj,Wc,KY],Wb⟩
theorem A5V (a0:Tq3) (a1:Tq3):wtF Az9 Tryz.f121 (a0,a1)=Fy a0 a1:=by kernel_rfl
theorem KP:Ai RR JL:=Aa (X:=Az9) ⟨AD,Af,AA⟩ (Ab (by exact ⟨⟨MK,rfl⟩,⟨⟨Ak7,rfl⟩,⟨⟨Ls,rfl⟩,trivial⟩⟩⟩)) (Al (by kernel_rfl)) ⟨Tryz.func121,rfl,by kernel_rfl,rfl⟩ (fun x=>by exact A5V x.1 x.2)
noncomputable def Gs (a0:Tq1) (a1:Tq1):Option (Tq3) :=
 ((MG (a1.1,(a1.2.1,(a1.2.2.1,a1.2.2.2))))).bind fun x0 =>
 ((Fy (a0.1,(a0.2.1,(a0.2.2.1,a0.2.2.2))) (x0.1,(x0.2.1,(x0.2.2.1,x0.2.2.2))))).bind fun x1 =>
 some (x1.1,(x1.2.1,(x1.2.2.1,x1.2.2.2)))
noncomputable def Q1:Ent:=⟨Wj,fun x=>Gs x.1 x.2⟩
noncomputable def Au9:TX:=⟨Ak,Ae,[],[4],[At0,JL],Wj⟩
theorem A4A (a0:Tq3) (a1:Tq3):wtF Au9 Tryz.f274 (a0,a1)=Gs a0 a1:=by kernel_rfl
theorem SG:Ai RR Q1:=Aa (X:=Au9) ⟨AD,Af,AA⟩ (Ab (by exact ⟨⟨A1p,rfl⟩,⟨⟨KP,rfl⟩,trivial⟩⟩)) (Al (by kernel_rfl)) ⟨Tryz.func274,rfl,by kernel_rfl,rfl⟩ (fun x=>by exact A4A x.1 x.2)
noncomputable def JD (a0:Tq1) (a1:Tq1):Option (Tq3) :=
 ((CY (a0.1,a0.2.1) (a1.2.2.1,a1.2.2.2))).bind fun x0 =>
 ((CY (a0.2.2.1,a0.2.2.2) (a1.1,a1.2.1))).bind fun x1 =>
 ((Fp (x0.1,x0.2) (x1.1,x1.2))).bind fun x2 =>
 some (x2.1,(x2.2.1,(x2.2.2.1,x2.2.2.2)))
noncomputable def Vj:Ent:=⟨V3,fun x=>JD x.1 x.2⟩
noncomputable def At8:TX:=⟨Ak,Ae,[],[4],[Mj,KY],V3⟩
theorem A5o (a0:Tq3) (a1:Tq3):wtF At8 Tryz.f275 (a0,a1)=JD a0 a1:=by kernel_rfl
theorem Ac8:Ai RR Vj:=Aa (X:=At8) ⟨AD,Af,AA⟩ (Ab (by exact ⟨⟨MK,rfl⟩,⟨⟨Ls,rfl⟩,trivial⟩⟩)) (Al (by kernel_rfl)) ⟨Tryz.func275,rfl,by kernel_rfl,rfl⟩ (fun x=>by exact A5o x.1 x.2)
noncomputable def GC (a0:Tq1) (a1:Tq1):Option (Tq3) :=
 ((CY (a0.1,a0.2.1) (a1.1,a1.2.1))).bind fun x0 =>
 ((CY (a0.2.2.1,a0.2.2.2) (a1.2.2.1,a1.2.2.2))).bind fun x1 =>
 ((Fp (x0.1,x0.2) (x1.1,x1.2))).bind fun x2 =>
 some (x2.1,(x2.2.1,(x2.2.2.1,x2.2.2.2)))
noncomputable def QQ:Ent:=⟨Wi,fun x=>GC x.1 x.2⟩
noncomputable def Ax3:TX:=⟨Ak,Ae,[],[4],[Mj,KY],Wi⟩
theorem A5u (a0:Tq3) (a1:Tq3):wtF Ax3 Tryz.f171 (a0,a1)=GC a0 a1:=by kernel_rfl
theorem SQ:Ai RR QQ:=Aa (X:=Ax3) ⟨AD,Af,AA⟩ (Ab (by exact ⟨⟨MK,rfl⟩,⟨⟨Ls,rfl⟩,trivial⟩⟩)) (Al (by kernel_rfl)) ⟨Tryz.func171,rfl,by kernel_rfl,rfl⟩ (fun x=>by exact A5u x.1 x.2)
noncomputable def Gt (a0:Tq1) (a1:Tq1) (a2:Tq1):Option (Tq3) :=
 ((Gs (a1.1,(a1.2.1,(a1.2.2.1,a1.2.2.2))) (a0.1,(a0.2.1,(a0.2.2.1,a0.2.2.2))))).bind fun x0 =>
 ((GC (a2.1,(a2.2.1,(a2.2.2.1,a2.2.2.2))) (x0.1,(x0.2.1,(x0.2.2.1,x0.2.2.2))))).bind fun x1 =>
 ((Fy (a0.1,(a0.2.1,(a0.2.2.1,a0.2.2.2))) (x1.1,(x1.2.1,(x1.2.2.1,x1.2.2.2))))).bind fun x2 =>
 some (x2.1,(x2.2.1,(x2.2.2.1,x2.2.2.2)))
noncomputable def XC:Ent:=⟨OO,fun x=>Gt x.1 x.2.1 x.2.2⟩
noncomputable def XS:TX:=⟨Ak,Ae,[],[4],[Q1,QQ,JL],OO⟩
theorem AX7 (a0:Tq3) (a1:Tq3) (a2:Tq3):wtF XS Tryz.f318 (a0,a1,a2)=Gt a0 a1 a2:=by kernel_rfl
theorem AF6:Ai RR XC:=Aa (X:=XS) ⟨AD,Af,AA⟩ (Ab (by exact ⟨⟨SG,rfl⟩,⟨⟨SQ,rfl⟩,⟨⟨KP,rfl⟩,trivial⟩⟩⟩)) (Al (by kernel_rfl)) ⟨Tryz.func318,rfl,by kernel_rfl,rfl⟩ (fun x=>by exact AX7 x.1 x.2.1 x.2.2)
noncomputable def Kw (a0:Tq9) (a1:Tq9) (a2:Tq1):Option (Tq4) :=
 ((Gt (a0.1,(a0.2.1,(a0.2.2.1,a0.2.2.2.1))) (a1.1,(a1.2.1,(a1.2.2.1,a1.2.2.2.1))) (a2.1,(a2.2.1,(a2.2.2.1,a2.2.2.2))))).bind fun x0 =>
 ((Gt (a0.2.2.2.2.1,(a0.2.2.2.2.2.1,(a0.2.2.2.2.2.2.1,a0.2.2.2.2.2.2.2))) (a1.2.2.2.2.1,(a1.2.2.2.2.2.1,(a1.2.2.2.2.2.2.1,a1.2.2.2.2.2.2.2))) (a2.1,(a2.2.1,(a2.2.2.1,a2.2.2.2))))).bind fun x1 =>
 some (x0.1,(x0.2.1,(x0.2.2.1,(x0.2.2.2,(x1.1,(x1.2.1,(x1.2.2.1,x1.2.2.2)))))))
noncomputable def Ag8:Ent:=⟨RX,fun x=>Kw x.1 x.2.1 x.2.2⟩
noncomputable def Ah4:TX:=⟨Ak,Ae,[],[4],[XC],RX⟩
theorem A2T (a0:Tq4) (a1:Tq4) (a2:Tq3):wtF Ah4 Tryz.f317 (a0,a1,a2)=Kw a0 a1 a2:=by kernel_rfl
theorem AU0:Ai RR Ag8:=Aa (X:=Ah4) ⟨AD,Af,AA⟩ (Ab (by exact ⟨⟨AF6,rfl⟩,trivial⟩)) (Al (by kernel_rfl)) ⟨Tryz.func317,rfl,by kernel_rfl,rfl⟩ (fun x=>by exact A2T x.1 x.2.1 x.2.2)
noncomputable def Ka (a0:Tq9) (a1:Tq9) (a2:Bool) (a3:Tq1):Option (Tq4) :=
 ((FO (a0.1,(a0.2.1,(a0.2.2.1,(a0.2.2.2.1,(a0.2.2.2.2.1,(a0.2.2.2.2.2.1,(a0.2.2.2.2.2.2.1,a0.2.2.2.2.2.2.2))))))) a2)).bind fun x0 =>
 ((Gs (a3.1,(a3.2.1,(a3.2.2.1,a3.2.2.2))) (x0.1,(x0.2.1,(x0.2.2.1,x0.2.2.2))))).bind fun x1 =>
 ((FO (a1.1,(a1.2.1,(a1.2.2.1,(a1.2.2.2.1,(a1.2.2.2.2.1,(a1.2.2.2.2.2.1,(a1.2.2.2.2.2.2.1,a1.2.2.2.2.2.2.2))))))) a2)).bind fun x2 =>
 ((Gs (x2.1,(x2.2.1,(x2.2.2.1,x2.2.2.2))) (x0.1,(x0.2.1,(x0.2.2.1,x0.2.2.2))))).bind fun x3 =>
 ((JD (x1.1,(x1.2.1,(x1.2.2.1,x1.2.2.2))) (x3.1,(x3.2.1,(x3.2.2.1,x3.2.2.2))))).bind fun x4 =>
 ((Kw (a0.1,(a0.2.1,(a0.2.2.1,(a0.2.2.2.1,(a0.2.2.2.2.1,(a0.2.2.2.2.2.1,(a0.2.2.2.2.2.2.1,a0.2.2.2.2.2.2.2))))))) (a1.1,(a1.2.1,(a1.2.2.1,(a1.2.2.2.1,(a1.2.2.2.2.1,(a1.2.2.2.2.2.1,(a1.2.2.2.2.2.2.1,a1.2.2.2.2.2.2.2))))))) (x4.1,(x4.2.1,(x4.2.2.1,x4.2.2.2))))).bind fun x5 =>
 bif a2 then
  some (x5.1,(x5.2.1,(x5.2.2.1,(x5.2.2.2.1,(a3.1,(a3.2.1,(a3.2.2.1,a3.2.2.2)))))))
 else
 some (a3.1,(a3.2.1,(a3.2.2.1,(a3.2.2.2,(x5.2.2.2.2.1,(x5.2.2.2.2.2.1,(x5.2.2.2.2.2.2.1,x5.2.2.2.2.2.2.2)))))))
noncomputable def Ad3:Ent:=⟨RV,fun x=>Ka x.1 x.2.1 x.2.2.1 x.2.2.2⟩
noncomputable def ZD:TX:=⟨Ak,Ae,[],[4],[MQ,Q1,Vj,Ag8],RV⟩
theorem A2n (a0:Tq4) (a1:Tq4) (a2:Bool) (a3:Tq3):wtF ZD Tryz.f314 (a0,a1,a2,a3)=Ka a0 a1 a2 a3:=by kernel_rfl
theorem AR7:Ai RR Ad3:=Aa (X:=ZD) ⟨AD,Af,AA⟩ (Ab (by exact ⟨⟨Rn,rfl⟩,⟨⟨SG,rfl⟩,⟨⟨Ac8,rfl⟩,⟨⟨AU0,rfl⟩,trivial⟩⟩⟩⟩)) (Al (by kernel_rfl)) ⟨Tryz.func314,rfl,by kernel_rfl,rfl⟩ (fun x=>by exact A2n x.1 x.2.1 x.2.2.1 x.2.2.2)
noncomputable def CR (s0:Tq1) (s1:Tq6) (s2:Tq6) (s3:Bool) (s4:Bool) (s5:Tq6) (s6:Int) (s7:Int):Option ((Tq1×(Tq6×(Tq6×(Bool×(Bool×Tq16))))) ⊕ Tq6) :=
 bif decide (s7<s6) then
  ((AQ s5 s7)).bind fun x0 =>
  bif ((((List.length s2):Nat):Int)==(0:Int)) then
   none
  else
  ((AQ s2 (Int.tmod (IntKind.wrap .i64 ((IntKind.wrap .i64 (s7 + (((List.length s2):Nat):Int)))-(1:Int))) (((List.length s2):Nat):Int)))).bind fun x1 =>
  ((GV (x1.1.1.1,(x1.1.1.2,(x1.1.2.1,(x1.1.2.2,(x1.2.1.1,(x1.2.1.2,(x1.2.2.1,x1.2.2.2))))))) s3 (s0.1,(s0.2.1,(s0.2.2.1,s0.2.2.2))) s4)).bind fun x2 =>
  ((GV (x0.1.1.1,(x0.1.1.2,(x0.1.2.1,(x0.1.2.2,(x0.2.1.1,(x0.2.1.2,(x0.2.2.1,x0.2.2.2))))))) s3 (s0.1,(s0.2.1,(s0.2.2.1,s0.2.2.2))) s4)).bind fun x3 =>
  bif (!(decide (x2<=(0:Int))==decide (x3<=(0:Int)))) then
   ((Ka (x1.1.1.1,(x1.1.1.2,(x1.1.2.1,(x1.1.2.2,(x1.2.1.1,(x1.2.1.2,(x1.2.2.1,x1.2.2.2))))))) (x0.1.1.1,(x0.1.1.2,(x0.1.2.1,(x0.1.2.2,(x0.2.1.1,(x0.2.1.2,(x0.2.2.1,x0.2.2.2))))))) s3 (s0.1,(s0.2.1,(s0.2.2.1,s0.2.2.2))))).bind fun x4 =>
   ((De 128 8 s1 (List.cons (((x4.1,x4.2.1),(x4.2.2.1,x4.2.2.2.1)),((x4.2.2.2.2.1,x4.2.2.2.2.2.1),(x4.2.2.2.2.2.2.1,x4.2.2.2.2.2.2.2))) (List.nil:List (Tq0×Tq0))))).bind fun x5 =>
   bif decide (x3<=(0:Int)) then
    ((De 128 8 x5 (List.cons (((x0.1.1.1,x0.1.1.2),(x0.1.2.1,x0.1.2.2)),((x0.2.1.1,x0.2.1.2),(x0.2.2.1,x0.2.2.2))) (List.nil:List (Tq0×Tq0))))).bind fun x6 =>
    some (Sum.inl ((s0.1,(s0.2.1,(s0.2.2.1,s0.2.2.2))),(x6,(s2,(s3,(s4,(s5,(s6,(IntKind.wrap .i64 (s7 + (1:Int)))))))))))
   else
   some (Sum.inl ((s0.1,(s0.2.1,(s0.2.2.1,s0.2.2.2))),(x5,(s2,(s3,(s4,(s5,(s6,(IntKind.wrap .i64 (s7 + (1:Int)))))))))))
  else
  bif decide (x3<=(0:Int)) then
   ((De 128 8 s1 (List.cons (((x0.1.1.1,x0.1.1.2),(x0.1.2.1,x0.1.2.2)),((x0.2.1.1,x0.2.1.2),(x0.2.2.1,x0.2.2.2))) (List.nil:List (Tq0×Tq0))))).bind fun x7 =>
   some (Sum.inl ((s0.1,(s0.2.1,(s0.2.2.1,s0.2.2.2))),(x7,(s2,(s3,(s4,(s5,(s6,(IntKind.wrap .i64 (s7 + (1:Int)))))))))))
  else
  some (Sum.inl ((s0.1,(s0.2.1,(s0.2.2.1,s0.2.2.2))),(s1,(s2,(s3,(s4,(s5,(s6,(IntKind.wrap .i64 (s7 + (1:Int)))))))))))
 else
 some (Sum.inr s1)
noncomputable def D4 (a0:Tq6) (a1:Bool) (a2:Tq1) (a3:Bool):Option (List Tq2) :=
 (Ah (fun (s:(Tq1×(Tq6×(Tq6×(Bool×(Bool×Tq16))))))=>CR s.1 s.2.1 s.2.2.1 s.2.2.2.1 s.2.2.2.2.1 s.2.2.2.2.2.1 s.2.2.2.2.2.2.1 s.2.2.2.2.2.2.2) ((a2.1,(a2.2.1,(a2.2.2.1,a2.2.2.2))),((List.nil:List (Tq0×Tq0)),(a0,(a1,(a3,(a0,((((List.length a0):Nat):Int),(0:Int))))))))).bind fun x0 =>
 some x0
noncomputable def Xk:Ent:=⟨Pg,fun x=>D4 x.1 x.2.1 x.2.2.1 x.2.2.2⟩
noncomputable def XY:TX:=⟨Ak,Ae,[],[4],[XH,Ad3],Pg⟩
theorem AO3 (a0:List Tq2) (a1:Bool) (a2:Tq3) (a3:Bool):wtF XY Tryz.f300 (a0,a1,a2,a3)=D4 a0 a1 a2 a3:=by kernel_rfl
theorem AI0:Ai RR Xk:=Aa (X:=XY) ⟨AD,Af,AA⟩ (Ab (by exact ⟨⟨AD4,rfl⟩,⟨⟨AR7,rfl⟩,trivial⟩⟩)) (Al (by kernel_rfl)) ⟨Tryz.func300,rfl,by kernel_rfl,rfl⟩ (fun x=>by exact AO3 x.1 x.2.1 x.2.2.1 x.2.2.2)
noncomputable def Lb (a0:Tq6) (a1:Tq9) (a2:Tq9):Option (List Tq2) :=
 ((D4 a0 false (a1.1,(a1.2.1,(a1.2.2.1,a1.2.2.2.1))) true)).bind fun x0 =>
 ((D4 x0 false (a2.1,(a2.2.1,(a2.2.2.1,a2.2.2.2.1))) false)).bind fun x1 =>
 ((D4 x1 true (a1.2.2.2.2.1,(a1.2.2.2.2.2.1,(a1.2.2.2.2.2.2.1,a1.2.2.2.2.2.2.2))) true)).bind fun x2 =>
 ((D4 x2 true (a2.2.2.2.2.1,(a2.2.2.2.2.2.1,(a2.2.2.2.2.2.2.1,a2.2.2.2.2.2.2.2))) false)).bind fun x3 =>
 some x3
noncomputable def Ag4:Ent:=⟨Tg,fun x=>Lb x.1 x.2.1 x.2.2⟩
noncomputable def ZB:TX:=⟨Ak,Ae,[],[4],[Xk],Tg⟩
theorem A1z (a0:List Tq2) (a1:Tq4) (a2:Tq4):wtF ZB Tryz.f273 (a0,a1,a2)=Lb a0 a1 a2:=by kernel_rfl
theorem A0n:Ai RR Ag4:=Aa (X:=ZB) ⟨AD,Af,AA⟩ (Ab (by exact ⟨⟨AI0,rfl⟩,trivial⟩)) (Al (by kernel_rfl)) ⟨Tryz.func273,rfl,by kernel_rfl,rfl⟩ (fun x=>by exact A1z x.1 x.2.1 x.2.2)
noncomputable def Ed (a0:Tq1):Option (Tq3×Bool) :=
 bif decide ((((List.length a0.2.1):Nat):Int)>(40:Int)) then
  some ((false,((List.nil:List Int),(false,(List.nil:List Int)))),false)
 else
 bif decide ((((List.length a0.2.2.2):Nat):Int)>(40:Int)) then
  some ((false,((List.nil:List Int),(false,(List.nil:List Int)))),false)
 else
 ((Bs a0.1 a0.2.1)).bind fun x0 =>
 ((Bs false a0.2.2.2)).bind fun x1 =>
 some ((x0.2,(x0.1,(x1.2,x1.1))),true)
noncomputable def MN:Ent:=⟨R2,fun x=>Ed x⟩
noncomputable def Ad6:TX:=⟨Ak,Ae,[],[4],[Ef],R2⟩
theorem A1S (a0:Tq3):wtF Ad6 Tryz.f70 (a0)=Ed a0:=by kernel_rfl
theorem O5:Ai RR MN:=Aa (X:=Ad6) ⟨AD,Af,AA⟩ (Ab (by exact ⟨⟨D3,rfl⟩,trivial⟩)) (Al (by kernel_rfl)) ⟨Tryz.func70,rfl,by kernel_rfl,rfl⟩ (fun x=>by exact A1S x)
noncomputable def IT (a0:Tq9):Option (Tq4×Bool) :=
 ((Ed (a0.1,(a0.2.1,(a0.2.2.1,a0.2.2.2.1))))).bind fun x0 =>
 ((Ed (a0.2.2.2.2.1,(a0.2.2.2.2.2.1,(a0.2.2.2.2.2.2.1,a0.2.2.2.2.2.2.2))))).bind fun x1 =>
 bif (!x0.2) then
  some ((false,((List.nil:List Int),(false,((List.nil:List Int),(false,((List.nil:List Int),(false,(List.nil:List Int)))))))),false)
 else
 bif (!x1.2) then
  some ((false,((List.nil:List Int),(false,((List.nil:List Int),(false,((List.nil:List Int),(false,(List.nil:List Int)))))))),false)
 else
 some ((x0.1.1,(x0.1.2.1,(x0.1.2.2.1,(x0.1.2.2.2,(x1.1.1,(x1.1.2.1,(x1.1.2.2.1,x1.1.2.2.2))))))),true)
noncomputable def WS:Ent:=⟨Ph,fun x=>IT x⟩
noncomputable def XT:TX:=⟨Ak,Ae,[],[4],[MN],Ph⟩
theorem AW6 (a0:Tq4):wtF XT Tryz.f312 (a0)=IT a0:=by kernel_rfl
theorem AC6:Ai RR WS:=Aa (X:=XT) ⟨AD,Af,AA⟩ (Ab (by exact ⟨⟨O5,rfl⟩,trivial⟩)) (Al (by kernel_rfl)) ⟨Tryz.func312,rfl,by kernel_rfl,rfl⟩ (fun x=>by exact AW6 x)
noncomputable def Ek (s0:Tq6) (s1:Tq6) (s2:Int) (s3:Int):Option ((Tq6×Tq16) ⊕ (Tq6 ⊕ (Tq6×Bool))) :=
 bif decide (s3<s2) then
  ((AQ s1 s3)).bind fun x0 =>
  ((IT (x0.1.1.1,(x0.1.1.2,(x0.1.2.1,(x0.1.2.2,(x0.2.1.1,(x0.2.1.2,(x0.2.2.1,x0.2.2.2))))))))).bind fun x1 =>
  bif (!x1.2) then
   some (Sum.inr (Sum.inr ((List.nil:List (Tq0×Tq0)),false)))
  else
  ((De 128 8 s0 (List.cons (((x1.1.1,x1.1.2.1),(x1.1.2.2.1,x1.1.2.2.2.1)),((x1.1.2.2.2.2.1,x1.1.2.2.2.2.2.1),(x1.1.2.2.2.2.2.2.1,x1.1.2.2.2.2.2.2.2))) (List.nil:List (Tq0×Tq0))))).bind fun x2 =>
  some (Sum.inl (x2,(s1,(s2,(IntKind.wrap .i64 (s3 + (1:Int)))))))
 else
 some (Sum.inr (Sum.inl s0))
noncomputable def K0 (a0:Tq6):Option (List Tq2×Bool) :=
 (Ah (fun (s:(Tq6×Tq16))=>Ek s.1 s.2.1 s.2.2.1 s.2.2.2) ((List.nil:List (Tq0×Tq0)),(a0,((((List.length a0):Nat):Int),(0:Int))))).bind fun x0 =>
 Sum.elim
  (fun x1 =>
  some (x1,true))
  (fun x2 =>
  some (x2.1,x2.2))
  x0
noncomputable def Aj2:Ent:=⟨Ti,fun x=>K0 x⟩
noncomputable def Ah5:TX:=⟨Ak,Ae,[],[4],[WS],Ti⟩
theorem A2x (a0:List Tq2):wtF Ah5 Tryz.f299 (a0)=K0 a0:=by kernel_rfl
theorem AS7:Ai RR Aj2:=Aa (X:=Ah5) ⟨AD,Af,AA⟩ (Ab (by exact ⟨⟨AC6,rfl⟩,trivial⟩)) (Al (by kernel_rfl)) ⟨Tryz.func299,rfl,by kernel_rfl,rfl⟩ (fun x=>by exact A2x x)
noncomputable def IG (a0:Tq6):Option (List Tq2×Bool) :=
 ((Fx a0)).bind fun x0 =>
 bif (!x0) then
  some ((List.nil:List (Tq0×Tq0)),false)
 else
 ((K0 a0)).bind fun x1 =>
 some (x1.1,x1.2)
noncomputable def XN:Ent:=⟨PI,fun x=>IG x⟩
noncomputable def XP:TX:=⟨Ak,Ae,[],[4],[NQ,Aj2],PI⟩
theorem AX6 (a0:List Tq2):wtF XP Tryz.f272 (a0)=IG a0:=by kernel_rfl
theorem AK5:Ai RR XN:=Aa (X:=XP) ⟨AD,Af,AA⟩ (Ab (by exact ⟨⟨RA,rfl⟩,⟨⟨AS7,rfl⟩,trivial⟩⟩)) (Al (by kernel_rfl)) ⟨Tryz.func272,rfl,by kernel_rfl,rfl⟩ (fun x=>by exact AX6 x)
noncomputable def B0 (a0:Tq6) (a1:Tq9) (a2:Tq9):Option (List Tq2×Bool) :=
 ((Fx a0)).bind fun x0 =>
 bif (!x0) then
  some ((List.nil:List (Tq0×Tq0)),false)
 else
 ((JB (a1.1,(a1.2.1,(a1.2.2.1,(a1.2.2.2.1,(a1.2.2.2.2.1,(a1.2.2.2.2.2.1,(a1.2.2.2.2.2.2.1,a1.2.2.2.2.2.2.2))))))))).bind fun x1 =>
 bif (!x1) then
  some ((List.nil:List (Tq0×Tq0)),false)
 else
 ((JB (a2.1,(a2.2.1,(a2.2.2.1,(a2.2.2.2.1,(a2.2.2.2.2.1,(a2.2.2.2.2.2.1,(a2.2.2.2.2.2.2.1,a2.2.2.2.2.2.2.2))))))))).bind fun x2 =>
 bif (!x2) then
  some ((List.nil:List (Tq0×Tq0)),false)
 else
 ((GU (a1.1,(a1.2.1,(a1.2.2.1,a1.2.2.2.1))) (a2.1,(a2.2.1,(a2.2.2.1,a2.2.2.2.1))))).bind fun x3 =>
 bif decide (x3>(0:Int)) then
  some ((List.nil:List (Tq0×Tq0)),false)
 else
 ((GU (a1.2.2.2.2.1,(a1.2.2.2.2.2.1,(a1.2.2.2.2.2.2.1,a1.2.2.2.2.2.2.2))) (a2.2.2.2.2.1,(a2.2.2.2.2.2.1,(a2.2.2.2.2.2.2.1,a2.2.2.2.2.2.2.2))))).bind fun x4 =>
 bif decide (x4>(0:Int)) then
  some ((List.nil:List (Tq0×Tq0)),false)
 else
 ((Lb a0 (a1.1,(a1.2.1,(a1.2.2.1,(a1.2.2.2.1,(a1.2.2.2.2.1,(a1.2.2.2.2.2.1,(a1.2.2.2.2.2.2.1,a1.2.2.2.2.2.2.2))))))) (a2.1,(a2.2.1,(a2.2.2.1,(a2.2.2.2.1,(a2.2.2.2.2.1,(a2.2.2.2.2.2.1,(a2.2.2.2.2.2.2.1,a2.2.2.2.2.2.2.2))))))))).bind fun x5 =>
 ((IG x5)).bind fun x6 =>
 some (x6.1,x6.2)
noncomputable def W0:Ent:=⟨PZ,fun x=>B0 x.1 x.2.1 x.2.2⟩
noncomputable def Xy:TX:=⟨Ak,Ae,[],[4],[NQ,At1,Q6,Ag4,XN],PZ⟩
theorem AN9 (a0:List Tq2) (a1:Tq4) (a2:Tq4):wtF Xy Tryz.f228 (a0,a1,a2)=B0 a0 a1 a2:=by kernel_rfl
theorem AJ0:Ai RR W0:=Aa (X:=Xy) ⟨AD,Af,AA⟩ (Ab (by exact ⟨⟨RA,rfl⟩,⟨⟨A1O,rfl⟩,⟨⟨R8,rfl⟩,⟨⟨A0n,rfl⟩,⟨⟨AK5,rfl⟩,trivial⟩⟩⟩⟩⟩)) (Al (by kernel_rfl)) ⟨Tryz.func228,rfl,by kernel_rfl,rfl⟩ (fun x=>by exact AN9 x.1 x.2.1 x.2.2)
noncomputable def BP (s0:Tq1) (s1:Tq1) (s2:Tq6) (s3:Tq6) (s4:Int) (s5:Int):Option ((Tq1×(Tq1×(Tq6×Tq16))) ⊕ (Tq1×Tq1)) :=
 bif decide (s5<s4) then
  ((AQ s3 s5)).bind fun x0 =>
  bif ((((List.length s2):Nat):Int)==(0:Int)) then
   none
  else
  ((AQ s2 (Int.tmod (IntKind.wrap .i64 (s5 + (1:Int))) (((List.length s2):Nat):Int)))).bind fun x1 =>
  ((GC (x0.1.1.1,(x0.1.1.2,(x0.1.2.1,x0.1.2.2))) (x1.2.1.1,(x1.2.1.2,(x1.2.2.1,x1.2.2.2))))).bind fun x2 =>
  ((GC (x1.1.1.1,(x1.1.1.2,(x1.1.2.1,x1.1.2.2))) (x0.2.1.1,(x0.2.1.2,(x0.2.2.1,x0.2.2.2))))).bind fun x3 =>
  ((Gs (x2.1,(x2.2.1,(x2.2.2.1,x2.2.2.2))) (x3.1,(x3.2.1,(x3.2.2.1,x3.2.2.2))))).bind fun x4 =>
  ((Fy (s1.1,(s1.2.1,(s1.2.2.1,s1.2.2.2))) (x4.1,(x4.2.1,(x4.2.2.1,x4.2.2.2))))).bind fun x5 =>
  some (Sum.inl ((s0.1,(s0.2.1,(s0.2.2.1,s0.2.2.2))),((x5.1,(x5.2.1,(x5.2.2.1,x5.2.2.2))),(s2,(s3,(s4,(IntKind.wrap .i64 (s5 + (1:Int)))))))))
 else
 some (Sum.inr ((s0.1,(s0.2.1,(s0.2.2.1,s0.2.2.2))),(s1.1,(s1.2.1,(s1.2.2.1,s1.2.2.2)))))
noncomputable def GD (a0:Tq6):Option (Tq3) :=
 ((Cx (0:Int))).bind fun x0 =>
 (Ah (fun (s:(Tq1×(Tq1×(Tq6×Tq16))))=>BP s.1 s.2.1 s.2.2.1 s.2.2.2.1 s.2.2.2.2.1 s.2.2.2.2.2) ((false,((List.nil:List Int),(false,(List.nil:List Int)))),((x0.1,(x0.2.1,(x0.2.2.1,x0.2.2.2))),(a0,(a0,((((List.length a0):Nat):Int),(0:Int))))))).bind fun x1 =>
 ((Cx (2:Int))).bind fun x2 =>
 ((JD (x1.2.1,(x1.2.2.1,(x1.2.2.2.1,x1.2.2.2.2))) (x2.1,(x2.2.1,(x2.2.2.1,x2.2.2.2))))).bind fun x3 =>
 some (x3.1,(x3.2.1,(x3.2.2.1,x3.2.2.2)))
noncomputable def X9:Ent:=⟨Qk,fun x=>GD x⟩
noncomputable def X1:TX:=⟨Ak,Ae,[],[4],[L9,QQ,Q1,JL,Vj],Qk⟩
theorem AP5 (a0:List Tq2):wtF X1 Tryz.f229 (a0)=GD a0:=by kernel_rfl
theorem AE4:Ai RR X9:=Aa (X:=X1) ⟨AD,Af,AA⟩ (Ab (by exact ⟨⟨N6,rfl⟩,⟨⟨SQ,rfl⟩,⟨⟨SG,rfl⟩,⟨⟨KP,rfl⟩,⟨⟨Ac8,rfl⟩,trivial⟩⟩⟩⟩⟩)) (Al (by kernel_rfl)) ⟨Tryz.func229,rfl,by kernel_rfl,rfl⟩ (fun x=>by exact AP5 x)
noncomputable def El (a0:Tq6) (a1:Int) (a2:Int):Option (Tq3×Bool) :=
 ((H6 (a1,a2))).bind fun x0 =>
 ((H6 ((IntKind.wrap .i64 (a1 + (1:Int))),(IntKind.wrap .i64 (a2 + (1:Int)))))).bind fun x1 =>
 ((B0 a0 (x0.1,(x0.2.1,(x0.2.2.1,(x0.2.2.2.1,(x0.2.2.2.2.1,(x0.2.2.2.2.2.1,(x0.2.2.2.2.2.2.1,x0.2.2.2.2.2.2.2))))))) (x1.1,(x1.2.1,(x1.2.2.1,(x1.2.2.2.1,(x1.2.2.2.2.1,(x1.2.2.2.2.2.1,(x1.2.2.2.2.2.2.1,x1.2.2.2.2.2.2.2))))))))).bind fun x2 =>
 bif (!x2.2) then
  some ((false,((List.nil:List Int),(false,(List.nil:List Int)))),false)
 else
 ((GD x2.1)).bind fun x3 =>
 ((Ed (x3.1,(x3.2.1,(x3.2.2.1,x3.2.2.2))))).bind fun x4 =>
 some ((x4.1.1,(x4.1.2.1,(x4.1.2.2.1,x4.1.2.2.2))),x4.2)
noncomputable def Tl:Ent:=⟨NH,fun x=>El x.1 x.2.1 x.2.2⟩
noncomputable def UY:TX:=⟨Ak,Ae,[],[4],[Wn,W0,X9,MN],NH⟩
theorem AE9 (a0:List Tq2) (a1:Int) (a2:Int):wtF UY Tryz.f177 (a0,a1,a2)=El a0 a1 a2:=by kernel_rfl
theorem An6:Ai RR Tl:=Aa (X:=UY) ⟨AD,Af,AA⟩ (Ab (by exact ⟨⟨Zg,rfl⟩,⟨⟨AJ0,rfl⟩,⟨⟨AE4,rfl⟩,⟨⟨O5,rfl⟩,trivial⟩⟩⟩⟩)) (Al (by kernel_rfl)) ⟨Tryz.func177,rfl,by kernel_rfl,rfl⟩ (fun x=>by exact AE9 x.1 x.2.1 x.2.2)
noncomputable def Ca (s0:Tq5) (s1:(List Tq0)) (s2:Tq6) (s3:Int) (s4:Int):Option ((Tq5×((List Tq0)×Tq16)) ⊕ (Tq26 ⊕ Tq31)) :=
 bif decide (s4<(IntKind.wrap .i64 (s0.1 + s0.2.2.1))) then
  ((El s2 s4 s3)).bind fun x0 =>
  bif (!x0.2) then
   some (Sum.inr (Sum.inr ((List.nil:List Tq0),false)))
  else
  ((De 64 4 s1 (List.cons ((x0.1.1,x0.1.2.1),(x0.1.2.2.1,x0.1.2.2.2)) (List.nil:List Tq0)))).bind fun x1 =>
  some (Sum.inl ((s0.1,(s0.2.1,(s0.2.2.1,s0.2.2.2))),(x1,(s2,(s3,(IntKind.wrap .i64 (s4 + (1:Int))))))))
 else
 some (Sum.inr (Sum.inl ((s0.1,(s0.2.1,(s0.2.2.1,s0.2.2.2))),(s1,(s2,s3)))))
noncomputable def BN (s0:Tq5) (s1:(List Tq0)) (s2:Tq6) (s3:Int):Option (Tq26 ⊕ ((List Tq0) ⊕ Tq31)) :=
 bif decide (s3<(IntKind.wrap .i64 (s0.2.1 + s0.2.2.2))) then
  (Ah (fun (s:(Tq5×((List Tq0)×Tq16)))=>Ca s.1 s.2.1 s.2.2.1 s.2.2.2.1 s.2.2.2.2) ((s0.1,(s0.2.1,(s0.2.2.1,s0.2.2.2))),(s1,(s2,(s3,s0.1))))).bind fun x0 =>
  Sum.elim
   (fun x1 =>
   some (Sum.inl ((x1.1.1,(x1.1.2.1,(x1.1.2.2.1,x1.1.2.2.2))),(x1.2.1,(x1.2.2.1,(IntKind.wrap .i64 (x1.2.2.2 + (1:Int))))))))
   (fun x2 =>
   some (Sum.inr (Sum.inr (x2.1,x2.2))))
   x0
 else
 some (Sum.inr (Sum.inl s1))
noncomputable def CO (a0:Tq6) (a1:Tq5):Option (List ((Tq10×Tq10))×Bool) :=
 ((C6 (a1.1,(a1.2.1,(a1.2.2.1,a1.2.2.2))))).bind fun x0 =>
 bif (!x0) then
  some ((List.nil:List Tq0),false)
 else
 (Ah (fun (s:Tq26)=>BN s.1 s.2.1 s.2.2.1 s.2.2.2) ((a1.1,(a1.2.1,(a1.2.2.1,a1.2.2.2))),((List.nil:List Tq0),(a0,a1.2.1)))).bind fun x1 =>
 Sum.elim
  (fun x2 =>
  some (x2,true))
  (fun x3 =>
  some (x3.1,x3.2))
  x1
noncomputable def U8:Ent:=⟨ML,fun x=>CO x.1 x.2⟩
noncomputable def Uc:TX:=⟨Ak,Ae,[],[4],[KI,Tl],ML⟩
theorem AG0 (a0:List Tq2) (a1:Tq22):wtF Uc Tryz.f120 (a0,a1)=CO a0 a1:=by kernel_rfl
theorem Al4:Ai RR U8:=Aa (X:=Uc) ⟨AD,Af,AA⟩ (Ab (by exact ⟨⟨Ot,rfl⟩,⟨⟨An6,rfl⟩,trivial⟩⟩)) (Al (by kernel_rfl)) ⟨Tryz.func120,rfl,by kernel_rfl,rfl⟩ (fun x=>by exact AG0 x.1 x.2)
noncomputable def Ci (s0:Tq5) (s1:(List Tq8)) (s2:(List Tq0)) (s3:Int):Option ((Tq5×((List Tq8)×((List Tq0)×Int))) ⊕ (Tq5×((List Tq8)×(List Tq0)))) :=
 bif decide (s3>(0:Int)) then
  ((Cx (0:Int))).bind fun x0 =>
  ((De 64 4 s2 (List.cons ((x0.1,x0.2.1),(x0.2.2.1,x0.2.2.2)) (List.nil:List Tq0)))).bind fun x1 =>
  some (Sum.inl ((s0.1,(s0.2.1,(s0.2.2.1,s0.2.2.2))),(s1,(x1,(IntKind.wrap .i64 (s3-(1:Int)))))))
 else
 some (Sum.inr ((s0.1,(s0.2.1,(s0.2.2.1,s0.2.2.2))),(s1,s2)))
end
end Go.Proofs.YtiijheppiboglaaGreatDoor.Ev
