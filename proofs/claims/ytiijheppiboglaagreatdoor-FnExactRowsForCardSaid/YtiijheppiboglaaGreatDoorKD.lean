/- What the theorem of this claim leans on, part 4. -/
import Derived.Test.YtiijheppiboglaaGreatDoorKC
import Derived.WalkKit
import Derived.SizedLaws
import Derived.IntWalk
import Derived.Below
import Derived.Lib.LaidTab
import Derived.Lib.ItoaMem
import Derived.Lib.AppendIntMem
import Derived.Lib.Itoa
import Derived.Lib.Join
import Derived.Lib.Repeat
import Derived.Lib.Split
import Derived.Lib.SplitLaws
import Derived.Lib.IndexMore
import Derived.Lib.Strings
import Derived.Lib.AtoiAll
import Derived.Lib.AtoiErrMem
import Derived.Shelf.Strings.Builder1
import Derived.Shelf.Strings.Builder2
import Derived.Shelf.Strings.OnBuilder
import Derived.Shelf.Small.Wraps
import Derived.Shelf.Strconv.Atoi
import Derived.Shelf.Strconv.Itoa0
import Derived.Shelf.Strconv.Itoa1
import Derived.Shelf.LaysM
import Derived.Shelf.Strconv.Itoa2
import Derived.Shelf.Strconv.Itoa3
import Derived.Shelf.Strconv.AtoiErrFast
import Derived.Shelf.Strconv.ParseIntEmpty
import Derived.Shelf.Strconv.AtoiFail
import Derived.Shelf.Strconv.Clone
import Derived.Shelf.Strconv.SyntaxError
import Derived.Shelf.LaysC
import Derived.Shelf.Strconv.ToError
import Derived.Shelf.Strconv.Lower
import Derived.Shelf.Strconv.ParseUint10
import Derived.Shelf.Strconv.ParseUint10Empty
import Derived.Shelf.Strconv.ParseUint10Any
import Derived.Shelf.Strconv.ParseInt10
import Derived.Shelf.Strconv.AtoiLong
import Derived.Shelf.Strconv.AtoiInnerAll
import Derived.Shelf.Strconv.RangeError
import Derived.Shelf.Strconv.ToErrorRange
import Derived.Shelf.Strconv.AtoiAll
import Derived.Shelf.Strconv.ErrVarAll
import Derived.Shelf.Strings.Search1
import Derived.Shelf.Strings.Search2
import Derived.Shelf.Strings.Search3
import Derived.Shelf.Strings.Cut
import Derived.Shelf.Strings.Count
import Derived.Shelf.Strings.Shaped
import Derived.Shelf.Strings.Prefix
import Derived.Shelf.Strings.Split
import Derived.Shelf.Strings.SplitShaped
import Derived.Shelf.Strings.Explode
import Derived.Ground.Names2Prog
import Derived.Shelf.Slices.Clone
import Derived.Shelf.Slices.SearchI
import Derived.Ground.SlgnProg
import Derived.Shelf.SlicesE.Clone
import Derived.Test.YtiijheppiboglaaGreatDoorProg
import Derived.HandedShaped
import Derived.LaidMore
import Derived.Shelf.Vars
import Derived.Stop.LaidErr
import Derived.KernelRfl
set_option maxHeartbeats 2000000
open Option renaming bind_some → za0, map_eq_some_iff → zb6, map_some → zd9
open List renaming getElem?_eq_getElem → za1, getElem?_eq_some_iff → za3, mem_of_getElem? → za4, all_eq_true → za5, drop_eq_getElem_cons → zb0, mem_flatMap → zb1, mem_append → zb3, eq_nil_of_length_eq_zero → zb4, flatMap_cons → zb5, getD_eq_getElem?_getD → zb7, length_cons → zb8, map_cons → zb9, getElem?_take → zc0, take_of_length_le → zc4, length_append → zc7, mem_cons → zc8, getElem?_map → zc9, all_cons → zd0, length_map → zd1, length_pos_iff → zd2, getElem?_drop → zd3, mem_map → zd4, drop_eq_nil_of_le → zd5, mem_singleton → zd8, append_nil → ze5, length_nil → ze7, drop_zero → ze8
open Bool renaming and_eq_true → za2, false_eq_true → zc3, true_and → ze2
open Nat renaming eq_of_beq_eq_true → za6, le_refl → za7, mul_le_mul_right → zd6, lt_of_lt_of_le → zd7, lt_or_ge → ze0, zero_add → ze4, le_trans → ze6, add_mul → zf1
open Sum renaming elim_inr → za8
open Int renaming mul_le_mul_of_nonneg_right → za9, mul_le_mul_of_nonneg_left → zb2, tdiv_eq_ediv_of_nonneg → zc1, toNat_natCast → zc5, tmod_eq_emod_of_nonneg → zc6, mul_add → ze1, le_of_lt → ze3, mul_nonneg → ze9, natCast_mul → zf0
open Array renaming getD_eq_getD_getElem? → zc2
set_option linter.unusedVariables false
set_option linter.unusedSimpArgs false
set_option linter.unusedSectionVars false
namespace Go.Proofs.YtiijheppiboglaaGreatDoor.Ev
section
open Go
section
variable {P:Program} {R:Rel} {cf:Cfg} {X:TX} {g:FuncId}
def MB (R:Rel) (cf:Cfg) (X:TX):Prop:=∀ g E,AH5 X.ents g=some E->Ai R E/\E.a.g=g/\cf.byref g=(HX E.a.params).map AO6
theorem A8K {α:Type} {op:Op} {b:Nat} {tm:TTm} {m:Tm} {hp hpm:THp} {hvm:Hp} {K:SV->THp->Cls->Option α} {z : α} (hX:XOK P X) (hisr:isR op=true) (hr:RT hp tm m) (hh:RHm hpm hp hvm) (h:BU X op b tm hpm K=some z):CZ P R cf op b m hp hpm hvm K z:=by
 cases op with
 | load t a=>exact A9y hX hr hh h
 | indexAddr t x i=>exact Bk2 hX hr hh h
 | convert s d x=>exact A9i hX hr hh h
 | slice t x lo hi mx =>
  cases mx with
  | none=>exact A4y hX hr hh h
  | some m' =>
   cases hi with
   | none=>simp[BU] at h
   | some h'=>exact A0I hX hr h
 | _=>simp[isR] at hisr
theorem Bf8 {α:Type} {op:Op} {b:Nat} {tm:TTm} {m:Tm} {hp:THp} {hv:Hp} {K:SV->THp->Cls->Option α} {z : α} (hX:XOK P X) (hE:MB R cf X) (hh:RH hp hv) (hr:RT hp tm m) (h:BU X op b tm hp K=some z):At1 P R cf op b tm m hv K z:=by
 cases op with
 | move x=>exact (Bn9 hr h).done hh hr
 | assign x=>exact (A8H hr h).done hh hr
 | pick c x y=>exact (Br4 hr h).done hh hr
 | alloc t=>exact Bd7 hX hh hr h
 | box t x=>exact Bw4 hX hh hr h
 | build t Ap=>exact (Bj1 hX hr h).done hh hr
 | buildSlice t len Ap=>exact Bd4 hX hh hr h
 | load t a=>exact (A9y hX hr hh.toM h).done hh hr
 | store t a x=>exact Bi6 hX hh hr h
 | nilCheck x=>exact (Bw2 hr h).done hh hr
 | binOp op t x y yt=>exact (Bv9 hX hr h).done hh hr
 | unOp u t x=>exact (Bx8 hr h).done hh hr
 | convert s d x=>exact (A9i hX hr hh.toM h).done hh hr
 | makeSlice t l c=>exact Bo5 hX hh hr h
 | slice t x lo hi mx =>
  cases mx with
  | none=>exact (A4y hX hr hh.toM h).done hh hr
  | some m' =>
   cases hi with
   | none=>simp[BU] at h
   | some h'=>exact (A0I hX hr h).done hh hr
 | fieldAddr t x k=>exact (AZ7 hX hr h).done hh hr
 | field t x k=>exact (Bi7 hX hr h).done hh hr
 | indexAddr t x i=>exact (Bk2 hX hr hh.toM h).done hh hr
 | index t x i=>exact (Bc5 hX hr h).done hh hr
 | extract x k=>exact (A5T hr h).done hh hr
 | makeFunc fn first caps =>
  cases fn with
  | func f=>exact (Bn7 hr h).done hh hr
  | _=>simp[BU] at h
 | call c =>
  obtain ⟨callee,args,ts⟩:=c;cases callee with
  | builtin bi =>
   cases bi with
   | append=>exact A78 hX hh hr h
   | len=>exact (Bv5 hX hr hh.toM h).done hh hr
   | min=>exact (Bv4 hr h).done hh hr
   | max=>exact (Bs7 hr h).done hh hr
   | _=>simp[BU] at h
  | value f =>
   simp only[BU] at h
   split at h
   ·rename_i g caps hf;have hc:=Bd hr f;rw[hf] at hc;obtain ⟨us,hfv,hcs⟩:=A4B hc;obtain ⟨x,hp',cls,y,hv',h1,h2,h3,h4,h5⟩:=A7L hE hh hr (RC.append (Lk hr args.toList) (hcs.mono fun _ _ _ h=>h.to1.to2)) h;refine ⟨x,hp',cls,y,hv',h1,h2,h3,h4,fun KV hk=>?_⟩
    show (match AR m f with | .cl g caps=>ED R cf g (args.toList.map (AR m)++caps) hv b KV | _=>False);rw[hfv];exact h5 KV hk
   ·cases h
  | _=>simp[BU] at h
 | _=>simp[BU] at h
theorem A7Y {b:Nat}:∀ (hp:THp) (id:Nat),AQ (AZ6 b hp) id=if id<b then AQ hp id else none
 | [],id=>by simp[AZ6,AQ]
 | (k,x)::l,id=>by
  have ih:=A7Y (b:=b) l id;unfold AZ6 at ih ⊢
  rw[List.filter_cons];by_cases hk:k<b
  ·have:Nat.blt k b=true:=Nat.ble_eq_true_of_le hk;simp only[this,if_true];rw[AL,AL];by_cases hi:id=k
   ·subst hi; rw[if_pos rfl,if_pos rfl,if_pos hk]
   ·rw[if_neg hi,if_neg hi]; exact ih
  ·have:Nat.blt k b=false:=by
    cases hb:Nat.blt k b with
    | false=>rfl
    | true=>exact absurd (Nat.lt_of_succ_le (Nat.le_of_ble_eq_true hb)) hk
   simp only[this,zc3,if_false];rw[AL];by_cases hi:id=k
   ·subst hi; rw[if_neg hk] at ih ⊢; exact ih
   ·rw[if_neg hi]; exact ih
theorem Bi4 {α:Type} {draw:Bool} {op:Op} {b:Nat} {tm:TTm} {m:Tm} {hp:THp} {hv:Hp} {K:SV->THp->Cls->Option α} {z : α} (hX:XOK P X) (hE:MB R cf X) (hh:RH hp hv) (hr:RT hp tm m) (h:A7V X draw op b tm hp K=some z) :
  ∃ x hp' cls y hv',K x hp' cls=some z/\RV2 hp' x y/\RH hp' hv'/\RT hp' tm m/\∀ KV:Cq,KV y hv' cls->H0 P R cf draw op b (AR m) hv KV:=by
 unfold A7V at h;cases hd:draw&&isR op with
 | true =>
  rw[hd] at h;have hi:isR op=true:=by simp only[za2] at hd; exact hd.2
  obtain ⟨x,y,cls,h1,h2,h3⟩:=A8K (R:=R) (cf:=cf) (hp:=hp) (hpm:=AZ6 b hp) (hvm:=Bi1 b hv) hX hi hr (fun id bb hb=>by
   rw[A7Y] at hb
   split at hb
   ·rename_i hlt;obtain ⟨k,hk,hrb⟩:=hh id bb hb;exact ⟨hb,k,by simp only[Bi1,if_pos hlt,hk],hrb⟩
   ·cases hb) h
  refine ⟨x,hp,cls,y,hv,h1,h2,hh,hr,fun KV hk=>?_⟩
  unfold H0;rw[hd];exact h3 (fun x _ cls=>KV x hv cls) hk
 | false =>
  rw[hd] at h;obtain ⟨x,hp',cls,y,hv',h1,h2,h3,h4,h5⟩:=Bf8 hX hE hh hr h;refine ⟨x,hp',cls,y,hv',h1,h2,h3,h4,fun KV hk=>?_⟩
  unfold H0;rw[hd];exact h5 KV hk
theorem A5t {hp:THp} {tm:TTm} {m:Tm} {x:SV} {y:V} (h:RT hp tm m) (hx:RV2 hp x y) (dst:Option Tmp):RT hp (Sm tm dst x) (put m dst y):=by
 cases dst with
 | none=>exact h
 | some d =>
  intro t;simp only[Sm,put];rw[GV];unfold upd
  split
  ·exact hx
  ·exact h t
theorem A77 {hp:THp} {tm:TTm} {m:Tm} {op:Op} (hr:RT hp tm m) (h:A2C tm op=true):A5y m op=A9d tm op:=by
 unfold A5y A9d;unfold A2C at h;generalize op.operands.toList=l at h ⊢
 induction l with
 | nil=>rfl
 | cons y l ih =>
  simp only[zb9,zd0,za2] at h;simp only[zb5,zb9];rw[ih h.2,(IS h.1 (Bd hr y)).2.2.1]
theorem Vl {α β:Type} {f g : α->List β}:∀ {l:List α},(∀ x∈l,f x=g x)->l.flatMap f=l.flatMap g
 | [],_=>rfl
 | x::l,h=>by
  rw[zb5,zb5,h x (List.mem_cons_self ..),Vl fun y hy=>h y (List.mem_cons_of_mem _ hy)]
theorem AX6 {hp:THp} {hv:Hp} {tm:TTm} {m:Tm} {op:Op} {ids:List Nat} (hE:MB R cf X) (hh:RH hp hv) (hr:RT hp tm m) (h:Us X op tm hp=some ids):JQ cf op (AR m) hv=some ids:=by
 unfold Us at h
 split at h
 ·rename_i t a x
  split at h
  ·rename_i hc;cases h
   simp only[za2] at hc;simp only[JQ];rw[(IS hc.1 (Bd hr a)).2.2.1,(IS hc.2 (Bd hr x)).2.2.1]
  ·cases h
 ·rename_i f args tys
  split at h
  case h_2=>cases h
  rename_i g caps hf
  split at h
  case h_2=>cases h
  rename_i E hfe;obtain ⟨_,_,hbr⟩:=hE g E hfe
  split at h
  case h_2=>cases h
  rename_i args' hargs'
  split at h
  case isFalse=>cases h
  rename_i s1
  split at h
  case h_2=>cases h
  rename_i o ho;cases h
  have hc:=Bd hr f;rw[hf] at hc;obtain ⟨us,hfv,hcs⟩:=A4B hc;obtain ⟨ys',hV,hargs2,hlent⟩:=T0 hh hargs' (RC.append (Lk hr args.toList) (hcs.mono fun _ _ _ h=>h.to1.to2));obtain ⟨a1,a2,a3,a4⟩:=RC.all1 s1 hargs2;rw[<-hbr] at hV hlent;have hclose:Fn hv 64 (ys'.flatMap Ao) []=some o:=by rw[a2]; exact Ig hh _ _ _ ho
  have hcloseC:EX hv (ys'.flatMap Ao)=some o:=by
   unfold EX;rw[hclose];simp only;rw[if_pos (by rw[a2]; exact UV hh ho)]
  simp only[JQ,hfv,hV,hcloseC,hlent]
 ·rename_i t n Ap
  split at h
  ·rename_i hc;cases h
   simp only[JQ]
   congr 1
   refine Vl fun p hp=>?_
   exact (IS (za5.1 hc p hp) (Bd hr p.2)).2.2.1
  ·cases h
 ·cases h
theorem Bi9 {hp:THp} {hv:Hp} {tm:TTm} {m:Tm} {all:List Oper} {i:Nat} (hE:MB R cf X) (hh:RH hp hv) (hr:RT hp tm m) (h:A6t X all tm hp i=true):JF cf all m hv i=true:=by
 unfold A6t at h;unfold JF;cases ha:all[i]? with
 | none=>rw[ha] at h; cases h
 | some a =>
  rw[ha] at h;simp only[za2] at h ⊢
  refine ⟨h.1,?_⟩
  replace h:=h.2
  cases ht:Us X a.op tm hp with
  | none=>rw[ht] at h; cases h
  | some ids =>
   rw[ht] at h;rw[AX6 hE hh hr ht];simp only at h ⊢
   refine za5.2 fun j hj=>?_
   have h4:=za5.1 h j hj;cases ho:all[j]? with
   | none=>simp
   | some o =>
    rw[ho] at h4;simp only[Bool.or_eq_true,za2] at h4 ⊢
    rcases h4 with h4 | h4 | ⟨h4,h5,h6⟩
    ·exact .inl h4
    ·exact .inr (.inl h4)
    ·exact .inr (.inr ⟨h4,by rw[A77 hr h5]; exact h6⟩)
theorem Br2 {hp:THp} {hv:Hp} {tm:TTm} {m:Tm} {all:List Oper} {i:Nat} (hE:MB R cf X) (hh:RH hp hv) (hr:RT hp tm m) (h:(eOK all i || A6t X all tm hp i)=true):(eOK all i || JF cf all m hv i)=true:=by
 simp only[Bool.or_eq_true] at h ⊢
 exact h.imp (fun h=>h) (Bi9 hE hh hr)
theorem A8d {α:Type} {draw ok ok':Bool} {cls:Cls} {A:Option α} {z : α} (hok:ok=true->ok'=true) (h:AQ2 draw ok cls A=some z):A=some z/\∀ B:Prop,B->drawn draw ok' cls B:=by
 cases draw <;> cases cls <;> first | exact ⟨h,fun B hb=>hb⟩ | (obtain ⟨h1,h2⟩:=Dh h; exact ⟨h2,fun B hb=>⟨hok h1,hb⟩⟩)
theorem Ad7 {α:Type} {all:List Oper} {draw:Bool} (hX:XOK P X) (hE:MB R cf X):∀ (l:List Oper) (i:Nat) {st:TSt} {s:St} {K:TSt->Option α} {z : α},RS st s->UR X all draw l i st K=some z ->
  ∃ st' s',K st'=some z/\RS st' s'/\st'.c=st.c/\∀ KV:St->Prop,KV s'->CB P R cf all draw l i s KV
 | [],i,st,s,K,z,hs,h=>⟨st,s,h,hs,rfl,fun KV hk=>hk⟩
 | o::l,i,st,s,K,z,hs,h=>by
  have go:∀ (tm:TTm),RT st.hp tm s.tm->(A7V X draw o.op (16*(st.c + i)) tm st.hp fun x hp cls=>AQ2 draw (eOK all i || A6t X all tm st.hp i) cls (UR X all draw l (i + 1) { tm:=Sm tm o.dst x,hp:=hp,c:=st.c } K))=some z ->
    ∃ st' s',K st'=some z/\RS st' s'/\st'.c=st.c/\∀ KV:St->Prop,KV s'->H0 P R cf draw o.op (16*(s.c + i)) (AR s.tm) s.hp fun x hp cls=>drawn draw (eOK all i || JF cf all s.tm s.hp i) cls (CB P R cf all draw l (i + 1) { tm:=put s.tm o.dst x,hp:=hp,c:=s.c } KV):=by
   intro tm hr h;obtain ⟨x,hp',cls,y,hv',h1,h2,h3,h4,h5⟩:=Bi4 (R:=R) (cf:=cf) hX hE hs.hp hr h;obtain ⟨h6,h7⟩:=A8d (Br2 hE hs.hp hr) h1;obtain ⟨st',s',q1,q2,q3,q4⟩:=Ad7 hX hE l (i + 1) (st:={ tm:=Sm tm o.dst x,hp:=hp',c:=st.c }) (s:={ tm:=put s.tm o.dst y,hp:=hv',c:=s.c }) ⟨A5t h4 h2 o.dst,h3,hs.c⟩ h6;exact ⟨st',s',q1,q2,q3,fun KV hk=>by rw[hs.c]; exact h5 _ (by have:=h7 _ (q4 KV hk); rw[hs.c] at this; exact this)⟩
  have no:∀ (tm:TTm),RT st.hp tm s.tm->UR X all draw l (i + 1) { tm:=Sm tm o.dst (.tup []),hp:=st.hp,c:=st.c } K=some z ->
    ∃ st' s',K st'=some z/\RS st' s'/\st'.c=st.c/\∀ KV:St->Prop,KV s'->CB P R cf all draw l (i + 1) { tm:=put s.tm o.dst (.tup []),hp:=s.hp,c:=s.c } KV:=by
   intro tm hr h;exact Ad7 hX hE l (i + 1) (st:={ tm:=Sm tm o.dst (.tup []),hp:=st.hp,c:=st.c }) (s:={ tm:=put s.tm o.dst (.tup []),hp:=s.hp,c:=s.c }) ⟨A5t (x:=.tup []) (y:=.tup []) hr ⟨[],rfl,trivial⟩ o.dst,hs.hp,hs.c⟩ h
  simp only[UR] at h;cases hg:o.guard with
  | none =>
   rw[hg] at h;obtain ⟨st',s',q1,q2,q3,q4⟩:=go st.tm hs.tm h;exact ⟨st',s',q1,q2,q3,fun KV hk=>by unfold CB; rw[hg]; exact q4 KV hk⟩
  | some jw =>
   obtain ⟨j,want⟩:=jw;rw[hg] at h;simp only at h;cases hd:(all[j]?).bind (·.dst) with
   | none=>rw[hd] at h; cases h
   | some d =>
    rw[hd] at h;simp only at h;have htd:=hs.tm d;have fin:∀ w:Bool,XA (s.tm d) want=some w->(∃ st' s',K st'=some z/\RS st' s'/\st'.c=st.c/\∀ KV:St->Prop,KV s'->(if w=true then H0 P R cf draw o.op (16*(s.c + i)) (AR s.tm) s.hp fun x hp cls=>drawn draw (eOK all i || JF cf all s.tm s.hp i) cls (CB P R cf all draw l (i + 1) { tm:=put s.tm o.dst x,hp:=hp,c:=s.c } KV) else CB P R cf all draw l (i + 1) { tm:=put s.tm o.dst (.tup []),hp:=s.hp,c:=s.c } KV)) ->
      ∃ st' s',K st'=some z/\RS st' s'/\st'.c=st.c/\∀ KV:St->Prop,KV s'->CB P R cf all draw (o::l) i s KV:=by
     intro w hw ⟨st',s',q1,q2,q3,q4⟩;refine ⟨st',s',q1,q2,q3,fun KV hk=>?_⟩
     unfold CB;rw[hg];simp only[hd,zd9,Au,hw];exact q4 KV hk
    have same:∀ t:Bool,s.tm d = .v (.bool t)->RT st.hp ((d,.bool t)::st.tm) s.tm:=by
     intro t ht t';rw[GV]
     split
     ·rename_i he; rw[he,ht]; rfl
     ·exact hs.tm t'
    split at h
    ·rename_i t hv;rw[hv] at htd;have htd:=RA htd;cases want with
     | true =>
      simp only at h;cases t with
      | true =>
       obtain ⟨st',s',q1,q2,q3,q4⟩:=go _ (same true htd) h;exact fin true (by rw[htd]; rfl) ⟨st',s',q1,q2,q3,fun KV hk=>by rw[if_pos rfl]; exact q4 KV hk⟩
      | false =>
       obtain ⟨st',s',q1,q2,q3,q4⟩:=no _ (same false htd) h;exact fin false (by rw[htd]; rfl) ⟨st',s',q1,q2,q3,fun KV hk=>by rw[if_neg (by simp)]; exact q4 KV hk⟩
     | false =>
      simp only at h;cases t with
      | true =>
       obtain ⟨st',s',q1,q2,q3,q4⟩:=no _ (same true htd) h;exact fin false (by rw[htd]; rfl) ⟨st',s',q1,q2,q3,fun KV hk=>by rw[if_neg (by simp)]; exact q4 KV hk⟩
      | false =>
       obtain ⟨st',s',q1,q2,q3,q4⟩:=go _ (same false htd) h;exact fin true (by rw[htd]; rfl) ⟨st',s',q1,q2,q3,fun KV hk=>by rw[if_pos rfl]; exact q4 KV hk⟩
    ·rename_i hv;rw[hv] at htd;obtain ⟨us,hus,hc⟩:=(show ∃ us,s.tm d = .tup us/\RC (RV1 st.hp) [] us from htd);cases us with
     | cons a l=>exact hc.elim
     | nil =>
      obtain ⟨st',s',q1,q2,q3,q4⟩:=no _ hs.tm h;exact fin false (by rw[hus]; rfl) ⟨st',s',q1,q2,q3,fun KV hk=>by rw[if_neg (by simp)]; exact q4 KV hk⟩
    ·cases h
structure CfOK (cf:Cfg) (g:FuncId) (X:TX):Prop where
 live:∀ r an,Nj X.ann.heads r=some an->cf.live g r=Jf an
 out:∀ r outs ex an,Nj X.ann.outs r=some outs->A2u outs ex=some an->cf.out g r ex=Jf an
 join:∀ r an,Nj X.ann.joins r=some an->cf.join g r=some (Jf an)
 nojoin:∀ r,Nj X.ann.joins r=none->cf.join g r=none
 res:cf.res g=(Jf X.ann.res).map (·.2)
 par:cf.par g=Jf X.ann.params
 rts:cf.rts g=GB (At9 (DQ X.ann.res) X.ann.e 0 (DQ X.ann.res))
theorem AA3 {a b:Ex} (h:AP3 a b=true):a=b:=by
 cases a <;> cases b <;> simp[AP3] at h
 ·rfl
 ·rw[h]
 ·rfl
theorem A4X {α:Type} {e:Nat} {Q:A9S α} {ex:Ex} {st:TSt} {z : α}:∀ {l:List (Ex×List Item)} {d:Bc0 l},A3n e l ex st=some d->A9u Q l d=some z->∃ an dd,A2u l ex=some an/\HV e an st=some dd/\Q ex (LX an dd)=some z
 | [],d,h,_=>by cases h
 | [a],d,h,hz=>by
  simp only[A3n] at h;obtain ⟨h1,h2⟩:=Dh h;have:=AA3 h1;subst this;refine ⟨a.2,d,?_,h2,hz⟩
  show cond (AP3 a.1 a.1) (some a.2) _=_;rw[h1]; rfl
 | a::b::l,d,h,hz=>by
  simp only[A3n] at h;cases hc:AP3 a.1 ex with
  | true =>
   rw[hc] at h;simp only[cond_true,zb6] at h;obtain ⟨dd,h1,rfl⟩:=h;have:=AA3 hc;subst this;refine ⟨a.2,dd,?_,h1,hz⟩
   show cond (AP3 a.1 a.1) (some a.2) _=_;rw[hc]; rfl
  | false =>
   rw[hc] at h;simp only[cond_false,zb6] at h;obtain ⟨dd,h1,rfl⟩:=h;obtain ⟨an,d2,q1,q2,q3⟩:=A4X (l:=b::l) h1 hz;refine ⟨an,d2,?_,q2,q3⟩
   show cond (AP3 a.1 ex) (some a.2) (A2u (b::l) ex)=_;rw[hc]; exact q1
theorem FP (hX:XOK P X) (hE:MB R cf X) (hcf:CfOK cf g X):∀ (c:Code) {α:Type} {st:TSt} {s:St} {Q:A9S α} {z : α},RS st s->wtC X c st Q=some z ->
  ∃ ex st' s',Q ex st'=some z/\RS st' s'/\∀ QV:ID,QV ex s'->we P R cf g X.e c s QV
 | .skip,α,st,s,Q,z,hs,h=>⟨.normal,st,s,h,hs,fun QV hq=>hq⟩
 | .exit id,α,st,s,Q,z,hs,h=>⟨.exit id,st,s,h,hs,fun QV hq=>hq⟩
 | .ret,α,st,s,Q,z,hs,h=>⟨.ret,st,s,h,hs,fun QV hq=>hq⟩
 | .region id ops draw,α,st,s,Q,z,hs,h=>by
  obtain ⟨st',s',h1,h2,h3,h4⟩:=Ad7 (R:=R) (cf:=cf) hX hE _ 0 hs h;refine ⟨.normal,_,{ s' with c:=s'.c + ops.size },h1,⟨h2.tm,h2.hp,by show s'.c + _=st'.c + _; rw[h2.c]⟩,fun QV hq=>?_⟩
  unfold we;exact h4 _ hq
 | .seq a b,α,st,s,Q,z,hs,h=>by
  unfold wtC at h;cases hj:Nj X.ann.joins (rid b) with
  | none =>
   rw[hj] at h;simp only at h;obtain ⟨ex,st1,s1,h1,h2,h3⟩:=FP hX hE hcf a hs h;cases ex with
   | normal =>
    obtain ⟨ex,st2,s2,q1,q2,q3⟩:=FP hX hE hcf b h2 h1;exact ⟨ex,st2,s2,q1,q2,fun QV hq=>by unfold we; exact h3 _ (by show AN6 _ _ _ _; rw[hcf.nojoin _ hj]; exact q3 QV hq)⟩
   | exit id=>exact ⟨.exit id,st1,s1,h1,h2,fun QV hq=>by unfold we; exact h3 _ hq⟩
   | ret=>exact ⟨.ret,st1,s1,h1,h2,fun QV hq=>by unfold we; exact h3 _ hq⟩
  | some an =>
   rw[hj] at h;simp only at h;obtain ⟨w,hw,hz⟩:=Bt h;obtain ⟨ex,st1,s1,h1,h2,h3⟩:=FP hX hE hcf a hs hw;have other:∀ ex',ex'≠.normal->ex=ex'->(Q ex' st1).map Sum.inl=some w->∃ ex st' s',Q ex st'=some z/\RS st' s'/\∀ QV:ID,QV ex s'->we P R cf g X.e (a.seq b) s QV:=by
    intro ex' hne he h1;subst he;simp only[zb6] at h1;obtain ⟨r,hr,rfl⟩:=h1;simp only[Sum.elim_inl,Option.some.injEq] at hz;subst hz;refine ⟨ex,st1,s1,hr,h2,fun QV hq=>?_⟩
    unfold we;refine h3 _ ?_
    cases ex with
    | normal=>exact absurd rfl hne
    | exit id=>exact hq
    | ret=>exact hq
   cases ex with
   | normal =>
    simp only[zb6] at h1;obtain ⟨d,hd,rfl⟩:=h1;simp only[za8] at hz;obtain ⟨s2,c1,c2⟩:=MT h2 hd;obtain ⟨ex,st3,s3,q1,q2,q3⟩:=FP hX hE hcf b c2 hz;exact ⟨ex,st3,s3,q1,q2,fun QV hq=>by unfold we; exact h3 _ (by show AN6 _ _ _ _; rw[hcf.join _ _ hj]; exact c1 _ (q3 QV hq))⟩
   | exit id=>exact other (.exit id) (by simp) rfl h1
   | ret=>exact other .ret (by simp) rfl h1
 | .cond c x y,α,st,s,Q,z,hs,h=>by
  unfold wtC at h;have hc:=Bd hs.tm c
  split at h
  ·rename_i t ht;rw[ht] at hc;have hc:=RA hc;cases t with
   | true =>
    obtain ⟨ex,st1,s1,h1,h2,h3⟩:=FP hX hE hcf x hs h;exact ⟨ex,st1,s1,h1,h2,fun QV hq=>by unfold we; rw[hc]; exact h3 QV hq⟩
   | false =>
    obtain ⟨ex,st1,s1,h1,h2,h3⟩:=FP hX hE hcf y hs h;exact ⟨ex,st1,s1,h1,h2,fun QV hq=>by unfold we; rw[hc]; exact h3 QV hq⟩
  ·cases h
 | .block id c,α,st,s,Q,z,hs,h=>by
  unfold wtC at h;obtain ⟨ex,st1,s1,h1,h2,h3⟩:=FP hX hE hcf c hs h;cases ex with
  | normal=>exact ⟨.normal,st1,s1,h1,h2,fun QV hq=>by unfold we; exact h3 _ hq⟩
  | ret=>exact ⟨.ret,st1,s1,h1,h2,fun QV hq=>by unfold we; exact h3 _ hq⟩
  | exit j =>
   simp only at h1;cases hj:Nat.beq j id with
   | true =>
    rw[hj] at h1;have hji:=za6 hj;exact ⟨.normal,st1,s1,h1,h2,fun QV hq=>by unfold we; exact h3 _ (by show (if j=id then _ else _); rw[if_pos hji]; exact hq)⟩
   | false =>
    rw[hj] at h1;have hji:j≠id:=fun he=>by subst he; rw[Nat.beq_refl] at hj; cases hj
    exact ⟨.exit j,st1,s1,h1,h2,fun QV hq=>by unfold we; exact h3 _ (by show (if j=id then _ else _); rw[if_neg hji]; exact hq)⟩
 | .loop c,α,st,s,Q,z,hs,h=>by
  unfold wtC at h
  split at h
  ·rename_i an outs ha ho;obtain ⟨d0,hd0,h⟩:=Bt h;obtain ⟨w,hw,hz⟩:=Bt h;obtain ⟨n,hn⟩:=Np hw;obtain ⟨s0,c1,c2⟩:=MT hs hd0;have key:∀ (n:Nat) (d:Dp an) (s0:St),H5 (fun d=>wtC X c (LX an d) fun ex s=>match ex with | .normal=>(HV X.e an s).map .inl | ex=>(A3n X.e outs ex s).map .inr) n d=some w->RS (LX an d) s0 ->
     ∃ ex st' s',Q ex st'=some z/\RS st' s'/\∀ QV:ID,QV ex s'->Ae9 P R cf g X.e c s0 QV:=by
    intro n
    induction n with
    | zero=>intro d s0 h _; cases h
    | succ n ih =>
     intro d s0 h hs0;simp only[H5] at h;obtain ⟨o,hb,h⟩:=Bt h;obtain ⟨ex,st1,s1,h1,h2,h3⟩:=FP hX hE hcf c hs0 hb;have other:∀ ex',ex'≠.normal->ex=ex'->(A3n X.e outs ex' st1).map Sum.inr=some o->∃ ex st' s',Q ex st'=some z/\RS st' s'/\∀ QV:ID,QV ex s'->Ae9 P R cf g X.e c s0 QV:=by
      intro ex' hne he h1;subst he;simp only[zb6] at h1;obtain ⟨w',hw',rfl⟩:=h1;simp only[za8,Option.some.injEq] at h;subst h;obtain ⟨an2,dd,q1,q2,q3⟩:=A4X hw' hz;obtain ⟨s2,e1,e2⟩:=MT h2 q2;refine ⟨ex,_,s2,q3,e2,fun QV hq=>?_⟩
      rw[Aq6];refine h3 _ ?_
      cases ex with
      | normal=>exact absurd rfl hne
      | exit id=>show Fi _ _ _ _; rw[hcf.out _ _ _ _ ho q1]; exact e1 _ hq
      | ret=>show Fi _ _ _ _; rw[hcf.out _ _ _ _ ho q1]; exact e1 _ hq
     cases ex with
     | normal =>
      simp only[zb6] at h1;obtain ⟨d',hd',rfl⟩:=h1;simp only[Sum.elim_inl] at h;obtain ⟨s2,e1,e2⟩:=MT h2 hd';obtain ⟨ex,st3,s3,q1,q2,q3⟩:=ih d' s2 h e2;refine ⟨ex,st3,s3,q1,q2,fun QV hq=>?_⟩
      rw[Aq6];refine h3 _ ?_
      show Fi _ _ _ _;rw[hcf.live _ _ ha];exact e1 _ (q3 QV hq)
     | exit id=>exact other (.exit id) (by simp) rfl h1
     | ret=>exact other .ret (by simp) rfl h1
   obtain ⟨ex,st',s',q1,q2,q3⟩:=key n d0 s0 hn c2;exact ⟨ex,st',s',q1,q2,fun QV hq=>by rw[Be0,hcf.live _ _ ha]; exact c1 _ (q3 QV hq)⟩
  ·cases h
 | .scope c,α,st,s,Q,z,hs,h=>by simp[wtC] at h
 | .label l,α,st,s,Q,z,hs,h=>by simp[wtC] at h
 | .goto l,α,st,s,Q,z,hs,h=>by simp[wtC] at h
 | .rangeFunc ..,α,st,s,Q,z,hs,h=>by simp[wtC] at h
 | .refuse _,α,st,s,Q,z,hs,h=>by simp[wtC] at h
end
end
section
open Go
section
variable {P:Program} {X:TX} {g:FuncId}
structure FnOK (P:Program) (cf:Cfg) (X:TX) (fn:Func) (c:Code):Prop where
 get:P.funcs[X.ann.g]? = some fn
 body:fn.body=some c
 ok:XB fn c (Ir X.ann.params).length=true
 ext:cf.isExt X.ann.g=false
theorem Aa {cf:Cfg} {ext:Rel} {fn:Func} {c:Code} {F:Dp X.ann.params->Option (Dp X.ann.res)} (hX:XOK P X) (hE:MB (Hk P cf ext) cf X) (hcf:CfOK cf X.ann.g X) (hf:FnOK P cf X fn c)
  (hF:∀ x,wtF X fn x=F x):Ai (Hk P cf ext) ⟨X.ann,F⟩:=by
 intro x y args blks st0 hy hs0 hd hid hl he _;have hy:wtF X fn x=some y:=by rw[hF]; exact hy
 unfold wtF at hy;rw[hf.body] at hy;simp only at hy;have he:(args.flatMap Ao).eraseDups.length=X.e:=he;obtain ⟨s0,k1,hs⟩:=MT hs0 hd;obtain ⟨ex,st',s',h1,h2,h3⟩:=FP hX hE hcf c hs hy;have main:∀ ex',ex=ex'->(∀ i,ex'≠.exit i)->(A4b X st'.tm st'.hp fn.results.toList fun xs=>Bf2 X.ann.res X.e st' xs)=some y ->
   ∃ r blks',Hk P cf ext X.ann.g args blks r blks'/\ResRel X.ann.res y r blks':=by
  intro ex' hex hno h1;obtain ⟨r,blks',q1,q2⟩:=A81 (e:=X.e) (res:=X.ann.res) (rs:=fn.results.toList) (y:=y) hX h2 h1;refine ⟨r,blks',Hk.intro hf.ext hf.get hf.body (by rw[hl]; exact hf.ok) hid ?_,q2⟩
  rw[he,hcf.par];refine k1 _ (h3 _ ?_)
  rw[hcf.res,hcf.rts];subst hex;cases ex with
  | exit i=>exact absurd rfl (hno i)
  | normal=>exact q1
  | ret=>exact q1
 cases ex with
 | exit i=>cases h1
 | normal=>exact main .normal rfl (by simp) h1
 | ret=>exact main .ret rfl (by simp) h1
theorem A9x {R:Rel} {cf:Cfg} {X:TX} (h:X.ents = []):MB R cf X:=by
 intro g E hE;rw[h] at hE;cases hE
def A9J (R:Rel) (cf:Cfg):List Ent->Prop
 | []=>True
 | E::l=>(Ai R E/\cf.byref E.a.g=(HX E.a.params).map AO6)/\A9J R cf l
theorem Ab {R:Rel} {cf:Cfg} {X:TX} (h:A9J R cf X.ents):MB R cf X:=by
 intro g E hE;generalize X.ents=l at h hE
 induction l with
 | nil=>cases hE
 | cons a l ih =>
  simp only[AH5] at hE;cases hg:Nat.beq a.a.g g with
  | true =>
   rw[hg] at hE;simp only[cond_true,Option.some.injEq] at hE;subst hE;have:=za6 hg;subst this;exact ⟨h.1.1,rfl,h.1.2⟩
  | false =>
   rw[hg] at hE;exact ih h.2 hE
theorem Al {tab:List FAnn} {ext:FuncId->Bool} {X:TX} (h:VF tab X.ann.g=some X.ann):CfOK (At2 tab ext) X.ann.g X where
 live r an hr:=by simp only[At2,h,za0,hr]
 out r outs ex an hr he:=by simp only[At2,h,za0,hr,he]
 join r an hr:=by simp only[At2,h,za0,hr]
 nojoin r hr:=by simp only[At2,h,za0,hr]
 res:=by simp only[At2,h]
 par:=by simp only[At2,h]
 rts:=by simp only[At2,h]
end
end
section
open Go Go.RowKit
def shT:Sh->Ty
 | .int k=>.int k
 | .str=>.str
 | .bool=>.bool
 | .sl _ e=>.sl (shT e)
 | .pair a b=>.pair (shT a) (shT b)
def WFS:(s:Sh)->(shT s).den->Prop
 | .int k,n=>(Lit.int k n).wf=true
 | .str,s=>s.length<=Ag
 | .bool,_=>True
 | .sl bytes e,l=>(∀ a∈(show List (shT e).den from l),WFS e a)/\(show List (shT e).den from l).length*bytes<=Ag
 | .pair a b,x=>WFS a (show (shT a).den×(shT b).den from x).1/\WFS b (show (shT a).den×(shT b).den from x).2
theorem A5q:∀ {s:Sh} {xs:List V},DV s xs->∃ x,RE (shT s) x xs/\WFS s x
 | .int k,xs,h=>by obtain ⟨n,rfl,hn⟩:=h; exact ⟨n,rfl,hn⟩
 | .str,xs,h=>by obtain ⟨s,rfl,hs⟩:=h; exact ⟨s.data.toList,by simp[RE,shT],by show s.data.toList.length<=Ag; rw[Array.length_toList]; exact hs⟩
 | .bool,xs,h=>by obtain ⟨b,rfl⟩:=h; exact ⟨b,rfl,trivial⟩
 | .sl bytes e,xs,h=>by
  obtain ⟨rows,rfl,hr,hb⟩:=h;have key:∀ rows:List (List V),(∀ r∈rows,DV e r)->∃ l:List (shT e).den,RLx (RE (shT e)) l rows/\∀ a∈l,WFS e a:=by
   intro rows
   induction rows with
   | nil=>intro _; exact ⟨[],RLx.nil,by simp⟩
   | cons r rows ih =>
    intro h;obtain ⟨a,h1,h2⟩:=A5q (h r (by simp));obtain ⟨l,h3,h4⟩:=ih fun r' hr'=>h r' (by simp[hr'])
    refine ⟨a::l,RLx.cons h1 h3,fun b hb=>?_⟩
    rcases zc8.1 hb with rfl | hb
    ·exact h2
    ·exact h4 b hb
  obtain ⟨l,h1,h2⟩:=key rows hr;exact ⟨l,.inr ⟨rows,rfl,h1⟩,h2,by rw[<-h1.1]; exact hb⟩
 | .pair a b,xs,h=>by
  obtain ⟨l,r,rfl,h1,h2⟩:=h;obtain ⟨x,q1,q2⟩:=A5q h1;obtain ⟨y,q3,q4⟩:=A5q h2;exact ⟨(x,y),⟨l,r,rfl,q1,q3⟩,q2,q4⟩
def IC:Sh->AC
 | .int k=>.int k
 | .str=>.str
 | .bool=>.bool
 | .sl _ e=>.im (shT e)
 | .pair _ _=>.bool
def Bg0:Sh->Bool
 | .pair _ _=>false
 | _=>true
def WFC:(s:Sh)->(IC s).den->Prop
 | .int k,n=>WFS (.int k) n
 | .str,s=>WFS .str s
 | .bool,b=>True
 | .sl n e,l=>WFS (.sl n e) l
 | .pair _ _,_=>True
theorem UN {s:Sh} {x:V} (ho:Bg0 s=true) (h:DV s [x]):∃ d:(IC s).den,WFC s d/\∀ hp,RV2 hp (A2n (IC s) d) x:=by
 obtain ⟨d,h1,h2⟩:=A5q h;cases s with
 | int k =>
  have h1:[x] = [V.v (.int k d)]:=h1;cases h1
  exact ⟨d,h2,fun hp=>rfl⟩
 | str =>
  have h1:[x] = [V.v (.string ⟨Array.mk d⟩)]:=h1;cases h1
  exact ⟨d,h2,fun hp=>rfl⟩
 | bool =>
  have h1:[x] = [V.v (.bool d)]:=h1;cases h1
  exact ⟨d,trivial,fun hp=>rfl⟩
 | sl n e =>
  refine ⟨d,h2,fun hp=>?_⟩
  rcases h1 with ⟨e1,e2⟩ | ⟨rows,e2,e3⟩
  ·cases e2; exact .inl ⟨e1,rfl⟩
  ·cases e2; exact .inr ⟨rows,rfl,e3⟩
 | pair a b=>cases ho
def DVs:List Sh->List V->Prop
 | [],[]=>True
 | s::l,x::xs=>DV s [x]/\DVs l xs
 | _,_=>False
theorem DVs.length:∀ {l:List Sh} {xs:List V},DVs l xs->xs.length=l.length
 | [],[],_=>rfl
 | _::l,_::xs,h=>by simp[DVs.length h.2]
 | [],_::_,h=>h.elim
 | _::_,[],h=>h.elim
section
variable {P:Program}
def A48 (P:Program):List TypeId->List Sh->Prop
 | [],[]=>True
 | t::ts,s::l=>Fits P t s/\A48 P ts l
 | _,_=>False
theorem Am8 {H:Type} {enc:TypeId×Value->H} {W W':World} (hl:laidOutB P=true) (hb:Below W.heap.size W W'):∀ {ts:List TypeId} {vs:List Value} {ds:List (DataW H)} {p:List MemPlace},(∀ t∈ts,P.readableRec t=true/\t<P.types.size)->DataW.TrodAll enc P W 0 (fun _=>true) true ts vs ds p ->
  ∃ q,DataW.TrodAll enc P W' 0 (fun b=>decide (b<W.heap.size)) true ts vs ds q
 | [],vs,ds,p,_,h=>by
  obtain ⟨rfl,rfl,rfl⟩:=ChangeShapes.trodAll_nil h;exact ⟨[],ChangeShapes.trodAll_mk0⟩
 | t::ts,vs,ds,p,hr,h=>by
  obtain ⟨v,vs',d,ds',p1,q,rfl,rfl,rfl,h1,h2⟩:=ChangeShapes.trodAll_cons h;obtain ⟨q',h3⟩:=Am8 hl hb (fun t ht=>hr t (by simp[ht])) h2;have hlt:∀ x∈p1,x.block<W.heap.size:=by obtain ⟨m,hm⟩:=h1; exact DataW.trod_lt m _ _ _ hm
  obtain ⟨r1,r2⟩:=hr t (by simp);exact ⟨_,trodAll_cons_mk (Below.trod hl r1 r2 h1 hb hlt) h3⟩
end
end
section
open Go Go.RowKit
section
variable {P:Program} {J:J1}
def Bl7 (P:Program):List (Nat×TyD)->Prop
 | []=>True
 | x::l=>AY P x.1=some x.2/\Bl7 P l
theorem Bn3 {l:List (Nat×TyD)} (h:Bl7 P l):∀ t d,getD l t=some d->AY P t=some d:=by
 intro t d hd
 induction l with
 | nil=>cases hd
 | cons x l ih =>
  obtain ⟨k,y⟩:=x;simp only[getD] at hd;cases hk:Nat.beq t k with
  | true =>
   rw[hk] at hd;simp only[cond_true,Option.some.injEq] at hd;have:=za6 hk;subst this;subst hd;exact h.1
  | false =>
   rw[hk] at hd;exact ih h.2 hd
end
end
section
open Go Go.RowKit
def Ad4:Sh->List Sh
 | .pair a b=>Ad4 a++Ad4 b
 | s=>[s]
def aOf:Sh->AS
 | .pair a b=>.agg ((Ad4 (.pair a b)).map IC)
 | s=>.cell (IC s)
def KQ:Nat->List Sh->List Item
 | _,[]=>[]
 | i,s::l=>.slot i (aOf s)::KQ (i + 1) l
theorem Ap2:∀ (s:Sh),(Ad4 s).all Bg0=true
 | .pair a b=>by simp only[Ad4,List.all_append,Ap2 a,Ap2 b,Bool.and_self]
 | .int _ | .str | .bool | .sl _ _=>rfl
def Bq9:(l:List Sh)->TZ (l.map IC)->Prop
 | [],_=>True
 | s::l,d=>WFC s (hdC (IC s) (l.map IC) d)/\Bq9 l (tlC (IC s) (l.map IC) d)
def WFA:(s:Sh)->(aOf s).den->Prop
 | .pair a b,d=>Bq9 (Ad4 (.pair a b)) d
 | .int k,n=>WFC (.int k) n
 | .str,n=>WFC .str n
 | .bool,n=>WFC .bool n
 | .sl b e,n=>WFC (.sl b e) n
def WFQ:(i:Nat)->(l:List Sh)->Dp (KQ i l)->Prop
 | _,[],_=>True
 | i,s::l,d=>WFA s (hdI (.slot i (aOf s)) (KQ (i + 1) l) d)/\WFQ (i + 1) l (tlI (.slot i (aOf s)) (KQ (i + 1) l) d)
theorem DVs.append:∀ {a b:List Sh} {xs ys:List V},DVs a xs->DVs b ys->DVs (a++b) (xs++ys)
 | [],_,[],_,_,h=>h
 | _::a,_,_::xs,_,h1,h2=>⟨h1.1,DVs.append h1.2 h2⟩
 | [],_,_::_,_,h,_=>h.elim
 | _::_,_,[],_,h,_=>h.elim
theorem AP5:∀ {s:Sh} {xs:List V},DV s xs->DVs (Ad4 s) xs
 | .pair a b,xs,h=>by
  obtain ⟨l,r,rfl,h1,h2⟩:=h;exact (AP5 h1).append (AP5 h2)
 | .int k,xs,h=>by obtain ⟨n,rfl,hn⟩:=h; exact ⟨⟨n,rfl,hn⟩,trivial⟩
 | .str,xs,h=>by obtain ⟨n,rfl,hn⟩:=h; exact ⟨⟨n,rfl,hn⟩,trivial⟩
 | .bool,xs,h=>by obtain ⟨n,rfl⟩:=h; exact ⟨⟨n,rfl⟩,trivial⟩
 | .sl n e,xs,h=>by obtain ⟨rows,rfl,hn⟩:=h; exact ⟨⟨rows,rfl,hn⟩,trivial⟩
theorem A9l {s:Sh} {d:(IC s).den} {hp:THp} {x:V} (h:RV2 hp (A2n (IC s) d) x):RV0 hp (A2n (IC s) d) x:=by
 cases s <;> exact h
theorem AG0:∀ {l:List Sh} {xs:List V},l.all Bg0=true->DVs l xs->∃ d:TZ (l.map IC),Bq9 l d/\∀ hp,RC (RV0 hp) (Ul (l.map IC) d) xs
 | [],[],_,_=>⟨(),trivial,fun hp=>trivial⟩
 | s::l,x::xs,ho,h=>by
  simp only[zd0,za2] at ho;obtain ⟨a,h1,h2⟩:=UN ho.1 h.1;obtain ⟨d,h3,h4⟩:=AG0 ho.2 h.2;refine ⟨AI9 (IC s) (l.map IC) a d,⟨?_,?_⟩,fun hp=>?_⟩
  ·rw[Ad9]; exact h1
  ·rw[Ac0]; exact h3
  ·show RC (RV0 hp) (A2n (IC s) (hdC (IC s) (l.map IC) (AI9 (IC s) (l.map IC) a d))::Ul (l.map IC) (tlC (IC s) (l.map IC) (AI9 (IC s) (l.map IC) a d))) (x::xs);rw[Ad9,Ac0];exact ⟨A9l (h2 hp),h4 hp⟩
 | [],_::_,_,h=>h.elim
 | _::_,[],_,h=>h.elim
def DA:Sh->V->Prop
 | .pair a b,x=>∃ xs,x = .agg xs/\DV (.pair a b) xs
 | s,x=>DV s [x]
def DAs:List Sh->List V->Prop
 | [],[]=>True
 | s::l,x::xs=>DA s x/\DAs l xs
 | _,_=>False
theorem DAs.length:∀ {l:List Sh} {xs:List V},DAs l xs->xs.length=l.length
 | [],[],_=>rfl
 | _::l,_::xs,h=>by simp[DAs.length h.2]
 | [],_::_,h=>h.elim
 | _::_,[],h=>h.elim
theorem Bo1 {s:Sh} {x:V} (h:DA s x):∃ d:(aOf s).den,WFA s d/\∀ hp,RV2 hp (A08 (aOf s) d) x:=by
 cases s with
 | pair a b =>
  obtain ⟨xs,rfl,h⟩:=h;obtain ⟨d,h1,h2⟩:=AG0 (Ap2 (.pair a b)) (AP5 h);exact ⟨d,h1,fun hp=>⟨xs,rfl,h2 hp⟩⟩
 | int k=>exact UN (s:=.int k) rfl h
 | str=>exact UN (s:=.str) rfl h
 | bool=>exact UN (s:=.bool) rfl h
 | sl n e=>exact UN (s:=.sl n e) rfl h
theorem A1h:∀ (l:List Sh) (i:Nat) {xs:List V},DAs l xs->∃ d:Dp (KQ i l),WFQ i l d/\(∀ k,(BK k (KQ i l) d).2 = [])/\∀ k hp,RT hp (BK k (KQ i l) d).1 (lk .any (Zy i xs))
 | [],i,[],_=>⟨(),trivial,fun _=>rfl,fun k hp t=>trivial⟩
 | s::l,i,x::xs,h=>by
  obtain ⟨a,h1,h2⟩:=Bo1 h.1;obtain ⟨d,h3,h4,h5⟩:=A1h l (i + 1) h.2;refine ⟨QJ (.slot i (aOf s)) (KQ (i + 1) l) a d,⟨?_,?_⟩,fun k=>?_,fun k hp=>?_⟩
  ·rw[Z9 (.slot i (aOf s))]; exact h1
  ·rw[VB (.slot i (aOf s))]; exact h3
  ·simp only[KQ,BK];rw[VB (.slot i (aOf s))];exact h4 k
  ·simp only[KQ,BK];rw[VB (.slot i (aOf s)),Z9 (.slot i (aOf s))];intro t;show RV2 hp (CK ((i,A08 (aOf s) a)::_) t) (if t=i then x else lk .any (Zy (i + 1) xs) t);rw[GV]
   split
   ·exact h2 hp
   ·exact h5 k hp t
 | [],_,_::_,h=>h.elim
 | _::_,_,[],h=>h.elim
theorem A0q:∀ (l:List Sh) (i:Nat),(Ir (KQ i l)).length=l.length
 | [],_=>rfl
 | s::l,i=>by simp[KQ,Ir,A0q l (i + 1)]
abbrev TA (w:World) (x:V) (y:Value):Prop:=Rep w (fun b=>b<w.heap.size) x y\/∃ cs us,x = .agg cs/\y = .agg us/\Bc8 w cs us.toList
theorem A4m {w:World} {G:Nat->Prop} {x:V} {y:Value} (h:Rep w G x y):Am x = []:=by cases h <;> rfl
theorem A4i {w:World} {G:Nat->Prop} {x:V} {y:Value} (h:Rep w G x y):Ao x = []:=by cases h <;> rfl
theorem A5l {w:World} {xs:List V} {cs:List Value} (h:VL (TA w) xs cs):xs.flatMap Ao = []:=by
 rw[List.flatMap_eq_nil_iff];intro x hx;obtain ⟨i,hi⟩:=List.getElem?_of_mem hx;obtain ⟨y,_,hr⟩:=h.get i x hi;rcases hr with hr | ⟨cs',us,rfl,_,ht⟩
 ·exact A4i hr
 ·show cs'.flatMap Am = [];rw[List.flatMap_eq_nil_iff];intro z hz;obtain ⟨j,hj⟩:=List.getElem?_of_mem hz;obtain ⟨u,_,hu⟩:=ht.get j z hj;exact A4m hu
theorem Bc6 {w:World} {E:Env} {hp:Hp} {G:Nat->Prop} {x:V} {y:Value} (h:Rep w G x y):VR0 w E hp G x y:=by
 cases h with
 | v _ hs=>exact .v _ hs
 | em a=>exact .em a
 | er0=>exact .er0
 | er1 t x=>exact .er1 t x
 | im0 a cap=>exact .im0 a cap
 | im b off cap size rows f h1 h2 h3 h4 h5 h6 h7=>exact .im b off cap size rows f h1 h2 h3 h4 h5 h6 h7
theorem Bj0 {w:World} {E:Env} {hp:Hp} {G:Nat->Prop} {x:V} {y:Value} (h:Rep w G x y):VR1 w E hp G x y:=by
 cases h with
 | v _ hs=>exact .v _ hs
 | em a=>exact .em a
 | er0=>exact .er0
 | er1 t x=>exact .er1 t x
 | im0 a cap=>exact .im0 a cap
 | im b off cap size rows f h1 h2 h3 h4 h5 h6 h7=>exact .im b off cap size rows f h1 h2 h3 h4 h5 h6 h7
section
variable {P:Program} {J:J1}
theorem A23 {w:World} {cf:Cfg} {ext:Rel} (hm:P.follows .mixedOrders=true) (hext:∀ g args blks r blks',ext g args blks r blks'->CSpec P J g args blks r blks') (hJ:∀ x∈J,w.heap[x.1]? = some x.2) {g:FuncId} {xs:List V} {vals:Array Value}
  (hv:VL (TA w) xs vals.toList) (h:Hk P cf ext g xs [] (.v (.bool true)) []):Calls P g vals w fun e w'=>e = .returned (.bool true)/\Below w.heap.size w w':=by
 obtain ⟨k,h⟩:=h;have hs:=RI hm hext k g xs [] _ [] h;have hno:∀ E b,¬Own E (lkB []) b:=fun E b ⟨id,k,hk,_⟩=>by simp[lkB] at hk
 have hI:HpInv w (Own ⟨fun _=>none,fun _ _=>False⟩ (lkB [])) (fun b=>b<w.heap.size) ⟨fun _=>none,fun _ _=>False⟩ (fun b=>b<w.heap.size) (lkB []) w :=
  ⟨Fr.refl _ w,fun b hb=>⟨hb,.inl hb⟩,fun b _=>hno _ b,fun b h=>absurd h (hno _ b),fun id k id' k' hk=>by simp[lkB] at hk,fun id k b hk=>by simp[lkB] at hk,fun id k hk=>by simp[lkB] at hk⟩
 have hids:KJ xs []=true:=by unfold KJ; rw[A5l hv]; rfl
 refine (hs.calls hids w _ _ vals (fun x hx=>⟨hJ x hx,hno _ _⟩) hI (hv.mono fun x _ y hx=>by
  rcases hx with hx | ⟨cs,us,rfl,rfl,ht⟩
  ·exact Bj0 hx
  ·exact ⟨us,rfl,ht.mono fun z _ u hz=>Bc6 hz⟩)).mono ?_
 rintro e w' ⟨y,E',G',rfl,hI',hy,_⟩;have hyt:y = .bool true:=(HP hy).1;subst hyt;exact ⟨rfl,hI'.fr.os,hI'.fr.tape,hI'.fr.output,hI'.fr.size,fun b hb=>hI'.fr.block b hb (hno _ b)⟩
theorem Ag9 {H:Type} {enc:TypeId×Value->H} {W:World}:∀ {ts:List TypeId} {l:List Sh} {vs:List Value} {ds:List (DataW H)} {p:List MemPlace},A48 P ts l->DataW.TrodAll enc P W 0 (fun _=>true) true ts vs ds p ->
  (∀ (j:Nat) t v,ts[j]? = some t->vs[j]? = some v->∃ base,Value.okWide P W .any base t v)->(∀ n∈DataW.weightsEach P ts ds,n<=reachBytes)->∃ xs,DAs l xs/\VL (TA W) xs vs
 | [],[],vs,ds,p,_,h,_,_=>by
  obtain ⟨rfl,rfl,rfl⟩:=ChangeShapes.trodAll_nil h;exact ⟨[],trivial,trivial⟩
 | t::ts,s::l,vs,ds,p,hf,h,hv,hw=>by
  obtain ⟨v,vs',d,ds',p1,q,rfl,rfl,rfl,⟨fuel,h1⟩,h2⟩:=ChangeShapes.trodAll_cons h;obtain ⟨xs,q1,q2,q3⟩:=R6 fuel t s _ _ hf.1 h1 fun n hn=>hw n (by simp[DataW.weightsEach,hn])
  obtain ⟨ys,q4,q5⟩:=Ag9 hf.2 h2 (fun j t v h1 h2=>hv (j + 1) t v (by simpa using h1) (by simpa using h2)) fun n hn=>hw n (by simp[DataW.weightsEach,hn])
  obtain ⟨base,hok⟩:=hv 0 t v rfl rfl;by_cases hone:Bg0 s=true
  ·have hs1:s.size=1:=by cases s <;> first | rfl | (cases hone)
   obtain ⟨x,rfl⟩:=List.length_eq_one_iff.1 (by rw[q2,hs1]);have hc:v.cells.toList = [v]:=by
    cases hf.1 with
    | int ht=>simp only[Value.okWide,ht,Cell.okWide] at hok; cases v <;> simp_all [Cell.ok,Value.cells]
    | str ht=>simp only[Value.okWide,ht,Cell.okWide] at hok; cases v <;> simp_all [Cell.ok,Value.cells]
    | bool ht=>simp only[Value.okWide,ht,Cell.okWide] at hok; cases v <;> simp_all [Cell.ok,Value.cells]
    | sl ht=>obtain ⟨a,n,c,rfl⟩:=WideShapes.okWide_slice ht hok; rfl
    | st=>cases hone
   rw[hc] at q3;refine ⟨x::ys,⟨?_,q4⟩,.inl q3.1,q5⟩
   cases s <;> first | exact q1 | (cases hone)
  ·cases s with
   | pair a b =>
    cases hf.1 with
    | st ht hce hfs =>
     obtain ⟨us,rfl,_⟩:=WideShapes.okWide_struct ht hok;exact ⟨.agg xs::ys,⟨⟨xs,rfl,q1⟩,q4⟩,.inr ⟨xs,us,rfl,rfl,q3⟩,q5⟩
   | _=>exact absurd rfl hone
 | [],_::_,_,_,_,h,_,_,_=>h.elim
 | _::_,[],_,_,_,h,_,_,_=>h.elim
theorem A64 {cf:Cfg} {ext:Rel} {g:FuncId} {shs:List Sh} {heads joins:List (Nat×List Item)} {outs:List (Nat×List (Ex×List Item))} {F:Dp (KQ 0 shs)->Option Bool}
  (hm:P.follows .mixedOrders=true) (hext:∀ g args blks r blks',ext g args blks r blks'->CSpec P J g args blks r blks')
  (hE:Ai (Hk P cf ext) ⟨⟨g,0,KQ 0 shs,[.slot 0 (.cell .bool)],heads,outs,joins⟩,F⟩) (hD:∀ d,HV 0 (KQ 0 shs) (LX (KQ 0 shs) d)=some d) (hF:∀ d,WFQ 0 shs d->F d=some true)
  {w:World} (hJ:∀ x∈J,w.heap[x.1]? = some x.2) {xs:List V} {vals:Array Value} (hx:DAs shs xs) (hv:VL (TA w) xs vals.toList):Calls P g vals w fun e w'=>e = .returned (.bool true)/\Below w.heap.size w w':=by
 obtain ⟨d,h1,h2,h3⟩:=A1h shs 0 hx;have hrefs:=A5l hv;obtain ⟨r,blks',q1,q2⟩:=hE d true xs [] (LX (KQ 0 shs) d) (hF d h1) ⟨h3 0 _,(fun id b hb=>by
  rw[show (LX (KQ 0 shs) d).hp=(BK 0 (KQ 0 shs) d).2 from rfl,h2] at hb;exact absurd hb (by simp[AQ])),rfl⟩ (hD d) (by unfold KJ; rw[hrefs]; rfl) (by rw[hx.length]; exact (A0q shs 0).symm) (by rw[hrefs]; rfl) (fun _=>rfl)
 have hr:r = .v (.bool true):=q2.val;have hb:blks' = []:=zb4 q2.len;subst hr;subst hb;exact A23 hm hext hJ hv q1
theorem Ax8 {H:Type} {enc:TypeId×Value->H} {cf:Cfg} {ext:Rel} {g:FuncId} {shs:List Sh} {heads joins:List (Nat×List Item)} {outs:List (Nat×List (Ex×List Item))} {F:Dp (KQ 0 shs)->Option Bool} {fn:Func} {s:ChangeSpec} {ts:List TypeId} {rt:TypeId}
  (hm:P.follows .mixedOrders=true) (hext:∀ g args blks r blks',ext g args blks r blks'->CSpec P J g args blks r blks')
  (hE:Ai (Hk P cf ext) ⟨⟨g,0,KQ 0 shs,[.slot 0 (.cell .bool)],heads,outs,joins⟩,F⟩) (hD:∀ d,HV 0 (KQ 0 shs) (LX (KQ 0 shs) d)=some d) (hF:∀ d,WFQ 0 shs d->F d=some true)
  (hp:fn.params.toList=ts) (hr:fn.resultTypes.toList = [rt]) (hrt:P.underlying rt=some .bool) (hf:A48 P ts shs) (hl:laidOutB P=true) (hread:∀ t∈ts,P.readableRec t=true/\t<P.types.size) (hvars:s.vars = [])
  (hs:∀ ds:List (DataW H),ds.length=ts.length->s.fn H (ds ++ []) = { results:=[.lit (.bool true)],args:=ds,vars:=[] })
  {W:World} (hJ:∀ x∈J,W.heap[x.1]? = some x.2) {base:Nat} {args:Array Value} {ds gs:List (DataW H)} {before:List MemPlace}
  (hval:∀ (j:Nat) t v,fn.params[j]? = some t->args[j]? = some v->Value.okWide P W .any base t v) (hW:DataW.Whole enc P fn.params.toList s.vars false W args.toList ds gs before)
  (hsz:(DataW.weightsEach P (fn.params.toList++s.plain.varTypes P) (ds++gs)).all (· <= reachBytes)=true) :
  Calls P g args W fun e W'=>∃ v,e = .returned v/\s.post enc P fn false true false false W args v W':=by
 have hW':=hW;obtain ⟨p,q,hA,hV,rfl,hfz,hnd⟩:=hW;rw[hvars] at hV;obtain ⟨rfl,rfl⟩:=ChangeShapes.trodVars_none hV;rw[hp] at hA;have hlen:∀ {ts:List TypeId} {vs:List Value} {ds:List (DataW H)} {p:List MemPlace},DataW.TrodAll enc P W 0 (fun _=>true) true ts vs ds p->ds.length=ts.length:=by
  intro ts
  induction ts with
  | nil=>intro vs ds p h; obtain ⟨_,rfl,_⟩:=ChangeShapes.trodAll_nil h; rfl
  | cons t ts ih=>intro vs ds p h; obtain ⟨v,vs',d,ds',p1,q,rfl,rfl,rfl,h1,h2⟩:=ChangeShapes.trodAll_cons h; simp[ih h2]
 have hdl:=hlen hA;have hwt:∀ n∈DataW.weightsEach P ts ds,n<=reachBytes:=by
  intro n hn;have hmem:∀ (a b:List TypeId) (c d:List (DataW H)),∀ n∈DataW.weightsEach P a c,c.length=a.length->n∈DataW.weightsEach P (a++b) (c++d):=by
   intro a
   induction a with
   | nil=>intro b c d n hn hl; cases c <;> simp[DataW.weightsEach] at hn hl
   | cons t a ih =>
    intro b c d n hn hl;cases c with
    | nil=>simp[DataW.weightsEach] at hn
    | cons x c =>
     simp only[DataW.weightsEach,zb3,List.cons_append] at hn ⊢
     rcases hn with hn | hn
     ·exact .inl hn
     ·exact .inr (ih b c d n hn (by simpa using hl))
  rw[hp] at hsz;have:=za5.1 hsz n (hmem ts _ ds _ n hn hdl);simpa using this
 obtain ⟨xs,h1,h2⟩:=Ag9 hf hA (fun j t v h1 h2=>⟨base,hval j t v (by rw[<-hp] at h1; simpa using h1) (by simpa using h2)⟩) hwt;refine (A64 hm hext hE hD hF hJ h1 h2).mono fun e W' ⟨he,bel⟩=>?_
 subst he;obtain ⟨q',hq⟩:=Am8 hl bel hread hA;refine ⟨_,rfl,ds,[],_,[],q',[],hW',?_,?_,?_,bel.frame _,fun h=>by cases h⟩
 ·rw[hs ds hdl,hr];have:((Value.bool true).resultList fn.resultTypes.size) = [.bool true]:=by
   have:fn.resultTypes.size=1:=by rw[<-Array.length_toList,hr]; rfl
   rw[this]; rfl
  rw[this];exact ChangeShapes.trodAll_mk1 (shut_bool hrt true)
 ·rw[hs ds hdl,hp];exact hq
 ·rw[hs ds hdl,hvars];rfl
end
end
section
open Go
theorem Aj {n:Int} (h1 : -9223372036854775808<=n) (h2:n<=9223372036854775807):IntKind.wrap .i64 n=n:=by rw[IntKind.wrap_i64]; omega
section
variable {σ τ ρ ρ':Type} {f : σ->Option (σ ⊕ ρ)} {g : τ->Option (τ ⊕ ρ')}
theorem AX {s s' : σ} (h:f s=some (.inl s')):Ah f s=Ah f s':=by rw[AZ9,h]; rfl
theorem Aq {s : σ} {r : ρ} (h:f s=some (.inr r)):Ah f s=some r:=by rw[AZ9,h]; rfl
theorem Hm {I : σ->Prop} {R : ρ->Prop} (m : σ->Nat) (h:∀ s,I s->(∃ s',f s=some (.inl s')/\I s'/\m s'<m s)\/∃ r,f s=some (.inr r)/\R r):∀ s,I s->∃ r,Ah f s=some r/\R r:=by
 have:∀ n s,m s<n->I s->∃ r,Ah f s=some r/\R r:=by
  intro n
  induction n with
  | zero=>intro s h; omega
  | succ n ih =>
   intro s hn hs;rcases h s hs with ⟨s',h1,h2,h3⟩ | ⟨r,h1,h2⟩
   ·obtain ⟨r,h4,h5⟩:=ih s' (by omega) h2;exact ⟨r,by rw[AX h1,h4],h5⟩
   ·exact ⟨r,Aq h1,h2⟩
 exact fun s hs=>this (m s + 1) s (by omega) hs
end
section
variable {α β γ:Type}
theorem An (l:List α) (i:Nat):AP l (i:Int)=l[i]? := by
 unfold AP;rw[if_pos (by omega)];simp
theorem A0 {i n:Nat} (h:i<n):A2 (i:Int) n=some i:=by
 unfold A2;rw[if_pos (by omega)];simp
theorem Jn {n b s:Nat} (h1:n*b<=Ag) (h2:n*s<=Ag):Sa (n:Int) b s=some n:=by
 unfold Sa;rw[if_pos (by simp; omega)];simp
def A0A (E : α->α->Option Bool):List α×List α×Int->Option ((List α×List α×Int) ⊕ (Unit ⊕ Bool)):=fun s=>bif decide (s.2.2<((s.1.length:Nat):Int)) then (AP s.1 s.2.2).bind fun x0=>(AP s.2.1 s.2.2).bind fun x1=>(E x0 x1).bind fun x2=>bif (!x2) then some (.inr (.inr false)) else some (Sum.inl (s.1,s.2.1,IntKind.wrap .i64 (s.2.2 + 1))) else some (.inr (.inl ()))
theorem A7u {E : α->α->Option Bool} {l m:List α} (hl:l.length<4611686018427387904) (hlm:m.length=l.length) (hE:∀ a∈l,∀ b∈m,∃ t:Bool,E a b=some t/\(t=true↔a=b)) :
  ∃ r:Unit ⊕ Bool,Ah (A0A E) (l,m,0)=some r /\
   (l=m->r = .inl ())/\(l≠m->r = .inr false):=by
 refine Hm (f:=A0A E)
  (I:=fun s=>∃ k:Nat,s=(l,m,(k:Int))/\k<=l.length/\∀ j:Nat,j<k->l[j]? = m[j]?) (fun s=>(((s.1.length:Nat):Int)-s.2.2).toNat) ?_ (l,m,0) ⟨0,rfl,by omega,fun j hj=>by omega⟩
 rintro s ⟨k,rfl,hk,hj⟩;by_cases hlt:k<l.length
 ·have e1:l[k]? = some l[k]:=za1 hlt;have e2:m[k]? = some (m[k]'(by omega)):=za1 (by omega);obtain ⟨t,h1,h2⟩:=hE l[k] (List.getElem_mem hlt) (m[k]'(by omega)) (List.getElem_mem (by omega));have hd:decide ((k:Int)<(l.length:Int))=true:=by simpa using hlt
  cases t with
  | true =>
   left
   refine ⟨(l,m,((k + 1:Nat):Int)),?_,⟨k + 1,rfl,hlt,fun j hj'=>?_⟩,?_⟩
   ·unfold A0A;simp only[An,e1,e2,za0,h1,hd];rw[Aj (by omega) (by omega)];rfl
   ·by_cases hjk:j=k
    ·subst hjk; rw[e1,e2,h2.1 rfl]
    ·exact hj j (by omega)
   ·simp only; omega
  | false =>
   right
   refine ⟨.inr false,?_,fun he=>?_,fun _=>rfl⟩
   ·unfold A0A;simp only[An,e1,e2,za0,h1,hd];rfl
   ·subst he;have:=h2.2 rfl;cases this
 ·right
  refine ⟨.inl (),?_,fun _=>rfl,fun hne=>?_⟩
  ·have:decide ((k:Int)<(l.length:Int))=false:=by simpa using hlt
   unfold A0A;simp only[this,cond_false]
  ·exfalso
   apply hne
   apply List.ext_getElem?
   intro j;by_cases hjl:j<k
   ·exact hj j hjl
   ·rw[List.getElem?_eq_none (by omega),List.getElem?_eq_none (by omega)]
end
section
variable {α σ ρ:Type} {body : σ->Option (σ ⊕ ρ)}
theorem Ls {l:List α} {st:Nat->σ} {p : α->Bool} {fin : ρ} {bad:Nat->ρ} (hgo:∀ k a,l[k]? = some a->p a=true->body (st k)=some (.inl (st (k + 1)))) (hbad:∀ k a,l[k]? = some a->p a=false->body (st k)=some (.inr (bad k))) (hend:body (st l.length)=some (.inr fin)) :
  (l.all p=true->Ah body (st 0)=some fin)/\(l.all p=false->∃ k,k<l.length/\Ah body (st 0)=some (bad k)):=by
 have key:∀ (n k:Nat),k + n=l.length->((l.drop k).all p=true->Ah body (st k)=some fin)/\((l.drop k).all p=false->∃ j,j<l.length/\Ah body (st k)=some (bad j)):=by
  intro n
  induction n with
  | zero =>
   intro k hk;have:k=l.length:=by omega
   subst this;rw[List.drop_length];exact ⟨fun _=>Aq hend,(fun h=>by cases h)⟩
  | succ n ih =>
   intro k hk;have hlt:k<l.length:=by omega
   have hd:l.drop k=l[k]::l.drop (k + 1):=zb0 hlt;have he:l[k]? = some l[k]:=za1 hlt;rw[hd,zd0];cases hp:p l[k] with
   | true =>
    have h1:=hgo k _ he hp;obtain ⟨q1,q2⟩:=ih (k + 1) (by omega);rw[ze2,AX h1];exact ⟨q1,q2⟩
   | false =>
    rw[Bool.false_and];exact ⟨(fun h=>by cases h),fun _=>⟨k,hlt,Aq (hbad k _ he hp)⟩⟩
 have:=key l.length 0 (by omega)
 rwa [ze8] at this
end
section
theorem AM {k:Nat} (h:k<4611686018427387904):IntKind.wrap .i64 ((k:Int) + 1)=((k + 1:Nat):Int):=by rw[Aj (by omega) (by omega)]; omega
end
theorem Dm {β:Type} {b s:Nat} {l m:List β} (h1:(l.length + m.length)*b<=Ag) (h2:(l.length + m.length)*s<=Ag):Ct b s l m=some (l++m):=by
 unfold Ct;rw[if_pos ⟨h1,h2⟩]
end
section
open Go
variable {P:Program} {J:J1}
def A9U:Value:=.slice none 0 0
def Kd (t tb:TypeId):Code :=
 .seq (.region 0 #[⟨some 2,.assign (.const A9U),t, "slices.go:355", #[],none⟩] false)
  (.seq (.seq (.region 1 #[⟨some 3,.move (.tmp 0),t, "slices.go:357", #[],none⟩,⟨some 4,.binOp .eql t (.tmp 3) (.const A9U) t,tb, "slices.go:357", #[⟨0,.data⟩],none⟩] false)
    (.cond (.tmp 4) (.seq (.region 2 #[⟨some 2,.assign (.const A9U),t, "slices.go:358", #[],none⟩] false) .ret) .skip))
   (.seq (.region 3 #[⟨some 5,.buildSlice t 0 #[],t, "slices.go:362", #[],none⟩,⟨some 6,.move (.tmp 0),t, "slices.go:362", #[],none⟩,
     ⟨some 7,.call ⟨.builtin .append,#[.tmp 5,.tmp 6],#[t,t]⟩,t, "slices.go:362", #[⟨0,.data⟩,⟨1,.data⟩],none⟩,
     ⟨some 2,.assign (.tmp 7),t, "slices.go:362", #[⟨2,.data⟩,⟨2,.chain⟩,⟨0,.phase⟩,⟨1,.phase⟩,⟨2,.phase⟩],none⟩] false) .ret))
def cfN (e size:Nat) (deep:Bool):Cfg:={ live:=fun _ _=>[],out:=fun _ _ _=>[],join:=fun _ _=>none,res:=fun _=>[.one (.own e size deep)],par:=fun _=>[(0,.one .keep)],rts:=fun _=>[],byref:=fun _=>[],isExt:=fun _=>false }
theorem A6M {g:FuncId} {fn:Func} {t tb e:TypeId} {d de:TyD} (hfn:P.funcs[g]? = some fn) (hb:fn.body=some (Kd t tb)) (hok:XB fn (Kd t tb) 1=true) (hr:fn.results.toList = [.tmp 2])
  (hd:AY P t=some d) (he:d.elem=some e) (hde:AY P e=some de) (hst:Fb P t=false) (a:Option Addr) (c:Nat) :
  Hk P (cfN e de.size (de.zero.all ZE)) (fun _ _ _ _ _=>False) g [.v (.slice a 0 c)] [] (.ar 0 0 0) [AW e de.size (de.zero.all ZE) []]:=by
 refine Hk.intro rfl hfn hb hok rfl ?_
 rw[hr];have hsl:SY P t=true:=by unfold SY; rw[hd]; simp[he]
 cases a with
 | none =>
  simp[Fi,Sg,Ya,Pg,BI,Ag8,Zy,lk,upd,KI,Fn,Ar,Ao,Am,F8,C2,Cs,lkB,AU,Kd,we,reo,CB,H0,isR,BB,AI,U5,AR,Ev.put,drawn,JX,DG,A9U,hsl,AN6,AA4,I8,cfN,outs,HF,O4,A9I,Ku,Dg,AR5,Ac4,idx,Fl,AW,CW]
 | some a =>
  simp[Fi,Sg,Ya,Pg,BI,Ag8,Zy,lk,upd,KI,Fn,Ar,Ao,Am,F8,C2,Cs,lkB,AU,Kd,we,reo,CB,H0,isR,BB,AI,U5,AR,Ev.put,drawn,JX,DG,A9U,hsl,AN6,AA4,I8,cfN,outs,HF,O4,A9I,Ku,Dg,AR5,Ac4,idx,Fl,AW,CW,AF,hd,he,hde,CO,BL,Er]
structure CloneOK (P:Program) (x:FuncId×TypeId×Nat×Bool):Prop where
 ok:∃ (fn:Func) (t tb:TypeId) (d de:TyD),P.funcs[x.1]? = some fn/\fn.body=some (Kd t tb)/\XB fn (Kd t tb) 1=true/\fn.results.toList = [.tmp 2] /\
  AY P t=some d/\d.elem=some x.2.1/\AY P x.2.1=some de/\Fb P t=false/\de.size=x.2.2.1/\de.zero.all ZE=x.2.2.2
theorem X7 (hm:P.follows .mixedOrders=true) {x:FuncId×TypeId×Nat×Bool} (h:CloneOK P x) {v:V} (hv:v = .em\/v = .im []):CSpec P J x.1 [v] [] (.ar 0 0 0) [AW x.2.1 x.2.2.1 x.2.2.2 []]:=by
 obtain ⟨fn,t,tb,d,de,h1,h2,h3,h4,h5,h6,h7,h8,h9,h10⟩:=h.ok;have key:∀ (a:Option Addr) (c:Nat),CSpec P J x.1 [.v (.slice a 0 c)] [] (.ar 0 0 0) [AW x.2.1 x.2.2.1 x.2.2.2 []]:=by
  intro a c;obtain ⟨k,hk⟩:=A6M h1 h2 h3 h4 h5 h6 h7 h8 a c;rw[<-h9,<-h10];exact RI hm (fun _ _ _ _ _ h=>h.elim) k _ _ _ _ _ hk
 refine ⟨(key none 0).enter,fun _ w A E vals hT hI hvl=>?_⟩
 obtain ⟨y,hy⟩:∃ y,vals.toList = [y]:=by
  match hl:vals.toList with
  | []=>rw[hl] at hvl; exact hvl.elim
  | [y]=>exact ⟨y,rfl⟩
  | _::_::_=>rw[hl] at hvl; exact hvl.2.elim
 rw[hy] at hvl;have hv1:=hvl.1;obtain ⟨a,c,hyc⟩:∃ a c,y = .slice a 0 c:=by
  rcases hv with rfl | rfl
  ·have hv1:Rep w A .em y:=hv1;cases hv1 with
   | em a=>exact ⟨a,0,rfl⟩
  ·have hv1:Rep w A (.im []) y:=hv1;cases hv1 with
   | im0 a c=>exact ⟨a,c,rfl⟩
   | im b off cap=>exact ⟨some ⟨b,off,none⟩,cap,rfl⟩
 subst hyc;have hk:=(key a c).calls rfl w A E vals hT hI (by rw[hy]; exact ⟨.v _ rfl,trivial⟩);refine hk.mono fun e w' he=>?_
 obtain ⟨y',E',G',q1,q2,q3,q4⟩:=he;refine ⟨y',E',G',q1,q2,q3,fun j hj=>?_⟩
 rcases hv with rfl | rfl <;> simp[Ao,Am] at hj
def An4 (Rc:Rel) (tab:List (FuncId×TypeId×Nat×Bool)):Rel:=fun g args blks r blks' =>
 Rc g args blks r blks'\/∃ x∈tab,g=x.1/\(args = [.em]\/args = [.im []])/\blks = []/\r = .ar 0 0 0/\blks' = [AW x.2.1 x.2.2.1 x.2.2.2 []]
theorem Aw0 {cf:Cfg} {tab:List (FuncId×TypeId×Nat×Bool)} (hm:P.follows .mixedOrders=true) (ht:∀ x∈tab,CloneOK P x) :
  ∀ g args blks r blks',An4 (Hk P cf fun _ _ _ _ _=>False) tab g args blks r blks'->CSpec P J g args blks r blks':=by
 intro g args blks r blks' h;rcases h with ⟨k,hk⟩ | ⟨x,hx,rfl,ha,rfl,rfl,rfl⟩
 ·exact RI hm (fun _ _ _ _ _ h=>h.elim) k _ _ _ _ _ hk
 ·rcases ha with rfl | rfl
  ·exact X7 hm (ht x hx) (.inl rfl)
  ·exact X7 hm (ht x hx) (.inr rfl)
theorem Br8 {t:Ty} {st:TSt} {x:Dp [.slot 0 (.cell (.im t))]} (h:HV 0 [.slot 0 (.cell (.im t))] st=some x):Hx st.hp t (CK st.tm 0)=some (show List t.den from x):=by
 unfold HV at h
 split at h
 case isFalse=>cases h
 simp only[Me,DQ,tmS,tmC,tnS,tnV,tnC] at h;cases ha:Hx st.hp t (CK st.tm 0) with
 | none=>rw[ha] at h; cases h
 | some l =>
  rw[ha] at h;simp only[Nat.zero_le,Nat.ble_eq,if_true] at h;have hc:∀ c,Tu 0 (Ir [.slot 0 (.cell (.im t))]) { tm:=(0,.im t l)::st.tm,hp:=E7 st.hp (frV (CK st.tm 0)),c:=c }=some { tm:=[(0,.im t l)],hp:=[],c:=1 }:=fun c=>rfl
  rw[hc] at h;simp only[rdI,rdS,rdC,Nat.beq_refl,if_true,dite_true] at h;rw[<-Option.some.inj h];rfl
def A98 {α β:Type} (F:List α->Option (List β)) (l:List α):Option (List β):=match l with | []=>some [] | a::l=>F (a::l)
theorem A2Z {ext:Rel} {cf:Cfg} {Rc:Rel} {tab:List (FuncId×TypeId×Nat×Bool)} {g:FuncId} {e:TypeId} {deep:Bool} {t:Ty} {heads joins:List (Nat×List Item)} {outs:List (Nat×List (Ex×List Item))} {F:List t.den->Option (List t.den)}
  (h:Ai Rc ⟨⟨g,0,[.slot 0 (.cell (.im t))],[.blk (.arr e deep t),.slot 0 (.ref 0 false)],heads,outs,joins⟩,F⟩) (hmem:(g,e,t.size,deep)∈tab) (hext:∀ g args blks r blks',An4 Rc tab g args blks r blks'->ext g args blks r blks') :
  Ai (Hk P cf ext) ⟨⟨g,0,[.slot 0 (.cell (.im t))],[.blk (.arr e deep t),.slot 0 (.ref 0 false)],heads,outs,joins⟩,fun l=>A98 F l⟩:=by
 intro x y args blks st hF hs hd hid hlen href hb0;have ha:=Br8 hd;cases hx:(show List t.den from x) with
 | cons a l =>
  have hx':x=(show Dp [.slot 0 (.cell (.im t))] from (a::l:List t.den)):=hx;subst hx';obtain ⟨r,blks',q1,q2⟩:=h _ y args blks st hF hs hd hid hlen href hb0;exact ⟨r,blks',Hk.ext (hext _ _ _ _ _ (.inl q1)),q2⟩
 | nil =>
  have hx':x=(show Dp [.slot 0 (.cell (.im t))] from ([]:List t.den)):=hx;subst hx';have hy:y=(show Dp [.blk (.arr e deep t),.slot 0 (.ref 0 false)] from ([]:List t.den)):=(Option.some.inj hF).symm;subst hy;obtain ⟨v,rfl⟩:∃ v,args = [v]:=by
   match args,hlen with
   | [v],_=>exact ⟨v,rfl⟩
  have hrefs:([v]:List V).flatMap Ao = []:=by
   cases hr:([v]:List V).flatMap Ao with
   | nil=>rfl
   | cons i l=>rw[hr] at href; simp[List.eraseDups_cons] at href
  have hv:=hs.tm 0;have hv:RV2 st.hp (CK st.tm 0) v:=hv;have hcase:v = .em\/v = .im []:=by
   generalize CK st.tm 0=u at ha hv;cases u with
   | em=>exact .inl hv
   | im t' l =>
    simp only[Hx,asL] at ha;rcases hv with ⟨_,hv⟩ | ⟨rows,hv,hl⟩
    ·exact .inl hv
    ·split at ha
     ·rename_i ht;subst ht;have h0:l = []:=by have:=Option.some.inj ha; exact this
      subst h0;have:rows = []:=zb4 (by have:=hl.1; simpa using this);subst this;exact .inr hv
     ·cases ha
   | ow id =>
    obtain ⟨n,rfl,_⟩:=hv;simp[Ao,Am] at hrefs
   | ar id lo n =>
    have hv:v = .ar id lo n:=hv;subst hv;simp[Ao,Am] at hrefs
   | _=>simp[Hx,asL] at ha
  have hblks:blks = []:=hb0 rfl;subst hblks;refine ⟨.ar 0 0 0,[AW e t.size deep []],Hk.ext (hext _ _ _ _ _ (.inr ⟨_,hmem,rfl,?_,rfl,rfl,rfl⟩)),?_,?_,rfl⟩
  ·rcases hcase with rfl | rfl
   ·exact .inl rfl
   ·exact .inr rfl
  ·exact ⟨0,rfl,fun b hb=>by cases hb; rfl⟩
  ·intro id b hb;have hb:AQ [(0,some (TB.arr e deep t []))] id=some b:=hb;simp only[AQ] at hb;cases hi:Nat.beq id 0 with
   | false=>rw[hi] at hb; cases hb
   | true =>
    rw[hi] at hb;have hb:some (TB.arr e deep t [])=some b:=hb;cases hb
    have:id=0:=za6 hi;subst this;exact ⟨_,rfl,rfl,rfl,rfl,rfl,RLx.nil⟩
end
section
open Go Go.RowKit
def AL9:(c:AC)->c.den->V->Prop
 | .int k,n,v=>v = .v (.int k n)
 | .bool,b,v=>v = .v (.bool b)
 | .str,s,v=>v = .v (.string ⟨s.toArray⟩)
 | .err,b,v=>v = .er b
 | .im t,l,v=>(l = []/\v = .em)\/∃ rows,v = .im rows/\RLx (RE t) l rows
 | .at _,_,_=>False
section
variable {hp hp':THp} {u v:SV} {a:V} {b n:Nat} {c:AC}
theorem A3K (hc:c.isU=false) (h:tnC (tmC [] c) u hp b=some (v,hp',n)) (hr:RV2 hp u a) (ha:Ao a = []):hp'=hp/\∀ f d,rdC c (B6 f v)=some d->AL9 c d a:=by
 cases c with
 | «at» j=>cases hc
 | im t =>
  simp only[tmC,tnC] at h;cases hl:Hx hp t u with
  | none=>rw[hl] at h; cases h
  | some l =>
   rw[hl] at h;simp only[Option.some.injEq,Prod.mk.injEq] at h;obtain ⟨rfl,rfl,_⟩:=h;have key:frV u = []/\AL9 (.im t) l a:=by
    cases u with
    | em =>
     simp only[Hx,asL,Option.some.injEq] at hl;subst hl;exact ⟨rfl,.inl ⟨rfl,hr⟩⟩
    | im t' l' =>
     simp only[Hx,asL] at hl
     split at hl
     ·rename_i ht;subst ht;have hl:l'=l:=Option.some.inj hl;subst hl;exact ⟨rfl,hr⟩
     ·cases hl
    | ow id =>
     obtain ⟨m,rfl,_⟩:=hr;simp[Ao,Am] at ha
    | ar id lo m =>
     have hr:a = .ar id lo m:=hr;subst hr;simp[Ao,Am] at ha
    | _=>simp[Hx,asL] at hl
   refine ⟨by rw[key.1]; rfl,fun f d hd=>?_⟩
   simp only[B6,Fa,rdC,dite_true] at hd;have hd:l=d:=Option.some.inj hd;subst hd;exact key.2
 | int k =>
  simp only[tmC,tnC,Option.some.injEq,Prod.mk.injEq] at h;obtain ⟨rfl,rfl,_⟩:=h;refine ⟨rfl,fun f d hd=>?_⟩
  cases u with
  | int k' m =>
   simp only[B6,Fa,rdC] at hd
   split at hd
   ·rename_i hk; subst hk; cases hd; exact hr
   ·cases hd
  | ow id=>simp only[B6,Fa] at hd; split at hd <;> cases hd
  | ar id lo m=>simp only[B6,Fa] at hd; split at hd <;> cases hd
  | rf id r c=>simp only[B6,Fa] at hd; split at hd <;> cases hd
  | cl g caps=>cases hd
  | _=>cases hd
 | bool =>
  simp only[tmC,tnC,Option.some.injEq,Prod.mk.injEq] at h;obtain ⟨rfl,rfl,_⟩:=h;refine ⟨rfl,fun f d hd=>?_⟩
  cases u with
  | bool m=>cases hd; exact hr
  | ow id=>simp only[B6,Fa] at hd; split at hd <;> cases hd
  | ar id lo m=>simp only[B6,Fa] at hd; split at hd <;> cases hd
  | rf id r c=>simp only[B6,Fa] at hd; split at hd <;> cases hd
  | cl g caps=>cases hd
  | _=>cases hd
 | str =>
  simp only[tmC,tnC,Option.some.injEq,Prod.mk.injEq] at h;obtain ⟨rfl,rfl,_⟩:=h;refine ⟨rfl,fun f d hd=>?_⟩
  cases u with
  | str m=>cases hd; exact hr
  | ow id=>simp only[B6,Fa] at hd; split at hd <;> cases hd
  | ar id lo m=>simp only[B6,Fa] at hd; split at hd <;> cases hd
  | rf id r c=>simp only[B6,Fa] at hd; split at hd <;> cases hd
  | cl g caps=>cases hd
  | _=>cases hd
 | err =>
  simp only[tmC,tnC,Option.some.injEq,Prod.mk.injEq] at h;obtain ⟨rfl,rfl,_⟩:=h;refine ⟨rfl,fun f d hd=>?_⟩
  cases u with
  | er m=>cases hd; exact hr
  | ow id=>simp only[B6,Fa] at hd; split at hd <;> cases hd
  | ar id lo m=>simp only[B6,Fa] at hd; split at hd <;> cases hd
  | rf id r c=>simp only[B6,Fa] at hd; split at hd <;> cases hd
  | cl g caps=>cases hd
  | _=>cases hd
end
theorem Bz5 {c:AC} {st:TSt} {x:Dp [.slot 0 (.cell c)]} {a:V} (hc:c.isU=false) (h:HV 0 [.slot 0 (.cell c)] st=some x) (hr:RV2 st.hp (CK st.tm 0) a) (ha:Ao a = []) :
  ∃ d,x=QJ (.slot 0 (.cell c)) [] d ()/\AL9 c d a:=by
 unfold HV at h
 split at h
 case isFalse=>cases h
 simp only[Me,DQ,tmS,tnS,tnV] at h;cases h1:tnC (tmC [] c) (CK st.tm 0) st.hp (16*st.c) with
 | none=>rw[h1] at h; cases h
 | some z =>
  obtain ⟨v,hp1,n⟩:=z;rw[h1] at h;simp only at h
  split at h
  case h_2=>cases h
  rename_i st1 hle
  split at hle
  case isFalse=>cases hle
  cases hle
  obtain ⟨rfl,h2⟩:=A3K hc h1 hr ha
  split at h
  case h_2=>cases h
  rename_i st2 hst2;unfold Tu at hst2
  split at hst2
  case isFalse=>cases hst2
  split at hst2
  case h_2=>cases hst2
  rename_i o ho
  split at hst2
  case isFalse=>cases hst2
  have hst2:=Option.some.inj hst2;subst hst2;simp only[Ir,zb9,List.map_nil,CK,Nat.beq_refl,cond_true] at h;cases hhp:G9 st.hp (Eo o) 0 o with
  | cons y l=>rw[hhp] at h; simp only[rdI,Nat.beq_refl,if_true] at h; split at h <;> cases h
  | nil =>
   rw[hhp] at h;simp only[rdI,Nat.beq_refl,if_true,rdS] at h
   split at h
   ·rename_i d hd;exact ⟨d,(Option.some.inj h).symm,h2 _ _ hd⟩
   ·cases h
theorem Bx5 {c c':AC} {st:TSt} {x:Dp [.slot 0 (.cell c),.slot 1 (.cell c')]} {a a':V} (hc:c.isU=false) (hc':c'.isU=false) (h:HV 0 [.slot 0 (.cell c),.slot 1 (.cell c')] st=some x)
  (hr:RV2 st.hp (CK st.tm 0) a) (hr':RV2 st.hp (CK st.tm 1) a') (ha:Ao a = []) (ha':Ao a' = []) :
  ∃ d d',x=QJ (.slot 0 (.cell c)) [.slot 1 (.cell c')] d (QJ (.slot 1 (.cell c')) [] d' ())/\AL9 c d a/\AL9 c' d' a':=by
 unfold HV at h
 split at h
 case isFalse=>cases h
 simp only[Me,DQ,tmS,tnS,tnV] at h;cases h1:tnC (tmC [] c) (CK st.tm 0) st.hp (16*st.c) with
 | none=>rw[h1] at h; cases h
 | some z =>
  obtain ⟨v,hp1,n⟩:=z;rw[h1] at h;simp only at h;obtain ⟨rfl,h2⟩:=A3K hc h1 hr ha
  split at h
  case h_2=>cases h
  rename_i st1 hle
  split at hle
  case isFalse=>cases hle
  have hg:CK ((0,v)::st.tm) 1=CK st.tm 1:=rfl;rw[hg] at hle;cases h3:tnC (tmC [] c') (CK st.tm 1) st.hp (16*(st.c + 1)) with
  | none=>rw[h3] at hle; cases hle
  | some z =>
   obtain ⟨v',hp2,n'⟩:=z;rw[h3] at hle;simp only at hle;obtain ⟨rfl,h4⟩:=A3K hc' h3 hr' ha'
   split at hle
   case isFalse=>cases hle
   cases hle
   split at h
   case h_2=>cases h
   rename_i st2 hst2;unfold Tu at hst2
   split at hst2
   case isFalse=>cases hst2
   split at hst2
   case h_2=>cases hst2
   rename_i o ho
   split at hst2
   case isFalse=>cases hst2
   have hst2:=Option.some.inj hst2;subst hst2;have g0:CK ((1,v')::(0,v)::st.tm) 0=v:=rfl;have g1:CK ((1,v')::(0,v)::st.tm) 1=v':=rfl;simp only[Ir,zb9,List.map_nil,g0,g1] at h;cases hhp:G9 st.hp (Eo o) 0 o with
   | cons y l =>
    rw[hhp] at h;cases e1:rdS (.cell c) (B6 (Eo o) v) with
    | none=>simp[rdI,e1] at h
    | some d=>cases e2:rdS (.cell c') (B6 (Eo o) v') with
     | none=>simp[rdI,e1,e2] at h
     | some d'=>simp[rdI,e1,e2] at h
   | nil =>
    rw[hhp] at h;cases e1:rdS (.cell c) (B6 (Eo o) v) with
    | none=>simp[rdI,e1] at h
    | some d=>cases e2:rdS (.cell c') (B6 (Eo o) v') with
     | none=>simp[rdI,e1,e2] at h
     | some d' =>
      simp only[rdI,e1,e2,Nat.beq_refl,if_true,Option.some.injEq] at h;exact ⟨d,d',h.symm,h2 _ _ e1,h4 _ _ e2⟩
section
variable {P:Program} {J:J1} {cf:Cfg} {ext:Rel}
theorem AC1 {args:List V} (h:(args.flatMap Ao).eraseDups.length=0):∀ v∈args,Ao v = []:=by
 have h0:args.flatMap Ao = []:=by
  cases hr:args.flatMap Ao with
  | nil=>rfl
  | cons i l=>rw[hr] at h; simp[List.eraseDups_cons] at h
 intro v hv;rw[List.flatMap_eq_nil_iff] at h0;exact h0 v hv
theorem A0k {g:FuncId} {c:AC} {res:List Item} {F:Dp [.slot 0 (.cell c)]->Option (Dp res)} (hc:c.isU=false)
  (h:∀ d y a,AL9 c d a->F (QJ (.slot 0 (.cell c)) [] d ())=some y->∃ r blks',ext g [a] [] r blks'/\ResRel res y r blks') :
  Ai (Hk P cf ext) ⟨⟨g,0,[.slot 0 (.cell c)],res,[],[],[]⟩,F⟩:=by
 intro x y args blks st hF hs hd hid hlen href hb0
 match args,hlen with
 | [a],_ =>
  have hb:blks = []:=hb0 rfl;subst hb;have hn:=AC1 href;have h0:RV2 st.hp (CK st.tm 0) a:=hs.tm 0;obtain ⟨d,rfl,hA⟩:=Bz5 hc hd h0 (hn a (by simp));obtain ⟨r,blks',h1,h2⟩:=h d y a hA hF;exact ⟨r,blks',Hk.ext h1,h2⟩
theorem Ar5 {g:FuncId} {c c':AC} {res:List Item} {F:Dp [.slot 0 (.cell c),.slot 1 (.cell c')]->Option (Dp res)} (hc:c.isU=false) (hc':c'.isU=false)
  (h:∀ d d' y a a',AL9 c d a->AL9 c' d' a'->F (QJ (.slot 0 (.cell c)) [.slot 1 (.cell c')] d (QJ (.slot 1 (.cell c')) [] d' ()))=some y->∃ r blks',ext g [a,a'] [] r blks'/\ResRel res y r blks') :
  Ai (Hk P cf ext) ⟨⟨g,0,[.slot 0 (.cell c),.slot 1 (.cell c')],res,[],[],[]⟩,F⟩:=by
 intro x y args blks st hF hs hd hid hlen href hb0
 match args,hlen with
 | [a,a'],_ =>
  have hb:blks = []:=hb0 rfl;subst hb;have hn:=AC1 href;have h0:RV2 st.hp (CK st.tm 0) a:=hs.tm 0;have h1:RV2 st.hp (CK st.tm 1) a':=hs.tm 1;obtain ⟨d,d',rfl,hA,hA'⟩:=Bx5 hc hc' hd h0 h1 (hn a (by simp)) (hn a' (by simp));obtain ⟨r,blks',h1,h2⟩:=h d d' y a a' hA hA' hF;exact ⟨r,blks',Hk.ext h1,h2⟩
def ZP (P:Program) (g:FuncId):Prop:=∃ fn,P.funcs[g]? = some fn/\Va fn=true/\fn.body.isSome=true
theorem AX0 {E:Env} {b:Nat}:¬Own E (lkB []) b:=fun ⟨id,k,hk,_⟩=>by simp[lkB] at hk
theorem AC6 {w w':World} {A:Nat->Prop} {E:Env} (hI:HpInv w (Own E (lkB [])) A E A (lkB []) w) (h:Below w.heap.size w w'):HpInv w (Own E (lkB [])) A E A (lkB []) w':=by
 refine ⟨⟨h.os,h.tape,h.output,h.size,fun b hb _=>h.block b hb,fun b cur ty fz hb=>⟨cur,fz,?_,rfl⟩⟩,fun b hb=>?_,fun b _=>AX0,fun b hb=>absurd hb AX0,fun id k id' k' hk=>by simp[lkB] at hk,fun id k b hk=>by simp[lkB] at hk,fun id k hk=>by simp[lkB] at hk⟩
 ·rw[h.block b (Array.getElem?_eq_some_iff.1 hb).1]; exact hb
 ·have h1:=hI.g1 b hb;have:=h.size;exact ⟨by omega,h1.2⟩
theorem LV {g:FuncId} {args:List V} {r:V} (hent:ZP P g)
  (h:∀ (w:World) (A:Nat->Prop) (E:Env) (vals:List Value),(∀ x∈J,w.heap[x.1]? = some x.2)->(∀ b,A b->b<w.heap.size)->VL (VR1 w E (lkB []) A) args vals ->
   Calls P g vals.toArray w fun e w'=>∃ y,e = .returned y/\Below w.heap.size w w'/\VR2 w' E (lkB []) A r y):CSpec P J g args [] r []:=by
 refine ⟨hent,fun _ w A E vals hT hI hvl=>?_⟩
 refine (show Calls P g vals w _ from (h w A E vals.toList (fun x hx=>(hT x hx).1) (fun b hb=>(hI.g1 b hb).1) hvl)).mono ?_
 rintro e w' ⟨y,rfl,hb,hv⟩;exact ⟨y,E,A,rfl,AC6 hI hb,hv,fun j _ k' hk=>by simp at hk⟩
theorem A05 {g:FuncId} {args:List V} {e size:Nat} {deep:Bool} {rows:List (List V)} (hent:ZP P g) (h0 : 0<size) (hna:args.flatMap Ao = [])
  (h:∀ (w:World) (A:Nat->Prop) (E:Env) (vals:List Value),(∀ x∈J,w.heap[x.1]? = some x.2)->(∀ b,A b->b<w.heap.size)->VL (VR1 w E (lkB []) A) args vals ->
   Calls P g vals.toArray w fun ee w'=>∃ (b cap:Nat) (cur:Array Value),ee = .returned (.slice (some ⟨b,0,none⟩) rows.length cap)/\Below w.heap.size w w'/\w.heap.size<=b/\b<w'.heap.size/\w'.heap[b]? = some (.cells cur e (0,0)) /\
    cur.size=cap*size/\cap<=maxLen/\rows.length<=cap/\(∀ (i:Nat) (row:List V),rows[i]? = some row->row.length=size) /\
    ∀ (i j:Nat) (row:List V) (x:V),rows[i]? = some row->row[j]? = some x->∃ u,cur[i*size + j]? = some u/\∀ G,Rep w' G x u):CSpec P J g args [] (.ar 0 0 rows.length) [AW e size deep rows]:=by
 refine ⟨hent,fun _ w A E vals hT hI hvl=>?_⟩
 refine (show Calls P g vals w _ from (h w A E vals.toList (fun x hx=>(hT x hx).1) (fun b hb=>(hI.g1 b hb).1) hvl)).mono ?_
 rintro ee w' ⟨b,cap,cur,rfl,hb,hbn,hbs,hbk,hsz,hcap,hle,hrl,hre⟩;have hk0:∀ id k,lkB [AW e size deep rows] id=some k->id=0/\k=AW e size deep rows:=by
  intro id k hk;cases id with
  | zero=>simp[lkB] at hk; exact ⟨rfl,hk.symm⟩
  | succ id=>simp[lkB] at hk
 have hown:∀ x,Own ⟨fun i=>if i=0 then some b else none,fun _ _=>False⟩ (lkB [AW e size deep rows]) x->x=b:=by
  rintro x ⟨id,k,hk,_,hx⟩;obtain ⟨rfl,rfl⟩:=hk0 id k hk;rcases hx with hx | hx
  ·simpa using hx.symm
  ·exact hx.elim
 have hI':=AC6 hI hb;refine ⟨_,⟨fun i=>if i=0 then some b else none,fun _ _=>False⟩,A,rfl,⟨hI'.fr,hI'.g1,fun x hx ho=>?_,fun x ho=>?_,fun id k id' k' hk _ hk' _ _ _ _=>?_,fun id k x _ _ _ hn=>hn,fun id k hk=>?_⟩,?_,fun j hj k' hk'=>?_⟩
 ·rw[hown x ho] at hx;have:=(hI.g1 b hx).1;omega
 ·rw[hown x ho];exact ⟨hbs,.inr hbn⟩
 ·rw[(hk0 id k hk).1,(hk0 id' k' hk').1]
 ·obtain ⟨rfl,rfl⟩:=hk0 id k hk;exact .inr ⟨b,cur,cap,rfl,hbk,h0,hsz,hcap,hle,hrl,fun i j row x h1 h2=>by
   obtain ⟨u,h3,h4⟩:=hre i j row x h1 h2;exact ⟨u,h3,h4 _⟩⟩
 ·refine ⟨some ⟨b,0,none⟩,cap,rfl,fun k hk=>?_⟩
  have hk:some (AW e size deep rows)=some k:=hk;cases hk
  refine ⟨by simp[AW],by simp[AW],.inr ⟨b,cur,e,(0,0),rfl,by simp,hle,hbk,by simp[AW]; exact hsz⟩⟩
 ·rw[hna] at hj; cases hj
end
end
section
open Go Go.RowKit
section
variable {P:Program} {J:J1} {cf:Cfg} {ext:Rel} {g:FuncId}
def Bs3 (P:Program) (J:J1) (name:String) (k:IntKind) (zs:List Int):Prop:=∀ w:World,(∀ x∈J,w.heap[x.1]? = some x.2)->Lib.TabIs P w name k zs
theorem Bl9 {w:World} {E:Env} {A:Nat->Prop} {x:Value} {ys:List Value} (h:VL (VR1 w E (lkB []) A) [.v x] ys):ys = [x]:=by
 match ys,h with
 | [y],h =>
  have h1:Rep w A (.v x) y:=h.1;cases h1
  rfl
 | [],h=>exact h.elim
 | _::_::_,h=>exact h.2.elim
theorem Bk8 {w:World} {E:Env} {A:Nat->Prop} {x x':Value} {ys:List Value} (h:VL (VR1 w E (lkB []) A) [.v x,.v x'] ys):ys = [x,x']:=by
 match ys,h with
 | [y,z],h =>
  have h1:Rep w A (.v x) y:=h.1;have h2:Rep w A (.v x') z:=h.2.1;cases h1
  cases h2
  rfl
 | [],h=>exact h.elim
 | [_],h=>exact h.2.elim
 | _::_::_::_,h=>exact h.2.2.elim
def Ar9 (n:Int):Option Str:=if -9223372036854775808<=n/\n<=9223372036854775807 then some (Lib.itoa n) else none
def AU3 (g:FuncId):Rel:=fun g' args blks r blks'=>g'=g/\∃ n:Int,-9223372036854775808<=n/\n<=9223372036854775807/\args = [.v (.int .i64 n)]/\blks = []/\r = .v (.string ⟨(Lib.itoa n).toArray⟩)/\blks' = []
def Bu5 (g:FuncId):FAnn:=⟨g,0,[.slot 0 (.cell (.int .i64))],[.slot 0 (.cell .str)],[],[],[]⟩
theorem A7C (hent:ZP P g) (hc:∀ (n:Int) (h0 : -9223372036854775808<=n) (h1:n<=9223372036854775807) (w:World) (htab:Lib.TabIs P w "internal/strconv.uint64pow10" .u64 Lib.pow10Tab),
  Calls P g #[.int .i64 n] w fun e w'=>e = .returned (.string ⟨(Lib.itoa n).toArray⟩)/\∃ k os,w'=Sort.grow (w.drewN k) os) (hJ:Bs3 P J "internal/strconv.uint64pow10" .u64 Lib.pow10Tab) :
  ∀ g' args blks r blks',AU3 g g' args blks r blks'->CSpec P J g' args blks r blks':=by
 rintro g' args blks r blks' ⟨rfl,n,h0,h1,rfl,rfl,rfl,rfl⟩;refine LV hent fun w A E vals hT hA hvl=>?_
 rw[Bl9 hvl];refine (hc n h0 h1 w (hJ w hT)).mono ?_
 rintro e w' ⟨rfl,k,os,rfl⟩;exact ⟨_,rfl,Lib.below_grow _ w (za7 _) k os,.v _ rfl⟩
theorem A8o (hx:∀ g' args blks r blks',AU3 g g' args blks r blks'->ext g' args blks r blks'):Ai (Hk P cf ext) ⟨Bu5 g,Ar9⟩:=by
 refine A0k rfl fun d y a ha hF=>?_
 have hF:Ar9 d=some y:=hF;unfold Ar9 at hF
 split at hF
 ·rename_i h;cases hF
  have ha:a = .v (.int .i64 d):=ha;exact ⟨_,[],hx _ _ _ _ _ ⟨rfl,d,h.1,h.2,by rw[ha],rfl,rfl,rfl⟩,rfl,fun id b hb=>by simp[BK,AQ] at hb,rfl⟩
 ·cases hF
def Bf4 (J:J1) (k:Nat):Prop:=∀ w:World,(∀ x∈J,w.heap[x.1]? = some x.2)->∃ m:Int,w.cell? ⟨k,0,none⟩=some (.int .i64 m)
def Lb (s sub:Str):Option Bool:=if s.length<4294967281 then some (Lib.contains s sub) else none
def QW (g:FuncId):Rel:=fun g' args blks r blks'=>g'=g/\∃ s p:Str,s.length<4294967281/\args = [.v (.string ⟨s.toArray⟩),.v (.string ⟨p.toArray⟩)]/\blks = []/\r = .v (.bool (Lib.contains s p))/\blks' = []
def A58 (g:FuncId):FAnn:=⟨g,0,[.slot 0 (.cell .str),.slot 1 (.cell .str)],[.slot 0 (.cell .bool)],[],[],[]⟩
theorem Aw3 {k:Nat} (hent:ZP P g) (hc:∀ (s sub:ByteArray) (m:Int) (w:World) (hs:s.size<4294967281) (hm:w.cell? ⟨k,0,none⟩=some (.int .i64 m)),
  Calls P g #[.string s,.string sub] w fun e w'=>e = .returned (.bool (Lib.contains s.data.toList sub.data.toList))/\w'=w) (hJ:Bf4 J k) :
  ∀ g' args blks r blks',QW g g' args blks r blks'->CSpec P J g' args blks r blks':=by
 rintro g' args blks r blks' ⟨rfl,s,p,hs,rfl,rfl,rfl,rfl⟩;refine LV hent fun w A E vals hT hA hvl=>?_
 rw[Bk8 hvl];obtain ⟨m,hm⟩:=hJ w hT;refine (hc ⟨s.toArray⟩ ⟨p.toArray⟩ m w (by simpa[ByteArray.size] using hs) hm).mono ?_
 rintro e w' ⟨rfl,rfl⟩;exact ⟨_,rfl,Below.refl _ _,.v _ rfl⟩
theorem AU4 (hx:∀ g' args blks r blks',QW g g' args blks r blks'->ext g' args blks r blks'):Ai (Hk P cf ext) ⟨A58 g,fun x=>Lb x.1 x.2⟩:=by
 refine Ar5 rfl rfl fun d d' y a a' ha ha' hF=>?_
 have hF:Lb d d'=some y:=hF;unfold Lb at hF
 split at hF
 ·rename_i h;cases hF
  have ha:a = .v (.string ⟨(show Str from d).toArray⟩):=ha;have ha':a' = .v (.string ⟨(show Str from d').toArray⟩):=ha';exact ⟨_,[],hx _ _ _ _ _ ⟨rfl,d,d',h,by rw[ha,ha'],rfl,rfl,rfl⟩,rfl,fun id b hb=>by simp[BK,AQ] at hb,rfl⟩
 ·cases hF
def Gy (s sep:Str):List Str:=(Lib.splitB ⟨sep.toArray⟩ 0 (Lib.countB ⟨s.toArray⟩ ⟨sep.toArray⟩) ⟨s.toArray⟩).map fun b=>b.data.toList
def Ru (s sep:Str):Option (List Str):=if s.length<4294967281/\1<=sep.length then some (Gy s sep) else none
def An2 (g:FuncId) (e:TypeId):Rel:=fun g' args blks r blks'=>g'=g/\∃ s p:Str,s.length<4294967281/\1<=p.length/\args = [.v (.string ⟨s.toArray⟩),.v (.string ⟨p.toArray⟩)]/\blks = [] /\
 r = .ar 0 0 ((Gy s p).map fun x=>[V.v (.string ⟨x.toArray⟩)]).length/\blks' = [AW e 1 true ((Gy s p).map fun x=>[V.v (.string ⟨x.toArray⟩)])]
def Bo9 (g:FuncId) (e:TypeId):FAnn:=⟨g,0,[.slot 0 (.cell .str),.slot 1 (.cell .str)],[.blk (.arr e true .str),.slot 0 (.ref 0 false)],[],[],[]⟩
theorem A4r {k:Nat} {e:TypeId} (hent:ZP P g) (hc:∀ (s sep:ByteArray) (m:Int) (w:World) (hs:s.size<4294967281) (hm:w.cell? ⟨k,0,none⟩=some (.int .i64 m)) (h1 : 1<=sep.size),
  Calls P g #[.string s,.string sep] w fun ee w'=>ee = .returned (.slice (some ⟨w.heap.size,0,none⟩) (Lib.countB s sep + 1) (Lib.countB s sep + 1))/\w'=w.alloc (.cells ((Lib.splitB sep 0 (Lib.countB s sep) s).map Value.string).toArray e)) (hJ:Bf4 J k) :
  ∀ g' args blks r blks',An2 g e g' args blks r blks'->CSpec P J g' args blks r blks':=by
 rintro g' args blks r blks' ⟨rfl,s,p,hs,hp,rfl,rfl,rfl,rfl⟩;refine A05 hent (by decide) rfl fun w A E vals hT hA hvl=>?_
 rw[Bk8 hvl];obtain ⟨m,hm⟩:=hJ w hT;refine (hc ⟨s.toArray⟩ ⟨p.toArray⟩ m w (by simpa[ByteArray.size] using hs) hm (by simpa[ByteArray.size] using hp)).mono ?_
 rintro ee w' ⟨rfl,rfl⟩;have h1 : 1<=(⟨p.toArray⟩:ByteArray).size:=by simpa[ByteArray.size] using hp
 have hl:=Lib.splitB_all ⟨p.toArray⟩ h1 0 _ ⟨s.toArray⟩ rfl;have hk:=Lib.countB_le ⟨p.toArray⟩ h1 _ ⟨s.toArray⟩ (za7 _);have hk':Lib.countB ⟨s.toArray⟩ ⟨p.toArray⟩<=s.length:=by simpa[ByteArray.size] using hk
 have hrl:((Gy s p).map fun x=>[V.v (.string ⟨x.toArray⟩)]).length=Lib.countB ⟨s.toArray⟩ ⟨p.toArray⟩ + 1:=by unfold Gy; simp[hl]
 refine ⟨w.heap.size,Lib.countB ⟨s.toArray⟩ ⟨p.toArray⟩ + 1,((Lib.splitB ⟨p.toArray⟩ 0 (Lib.countB ⟨s.toArray⟩ ⟨p.toArray⟩) ⟨s.toArray⟩).map Value.string).toArray,by rw[hrl],(Below.refl _ w).alloc (za7 _) _,za7 _,by simp,by unfold World.alloc; simp,by simp[hl],by unfold maxLen; omega,by omega,fun i row hr=>?_,fun i j row x hr hx=>?_⟩
 ·rw[zc9] at hr;cases hz:(Gy s p)[i]? with
  | none=>rw[hz] at hr; cases hr
  | some z=>rw[hz] at hr; cases hr; rfl
 ·rw[zc9] at hr;cases hz:(Gy s p)[i]? with
  | none=>rw[hz] at hr; cases hr
  | some z =>
   rw[hz] at hr;cases hr
   cases j with
   | succ j=>simp at hx
   | zero =>
    simp at hx;subst hx;unfold Gy at hz;rw[zc9,zb6] at hz;obtain ⟨b,hb,rfl⟩:=hz;refine ⟨.string b,?_,fun G=>?_⟩
    ·simp[hb]
    ·exact .v _ rfl
theorem A67 {e:TypeId} (hx:∀ g' args blks r blks',An2 g e g' args blks r blks'->ext g' args blks r blks'):Ai (Hk P cf ext) ⟨Bo9 g e,fun x=>Ru x.1 x.2⟩:=by
 refine Ar5 rfl rfl fun d d' y a a' ha ha' hF=>?_
 have hF:Ru d d'=some y:=hF;unfold Ru at hF
 split at hF
 ·rename_i h;cases hF
  have ha:a = .v (.string ⟨(show Str from d).toArray⟩):=ha;have ha':a' = .v (.string ⟨(show Str from d').toArray⟩):=ha';refine ⟨_,_,hx _ _ _ _ _ ⟨rfl,d,d',h.1,h.2,by rw[ha,ha'],rfl,rfl,rfl⟩,⟨_,rfl,fun b hb=>?_⟩,fun id b hb=>?_,rfl⟩
  ·have hb:some (TB.arr e true .str (Gy d d'))=some b:=hb;cases hb
   simp[FY]
  ·have hb:AQ [(0,some (TB.arr e true .str (Gy d d')))] id=some b:=hb;simp only[AQ] at hb;cases hi:Nat.beq id 0 with
   | false=>rw[hi] at hb; cases hb
   | true =>
    rw[hi] at hb;have hb:some (TB.arr e true .str (Gy d d'))=some b:=hb;cases hb
    have:id=0:=za6 hi;subst this;refine ⟨_,rfl,rfl,rfl,rfl,rfl,by simp[AW],fun i x row h1 h2=>?_⟩
    have h2:((Gy d d').map fun x=>[V.v (.string ⟨x.toArray⟩)])[i]? = some row:=h2;have h1:(Gy d d')[i]? = some x:=h1;rw[zc9,h1] at h2;cases h2
    rfl
 ·cases hF
def Ae5 (l:List Str) (sep:Str):Option Str:=if l.length<=140737488355328/\(Lib.join l sep).length<=140737488355328 then some (Lib.join l sep) else none
def AV9 (g:FuncId):Rel:=fun g' args blks r blks'=>g'=g/\∃ (l:List Str) (sep:Str) (a:V),l.length<=140737488355328/\(Lib.join l sep).length<=140737488355328/\AL9 (.im .str) l a/\args = [a,.v (.string ⟨sep.toArray⟩)]/\blks = [] /\
 r = .v (.string ⟨(Lib.join l sep).toArray⟩)/\blks' = []
def Bv2 (g:FuncId):FAnn:=⟨g,0,[.slot 0 (.cell (.im .str)),.slot 1 (.cell .str)],[.slot 0 (.cell .str)],[],[],[]⟩
theorem A6e (hent:ZP P g) (hc0:∀ (a:Option Addr) (c:Nat) (sep:ByteArray) (w:World),Calls P g #[.slice a 0 c,.string sep] w fun e w'=>e = .returned (.string ⟨#[]⟩)/\w'=w)
  (hc:∀ (bk o c:Nat) (xs:List ByteArray) (sep:ByteArray) (w:World) (hcells:∀ (j:Nat) x,xs[j]? = some x->w.cell? ⟨bk,o + j,none⟩=some (.string x)) (hbk:bk<w.heap.size) (hN:xs.length<=140737488355328) (hcap:xs.length<=c) (hlen:(Lib.join (xs.map (·.data.toList)) sep.data.toList).length<=140737488355328),
   Calls P g #[.slice (some ⟨bk,o,none⟩) xs.length c,.string sep] w fun e w'=>e = .returned (.string ⟨(Lib.join (xs.map (·.data.toList)) sep.data.toList).toArray⟩)/\Below w.heap.size w w') :
  ∀ g' args blks r blks',AV9 g g' args blks r blks'->CSpec P J g' args blks r blks':=by
 rintro g' args blks r blks' ⟨rfl,l,sep,a,hl1,hl2,ha,rfl,rfl,rfl,rfl⟩;refine LV hent fun w A E vals hT hA hvl=>?_
 obtain ⟨y,rfl,hy⟩:∃ y,vals = [y,.string ⟨sep.toArray⟩]/\VR1 w E (lkB []) A a y:=by
  match vals,hvl with
  | [y,z],h =>
   have h2:Rep w A (.v (.string ⟨sep.toArray⟩)) z:=h.2.1;cases h2
   exact ⟨y,rfl,h.1⟩
  | [],h=>exact h.elim
  | [_],h=>exact h.2.elim
  | _::_::_::_,h=>exact h.2.2.elim
 have empty:∀ (a:Option Addr) (c:Nat),l = []->Calls P g' [Value.slice a 0 c,.string ⟨sep.toArray⟩].toArray w fun e w'=>∃ y,e = .returned y/\Below w.heap.size w w'/\VR2 w' E (lkB []) A (.v (.string ⟨(Lib.join l sep).toArray⟩)) y:=by
  intro a c h0;subst h0;refine (hc0 a c ⟨sep.toArray⟩ w).mono ?_
  rintro e w' ⟨rfl,rfl⟩;exact ⟨_,rfl,Below.refl _ _,.v _ rfl⟩
 rcases ha with ⟨h0,rfl⟩ | ⟨rows,rfl,hrows⟩
 ·have hy:Rep w A .em y:=hy;cases hy with
  | em a=>exact empty a 0 h0
 ·have hy:Rep w A (.im rows) y:=hy;cases hy with
  | im0 a cap=>exact empty a cap (zb4 (by have:=hrows.1; simpa using this.symm))
  | im b off cap size rows f hb hs hcap hcm hrl hcell hrep =>
   have hone:∀ (i:Nat) (s:Str),l[i]? = some s->rows[i]? = some [V.v (.string ⟨s.toArray⟩)]:=by
    intro i s hi;obtain ⟨row,h1,h2⟩:=hrows.get hi;rw[h1];have h2:row=_:=h2;rw[h2]
   have hsz:l≠[]->size=1:=by
    intro hne
    match l,hne,hone with
    | s::l',_,hone =>
     have:=hrl 0 _ (hone 0 s rfl);simpa using this.symm
   by_cases h0:l = []
   ·have hr0:rows.length=0:=by have:=hrows.1; rw[h0] at this; simpa using this
    rw[hr0];exact empty _ cap h0
   ·have hs1:=hsz h0;subst hs1;have hmap:(l.map fun s=>(⟨s.toArray⟩:ByteArray)).map (fun b=>b.data.toList)=l:=by simp[Function.comp_def]
    have hll:(l.map fun s=>(⟨s.toArray⟩:ByteArray)).length=rows.length:=by simp[hrows.1]
    have key:=hc b off cap (l.map fun s=>⟨s.toArray⟩) ⟨sep.toArray⟩ w (fun j x hx=>by
     rw[zc9,zb6] at hx;obtain ⟨s,h1,rfl⟩:=hx;have h2:=hone j s h1;have h3:=hcell j 0 _ _ h2 rfl;have h4:=hrep j 0 _ _ h2 rfl;rw[Nat.mul_one,Nat.add_zero] at h3;rw[h3];generalize f j 0=z at h4;cases h4
     rfl) (hA b hb) (by rw[hll]; have:=hrows.1; omega) (by rw[hll]; exact hcap) (by rw[hmap]; simpa using hl2)
    rw[hll,hmap] at key;refine key.mono ?_
    rintro e w' ⟨rfl,hbl⟩;exact ⟨_,rfl,hbl,.v _ rfl⟩
theorem Ba3 (hx:∀ g' args blks r blks',AV9 g g' args blks r blks'->ext g' args blks r blks'):Ai (Hk P cf ext) ⟨Bv2 g,fun x=>Ae5 x.1 x.2⟩:=by
 refine Ar5 rfl rfl fun d d' y a a' ha ha' hF=>?_
 have hF:Ae5 d d'=some y:=hF;unfold Ae5 at hF
 split at hF
 ·rename_i h;cases hF
  have ha':a' = .v (.string ⟨(show Str from d').toArray⟩):=ha';exact ⟨_,[],hx _ _ _ _ _ ⟨rfl,d,d',a,h.1,h.2,ha,by rw[ha'],rfl,rfl,rfl⟩,rfl,fun id b hb=>by simp[BK,AQ] at hb,rfl⟩
 ·cases hF
def A80 (P:Program) (J:J1) (name:String):Prop:=∀ w:World,(∀ x∈J,w.heap[x.1]? = some x.2)->∃ tp p,w.var? P name=some #[.iface tp p]
def Sj (s:Str):Int×Bool:=match Lib.atoiAll s with | .ok v=>(v,false) | .range=>(Lib.atoiSat s,true) | _=>(0,true)
def Ar1 (s:Str):Option (Int×Bool):=if s.length<=281474976710656 then some (Sj s) else none
def AU6 (g:FuncId):Rel:=fun g' args blks r blks'=>g'=g/\∃ s:Str,s.length<=281474976710656/\args = [.v (.string ⟨s.toArray⟩)]/\blks = []/\r = .tup [.v (.int .i64 (Sj s).1),.er (Sj s).2]/\blks' = []
def Bw6 (g:FuncId):FAnn:=⟨g,0,[.slot 0 (.cell .str)],[.slot 0 (.cell (.int .i64)),.slot 1 (.cell .err)],[],[],[]⟩
theorem A7J {t5 t1 t2:TypeId} (hent:ZP P g) (hok:∀ (s:ByteArray) (hmax:s.size<=9223372036854775806) (v:Int) (h:Lib.atoiAll s.data.toList = .ok v) (w:World),
   Calls P g #[.string s] w fun e w'=>e = .returned (.tuple #[.int .i64 v,.nilIface])/\(w'=w\/∃ t,w'=Lib.bytesWorld w t5 t))
  (hsy:∀ (s:ByteArray) (hlim:s.size<=281474976710656) (h:Lib.atoiAll s.data.toList=Lib.atoiAll []) (tp:TypeId) (p:Value) (w:World) (hvar:w.var? P "strconv.ErrSyntax" = some #[.iface tp p]),
   Calls P g #[.string s] w fun e w'=>∃ N,e = .returned (.tuple #[.int .i64 0,.iface t1 (.pointer (some ⟨N,0,none⟩))])/\w.heap.size<=N/\w'.heap[N]? = some (.cells #[.string ⟨#[65,116,111,105]⟩,.string s,.iface tp p] t2 (0,0))/\Below w.heap.size w w')
  (hrg:∀ (s:ByteArray) (hlim:s.size<=281474976710656) (h:Lib.atoiAll s.data.toList = .range) (tp:TypeId) (p:Value) (w:World) (hvar:w.var? P "strconv.ErrRange" = some #[.iface tp p]),
   Calls P g #[.string s] w fun e w'=>∃ N,e = .returned (.tuple #[.int .i64 (Lib.atoiSat s.data.toList),.iface t1 (.pointer (some ⟨N,0,none⟩))])/\w.heap.size<=N/\w'.heap[N]? = some (.cells #[.string ⟨#[65,116,111,105]⟩,.string s,.iface tp p] t2 (0,0))/\Below w.heap.size w w')
  (hJ1:A80 P J "strconv.ErrSyntax") (hJ2:A80 P J "strconv.ErrRange") :
  ∀ g' args blks r blks',AU6 g g' args blks r blks'->CSpec P J g' args blks r blks':=by
 rintro g' args blks r blks' ⟨rfl,s,hs,rfl,rfl,rfl,rfl⟩;refine LV hent fun w A E vals hT hA hvl=>?_
 rw[Bl9 hvl];have hs':(⟨s.toArray⟩:ByteArray).size<=281474976710656:=by simpa[ByteArray.size] using hs
 cases hz:Lib.atoiAll s
 case ok v =>
  have e0:Sj s=(v,false):=by unfold Sj; rw[hz]
  rw[e0];refine (hok ⟨s.toArray⟩ (by omega) v (by simpa using hz) w).mono ?_
  rintro e w' ⟨rfl,hw⟩;refine ⟨_,rfl,?_,_,rfl,.v _ rfl,.er0,trivial⟩
  rcases hw with rfl | ⟨t,rfl⟩
  ·exact Below.refl _ _
  ·exact Lib.bytesWorld_below w _ t
 case range =>
  have e0:Sj s=(Lib.atoiSat s,true):=by unfold Sj; rw[hz]
  rw[e0];obtain ⟨tp,p,hv⟩:=hJ2 w hT;refine (hrg ⟨s.toArray⟩ hs' (by simpa using hz) tp p w hv).mono ?_
  rintro e w' ⟨N,rfl,_,_,hb⟩;exact ⟨_,rfl,hb,_,rfl,.v _ rfl,.er1 _ _,trivial⟩
 ·have e0:Sj s=(0,true):=by unfold Sj; rw[hz]
  rw[e0];obtain ⟨tp,p,hv⟩:=hJ1 w hT;have he:Lib.atoiAll (⟨s.toArray⟩:ByteArray).data.toList=Lib.atoiAll []:=by
   rw[show (⟨s.toArray⟩:ByteArray).data.toList=s from rfl,hz];rfl
  refine (hsy ⟨s.toArray⟩ hs' he tp p w hv).mono ?_
  rintro e w' ⟨N,rfl,_,_,hb⟩;exact ⟨_,rfl,hb,_,rfl,.v _ rfl,.er1 _ _,trivial⟩
theorem A8W (hx:∀ g' args blks r blks',AU6 g g' args blks r blks'->ext g' args blks r blks'):Ai (Hk P cf ext) ⟨Bw6 g,Ar1⟩:=by
 refine A0k rfl fun d y a ha hF=>?_
 have hF:Ar1 d=some y:=hF;unfold Ar1 at hF
 split at hF
 ·rename_i h;cases hF
  have ha:a = .v (.string ⟨(show Str from d).toArray⟩):=ha;exact ⟨_,[],hx _ _ _ _ _ ⟨rfl,d,h,by rw[ha],rfl,rfl,rfl⟩,⟨_,rfl,rfl,rfl,trivial⟩,fun id b hb=>by simp[BK,AQ] at hb,rfl⟩
 ·cases hF
end
end
end Go.Proofs.YtiijheppiboglaaGreatDoor.Ev
namespace Go.Proofs
section
open Go.Shelf
def Tryz.lays156_ren:Go.Shelf.Ren:=⟨fun | 156=>83 | 165=>147 | 166=>148 | 169=>149 | 240=>201 | 241=>202 | 276=>253 | 277=>254 | n=>n,fun | 31=>63 | 9=>9 | 3=>3 | 4=>4 | 0=>0 | 20=>20 | 72=>166 | 76=>126 | 70=>164 | 37=>32 | 75=>125 | 127=>200 | 164=>232 | 5=>5 | 80=>116 | n=>n,fun | n=>n⟩
theorem Tryz.lays156:Go.Proofs.Lays.n156 Tryz.prog Tryz.lays156_ren:={
 mixed:=by kernel_rfl
 f156:=Tryz.func83.trans (congrArg some (by kernel_rfl))
 f165:=Tryz.func147.trans (congrArg some (by kernel_rfl))
 f166:=Tryz.func148.trans (congrArg some (by kernel_rfl))
 f169:=Tryz.func149.trans (congrArg some (by kernel_rfl))
 f240:=Tryz.func201.trans (congrArg some (by kernel_rfl))
 f241:=Tryz.func202.trans (congrArg some (by kernel_rfl))
 f276:=Tryz.func253.trans (congrArg some (by kernel_rfl))
 f277:=Tryz.func254.trans (congrArg some (by kernel_rfl))
 t0:=Tryz.underlying0
 a0:=Tryz.isAgg0
 z0:=Tryz.sizeOf0
 v0:=Tryz.zeroValue0
 t3:=Tryz.underlying3
 a3:=Tryz.isAgg3
 z3:=Tryz.sizeOf3
 v3:=Tryz.zeroValue3
 t4:=Tryz.underlying4
 a4:=Tryz.isAgg4
 z4:=Tryz.sizeOf4
 v4:=Tryz.zeroValue4
 t9:=Tryz.underlying9
 a9:=Tryz.isAgg9
 z9:=Tryz.sizeOf9
 v9:=Tryz.zeroValue9
 t20:=Tryz.underlying20
 a20:=Tryz.isAgg20
 z20:=Tryz.sizeOf20
 v20:=Tryz.zeroValue20
 t31:=Tryz.underlying63
 a31:=Tryz.isAgg63
 z31:=Tryz.sizeOf63
 v31:=Tryz.zeroValue63
 t37:=Tryz.underlying32
 a37:=Tryz.isAgg32
 z37:=Tryz.sizeOf32
 v37:=Tryz.zeroValue32
 t70:=Tryz.underlying164
 a70:=Tryz.isAgg164
 z70:=Tryz.sizeOf164
 v70:=Tryz.zeroValue164
 t72:=Tryz.underlying166
 a72:=Tryz.isAgg166
 z72:=Tryz.sizeOf166
 v72:=Tryz.zeroValue166
 t75:=Tryz.underlying125
 a75:=Tryz.isAgg125
 z75:=Tryz.sizeOf125
 v75:=Tryz.zeroValue125
 t76:=Tryz.underlying126
 a76:=Tryz.isAgg126
 z76:=Tryz.sizeOf126
 v76:=Tryz.zeroValue126
 t127:=Tryz.underlying200
 a127:=Tryz.isAgg200
 z127:=Tryz.sizeOf200
 v127:=Tryz.zeroValue200
 t164:=Tryz.underlying232
 a164:=Tryz.isAgg232
 z164:=Tryz.sizeOf232
 v164:=Tryz.zeroValue232 }
theorem Tryz.Builder_Extra_156:Builder.Extra Tryz.prog Tryz.lays156_ren:={
 sizeBuilder:=by kernel_rfl
 liesBuilder:=by kernel_rfl
 t5:=Tryz.underlying5
 a5:=Tryz.isAgg5
 z5:=Tryz.sizeOf5
 v5:=Tryz.zeroValue5
 infoByte:=by kernel_rfl
 cellsByte:=by kernel_rfl
 sizeByte:=by kernel_rfl
 neB5:=by decide }
open Go.RowKit in
theorem Tryz.strings_Join_none (a:Option Addr) (c:Nat) (sep:ByteArray) (w:World) :
  Calls Tryz.prog 83 #[.slice a 0 c,.string sep] w fun e w'=>e = .returned (.string ⟨#[]⟩)/\w'=w:=Any.strings_Join_none Tryz.lays156 Tryz.Builder_Extra_156 a c sep w
open Go.RowKit in
theorem Tryz.strings_Join (bk o c:Nat) (xs:List ByteArray) (sep:ByteArray) (w:World) (hcells:∀ (j:Nat) x,xs[j]? = some x->w.cell? ⟨bk,o + j,none⟩=some (.string x)) (hbk:bk<w.heap.size) (hN:xs.length<=140737488355328) (hcap:xs.length<=c) (hlen:(Lib.join (xs.map (·.data.toList)) sep.data.toList).length<=140737488355328) :
  Calls Tryz.prog 83 #[.slice (some ⟨bk,o,none⟩) xs.length c,.string sep] w fun e w'=>e = .returned (.string ⟨(Lib.join (xs.map (·.data.toList)) sep.data.toList).toArray⟩)/\Below w.heap.size w w':=Any.strings_Join Tryz.lays156 Tryz.Builder_Extra_156 bk o c xs sep w hcells hbk hN hcap hlen
def Tryz.laysM171_ren:Go.Shelf.Ren:=⟨fun | 171=>82 | 243=>146 | 246=>200 | 283=>249 | 284=>250 | 285=>251 | 286=>252 | 129=>286 | 317=>285 | 318=>287 | 319=>288 | 320=>289 | 337=>305 | 338=>306 | n=>n,fun | 3=>3 | 9=>9 | 2=>2 | 4=>4 | 171=>227 | 0=>0 | 53=>113 | 37=>32 | 5=>5 | 173=>230 | 212=>254 | 51=>255 | 20=>20 | 213=>256 | 46=>221 | 232=>280 | 233=>281 | n=>n,fun | 17=>3 | 18=>6 | 19=>7 | n=>n⟩
theorem Tryz.laysM171:Go.Proofs.LaysM.n171 Tryz.prog Tryz.laysM171_ren:={
 mixed:=by kernel_rfl
 f129:=Tryz.func286.trans (congrArg some (by kernel_rfl))
 f171:=Tryz.func82.trans (congrArg some (by kernel_rfl))
 f243:=Tryz.func146.trans (congrArg some (by kernel_rfl))
 f246:=Tryz.func200.trans (congrArg some (by kernel_rfl))
 f283:=Tryz.func249.trans (congrArg some (by kernel_rfl))
 f284:=Tryz.func250.trans (congrArg some (by kernel_rfl))
 f285:=Tryz.func251.trans (congrArg some (by kernel_rfl))
 f286:=Tryz.func252.trans (congrArg some (by kernel_rfl))
 f317:=Tryz.func285.trans (congrArg some (by kernel_rfl))
 f318:=Tryz.func287.trans (congrArg some (by kernel_rfl))
 f319:=Tryz.func288.trans (congrArg some (by kernel_rfl))
 f320:=Tryz.func289.trans (congrArg some (by kernel_rfl))
 f337:=Tryz.func305.trans (congrArg some (by kernel_rfl))
 f338:=Tryz.func306.trans (congrArg some (by kernel_rfl))
 t0:=Tryz.underlying0
 a0:=Tryz.isAgg0
 z0:=Tryz.sizeOf0
 v0:=Tryz.zeroValue0
 t2:=Tryz.underlying2
 a2:=Tryz.isAgg2
 z2:=Tryz.sizeOf2
 v2:=Tryz.zeroValue2
 t3:=Tryz.underlying3
 a3:=Tryz.isAgg3
 z3:=Tryz.sizeOf3
 v3:=Tryz.zeroValue3
 t4:=Tryz.underlying4
 a4:=Tryz.isAgg4
 z4:=Tryz.sizeOf4
 v4:=Tryz.zeroValue4
 t5:=Tryz.underlying5
 a5:=Tryz.isAgg5
 z5:=Tryz.sizeOf5
 v5:=Tryz.zeroValue5
 t9:=Tryz.underlying9
 a9:=Tryz.isAgg9
 z9:=Tryz.sizeOf9
 v9:=Tryz.zeroValue9
 t20:=Tryz.underlying20
 a20:=Tryz.isAgg20
 z20:=Tryz.sizeOf20
 v20:=Tryz.zeroValue20
 t37:=Tryz.underlying32
 a37:=Tryz.isAgg32
 z37:=Tryz.sizeOf32
 v37:=Tryz.zeroValue32
 t46:=Tryz.underlying221
 a46:=Tryz.isAgg221
 z46:=Tryz.sizeOf221
 v46:=Tryz.zeroValue221
 t51:=Tryz.underlying255
 a51:=Tryz.isAgg255
 z51:=Tryz.sizeOf255
 v51:=Tryz.zeroValue255
 t53:=Tryz.underlying113
 a53:=Tryz.isAgg113
 z53:=Tryz.sizeOf113
 v53:=Tryz.zeroValue113
 t171:=Tryz.underlying227
 a171:=Tryz.isAgg227
 z171:=Tryz.sizeOf227
 v171:=Tryz.zeroValue227
 t173:=Tryz.underlying230
 a173:=Tryz.isAgg230
 z173:=Tryz.sizeOf230
 v173:=Tryz.zeroValue230
 t212:=Tryz.underlying254
 a212:=Tryz.isAgg254
 z212:=Tryz.sizeOf254
 v212:=Tryz.zeroValue254
 t213:=Tryz.underlying256
 a213:=Tryz.isAgg256
 z213:=Tryz.sizeOf256
 t232:=Tryz.underlying280
 a232:=Tryz.isAgg280
 z232:=Tryz.sizeOf280
 v232:=Tryz.zeroValue280
 t233:=Tryz.underlying281
 a233:=Tryz.isAgg281
 z233:=Tryz.sizeOf281
 v233:=Tryz.zeroValue281
 g17:=by kernel_rfl
 g18:=by kernel_rfl
 g19:=by kernel_rfl
 i0:=by kernel_rfl
 i2:=by kernel_rfl
 i3:=by kernel_rfl
 i4:=by kernel_rfl
 i5:=by kernel_rfl
 i9:=by kernel_rfl
 i20:=by kernel_rfl
 i37:=by kernel_rfl
 i46:=by kernel_rfl
 i51:=by kernel_rfl
 i53:=by kernel_rfl
 i171:=by kernel_rfl
 i173:=by kernel_rfl
 i212:=by kernel_rfl
 i232:=by kernel_rfl
 i233:=by kernel_rfl
 m17:=by kernel_rfl
 m18:=by kernel_rfl
 m19:=by kernel_rfl }
open Go.RowKit Go.Sort Go.Lib in
theorem Tryz.strconv_Itoa (n:Int) (h0 : -9223372036854775808<=n) (h1:n<=9223372036854775807) (w:World) (htab:Lib.TabIs Tryz.prog w "internal/strconv.uint64pow10" .u64 Lib.pow10Tab) :
  Calls Tryz.prog 82 #[.int .i64 n] w fun e w'=>e = .returned (.string ⟨(Lib.itoa n).toArray⟩)/\∃ k os,w'=grow (w.drewN k) os:=Any.strconv_Itoa Tryz.laysM171 n h0 h1 w htab
def Tryz.laysC172_ren:Go.Shelf.Ren:=⟨fun | 172=>101 | 244=>164 | 245=>165 | 247=>210 | 279=>211 | 280=>212 | 281=>213 | 282=>214 | 287=>260 | 316=>261 | 171=>82 | 205=>262 | 321=>291 | 322=>292 | 243=>146 | 246=>200 | 283=>249 | 284=>250 | 285=>251 | 286=>252 | 129=>286 | 317=>285 | 318=>287 | 319=>288 | 320=>289 | 337=>305 | 338=>306 | n=>n,fun | 9=>9 | 3=>3 | 75=>125 | 76=>126 | 4=>4 | 5=>5 | 167=>205 | 37=>32 | 0=>0 | 85=>206 | 2=>2 | 168=>208 | 53=>113 | 175=>240 | 46=>221 | 210=>244 | 127=>200 | 145=>261 | 143=>259 | 21=>21 | 171=>227 | 173=>230 | 212=>254 | 51=>255 | 20=>20 | 213=>256 | 232=>280 | 233=>281 | 80=>116 | n=>n,fun | 15=>0 | 16=>1 | 17=>3 | 18=>6 | 19=>7 | n=>n⟩
theorem Tryz.laysC172:Go.Proofs.LaysC.n172 Tryz.prog Tryz.laysC172_ren:={
 mixed:=by kernel_rfl
 f129:=Tryz.func286.trans (congrArg some (by kernel_rfl))
 f171:=Tryz.func82.trans (congrArg some (by kernel_rfl))
 f172:=Tryz.func101.trans (congrArg some (by kernel_rfl))
 f205:=Tryz.func262.trans (congrArg some (by kernel_rfl))
 f243:=Tryz.func146.trans (congrArg some (by kernel_rfl))
 f244:=Tryz.func164.trans (congrArg some (by kernel_rfl))
 f245:=Tryz.func165.trans (congrArg some (by kernel_rfl))
 f246:=Tryz.func200.trans (congrArg some (by kernel_rfl))
 f247:=Tryz.func210.trans (congrArg some (by kernel_rfl))
 f279:=Tryz.func211.trans (congrArg some (by kernel_rfl))
 f280:=Tryz.func212.trans (congrArg some (by kernel_rfl))
 f281:=Tryz.func213.trans (congrArg some (by kernel_rfl))
 f282:=Tryz.func214.trans (congrArg some (by kernel_rfl))
 f283:=Tryz.func249.trans (congrArg some (by kernel_rfl))
 f284:=Tryz.func250.trans (congrArg some (by kernel_rfl))
 f285:=Tryz.func251.trans (congrArg some (by kernel_rfl))
 f286:=Tryz.func252.trans (congrArg some (by kernel_rfl))
 f287:=Tryz.func260.trans (congrArg some (by kernel_rfl))
 f316:=Tryz.func261.trans (congrArg some (by kernel_rfl))
 f317:=Tryz.func285.trans (congrArg some (by kernel_rfl))
 f318:=Tryz.func287.trans (congrArg some (by kernel_rfl))
 f319:=Tryz.func288.trans (congrArg some (by kernel_rfl))
 f320:=Tryz.func289.trans (congrArg some (by kernel_rfl))
 f321:=Tryz.func291.trans (congrArg some (by kernel_rfl))
 f322:=Tryz.func292.trans (congrArg some (by kernel_rfl))
 f337:=Tryz.func305.trans (congrArg some (by kernel_rfl))
 f338:=Tryz.func306.trans (congrArg some (by kernel_rfl))
 t0:=Tryz.underlying0
 a0:=Tryz.isAgg0
 z0:=Tryz.sizeOf0
 v0:=Tryz.zeroValue0
 t2:=Tryz.underlying2
 a2:=Tryz.isAgg2
 z2:=Tryz.sizeOf2
 v2:=Tryz.zeroValue2
 t3:=Tryz.underlying3
 a3:=Tryz.isAgg3
 z3:=Tryz.sizeOf3
 v3:=Tryz.zeroValue3
 t4:=Tryz.underlying4
 a4:=Tryz.isAgg4
 z4:=Tryz.sizeOf4
 v4:=Tryz.zeroValue4
 t5:=Tryz.underlying5
 a5:=Tryz.isAgg5
 z5:=Tryz.sizeOf5
 v5:=Tryz.zeroValue5
 t9:=Tryz.underlying9
 a9:=Tryz.isAgg9
 z9:=Tryz.sizeOf9
 v9:=Tryz.zeroValue9
 t20:=Tryz.underlying20
 a20:=Tryz.isAgg20
 z20:=Tryz.sizeOf20
 v20:=Tryz.zeroValue20
 t21:=Tryz.underlying21
 a21:=Tryz.isAgg21
 z21:=Tryz.sizeOf21
 v21:=Tryz.zeroValue21
 t37:=Tryz.underlying32
 a37:=Tryz.isAgg32
 z37:=Tryz.sizeOf32
 v37:=Tryz.zeroValue32
 t46:=Tryz.underlying221
 a46:=Tryz.isAgg221
 z46:=Tryz.sizeOf221
 v46:=Tryz.zeroValue221
 t51:=Tryz.underlying255
 a51:=Tryz.isAgg255
 z51:=Tryz.sizeOf255
 v51:=Tryz.zeroValue255
 t53:=Tryz.underlying113
 a53:=Tryz.isAgg113
 z53:=Tryz.sizeOf113
 v53:=Tryz.zeroValue113
 t75:=Tryz.underlying125
 a75:=Tryz.isAgg125
 z75:=Tryz.sizeOf125
 v75:=Tryz.zeroValue125
 t76:=Tryz.underlying126
 a76:=Tryz.isAgg126
 z76:=Tryz.sizeOf126
 v76:=Tryz.zeroValue126
 t85:=Tryz.underlying206
 a85:=Tryz.isAgg206
 z85:=Tryz.sizeOf206
 v85:=Tryz.zeroValue206
 t127:=Tryz.underlying200
 a127:=Tryz.isAgg200
 z127:=Tryz.sizeOf200
 v127:=Tryz.zeroValue200
 t143:=Tryz.underlying259
 a143:=Tryz.isAgg259
 z143:=Tryz.sizeOf259
 v143:=Tryz.zeroValue259
 t145:=Tryz.underlying261
 a145:=Tryz.isAgg261
 z145:=Tryz.sizeOf261
 v145:=Tryz.zeroValue261
 t167:=Tryz.underlying205
 a167:=Tryz.isAgg205
 z167:=Tryz.sizeOf205
 v167:=Tryz.zeroValue205
 t168:=Tryz.underlying208
 a168:=Tryz.isAgg208
 z168:=Tryz.sizeOf208
 v168:=Tryz.zeroValue208
 t171:=Tryz.underlying227
 a171:=Tryz.isAgg227
 z171:=Tryz.sizeOf227
 v171:=Tryz.zeroValue227
 t173:=Tryz.underlying230
 a173:=Tryz.isAgg230
 z173:=Tryz.sizeOf230
 v173:=Tryz.zeroValue230
 t175:=Tryz.underlying240
 a175:=Tryz.isAgg240
 z175:=Tryz.sizeOf240
 v175:=Tryz.zeroValue240
 t210:=Tryz.underlying244
 a210:=Tryz.isAgg244
 z210:=Tryz.sizeOf244
 v210:=Tryz.zeroValue244
 t212:=Tryz.underlying254
 a212:=Tryz.isAgg254
 z212:=Tryz.sizeOf254
 v212:=Tryz.zeroValue254
 t213:=Tryz.underlying256
 a213:=Tryz.isAgg256
 z213:=Tryz.sizeOf256
 t232:=Tryz.underlying280
 a232:=Tryz.isAgg280
 z232:=Tryz.sizeOf280
 v232:=Tryz.zeroValue280
 t233:=Tryz.underlying281
 a233:=Tryz.isAgg281
 z233:=Tryz.sizeOf281
 v233:=Tryz.zeroValue281
 g15:=by kernel_rfl
 g16:=by kernel_rfl
 g17:=by kernel_rfl
 g18:=by kernel_rfl
 g19:=by kernel_rfl
 t80:=Tryz.underlying116
 a80:=Tryz.isAgg116
 z80:=Tryz.sizeOf116
 v80:=Tryz.zeroValue116
 i0:=by kernel_rfl
 i2:=by kernel_rfl
 i3:=by kernel_rfl
 i4:=by kernel_rfl
 i5:=by kernel_rfl
 i9:=by kernel_rfl
 i20:=by kernel_rfl
 i21:=by kernel_rfl
 i37:=by kernel_rfl
 i46:=by kernel_rfl
 i51:=by kernel_rfl
 i53:=by kernel_rfl
 i75:=by kernel_rfl
 i76:=by kernel_rfl
 i80:=by kernel_rfl
 i85:=by kernel_rfl
 i127:=by kernel_rfl
 i143:=by kernel_rfl
 i145:=by kernel_rfl
 i167:=by kernel_rfl
 i168:=by kernel_rfl
 i171:=by kernel_rfl
 i173:=by kernel_rfl
 i175:=by kernel_rfl
 i210:=by kernel_rfl
 i212:=by kernel_rfl
 i232:=by kernel_rfl
 i233:=by kernel_rfl
 m15:=by kernel_rfl
 m16:=by kernel_rfl
 m17:=by kernel_rfl
 m18:=by kernel_rfl
 m19:=by kernel_rfl
 c0:=by kernel_rfl
 c2:=by kernel_rfl
 c3:=by kernel_rfl
 c4:=by kernel_rfl
 c5:=by kernel_rfl
 c9:=by kernel_rfl
 c20:=by kernel_rfl
 c21:=by kernel_rfl
 c37:=by kernel_rfl
 c46:=by kernel_rfl
 c51:=by kernel_rfl
 c53:=by kernel_rfl
 c75:=by kernel_rfl
 c76:=by kernel_rfl
 c80:=by kernel_rfl
 c85:=by kernel_rfl
 c127:=by kernel_rfl
 c143:=by kernel_rfl
 c145:=by kernel_rfl
 c167:=by kernel_rfl
 c168:=by kernel_rfl
 c171:=by kernel_rfl
 c173:=by kernel_rfl
 c175:=by kernel_rfl
 c210:=by kernel_rfl
 c212:=by kernel_rfl
 c213:=by kernel_rfl
 c232:=by kernel_rfl
 c233:=by kernel_rfl }
open Go.RowKit in
theorem Tryz.strconv_Atoi_ok (s:ByteArray) (hmax:s.size<=9223372036854775806) (v:Int) (h:Lib.atoiAll s.data.toList = .ok v) (w:World) :
  Calls Tryz.prog 101 #[.string s] w fun e w'=>e = .returned (.tuple #[.int .i64 v,.nilIface])/\(w'=w\/∃ t,w'=Lib.bytesWorld w 5 t):=Any.strconv_Atoi_ok Tryz.laysC172 s hmax v h w
open Go.RowKit in
theorem Tryz.strconv_Atoi_syntax_var (s:ByteArray) (hlim:s.size<=281474976710656) (h:Lib.atoiAll s.data.toList=Lib.atoiAll []) (tp:TypeId) (p:Value) (w:World) (hvar:w.var? Tryz.prog "strconv.ErrSyntax" = some #[.iface tp p]) :
  Calls Tryz.prog 101 #[.string s] w fun e w'=>∃ N,e = .returned (.tuple #[.int .i64 0,.iface 208 (.pointer (some ⟨N,0,none⟩))])/\w.heap.size<=N/\w'.heap[N]? = some (.cells #[.string ⟨#[65,116,111,105]⟩,.string s,.iface tp p] 244 (0,0))/\Below w.heap.size w w':=Any.strconv_Atoi_syntax_var Tryz.laysC172 s hlim h tp p w hvar
open Go.RowKit in
theorem Tryz.strconv_Atoi_range_var (s:ByteArray) (hlim:s.size<=281474976710656) (h:Lib.atoiAll s.data.toList = .range) (tp:TypeId) (p:Value) (w:World) (hvar:w.var? Tryz.prog "strconv.ErrRange" = some #[.iface tp p]) :
  Calls Tryz.prog 101 #[.string s] w fun e w'=>∃ N,e = .returned (.tuple #[.int .i64 (Lib.atoiSat s.data.toList),.iface 208 (.pointer (some ⟨N,0,none⟩))])/\w.heap.size<=N/\w'.heap[N]? = some (.cells #[.string ⟨#[65,116,111,105]⟩,.string s,.iface tp p] 244 (0,0))/\Below w.heap.size w w':=Any.strconv_Atoi_range_var Tryz.laysC172 s hlim h tp p w hvar
def Tryz.lays144_ren:Go.Shelf.Ren:=⟨fun | 144=>155 | 143=>207 | 219=>238 | 217=>279 | 225=>280 | 224=>281 | 267=>282 | 266=>303 | 314=>304 | n=>n,fun | 9=>9 | 4=>4 | 3=>3 | 5=>5 | 46=>221 | 146=>266 | 51=>255 | n=>n,fun | 1=>2 | n=>n⟩
theorem Tryz.lays144:Go.Proofs.Lays.n144 Tryz.prog Tryz.lays144_ren:={
 mixed:=by kernel_rfl
 f143:=Tryz.func207.trans (congrArg some (by kernel_rfl))
 f144:=Tryz.func155.trans (congrArg some (by kernel_rfl))
 f217:=Tryz.func279.trans (congrArg some (by kernel_rfl))
 f219:=Tryz.func238.trans (congrArg some (by kernel_rfl))
 f224:=Tryz.func281.trans (congrArg some (by kernel_rfl))
 f225:=Tryz.func280.trans (congrArg some (by kernel_rfl))
 f266:=Tryz.func303.trans (congrArg some (by kernel_rfl))
 f267:=Tryz.func282.trans (congrArg some (by kernel_rfl))
 f314:=Tryz.func304.trans (congrArg some (by kernel_rfl))
 t3:=Tryz.underlying3
 a3:=Tryz.isAgg3
 z3:=Tryz.sizeOf3
 v3:=Tryz.zeroValue3
 t4:=Tryz.underlying4
 a4:=Tryz.isAgg4
 z4:=Tryz.sizeOf4
 v4:=Tryz.zeroValue4
 t5:=Tryz.underlying5
 a5:=Tryz.isAgg5
 z5:=Tryz.sizeOf5
 v5:=Tryz.zeroValue5
 t9:=Tryz.underlying9
 a9:=Tryz.isAgg9
 z9:=Tryz.sizeOf9
 v9:=Tryz.zeroValue9
 t46:=Tryz.underlying221
 a46:=Tryz.isAgg221
 z46:=Tryz.sizeOf221
 v46:=Tryz.zeroValue221
 t51:=Tryz.underlying255
 a51:=Tryz.isAgg255
 z51:=Tryz.sizeOf255
 v51:=Tryz.zeroValue255
 t146:=Tryz.underlying266
 a146:=Tryz.isAgg266
 z146:=Tryz.sizeOf266
 v146:=Tryz.zeroValue266
 g1:=by kernel_rfl }
open Go.RowKit Go.Lib in
theorem Tryz.strings_Contains (s sub:ByteArray) (m:Int) (w:World) (hs:s.size<4294967281) (hm:w.cell? ⟨2,0,none⟩=some (.int .i64 m)) :
  Calls Tryz.prog 155 #[.string s,.string sub] w fun e w'=>e = .returned (.bool (Lib.contains s.data.toList sub.data.toList))/\w'=w:=Any.strings_Contains Tryz.lays144 s sub m w hs hm
def Tryz.lays146_ren:Go.Shelf.Ren:=⟨fun | 146=>91 | 221=>153 | 268=>205 | 138=>206 | 143=>207 | 195=>256 | 197=>257 | 218=>258 | 219=>238 | 260=>290 | 217=>279 | 225=>280 | 224=>281 | 267=>282 | 266=>303 | 314=>304 | n=>n,fun | 9=>9 | 31=>63 | 3=>3 | 4=>4 | 0=>0 | 105=>236 | 21=>21 | 5=>5 | 46=>221 | 119=>269 | 139=>272 | 138=>271 | 146=>266 | 51=>255 | n=>n,fun | 1=>2 | 3=>4 | 4=>5 | n=>n⟩
theorem Tryz.lays146:Go.Proofs.Lays.n146 Tryz.prog Tryz.lays146_ren:={
 mixed:=by kernel_rfl
 f138:=Tryz.func206.trans (congrArg some (by kernel_rfl))
 f143:=Tryz.func207.trans (congrArg some (by kernel_rfl))
 f146:=Tryz.func91.trans (congrArg some (by kernel_rfl))
 f195:=Tryz.func256.trans (congrArg some (by kernel_rfl))
 f197:=Tryz.func257.trans (congrArg some (by kernel_rfl))
 f217:=Tryz.func279.trans (congrArg some (by kernel_rfl))
 f218:=Tryz.func258.trans (congrArg some (by kernel_rfl))
 f219:=Tryz.func238.trans (congrArg some (by kernel_rfl))
 f221:=Tryz.func153.trans (congrArg some (by kernel_rfl))
 f224:=Tryz.func281.trans (congrArg some (by kernel_rfl))
 f225:=Tryz.func280.trans (congrArg some (by kernel_rfl))
 f260:=Tryz.func290.trans (congrArg some (by kernel_rfl))
 f266:=Tryz.func303.trans (congrArg some (by kernel_rfl))
 f267:=Tryz.func282.trans (congrArg some (by kernel_rfl))
 f268:=Tryz.func205.trans (congrArg some (by kernel_rfl))
 f314:=Tryz.func304.trans (congrArg some (by kernel_rfl))
 t0:=Tryz.underlying0
 a0:=Tryz.isAgg0
 z0:=Tryz.sizeOf0
 v0:=Tryz.zeroValue0
 t3:=Tryz.underlying3
 a3:=Tryz.isAgg3
 z3:=Tryz.sizeOf3
 v3:=Tryz.zeroValue3
 t4:=Tryz.underlying4
 a4:=Tryz.isAgg4
 z4:=Tryz.sizeOf4
 v4:=Tryz.zeroValue4
 t5:=Tryz.underlying5
 a5:=Tryz.isAgg5
 z5:=Tryz.sizeOf5
 v5:=Tryz.zeroValue5
 t9:=Tryz.underlying9
 a9:=Tryz.isAgg9
 z9:=Tryz.sizeOf9
 v9:=Tryz.zeroValue9
 t21:=Tryz.underlying21
 a21:=Tryz.isAgg21
 z21:=Tryz.sizeOf21
 v21:=Tryz.zeroValue21
 t31:=Tryz.underlying63
 a31:=Tryz.isAgg63
 z31:=Tryz.sizeOf63
 v31:=Tryz.zeroValue63
 t46:=Tryz.underlying221
 a46:=Tryz.isAgg221
 z46:=Tryz.sizeOf221
 v46:=Tryz.zeroValue221
 t51:=Tryz.underlying255
 a51:=Tryz.isAgg255
 z51:=Tryz.sizeOf255
 v51:=Tryz.zeroValue255
 t105:=Tryz.underlying236
 a105:=Tryz.isAgg236
 z105:=Tryz.sizeOf236
 v105:=Tryz.zeroValue236
 t119:=Tryz.underlying269
 a119:=Tryz.isAgg269
 z119:=Tryz.sizeOf269
 t138:=Tryz.underlying271
 a138:=Tryz.isAgg271
 z138:=Tryz.sizeOf271
 v138:=Tryz.zeroValue271
 t139:=Tryz.underlying272
 a139:=Tryz.isAgg272
 z139:=Tryz.sizeOf272
 v139:=Tryz.zeroValue272
 t146:=Tryz.underlying266
 a146:=Tryz.isAgg266
 z146:=Tryz.sizeOf266
 v146:=Tryz.zeroValue266
 g1:=by kernel_rfl
 g3:=by kernel_rfl
 g4:=by kernel_rfl }
open Go.RowKit Go.Lib in
theorem Tryz.strings_Split (s sep:ByteArray) (m:Int) (w:World) (hs:s.size<4294967281) (hm:w.cell? ⟨2,0,none⟩=some (.int .i64 m)) (h1 : 1<=sep.size) :
  Calls Tryz.prog 91 #[.string s,.string sep] w fun e w' =>
   e = .returned (.slice (some ⟨w.heap.size,0,none⟩) (Lib.countB s sep + 1) (Lib.countB s sep + 1))/\w'=w.alloc (.cells ((Lib.splitB sep 0 (Lib.countB s sep) s).map Value.string).toArray 9):=Any.strings_Split Tryz.lays146 (by kernel_rfl) s sep m w hs hm h1
end
end Go.Proofs
namespace Go.Proofs.YtiijheppiboglaaGreatDoor.Ev
section
open Go Go.RowKit
variable {H:Type} {enc:TypeId×Value->H}
theorem Qf {a:Assume} {C:Checked} {os:Os} {f:FuncId} {fn:Func} {s:ChangeSpec} {conds:List PathCond} {apart fresh handsOn again:Bool} {X:World->Array Value->Prop}
  (hX:∀ (w w':World) (args:Array Value),w.heap=w'.heap->X w args->X w' args)
  (own:ownKnob C.prog.godebug=none) (started:os.Started) (noInit:C.prog.inits.idxOf? f=none) (hfn:C.prog.funcs[f]? = some fn)
  (witness:∃ (w:World) (tape:Tape) (i:Input),w.os=os/\(w.forCall tape i).Shaped C.prog/\i.vars = []/\Input.okWide C.prog (w.forCall tape i) .any w.heap.size f i /\
   ((s.pre enc C.prog fn conds apart (w.forCall tape i).memory i.args/\X (w.forCall tape i).memory i.args)/\sizedMet enc C.prog fn (OpenSpec.ofChange s) apart (w.forCall tape i).memory i.args)/\a.holds C.prog (lone (Frame.enter C.prog f i.args .normal) [] (w.forCall tape i)))
  (contract:∀ (W:World) (base:Nat) (args:Array Value) (ds gs:List (DataW H)) (before:List MemPlace),
   (∀ (j:Nat) t v,fn.params[j]? = some t->args[j]? = some v->Value.okWide C.prog W .any base t v) ->
   DataW.Whole enc C.prog fn.params.toList s.vars apart W args.toList ds gs before ->
   (DataW.weightsEach C.prog (fn.params.toList++s.plain.varTypes C.prog) (ds++gs)).all (· <= reachBytes)=true ->
   W.ShapedOpen C.prog->X W args ->
   Calls C.prog f args W fun e W'=>∃ v,e = .returned v/\s.post enc C.prog fn apart fresh handsOn again W args v W') :
  ReturnsInHanded a C os f .any (fun w args=>(s.pre enc C.prog fn conds apart w args/\X w args)/\sizedMet enc C.prog fn (OpenSpec.ofChange s) apart w args) (s.post enc C.prog fn apart fresh handsOn again):=by
 refine returnsInHanded_of_calls own started noInit witness ?_
 intro w tape i _ hsh _ hok hpre hholds;obtain ⟨_,_,_,fn',hfn',_,_,_,_,hval⟩:=hok;have e:fn'=fn:=Option.some.inj (hfn'.symm.trans hfn);subst e;obtain ⟨⟨⟨ds,gs,before,hw,hc⟩,hx⟩,hz⟩:=hpre;have hw':=DataW.Whole.of_heap (w':=w.forCall tape i) (by rfl) hw;refine (contract (w.forCall tape i) w.heap.size i.args ds gs before hval hw' (hz.weights hw) hsh (hX _ _ _ (by rfl) hx)).mono fun e W' ⟨v,he,hp⟩=>?_
 subst he;exact ChangeSpec.post_blind hp
def Jof (w:World) (ids:List Nat):J1:=ids.filterMap fun g=>(w.heap[g]?).map fun o=>(g,o)
theorem A9M {w:World} {ids:List Nat}:∀ x∈Jof w ids,w.heap[x.1]? = some x.2:=by
 intro x hx;simp only[Jof,List.mem_filterMap,zb6] at hx;obtain ⟨g,_,o,ho,rfl⟩:=hx;exact ho
theorem A0E {w w':World} {ids:List Nat} (h:∀ x∈Jof w ids,w'.heap[x.1]? = some x.2) {g:Nat} (hg:g∈ids) {o:Obj} (ho:w.heap[g]? = some o):w'.heap[g]? = some o :=
 h (g,o) (by simp only[Jof,List.mem_filterMap,zb6]; exact ⟨g,hg,o,ho,rfl⟩)
theorem A45 {P:Program} {w w':World} {ids:List Nat} (h:∀ x∈Jof w ids,w'.heap[x.1]? = some x.2) {name:String} {g:Nat} (hn:P.globalNamed name=some g) (hg:g∈ids) {cs:Array Value}
  (hv:w.var? P name=some cs):w'.var? P name=some cs:=by
 cases ho:w.heap[g]? with
 | none=>simp[World.var?,hn,ho] at hv
 | some o =>
  have:=A0E h hg ho;simp only[World.var?,hn,za0,ho] at hv;simp only[World.var?,hn,za0,this];exact hv
theorem By5 {P:Program} {w:World} {ids:List Nat} {name:String} {g:Nat} {k:IntKind} {zs:List Int} (hn:P.globalNamed name=some g) (hg:g∈ids) (h:Lib.TabIs P w name k zs):Bs3 P (Jof w ids) name k zs :=
 fun _ hw=>A45 hw hn hg h
theorem By7 {w:World} {ids:List Nat} {g:Nat} (hg:g∈ids) (h:∃ m:Int,w.cell? ⟨g,0,none⟩=some (.int .i64 m)):Bf4 (Jof w ids) g:=by
 intro w' hw;obtain ⟨m,hm⟩:=h;cases ho:w.heap[g]? with
 | none=>simp[World.cell?,ho] at hm
 | some o =>
  refine ⟨m,?_⟩
  have:=A0E hw hg ho;simp only[World.cell?,ho,this] at hm ⊢
  exact hm
theorem Bu8 {P:Program} {w:World} {ids:List Nat} {name:String} {g:Nat} (hn:P.globalNamed name=some g) (hg:g∈ids) (h:∃ tp p,w.var? P name=some #[.iface tp p]):A80 P (Jof w ids) name:=by
 intro w' hw;obtain ⟨tp,p,h⟩:=h;exact ⟨tp,p,A45 hw hn hg h⟩
theorem JO {P:Program} {w:World}:∀ (n:Nat) {l:List (String×DataW Unit)},laidMet P l w->laidMet P (l.drop n) w
 | 0,_,h=>h
 | n + 1,[],h=>h
 | n + 1,_::_,h=>JO n h.tail
end
noncomputable section
open Go
set_option maxRecDepth 100000
abbrev Tq0:Type:=((Bool×(List Int))×(Bool×(List Int)))
abbrev Tq1:Type:=(Bool×((List Int)×(Bool×(List Int))))
abbrev Tq2:Type:=(Int×(Int×(Int×Int)))
abbrev Tq3:Type:=(List (Int×Int))
abbrev Tq4:Type:=(List (Tq0×Tq0))
abbrev Tq5:Type:=(Bool×(List Int))
abbrev Tq6:Type:=((Bool×List (Int))×(Bool×List (Int)))
abbrev Tq7:Type:=(Bool×((List Int)×(Bool×((List Int)×Tq1))))
abbrev Tq8:Type:=(Bool×List (Int)×Bool×List (Int))
abbrev Tq9:Type:=(List (List UInt8))
abbrev Tq10:Type:=((List Int)×(Int×Int))
abbrev Tq11:Type:=((List Int)×((List Int)×(Int×(Int×Int))))
abbrev Tq12:Type:=(Bool×List (Int)×Bool×List (Int)×Bool×List (Int)×Bool×List (Int))
abbrev Tq13:Type:=(Tq2×((List Tq0)×((List Tq3)×(Int×Int))))
abbrev Tq14:Type:=((List Int)×((List Int)×Tq10))
abbrev Tq15:Type:=(Tq4×(Int×Int))
abbrev Tq16:Type:=(Tq9×(Int×Int))
abbrev Tq17:Type:=(Tq2×((List Tq0)×((List Tq3)×(Int×(Int×((List Tq0)×(Int×Int)))))))
abbrev Tq18:Type:=((Bool×List (Int)))
abbrev Tq19:Type:=((List Int)×((List Int)×((List Int)×(Int×(Int×(Int×Tq2))))))
abbrev Tq20:Type:=((List Int)×((List Int)×Int))
abbrev Tq21:Type:=(Tq9×(Int×Bool))
abbrev Tq22:Type:=((List Int)×((List Int)×((List Int)×(Int×Tq2))))
abbrev Tq23:Type:=(List ((Int×Int)))
abbrev Tq24:Type:=(Tq3×(Int×Int))
abbrev Tq25:Type:=(Tq2×((List Tq0)×(Tq4×Int)))
abbrev Tq26:Type:=((List UInt8)×(Int×Int))
abbrev Tq27:Type:=(List ((Tq6×Tq6))×Bool)
abbrev Tq28:Type:=((List Int)×((List Int)×Tq2))
abbrev Tq29:Type:=((List Int)×((List Tq0)×(Int×Int)))
abbrev Tq30:Type:=((List Tq0)×Bool)
abbrev Tq31:Type:=(Tq5×(Tq5×(Tq5×((List Int)×(Int×(Int×(Int×((List Int)×(Int×(Int×Tq10))))))))))
abbrev Yq0:Ty:=(.pair (.pair (.bool) (.sl (.int .i64))) (.pair (.bool) (.sl (.int .i64))))
abbrev Yq1:Ty:=(.pair (.int .i64) (.int .i64))
abbrev Yq2:Ty:=(.pair Yq0 Yq0)
abbrev Yq3:Ty:=(.pair (.bool) (.sl (.int .i64)))
def Bo4:TyD:=⟨1,8,false,[(.v (.int .i64 0))],none,false,(some .i64),[],false⟩
def Bv8:TyD:=⟨1,1,false,[(.v (.bool false))],none,false,none,[],false⟩
def Bt8:TyD:=⟨1,1,false,[(.v (.int .u8 0))],none,false,(some .u8),[],false⟩
def Bu9:TyD:=⟨1,16,false,[(.v (.string ⟨#[]⟩))],none,true,none,[],false⟩
def A9D:TyD:=⟨1,24,false,[.em],(some 3),false,none,[],false⟩
def Bl5:TyD:=⟨2,32,true,[(.v (.bool false)),.em],none,false,none,[⟨0,4,1,false⟩,⟨1,22,1,false⟩],false⟩
def Bm2:TyD:=⟨4,64,true,[(.v (.bool false)),.em,(.v (.bool false)),.em],none,false,none,[⟨0,24,2,true⟩,⟨2,24,2,true⟩],false⟩
def Bk3:TyD:=⟨1,24,false,[.em],(some 5),false,none,[],false⟩
def Bl3:TyD:=⟨1,24,false,[.em],(some 87),false,none,[],false⟩
def Bk7:TyD:=⟨2,16,true,[(.v (.int .i64 0)),(.v (.int .i64 0))],none,false,none,[⟨0,3,1,false⟩,⟨1,3,1,false⟩],false⟩
def Bj6:TyD:=⟨4,32,true,[(.v (.int .i64 0)),(.v (.int .i64 0)),(.v (.int .i64 0)),(.v (.int .i64 0))],none,false,none,[⟨0,3,1,false⟩,⟨1,3,1,false⟩,⟨2,3,1,false⟩,⟨3,3,1,false⟩],false⟩
def Bk1:TyD:=⟨4,32,true,[(.v (.int .i64 0)),(.v (.int .i64 0)),(.v (.int .i64 0)),(.v (.int .i64 0))],none,false,none,[⟨0,3,1,false⟩,⟨1,3,1,false⟩,⟨2,3,1,false⟩,⟨3,3,1,false⟩],false⟩
def Bm1:TyD:=⟨1,24,false,[.em],(some 9),false,none,[],false⟩
def Bj7:TyD:=⟨1,24,false,[.em],(some 26),false,none,[],false⟩
def Bm7:TyD:=⟨1,24,false,[.em],(some 151),false,none,[],false⟩
def Bl0:TyD:=⟨1,24,false,[.em],(some 48),false,none,[],false⟩
def Bj5:TyD:=⟨1,24,false,[.em],(some 161),false,none,[],false⟩
def A8k:TyD:=⟨5,88,true,[.em,(.v (.int .i64 0)),.em,.em,(.v (.bool false))],none,false,none,[⟨0,63,1,false⟩,⟨1,3,1,false⟩,⟨2,33,1,false⟩,⟨3,87,1,false⟩,⟨4,4,1,false⟩],false⟩
def A9X:TyD:=⟨1,8,false,[(.v (.int .u64 0))],none,false,(some .u64),[],false⟩
def A9O:TyD:=⟨5,88,true,[.em,(.v (.int .i64 0)),.em,.em,(.v (.int .i64 0))],none,false,none,[⟨0,63,1,false⟩,⟨1,3,1,false⟩,⟨2,33,1,false⟩,⟨3,87,1,false⟩,⟨4,3,1,false⟩],false⟩
def A8h:TyD:=⟨1,16,false,[(.v .nilIface)],none,false,none,[],true⟩
def Ba4:TyD:=⟨2,16,true,[(.v (.int .i64 0)),(.v (.int .i64 0))],none,false,none,[⟨0,3,1,false⟩,⟨1,3,1,false⟩],false⟩
def A7U:TyD:=⟨8,128,true,[(.v (.bool false)),.em,(.v (.bool false)),.em,(.v (.bool false)),.em,(.v (.bool false)),.em],none,false,none,[⟨0,26,4,true⟩,⟨4,26,4,true⟩],false⟩
def Ba5:TyD:=⟨1,8,false,[(.v (.int .u64 0))],none,false,(some .u64),[],false⟩
def A8L:TyD:=⟨1,24,false,[.em],(some 24),false,none,[],false⟩
theorem ty3:AY Tryz.prog 3=some Bo4:=by kernel_rfl
theorem ty4:AY Tryz.prog 4=some Bv8:=by kernel_rfl
theorem ty5:AY Tryz.prog 5=some Bt8:=by kernel_rfl
theorem ty9:AY Tryz.prog 9=some Bu9:=by kernel_rfl
theorem Bv7:AY Tryz.prog 22=some A9D:=by kernel_rfl
theorem Bz2:AY Tryz.prog 24=some Bl5:=by kernel_rfl
theorem By6:AY Tryz.prog 26=some Bm2:=by kernel_rfl
theorem By4:AY Tryz.prog 32=some Bk3:=by kernel_rfl
theorem Bz9:AY Tryz.prog 33=some Bl3:=by kernel_rfl
theorem Bz4:AY Tryz.prog 48=some Bk7:=by kernel_rfl
theorem Bx4:AY Tryz.prog 55=some Bj6:=by kernel_rfl
theorem By3:AY Tryz.prog 58=some Bk1:=by kernel_rfl
theorem By2:AY Tryz.prog 63=some Bm1:=by kernel_rfl
theorem Bz1:AY Tryz.prog 70=some Bj7:=by kernel_rfl
theorem Bx9:AY Tryz.prog 83=some Bm7:=by kernel_rfl
theorem Bz3:AY Tryz.prog 87=some Bl0:=by kernel_rfl
theorem By0:AY Tryz.prog 95=some Bj5:=by kernel_rfl
theorem Bx0:AY Tryz.prog 108=some A8k:=by kernel_rfl
theorem Bw9:AY Tryz.prog 113=some A9X:=by kernel_rfl
theorem Bt3:AY Tryz.prog 120=some A9O:=by kernel_rfl
theorem Bv6:AY Tryz.prog 125=some A8h:=by kernel_rfl
theorem Bw7:AY Tryz.prog 151=some Ba4:=by kernel_rfl
theorem Bw3:AY Tryz.prog 161=some A7U:=by kernel_rfl
theorem Bt4:AY Tryz.prog 221=some Ba5:=by kernel_rfl
theorem Bt6:AY Tryz.prog 249=some A8L:=by kernel_rfl
def Ak:List (Nat×TyD):=[(3,Bo4),(4,Bv8),(5,Bt8),(9,Bu9),(22,A9D),(24,Bl5),(26,Bm2),(32,Bk3),(33,Bl3),(48,Bk7),(55,Bj6),(58,Bk1),(63,Bm1),(70,Bj7),(83,Bm7),(87,Bl0),(95,Bj5),(108,A8k),(113,A9X),(120,A9O),(125,A8h),(151,Ba4),(161,A7U),(221,Ba5),(249,A8L)]
def Af:List (Nat×Ty):=[(3,.int .i64),(5,.int .u8),(9,.str),(24,.pair (.bool) (.sl (.int .i64))),(26,.pair Yq3 Yq3),(48,.pair (.int .i64) (.int .i64)),(87,.sl Yq1),(151,.pair (.int .i64) (.int .i64)),(161,.pair Yq0 Yq0)]
theorem Ay:∀ t d,getD Ak t=some d->AY Tryz.prog t=some d:=Bn3 (by unfold Ak; exact ⟨ty3,⟨ty4,⟨ty5,⟨ty9,⟨Bv7,⟨Bz2,⟨By6,⟨By4,⟨Bz9,⟨Bz4,⟨Bx4,⟨By3,⟨By2,⟨Bz1,⟨Bx9,⟨Bz3,⟨By0,⟨Bx0,⟨Bw9,⟨Bt3,⟨Bv6,⟨Bw7,⟨Bw3,⟨Bt4,⟨Bt6,trivial⟩⟩⟩⟩⟩⟩⟩⟩⟩⟩⟩⟩⟩⟩⟩⟩⟩⟩⟩⟩⟩⟩⟩⟩⟩)
theorem Bt5:Tryz.prog.underlying 4=some .bool:=by kernel_rfl
theorem Ae:∀ t,([4]:List Nat).contains t=true->Tryz.prog.underlying t=some .bool:=by
 intro t h;simp at h;rcases h with rfl
 all_goals first | exact Bt5
theorem Az:∀ t,([]:List Nat).contains t=true->Bu1 Tryz.prog t:=by
 intro t h;simp at h
 try exact h.elim
def N4:FAnn:=⟨39,0,[.slot 0 (.agg [.int .i64,.int .i64,.int .i64,.int .i64])],[.slot 0 (.agg [.int .i64,.int .i64,.int .i64,.int .i64])],
 [],
 [],
 []⟩
def NX:FAnn:=⟨95,0,[.slot 0 (.cell (.str))],[.blk (.arr 9 true (.str)),.slot 0 (.ref 0 false)],
 [(4,[.blk (.arr 9 true (.str)),.slot 0 (.cell (.str)),.slot 3 (.ref 0 false),.slot 4 (.cell (.int .i64)),.slot 5 (.cell (.int .i64))])],
 [(4,[(.exit 0,[.blk (.arr 9 true (.str)),.slot 0 (.cell (.str)),.slot 3 (.ref 0 false),.slot 4 (.cell (.int .i64))])])],
 []⟩
def TU:FAnn:=⟨102,0,[.slot 0 (.cell (.str)),.slot 1 (.cell (.int .i64))],[.slot 0 (.cell (.int .i64)),.slot 1 (.cell (.int .i64))],
 [(3,[.slot 0 (.cell (.str)),.slot 1 (.cell (.int .i64)),.slot 6 (.cell (.int .i64)),.slot 7 (.cell (.int .i64))])],
 [(3,[(.exit 0,[.slot 0 (.cell (.str)),.slot 1 (.cell (.int .i64)),.slot 6 (.cell (.int .i64)),.slot 7 (.cell (.int .i64))])])],
 []⟩
def Kv:FAnn:=⟨31,0,[.slot 0 (.cell (.str))],[.slot 0 (.cell (.int .i64)),.slot 1 (.cell (.bool))],
 [],
 [],
 [(2,[.slot 0 (.cell (.str)),.slot 4 (.cell (.bool))]),(5,[.slot 4 (.cell (.bool)),.slot 5 (.cell (.str))]),(8,[.slot 4 (.cell (.bool)),.slot 6 (.cell (.int .i64))])]⟩
def Jt:FAnn:=⟨161,1,[.blk (.box 120 [.im (.str),.int .i64,.at 1,.at 2,.int .i64]),.blk (.arr 87 false (.sl Yq1)),.blk (.arr 48 true Yq1),.slot 0 (.ref 0 true)],[.blk (.box 120 [.im (.str),.int .i64,.at 1,.at 2,.int .i64]),.blk (.arr 87 false (.sl Yq1)),.blk (.arr 48 true Yq1),.slot 0 (.cell (.int .i64))],
 [],
 [],
 []⟩
def Ap7:FAnn:=⟨90,0,[.slot 0 (.cell (.int .i64)),.slot 1 (.cell (.int .i64)),.slot 2 (.cell (.int .i64))],[.slot 0 (.cell (.bool))],
 [],
 [],
 []⟩
def TV:FAnn:=⟨166,0,[.slot 0 (.agg [.int .i64,.int .i64])],[.slot 0 (.cell (.bool))],
 [],
 [],
 []⟩
def K7:FAnn:=⟨162,1,[.blk (.box 120 [.im (.str),.int .i64,.at 1,.at 2,.int .i64]),.blk (.arr 87 false (.sl Yq1)),.blk (.arr 48 true Yq1),.slot 0 (.ref 0 true),.slot 1 (.agg [.int .i64,.int .i64])],[.blk (.box 120 [.im (.str),.int .i64,.at 1,.at 2,.int .i64]),.blk (.arr 87 false (.sl Yq1)),.blk (.arr 48 true Yq1)],
 [],
 [],
 []⟩
def Iu:FAnn:=⟨96,1,[.blk (.box 120 [.im (.str),.int .i64,.at 1,.at 2,.int .i64]),.blk (.arr 87 false (.sl Yq1)),.blk (.arr 48 true Yq1),.slot 0 (.ref 0 true)],[.blk (.box 120 [.im (.str),.int .i64,.at 1,.at 2,.int .i64]),.blk (.arr 87 false (.sl Yq1)),.blk (.arr 48 true Yq1)],
 [(4,[.blk (.box 120 [.im (.str),.int .i64,.at 2,.at 3,.int .i64]),.blk (.arr 9 true (.str)),.blk (.arr 87 false (.sl Yq1)),.blk (.arr 48 true Yq1),.slot 0 (.ref 0 true),.slot 2 (.cell (.str)),.slot 3 (.cell (.bool)),.slot 4 (.cell (.bool)),.slot 28 (.ref 1 false),.slot 29 (.cell (.int .i64)),.slot 30 (.cell (.int .i64))])],
 [(4,[(.exit 0,[.blk (.box 120 [.im (.str),.int .i64,.at 1,.at 2,.int .i64]),.blk (.arr 87 false (.sl Yq1)),.blk (.arr 48 true Yq1),.slot 0 (.ref 0 true),.slot 2 (.cell (.str)),.slot 3 (.cell (.bool)),.slot 4 (.cell (.bool))])])],
 [(16,[.blk (.box 120 [.im (.str),.int .i64,.at 1,.at 2,.int .i64]),.blk (.arr 87 false (.sl Yq1)),.blk (.arr 48 true Yq1),.slot 0 (.ref 0 true),.slot 2 (.cell (.str)),.slot 3 (.cell (.bool))]),(21,[.blk (.box 120 [.im (.str),.int .i64,.at 2,.at 3,.int .i64]),.blk (.box 48 [.int .i64,.int .i64]),.blk (.arr 87 false (.sl Yq1)),.blk (.arr 48 true Yq1),.slot 0 (.ref 0 true),.slot 2 (.cell (.str)),.slot 7 (.ref 1 true)])]⟩
def Mu:FAnn:=⟨25,0,[.slot 0 (.cell (.str))],[.blk (.arr 87 false (.sl Yq1)),.slot 0 (.ref 0 false),.slot 1 (.cell (.int .i64)),.slot 2 (.cell (.int .i64)),.slot 3 (.cell (.bool))],
 [(4,[.blk (.box 120 [.im (.str),.int .i64,.at 1,.at 2,.int .i64]),.blk (.arr 87 false (.sl Yq1)),.blk (.arr 48 true Yq1),.slot 6 (.ref 0 true)])],
 [(4,[(.exit 0,[.blk (.box 120 [.im (.str),.int .i64,.at 1,.at 2,.int .i64]),.blk (.arr 87 false (.sl Yq1)),.blk (.arr 48 true Yq1),.slot 6 (.ref 0 true)])])],
 [(8,[.blk (.box 120 [.im (.str),.int .i64,.at 1,.at 2,.int .i64]),.blk (.arr 87 false (.sl Yq1)),.blk (.arr 48 true Yq1),.slot 6 (.ref 0 true)])]⟩
def Lu:FAnn:=⟨117,0,[.slot 0 (.agg [.int .i64,.int .i64,.int .i64,.int .i64])],[.slot 0 (.cell (.bool))],
 [],
 [],
 []⟩
def W4:FAnn:=⟨188,0,[.slot 0 (.cell (.im (.int .i64)))],[.blk (.arr 3 true (.int .i64)),.slot 0 (.ref 0 false)],
 [(1,[.slot 0 (.cell (.im (.int .i64)))])],
 [(1,[(.exit 0,[.slot 0 (.cell (.im (.int .i64)))])])],
 []⟩
def Tc:FAnn:=⟨133,0,[.slot 0 (.cell (.bool)),.slot 1 (.cell (.im (.int .i64)))],[.blk (.arr 3 true (.int .i64)),.slot 0 (.agg [.bool,.at 0])],
 [],
 [],
 []⟩
def WA:FAnn:=⟨72,0,[.slot 0 (.cell (.int .i64))],[.slot 0 (.agg [.bool,.im (.int .i64)])],
 [(3,[.blk (.box 24 [.bool,.im (.int .i64)]),.blk (.arr 3 true (.int .i64)),.slot 0 (.cell (.int .i64)),.slot 2 (.ref 0 true),.slot 3 (.ref 1 false),.slot 4 (.cell (.int .i64))])],
 [(3,[(.exit 0,[.blk (.box 24 [.bool,.im (.int .i64)]),.blk (.arr 3 true (.int .i64)),.slot 0 (.cell (.int .i64)),.slot 2 (.ref 0 true),.slot 3 (.ref 1 false)])])],
 []⟩
def Xh:FAnn:=⟨118,0,[.slot 0 (.cell (.int .i64))],[.slot 0 (.agg [.bool,.im (.int .i64),.bool,.im (.int .i64)])],
 [],
 [],
 []⟩
def Wo:FAnn:=⟨152,0,[.slot 0 (.cell (.im Yq1))],[.slot 0 (.cell (.bool))],
 [(2,[.slot 5 (.cell (.im Yq1)),.slot 6 (.cell (.int .i64)),.slot 7 (.cell (.int .i64))])],
 [(2,[(.exit 0,[]),(.ret,[.slot 2 (.cell (.bool))])])],
 []⟩
def WD:FAnn:=⟨89,0,[.slot 0 (.cell (.im Yq1))],[.slot 0 (.cell (.bool))],
 [],
 [],
 []⟩
def Xn:FAnn:=⟨176,0,[.slot 0 (.agg [.int .i64,.int .i64])],[.slot 0 (.agg [.bool,.im (.int .i64),.bool,.im (.int .i64),.bool,.im (.int .i64),.bool,.im (.int .i64)])],
 [],
 [],
 []⟩
def T6:FAnn:=⟨119,0,[.slot 0 (.cell (.im Yq1))],[.blk (.arr 161 false Yq2),.slot 0 (.ref 0 false),.slot 1 (.cell (.bool))],
 [(5,[.blk (.arr 161 false Yq2),.slot 4 (.ref 0 false),.slot 10 (.cell (.im Yq1)),.slot 11 (.cell (.int .i64)),.slot 12 (.cell (.int .i64))])],
 [(5,[(.exit 0,[.blk (.arr 161 false Yq2),.slot 4 (.ref 0 false)])])],
 []⟩
def PJ:FAnn:=⟨216,0,[.slot 0 (.agg [.bool,.im (.int .i64)])],[.slot 0 (.cell (.bool))],
 [(2,[.blk (.box 24 [.bool,.im (.int .i64)]),.slot 1 (.ref 0 true),.slot 7 (.cell (.im (.int .i64))),.slot 8 (.cell (.int .i64)),.slot 9 (.cell (.int .i64))])],
 [(2,[(.exit 0,[.blk (.box 24 [.bool,.im (.int .i64)]),.slot 1 (.ref 0 true)]),(.ret,[.slot 2 (.cell (.bool))])])],
 []⟩
def Ww:FAnn:=⟨217,0,[.slot 0 (.cell (.im (.int .i64))),.slot 1 (.cell (.im (.int .i64)))],[.slot 0 (.cell (.int .i64))],
 [(6,[.slot 0 (.cell (.im (.int .i64))),.slot 1 (.cell (.im (.int .i64))),.slot 5 (.cell (.int .i64))])],
 [(6,[(.exit 0,[]),(.ret,[.slot 4 (.cell (.int .i64))])])],
 []⟩
def QR:FAnn:=⟨239,0,[.slot 0 (.cell (.im (.int .i64))),.slot 1 (.cell (.int .i64))],[.blk (.arr 3 true (.int .i64)),.blk (.arr 3 true (.int .i64)),.slot 0 (.ref 0 false),.slot 1 (.ref 1 false)],
 [(4,[.blk (.arr 3 true (.int .i64)),.slot 0 (.cell (.im (.int .i64))),.slot 1 (.cell (.int .i64)),.slot 6 (.ref 0 false),.slot 7 (.cell (.int .i64)),.slot 8 (.cell (.int .i64))])],
 [(4,[(.exit 0,[.blk (.arr 3 true (.int .i64)),.slot 6 (.ref 0 false),.slot 7 (.cell (.int .i64))])])],
 []⟩
def Ar0:FAnn:=⟨240,0,[.slot 0 (.cell (.im (.int .i64))),.slot 1 (.cell (.int .i64))],[.blk (.arr 3 true (.int .i64)),.slot 0 (.ref 0 false)],
 [(3,[.blk (.arr 3 true (.int .i64)),.slot 1 (.cell (.int .i64)),.slot 5 (.ref 0 false),.slot 13 (.cell (.im (.int .i64))),.slot 14 (.cell (.int .i64)),.slot 15 (.cell (.int .i64))])],
 [(3,[(.exit 0,[.blk (.arr 3 true (.int .i64)),.slot 5 (.ref 0 false)])])],
 []⟩
def PP:FAnn:=⟨241,0,[.slot 0 (.cell (.im (.int .i64))),.slot 1 (.cell (.im (.int .i64))),.slot 2 (.cell (.int .i64))],[.slot 0 (.cell (.int .i64))],
 [(5,[.slot 0 (.cell (.im (.int .i64))),.slot 1 (.cell (.im (.int .i64))),.slot 2 (.cell (.int .i64)),.slot 7 (.cell (.int .i64)),.slot 9 (.cell (.int .i64)),.slot 10 (.cell (.int .i64))])],
 [(5,[(.exit 0,[.slot 9 (.cell (.int .i64))])])],
 [(6,[.slot 0 (.cell (.im (.int .i64))),.slot 1 (.cell (.im (.int .i64))),.slot 2 (.cell (.int .i64)),.slot 7 (.cell (.int .i64)),.slot 9 (.cell (.int .i64)),.slot 10 (.cell (.int .i64))])]⟩
def TH:FAnn:=⟨276,0,[.slot 0 (.cell (.im (.int .i64))),.slot 1 (.cell (.int .i64))],[.slot 0 (.cell (.int .i64))],
 [],
 [],
 []⟩
def TO:FAnn:=⟨242,1,[.blk (.arr 3 true (.int .i64)),.slot 0 (.ref 0 false),.slot 1 (.cell (.im (.int .i64))),.slot 2 (.cell (.int .i64)),.slot 3 (.cell (.int .i64))],[.blk (.arr 3 true (.int .i64)),.slot 0 (.cell (.int .i64))],
 [(3,[.blk (.arr 3 true (.int .i64)),.slot 0 (.ref 0 false),.slot 1 (.cell (.im (.int .i64))),.slot 2 (.cell (.int .i64)),.slot 3 (.cell (.int .i64)),.slot 9 (.cell (.int .i64)),.slot 10 (.cell (.int .i64))])],
 [(3,[(.exit 0,[.blk (.arr 3 true (.int .i64)),.slot 9 (.cell (.int .i64))])])],
 [(10,[.blk (.arr 3 true (.int .i64)),.slot 0 (.ref 0 false),.slot 1 (.cell (.im (.int .i64))),.slot 2 (.cell (.int .i64)),.slot 3 (.cell (.int .i64)),.slot 9 (.cell (.int .i64)),.slot 10 (.cell (.int .i64)),.slot 11 (.cell (.int .i64))])]⟩
def T9:FAnn:=⟨243,1,[.blk (.arr 3 true (.int .i64)),.slot 0 (.ref 0 false),.slot 1 (.cell (.im (.int .i64))),.slot 2 (.cell (.int .i64))],[.blk (.arr 3 true (.int .i64))],
 [(2,[.blk (.arr 3 true (.int .i64)),.slot 0 (.ref 0 false),.slot 1 (.cell (.im (.int .i64))),.slot 2 (.cell (.int .i64)),.slot 6 (.cell (.int .i64)),.slot 7 (.cell (.int .i64))])],
 [(2,[(.exit 0,[.blk (.arr 3 true (.int .i64))])])],
 []⟩
def Ui:FAnn:=⟨244,0,[.slot 0 (.cell (.im (.int .i64))),.slot 1 (.cell (.int .i64))],[.blk (.arr 3 true (.int .i64)),.slot 0 (.ref 0 false)],
 [(3,[.blk (.arr 3 true (.int .i64)),.slot 0 (.cell (.im (.int .i64))),.slot 1 (.cell (.int .i64)),.slot 5 (.ref 0 false),.slot 11 (.cell (.int .i64)),.slot 12 (.cell (.int .i64))])],
 [(3,[(.exit 0,[.blk (.arr 3 true (.int .i64)),.slot 5 (.ref 0 false)])])],
 []⟩
def KT:FAnn:=⟨189,0,[.slot 0 (.cell (.im (.int .i64))),.slot 1 (.cell (.im (.int .i64)))],[.blk (.arr 3 true (.int .i64)),.blk (.arr 3 true (.int .i64)),.slot 0 (.ref 0 false),.slot 1 (.ref 1 false)],
 [(7,[.blk (.arr 3 true (.int .i64)),.slot 0 (.ref 0 false),.slot 1 (.cell (.im (.int .i64))),.slot 6 (.cell (.int .i64))]),(13,[.blk (.arr 3 true (.int .i64)),.blk (.arr 3 true (.int .i64)),.blk (.arr 3 true (.int .i64)),.slot 6 (.cell (.int .i64)),.slot 7 (.ref 0 false),.slot 8 (.ref 1 false),.slot 9 (.ref 2 false),.slot 10 (.cell (.int .i64))])],
 [(7,[(.exit 0,[.blk (.arr 3 true (.int .i64)),.slot 0 (.ref 0 false),.slot 1 (.cell (.im (.int .i64))),.slot 6 (.cell (.int .i64))])]),(13,[(.exit 2,[.blk (.arr 3 true (.int .i64)),.blk (.arr 3 true (.int .i64)),.slot 6 (.cell (.int .i64)),.slot 7 (.ref 0 false),.slot 9 (.ref 1 false)])])],
 []⟩
def W2:FAnn:=⟨134,0,[.slot 0 (.cell (.im (.int .i64))),.slot 1 (.cell (.im (.int .i64)))],[.blk (.arr 3 true (.int .i64)),.slot 0 (.ref 0 false)],
 [(1,[.slot 0 (.cell (.im (.int .i64))),.slot 1 (.cell (.im (.int .i64)))])],
 [(1,[(.exit 0,[.slot 0 (.cell (.im (.int .i64)))])])],
 []⟩
def Qb:FAnn:=⟨311,0,[.slot 0 (.agg [.bool,.im (.int .i64),.bool,.im (.int .i64)])],[.slot 0 (.cell (.bool))],
 [],
 [],
 []⟩
def QH:FAnn:=⟨297,0,[.slot 0 (.agg [.bool,.im (.int .i64),.bool,.im (.int .i64)])],[.slot 0 (.cell (.bool))],
 [],
 [],
 []⟩
def Ns:FAnn:=⟨270,0,[.slot 0 (.cell (.im Yq2))],[.slot 0 (.cell (.bool))],
 [(2,[.slot 0 (.cell (.im Yq2)),.slot 5 (.cell (.im Yq2)),.slot 6 (.cell (.int .i64)),.slot 7 (.cell (.int .i64))])],
 [(2,[(.exit 0,[.slot 0 (.cell (.im Yq2))]),(.ret,[.slot 2 (.cell (.bool))])])],
 []⟩
def OD:FAnn:=⟨298,0,[.slot 0 (.agg [.bool,.im (.int .i64),.bool,.im (.int .i64)])],[.slot 0 (.cell (.bool))],
 [],
 [],
 []⟩
def Wa:FAnn:=⟨271,0,[.slot 0 (.agg [.bool,.im (.int .i64),.bool,.im (.int .i64),.bool,.im (.int .i64),.bool,.im (.int .i64)])],[.slot 0 (.cell (.bool))],
 [],
 [],
 []⟩
def La:FAnn:=⟨232,0,[.slot 0 (.cell (.im (.int .i64))),.slot 1 (.cell (.im (.int .i64)))],[.blk (.arr 3 true (.int .i64)),.slot 0 (.ref 0 false)],
 [(3,[.blk (.arr 3 true (.int .i64)),.slot 1 (.cell (.im (.int .i64))),.slot 5 (.ref 0 false),.slot 18 (.cell (.im (.int .i64))),.slot 19 (.cell (.int .i64)),.slot 20 (.cell (.int .i64))]),(7,[.blk (.arr 3 true (.int .i64)),.slot 1 (.cell (.im (.int .i64))),.slot 5 (.ref 0 false),.slot 6 (.cell (.int .i64)),.slot 7 (.cell (.int .i64)),.slot 8 (.cell (.int .i64)),.slot 9 (.cell (.int .i64)),.slot 18 (.cell (.im (.int .i64))),.slot 19 (.cell (.int .i64)),.slot 20 (.cell (.int .i64))])],
 [(3,[(.exit 0,[.blk (.arr 3 true (.int .i64)),.slot 5 (.ref 0 false)])]),(7,[(.exit 2,[.blk (.arr 3 true (.int .i64)),.slot 1 (.cell (.im (.int .i64))),.slot 5 (.ref 0 false),.slot 18 (.cell (.im (.int .i64))),.slot 19 (.cell (.int .i64)),.slot 20 (.cell (.int .i64))])])],
 [(9,[.blk (.arr 3 true (.int .i64)),.slot 1 (.cell (.im (.int .i64))),.slot 5 (.ref 0 false),.slot 6 (.cell (.int .i64)),.slot 7 (.cell (.int .i64)),.slot 8 (.cell (.int .i64)),.slot 9 (.cell (.int .i64)),.slot 18 (.cell (.im (.int .i64))),.slot 19 (.cell (.int .i64)),.slot 20 (.cell (.int .i64))])]⟩
def WT:FAnn:=⟨179,0,[.slot 0 (.agg [.bool,.im (.int .i64)]),.slot 1 (.agg [.bool,.im (.int .i64)])],[.slot 0 (.agg [.bool,.im (.int .i64)])],
 [],
 [],
 []⟩
def Oz:FAnn:=⟨215,0,[.slot 0 (.agg [.bool,.im (.int .i64)]),.slot 1 (.agg [.bool,.im (.int .i64)])],[.slot 0 (.cell (.int .i64))],
 [],
 [],
 []⟩
def Wg:FAnn:=⟨168,0,[.slot 0 (.agg [.bool,.im (.int .i64),.bool,.im (.int .i64)]),.slot 1 (.agg [.bool,.im (.int .i64),.bool,.im (.int .i64)])],[.slot 0 (.cell (.int .i64))],
 [],
 [],
 []⟩
def N9:FAnn:=⟨316,0,[.slot 0 (.agg [.bool,.im (.int .i64),.bool,.im (.int .i64),.bool,.im (.int .i64),.bool,.im (.int .i64)]),.slot 1 (.cell (.bool))],[.slot 0 (.agg [.bool,.im (.int .i64),.bool,.im (.int .i64)])],
 [],
 [],
 []⟩
def Ra:FAnn:=⟨313,0,[.slot 0 (.agg [.bool,.im (.int .i64),.bool,.im (.int .i64),.bool,.im (.int .i64),.bool,.im (.int .i64)]),.slot 1 (.cell (.bool)),.slot 2 (.agg [.bool,.im (.int .i64),.bool,.im (.int .i64)]),.slot 3 (.cell (.bool))],[.slot 0 (.cell (.int .i64))],
 [],
 [],
 []⟩
def Xj:FAnn:=⟨136,0,[.slot 0 (.agg [.bool,.im (.int .i64)])],[.slot 0 (.agg [.bool,.im (.int .i64)])],
 [],
 [],
 []⟩
def WC:FAnn:=⟨301,0,[.slot 0 (.agg [.bool,.im (.int .i64),.bool,.im (.int .i64)])],[.slot 0 (.agg [.bool,.im (.int .i64),.bool,.im (.int .i64)])],
 [],
 [],
 []⟩
def Lw:FAnn:=⟨230,0,[.slot 0 (.cell (.im (.int .i64))),.slot 1 (.cell (.im (.int .i64)))],[.blk (.arr 3 true (.int .i64)),.slot 0 (.ref 0 false)],
 [(4,[.blk (.arr 3 true (.int .i64)),.slot 0 (.cell (.im (.int .i64))),.slot 1 (.cell (.im (.int .i64))),.slot 5 (.ref 0 false),.slot 6 (.cell (.int .i64)),.slot 7 (.cell (.int .i64))])],
 [(4,[(.exit 0,[.blk (.arr 3 true (.int .i64)),.slot 5 (.ref 0 false)])])],
 [(6,[.blk (.arr 3 true (.int .i64)),.slot 0 (.cell (.im (.int .i64))),.slot 1 (.cell (.im (.int .i64))),.slot 5 (.ref 0 false),.slot 6 (.cell (.int .i64)),.slot 7 (.cell (.int .i64))])]⟩
def K6:FAnn:=⟨231,0,[.slot 0 (.cell (.im (.int .i64))),.slot 1 (.cell (.im (.int .i64)))],[.blk (.arr 3 true (.int .i64)),.slot 0 (.ref 0 false)],
 [(4,[.blk (.arr 3 true (.int .i64)),.slot 0 (.cell (.im (.int .i64))),.slot 1 (.cell (.im (.int .i64))),.slot 5 (.ref 0 false),.slot 6 (.cell (.int .i64)),.slot 10 (.cell (.int .i64)),.slot 11 (.cell (.int .i64))])],
 [(4,[(.exit 0,[.blk (.arr 3 true (.int .i64)),.slot 5 (.ref 0 false)])])],
 []⟩
def WW:FAnn:=⟨178,0,[.slot 0 (.agg [.bool,.im (.int .i64)]),.slot 1 (.agg [.bool,.im (.int .i64)])],[.slot 0 (.agg [.bool,.im (.int .i64)])],
 [],
 [],
 []⟩
def V8:FAnn:=⟨135,0,[.slot 0 (.agg [.bool,.im (.int .i64)]),.slot 1 (.agg [.bool,.im (.int .i64)])],[.slot 0 (.agg [.bool,.im (.int .i64)]),.slot 1 (.agg [.bool,.im (.int .i64)])],
 [],
 [],
 []⟩
def Ud:FAnn:=⟨71,0,[.slot 0 (.agg [.bool,.im (.int .i64)]),.slot 1 (.agg [.bool,.im (.int .i64)])],[.slot 0 (.agg [.bool,.im (.int .i64),.bool,.im (.int .i64)])],
 [],
 [],
 []⟩
def Xr:FAnn:=⟨121,0,[.slot 0 (.agg [.bool,.im (.int .i64),.bool,.im (.int .i64)]),.slot 1 (.agg [.bool,.im (.int .i64),.bool,.im (.int .i64)])],[.slot 0 (.agg [.bool,.im (.int .i64),.bool,.im (.int .i64)])],
 [],
 [],
 []⟩
def XC:FAnn:=⟨274,0,[.slot 0 (.agg [.bool,.im (.int .i64),.bool,.im (.int .i64)]),.slot 1 (.agg [.bool,.im (.int .i64),.bool,.im (.int .i64)])],[.slot 0 (.agg [.bool,.im (.int .i64),.bool,.im (.int .i64)])],
 [],
 [],
 []⟩
def Xm:FAnn:=⟨275,0,[.slot 0 (.agg [.bool,.im (.int .i64),.bool,.im (.int .i64)]),.slot 1 (.agg [.bool,.im (.int .i64),.bool,.im (.int .i64)])],[.slot 0 (.agg [.bool,.im (.int .i64),.bool,.im (.int .i64)])],
 [],
 [],
 []⟩
def Xx:FAnn:=⟨171,0,[.slot 0 (.agg [.bool,.im (.int .i64),.bool,.im (.int .i64)]),.slot 1 (.agg [.bool,.im (.int .i64),.bool,.im (.int .i64)])],[.slot 0 (.agg [.bool,.im (.int .i64),.bool,.im (.int .i64)])],
 [],
 [],
 []⟩
def Qa:FAnn:=⟨318,0,[.slot 0 (.agg [.bool,.im (.int .i64),.bool,.im (.int .i64)]),.slot 1 (.agg [.bool,.im (.int .i64),.bool,.im (.int .i64)]),.slot 2 (.agg [.bool,.im (.int .i64),.bool,.im (.int .i64)])],[.slot 0 (.agg [.bool,.im (.int .i64),.bool,.im (.int .i64)])],
 [],
 [],
 []⟩
def Ta:FAnn:=⟨317,0,[.slot 0 (.agg [.bool,.im (.int .i64),.bool,.im (.int .i64),.bool,.im (.int .i64),.bool,.im (.int .i64)]),.slot 1 (.agg [.bool,.im (.int .i64),.bool,.im (.int .i64),.bool,.im (.int .i64),.bool,.im (.int .i64)]),.slot 2 (.agg [.bool,.im (.int .i64),.bool,.im (.int .i64)])],[.slot 0 (.agg [.bool,.im (.int .i64),.bool,.im (.int .i64),.bool,.im (.int .i64),.bool,.im (.int .i64)])],
 [],
 [],
 []⟩
def Tk:FAnn:=⟨314,0,[.slot 0 (.agg [.bool,.im (.int .i64),.bool,.im (.int .i64),.bool,.im (.int .i64),.bool,.im (.int .i64)]),.slot 1 (.agg [.bool,.im (.int .i64),.bool,.im (.int .i64),.bool,.im (.int .i64),.bool,.im (.int .i64)]),.slot 2 (.cell (.bool)),.slot 3 (.agg [.bool,.im (.int .i64),.bool,.im (.int .i64)])],[.slot 0 (.agg [.bool,.im (.int .i64),.bool,.im (.int .i64),.bool,.im (.int .i64),.bool,.im (.int .i64)])],
 [],
 [],
 []⟩
def QQ:FAnn:=⟨300,0,[.slot 0 (.cell (.im Yq2)),.slot 1 (.cell (.bool)),.slot 2 (.agg [.bool,.im (.int .i64),.bool,.im (.int .i64)]),.slot 3 (.cell (.bool))],[.blk (.arr 161 false Yq2),.slot 0 (.ref 0 false)],
 [(3,[.blk (.box 26 [.bool,.im (.int .i64),.bool,.im (.int .i64)]),.blk (.arr 161 false Yq2),.slot 0 (.cell (.im Yq2)),.slot 1 (.cell (.bool)),.slot 3 (.cell (.bool)),.slot 6 (.ref 0 true),.slot 9 (.ref 1 false),.slot 15 (.cell (.im Yq2)),.slot 16 (.cell (.int .i64)),.slot 17 (.cell (.int .i64))])],
 [(3,[(.exit 0,[.blk (.arr 161 false Yq2),.slot 9 (.ref 0 false)])])],
 []⟩
def SX:FAnn:=⟨273,0,[.slot 0 (.cell (.im Yq2)),.slot 1 (.agg [.bool,.im (.int .i64),.bool,.im (.int .i64),.bool,.im (.int .i64),.bool,.im (.int .i64)]),.slot 2 (.agg [.bool,.im (.int .i64),.bool,.im (.int .i64),.bool,.im (.int .i64),.bool,.im (.int .i64)])],[.blk (.arr 161 false Yq2),.slot 0 (.ref 0 false)],
 [],
 [],
 []⟩
def ST:FAnn:=⟨70,0,[.slot 0 (.agg [.bool,.im (.int .i64),.bool,.im (.int .i64)])],[.slot 0 (.agg [.bool,.im (.int .i64),.bool,.im (.int .i64)]),.slot 1 (.cell (.bool))],
 [],
 [],
 []⟩
def P7:FAnn:=⟨312,0,[.slot 0 (.agg [.bool,.im (.int .i64),.bool,.im (.int .i64),.bool,.im (.int .i64),.bool,.im (.int .i64)])],[.slot 0 (.agg [.bool,.im (.int .i64),.bool,.im (.int .i64),.bool,.im (.int .i64),.bool,.im (.int .i64)]),.slot 1 (.cell (.bool))],
 [],
 [],
 []⟩
def S7:FAnn:=⟨299,0,[.slot 0 (.cell (.im Yq2))],[.slot 0 (.cell (.im Yq2)),.slot 1 (.cell (.bool))],
 [(3,[.blk (.arr 161 false Yq2),.slot 4 (.ref 0 false),.slot 9 (.cell (.im Yq2)),.slot 10 (.cell (.int .i64)),.slot 11 (.cell (.int .i64))])],
 [(3,[(.exit 0,[.blk (.arr 161 false Yq2),.slot 4 (.ref 0 false)]),(.ret,[.slot 2 (.cell (.im Yq2)),.slot 3 (.cell (.bool))])])],
 []⟩
def Qh:FAnn:=⟨272,0,[.slot 0 (.cell (.im Yq2))],[.slot 0 (.cell (.im Yq2)),.slot 1 (.cell (.bool))],
 [],
 [],
 []⟩
def Qs:FAnn:=⟨228,0,[.slot 0 (.cell (.im Yq2)),.slot 1 (.agg [.bool,.im (.int .i64),.bool,.im (.int .i64),.bool,.im (.int .i64),.bool,.im (.int .i64)]),.slot 2 (.agg [.bool,.im (.int .i64),.bool,.im (.int .i64),.bool,.im (.int .i64),.bool,.im (.int .i64)])],[.slot 0 (.cell (.im Yq2)),.slot 1 (.cell (.bool))],
 [],
 [],
 []⟩
def QN:FAnn:=⟨229,0,[.slot 0 (.cell (.im Yq2))],[.slot 0 (.agg [.bool,.im (.int .i64),.bool,.im (.int .i64)])],
 [(3,[.blk (.box 26 [.bool,.im (.int .i64),.bool,.im (.int .i64)]),.blk (.box 26 [.bool,.im (.int .i64),.bool,.im (.int .i64)]),.slot 0 (.cell (.im Yq2)),.slot 2 (.ref 0 true),.slot 3 (.ref 1 true),.slot 8 (.cell (.im Yq2)),.slot 9 (.cell (.int .i64)),.slot 10 (.cell (.int .i64))])],
 [(3,[(.exit 0,[.blk (.box 26 [.bool,.im (.int .i64),.bool,.im (.int .i64)]),.blk (.box 26 [.bool,.im (.int .i64),.bool,.im (.int .i64)]),.slot 2 (.ref 0 true),.slot 3 (.ref 1 true)])])],
 []⟩
def NL:FAnn:=⟨177,0,[.slot 0 (.cell (.im Yq2)),.slot 1 (.cell (.int .i64)),.slot 2 (.cell (.int .i64))],[.slot 0 (.agg [.bool,.im (.int .i64),.bool,.im (.int .i64)]),.slot 1 (.cell (.bool))],
 [],
 [],
 []⟩
def NC:FAnn:=⟨120,0,[.slot 0 (.cell (.im Yq2)),.slot 1 (.agg [.int .i64,.int .i64,.int .i64,.int .i64])],[.slot 0 (.cell (.im Yq0)),.slot 1 (.cell (.bool))],
 [(5,[.blk (.box 58 [.int .i64,.int .i64,.int .i64,.int .i64]),.blk (.arr 26 false Yq0),.slot 0 (.cell (.im Yq2)),.slot 3 (.ref 0 true),.slot 6 (.ref 1 false),.slot 7 (.cell (.int .i64))]),(8,[.blk (.box 58 [.int .i64,.int .i64,.int .i64,.int .i64]),.blk (.arr 26 false Yq0),.slot 0 (.cell (.im Yq2)),.slot 3 (.ref 0 true),.slot 6 (.ref 1 false),.slot 7 (.cell (.int .i64)),.slot 8 (.cell (.int .i64))])],
 [(5,[(.exit 0,[.blk (.arr 26 false Yq0),.slot 6 (.ref 0 false)]),(.ret,[.slot 4 (.cell (.im Yq0)),.slot 5 (.cell (.bool))])]),(8,[(.exit 2,[.blk (.box 58 [.int .i64,.int .i64,.int .i64,.int .i64]),.blk (.arr 26 false Yq0),.slot 0 (.cell (.im Yq2)),.slot 3 (.ref 0 true),.slot 6 (.ref 1 false),.slot 7 (.cell (.int .i64))]),(.ret,[.slot 4 (.cell (.im Yq0)),.slot 5 (.cell (.bool))])])],
 []⟩
def Mz:FAnn:=⟨51,0,[.slot 0 (.cell (.str)),.slot 1 (.agg [.int .i64,.int .i64,.int .i64,.int .i64])],[.slot 0 (.cell (.im Yq0)),.slot 1 (.cell (.bool))],
 [(6,[.blk (.box 58 [.int .i64,.int .i64,.int .i64,.int .i64]),.blk (.arr 87 false (.sl Yq1)),.blk (.arr 26 false Yq0),.slot 3 (.ref 0 true),.slot 6 (.ref 1 false),.slot 10 (.ref 2 false),.slot 11 (.cell (.int .i64))]),(10,[.blk (.box 58 [.int .i64,.int .i64,.int .i64,.int .i64]),.blk (.arr 26 false Yq0),.blk (.arr 87 false (.sl Yq1)),.slot 3 (.ref 0 true),.slot 10 (.ref 1 false),.slot 49 (.ref 2 false),.slot 50 (.cell (.int .i64)),.slot 51 (.cell (.int .i64))]),(17,[.blk (.box 58 [.int .i64,.int .i64,.int .i64,.int .i64]),.blk (.arr 26 false Yq0),.blk (.arr 87 false (.sl Yq1)),.slot 3 (.ref 0 true),.slot 10 (.ref 1 false),.slot 49 (.ref 2 false),.slot 50 (.cell (.int .i64)),.slot 51 (.cell (.int .i64)),.slot 68 (.cell (.im Yq0)),.slot 69 (.cell (.int .i64)),.slot 70 (.cell (.int .i64))])],
 [(6,[(.exit 0,[.blk (.box 58 [.int .i64,.int .i64,.int .i64,.int .i64]),.blk (.arr 87 false (.sl Yq1)),.blk (.arr 26 false Yq0),.slot 3 (.ref 0 true),.slot 6 (.ref 1 false),.slot 10 (.ref 2 false)])]),(10,[(.exit 2,[.blk (.arr 26 false Yq0),.slot 10 (.ref 0 false)]),(.ret,[.slot 4 (.cell (.im Yq0)),.slot 5 (.cell (.bool))])]),(17,[(.exit 4,[.blk (.box 58 [.int .i64,.int .i64,.int .i64,.int .i64]),.blk (.arr 26 false Yq0),.blk (.arr 87 false (.sl Yq1)),.slot 3 (.ref 0 true),.slot 10 (.ref 1 false),.slot 49 (.ref 2 false),.slot 50 (.cell (.int .i64)),.slot 51 (.cell (.int .i64))]),(.ret,[.slot 4 (.cell (.im Yq0)),.slot 5 (.cell (.bool))])])],
 []⟩
def Wi:FAnn:=⟨167,0,[.slot 0 (.agg [.bool,.im (.int .i64),.bool,.im (.int .i64)])],[.slot 0 (.agg [.bool,.im (.int .i64),.bool,.im (.int .i64)])],
 [],
 [],
 []⟩
def Xd:FAnn:=⟨218,0,[.slot 0 (.agg [.bool,.im (.int .i64)]),.slot 1 (.agg [.bool,.im (.int .i64)])],[.slot 0 (.agg [.bool,.im (.int .i64)])],
 [],
 [],
 []⟩
def PU:FAnn:=⟨170,0,[.slot 0 (.agg [.bool,.im (.int .i64),.bool,.im (.int .i64)])],[.slot 0 (.agg [.bool,.im (.int .i64)])],
 [],
 [],
 []⟩
def Xt:FAnn:=⟨169,0,[.slot 0 (.agg [.bool,.im (.int .i64)])],[.slot 0 (.cell (.int .i64)),.slot 1 (.cell (.bool))],
 [(8,[.blk (.box 24 [.bool,.im (.int .i64)]),.slot 1 (.ref 0 true),.slot 5 (.cell (.int .i64)),.slot 6 (.cell (.int .i64))])],
 [(8,[(.exit 0,[.blk (.box 24 [.bool,.im (.int .i64)]),.slot 1 (.ref 0 true),.slot 5 (.cell (.int .i64))])])],
 []⟩
def P8:FAnn:=⟨108,0,[.slot 0 (.agg [.bool,.im (.int .i64),.bool,.im (.int .i64)])],[.slot 0 (.cell (.int .i64))],
 [],
 [],
 []⟩
def Kp:FAnn:=⟨38,0,[.slot 0 (.cell (.str)),.slot 1 (.agg [.int .i64,.int .i64,.int .i64,.int .i64])],[.blk (.arr 3 true (.int .i64)),.slot 0 (.ref 0 false),.slot 1 (.cell (.bool))],
 [(6,[.blk (.arr 3 true (.int .i64)),.slot 8 (.ref 0 false),.slot 19 (.cell (.im Yq0)),.slot 20 (.cell (.int .i64)),.slot 21 (.cell (.int .i64))])],
 [(6,[(.exit 0,[.blk (.arr 3 true (.int .i64)),.slot 8 (.ref 0 false)])])],
 []⟩
def Pw:FAnn:=⟨111,0,[.slot 0 (.cell (.im (.int .i64)))],[.blk (.arr 151 true Yq1),.slot 0 (.ref 0 false)],
 [(3,[.blk (.arr 151 true Yq1),.slot 3 (.ref 0 false),.slot 7 (.cell (.im (.int .i64))),.slot 8 (.cell (.int .i64)),.slot 9 (.cell (.int .i64))])],
 [(3,[(.exit 0,[.blk (.arr 151 true Yq1),.slot 3 (.ref 0 false)])])],
 []⟩
def RK:FAnn:=⟨163,0,[.slot 0 (.cell (.int .i64))],[.slot 0 (.cell (.str))],
 [],
 [],
 []⟩
def P1:FAnn:=⟨110,0,[.slot 0 (.cell (.im Yq1))],[.slot 0 (.cell (.str))],
 [(3,[.slot 3 (.cell (.str)),.slot 6 (.cell (.im Yq1)),.slot 7 (.cell (.int .i64)),.slot 8 (.cell (.int .i64))])],
 [(3,[(.exit 0,[.slot 3 (.cell (.str))])])],
 [(7,[.blk (.box 151 [.int .i64,.int .i64]),.slot 3 (.cell (.str)),.slot 5 (.ref 0 true),.slot 6 (.cell (.im Yq1)),.slot 7 (.cell (.int .i64)),.slot 8 (.cell (.int .i64))])]⟩
def Pq:FAnn:=⟨44,0,[.slot 0 (.cell (.str)),.slot 1 (.agg [.int .i64,.int .i64,.int .i64,.int .i64])],[.blk (.arr 9 true (.str)),.slot 0 (.ref 0 false),.slot 1 (.cell (.bool))],
 [(6,[.blk (.box 58 [.int .i64,.int .i64,.int .i64,.int .i64]),.blk (.arr 3 true (.int .i64)),.blk (.arr 9 true (.str)),.slot 3 (.ref 0 true),.slot 6 (.ref 1 false),.slot 8 (.ref 2 false),.slot 9 (.cell (.int .i64))])],
 [(6,[(.exit 0,[.blk (.arr 9 true (.str)),.slot 8 (.ref 0 false)])])],
 []⟩
def SQ:FAnn:=⟨85,0,[.slot 0 (.cell (.int .i64)),.slot 1 (.cell (.int .i64)),.slot 2 (.cell (.int .i64))],[.slot 0 (.cell (.bool))],
 [],
 [],
 []⟩
def OV:FAnn:=⟨91,0,[.slot 0 (.cell (.str)),.slot 1 (.cell (.str))],[.blk (.arr 9 true (.str)),.slot 0 (.ref 0 false)],
 [],
 [],
 []⟩
def CI:FAnn:=⟨259,0,[.slot 0 (.cell (.im (.str))),.slot 1 (.cell (.str))],[.slot 0 (.cell (.int .i64))],
 [(2,[.slot 0 (.cell (.im (.str))),.slot 1 (.cell (.str)),.slot 7 (.cell (.int .i64)),.slot 8 (.cell (.int .i64))])],
 [(2,[(.exit 0,[]),(.ret,[.slot 4 (.cell (.int .i64))])])],
 []⟩
def Cb:FAnn:=⟨208,0,[.slot 0 (.cell (.im (.str))),.slot 1 (.cell (.str))],[.slot 0 (.cell (.bool))],
 [],
 [],
 []⟩
def K1:FAnn:=⟨154,1,[.blk (.box 108 [.im (.str),.int .i64,.at 1,.at 2,.bool]),.blk (.arr 87 false (.sl Yq1)),.blk (.arr 48 true Yq1),.slot 0 (.ref 0 true),.slot 1 (.cell (.str))],[.blk (.box 108 [.im (.str),.int .i64,.at 1,.at 2,.bool]),.blk (.arr 87 false (.sl Yq1)),.blk (.arr 48 true Yq1),.slot 0 (.cell (.int .i64))],
 [],
 [],
 []⟩
def KA:FAnn:=⟨155,0,[.slot 0 (.cell (.str)),.slot 1 (.cell (.str))],[.slot 0 (.cell (.bool))],
 [],
 [],
 []⟩
def PG:FAnn:=⟨101,0,[.slot 0 (.cell (.str))],[.slot 0 (.cell (.int .i64)),.slot 1 (.cell (.err))],
 [],
 [],
 []⟩
def N7:FAnn:=⟨98,0,[.slot 0 (.cell (.int .i64))],[.slot 0 (.cell (.bool))],
 [],
 [],
 []⟩
def P6:FAnn:=⟨82,0,[.slot 0 (.cell (.int .i64))],[.slot 0 (.cell (.str))],
 [],
 [],
 []⟩
def KF:FAnn:=⟨30,0,[.slot 0 (.cell (.str))],[.slot 0 (.cell (.int .i64)),.slot 1 (.cell (.bool))],
 [],
 [],
 []⟩
def Jy:FAnn:=⟨156,1,[.blk (.box 108 [.im (.str),.int .i64,.at 1,.at 2,.bool]),.blk (.arr 87 false (.sl Yq1)),.blk (.arr 48 true Yq1),.slot 0 (.ref 0 true)],[.blk (.box 108 [.im (.str),.int .i64,.at 1,.at 2,.bool]),.blk (.arr 87 false (.sl Yq1)),.blk (.arr 48 true Yq1),.slot 0 (.cell (.int .i64)),.slot 1 (.cell (.bool))],
 [],
 [],
 []⟩
def Mt:FAnn:=⟨157,1,[.blk (.box 108 [.im (.str),.int .i64,.at 1,.at 2,.bool]),.blk (.arr 87 false (.sl Yq1)),.blk (.arr 48 true Yq1),.slot 0 (.ref 0 true),.slot 1 (.cell (.str)),.slot 2 (.cell (.im (.int .i64)))],[.blk (.box 108 [.im (.str),.int .i64,.at 1,.at 2,.bool]),.blk (.arr 87 false (.sl Yq1)),.blk (.arr 48 true Yq1),.slot 0 (.agg [.int .i64,.int .i64])],
 [],
 [],
 [(4,[.blk (.box 108 [.im (.str),.int .i64,.at 3,.at 4,.bool]),.blk (.box 48 [.int .i64,.int .i64]),.blk (.box 48 [.int .i64,.int .i64]),.blk (.arr 87 false (.sl Yq1)),.blk (.arr 48 true Yq1),.slot 1 (.cell (.str)),.slot 2 (.cell (.im (.int .i64))),.slot 6 (.ref 1 true),.slot 7 (.ref 2 true)])]⟩
def TK:FAnn:=⟨104,0,[.slot 0 (.agg [.int .i64,.int .i64])],[.slot 0 (.cell (.bool))],
 [],
 [],
 []⟩
def Iw:FAnn:=⟨92,1,[.blk (.box 108 [.im (.str),.int .i64,.at 1,.at 2,.bool]),.blk (.arr 87 false (.sl Yq1)),.blk (.arr 48 true Yq1),.slot 0 (.ref 0 true)],[.blk (.box 108 [.im (.str),.int .i64,.at 1,.at 2,.bool]),.blk (.arr 87 false (.sl Yq1)),.blk (.arr 48 true Yq1),.slot 0 (.cell (.int .i64)),.slot 1 (.cell (.int .i64))],
 [(14,[.blk (.box 108 [.im (.str),.int .i64,.at 2,.at 3,.bool]),.blk (.arr 3 true (.int .i64)),.blk (.arr 87 false (.sl Yq1)),.blk (.arr 48 true Yq1),.slot 0 (.ref 0 true),.slot 4 (.cell (.str)),.slot 7 (.ref 1 false),.slot 62 (.cell (.int .i64)),.slot 63 (.cell (.int .i64))])],
 [(14,[(.exit 0,[.blk (.box 108 [.im (.str),.int .i64,.at 2,.at 3,.bool]),.blk (.arr 3 true (.int .i64)),.blk (.arr 87 false (.sl Yq1)),.blk (.arr 48 true Yq1),.slot 0 (.ref 0 true),.slot 4 (.cell (.str)),.slot 7 (.ref 1 false)]),(.ret,[.blk (.box 108 [.im (.str),.int .i64,.at 1,.at 2,.bool]),.blk (.arr 87 false (.sl Yq1)),.blk (.arr 48 true Yq1),.slot 2 (.cell (.int .i64)),.slot 3 (.cell (.int .i64))])])],
 [(12,[.blk (.box 108 [.im (.str),.int .i64,.at 1,.at 2,.bool]),.blk (.arr 87 false (.sl Yq1)),.blk (.arr 48 true Yq1),.slot 0 (.ref 0 true),.slot 4 (.cell (.str)),.slot 6 (.cell (.int .i64))])]⟩
def Ml:FAnn:=⟨22,0,[.slot 0 (.cell (.str))],[.slot 0 (.cell (.im (.sl Yq1))),.slot 1 (.cell (.int .i64)),.slot 2 (.cell (.int .i64)),.slot 3 (.cell (.bool))],
 [(4,[.blk (.box 108 [.im (.str),.int .i64,.at 1,.at 2,.bool]),.blk (.arr 87 false (.sl Yq1)),.blk (.arr 48 true Yq1),.slot 6 (.ref 0 true)])],
 [(4,[(.exit 0,[.blk (.box 108 [.im (.str),.int .i64,.at 1,.at 2,.bool]),.blk (.arr 87 false (.sl Yq1)),.blk (.arr 48 true Yq1),.slot 6 (.ref 0 true)]),(.ret,[.slot 2 (.cell (.im (.sl Yq1))),.slot 3 (.cell (.int .i64)),.slot 4 (.cell (.int .i64)),.slot 5 (.cell (.bool))])])],
 []⟩
def KB:FAnn:=⟨58,0,[.slot 0 (.agg [.int .i64,.int .i64,.int .i64,.int .i64])],[.slot 0 (.cell (.bool))],
 [],
 [],
 []⟩
def W8:FAnn:=⟨137,0,[.slot 0 (.cell (.int .i64))],[.slot 0 (.agg [.bool,.im (.int .i64)])],
 [(6,[.blk (.box 24 [.bool,.im (.int .i64)]),.blk (.arr 3 true (.int .i64)),.slot 2 (.ref 0 true),.slot 3 (.cell (.bool)),.slot 4 (.cell (.int .u64)),.slot 5 (.ref 1 false)])],
 [(6,[(.exit 0,[.blk (.box 24 [.bool,.im (.int .i64)]),.blk (.arr 3 true (.int .i64)),.slot 2 (.ref 0 true),.slot 3 (.cell (.bool)),.slot 5 (.ref 1 false)])])],
 [(5,[.blk (.box 24 [.bool,.im (.int .i64)]),.slot 2 (.ref 0 true),.slot 3 (.cell (.bool)),.slot 4 (.cell (.int .u64))])]⟩
def Xk:FAnn:=⟨73,0,[.slot 0 (.cell (.int .i64))],[.slot 0 (.agg [.bool,.im (.int .i64),.bool,.im (.int .i64)])],
 [],
 [],
 []⟩
def Tt:FAnn:=⟨76,0,[.slot 0 (.cell (.im Yq1))],[.blk (.arr 161 false Yq2),.slot 0 (.ref 0 false)],
 [(3,[.blk (.arr 161 false Yq2),.slot 3 (.ref 0 false),.slot 7 (.cell (.im Yq1)),.slot 8 (.cell (.int .i64)),.slot 9 (.cell (.int .i64))])],
 [(3,[(.exit 0,[.blk (.arr 161 false Yq2),.slot 3 (.ref 0 false)])])],
 []⟩
def Mj:FAnn:=⟨293,0,[.slot 0 (.cell (.int .i64))],[.slot 0 (.cell (.bool))],
 [],
 [],
 []⟩
def CQ:FAnn:=⟨233,0,[.slot 0 (.cell (.im (.int .i64))),.slot 1 (.clo 293)],[.slot 0 (.cell (.int .i64))],
 [(2,[.slot 0 (.cell (.im (.int .i64))),.slot 1 (.clo 293),.slot 7 (.cell (.int .i64)),.slot 8 (.cell (.int .i64))])],
 [(2,[(.exit 0,[]),(.ret,[.slot 4 (.cell (.int .i64))])])],
 []⟩
def Cy:FAnn:=⟨180,0,[.slot 0 (.cell (.im (.int .i64))),.slot 1 (.clo 293)],[.slot 0 (.cell (.bool))],
 [],
 [],
 []⟩
def Q4:FAnn:=⟨265,0,[.slot 0 (.agg [.bool,.im (.int .i64)])],[.slot 0 (.cell (.bool))],
 [],
 [],
 []⟩
def Og:FAnn:=⟨278,0,[.slot 0 (.agg [.bool,.im (.int .i64)])],[.slot 0 (.cell (.bool))],
 [],
 [],
 []⟩
def Co:FAnn:=⟨302,0,[.slot 0 (.cell (.im Yq3)),.slot 1 (.clo 278)],[.slot 0 (.cell (.int .i64))],
 [(2,[.slot 0 (.cell (.im Yq3)),.slot 1 (.clo 278),.slot 7 (.cell (.int .i64)),.slot 8 (.cell (.int .i64))])],
 [(2,[(.exit 0,[]),(.ret,[.slot 4 (.cell (.int .i64))])])],
 []⟩
def BW:FAnn:=⟨277,0,[.slot 0 (.cell (.im Yq3)),.slot 1 (.clo 278)],[.slot 0 (.cell (.bool))],
 [],
 [],
 []⟩
def S8:FAnn:=⟨234,0,[.slot 0 (.cell (.im Yq3))],[.slot 0 (.cell (.bool))],
 [],
 [],
 []⟩
def Ox:FAnn:=⟨235,0,[.slot 0 (.agg [.bool,.im (.int .i64)])],[.slot 0 (.cell (.int .i64))],
 [],
 [],
 []⟩
def Jx:FAnn:=⟨284,0,[.slot 0 (.cell (.int .i64))],[.slot 0 (.cell (.bool))],
 [],
 [],
 []⟩
def HR:FAnn:=⟨248,0,[.slot 0 (.cell (.int .i64)),.slot 1 (.cell (.int .i64))],[.slot 0 (.cell (.int .i64))],
 [],
 [],
 []⟩
def IE:FAnn:=⟨195,0,[.slot 0 (.cell (.im (.int .i64))),.slot 1 (.cell (.im (.int .i64)))],[.slot 0 (.cell (.int .i64))],
 [(4,[.slot 0 (.cell (.im (.int .i64))),.slot 1 (.cell (.im (.int .i64))),.slot 5 (.cell (.int .i64))])],
 [(4,[(.exit 0,[]),(.ret,[.slot 4 (.cell (.int .i64))])])],
 []⟩
def AQ0:FAnn:=⟨247,0,[.slot 0 (.cell (.im (.int .i64)))],[.slot 0 (.cell (.im (.int .i64)))],
 [(2,[.slot 0 (.cell (.im (.int .i64))),.slot 3 (.cell (.int .i64))])],
 [(2,[(.exit 0,[.slot 0 (.cell (.im (.int .i64))),.slot 3 (.cell (.int .i64))])])],
 []⟩
def Ny:FAnn:=⟨283,0,[.slot 0 (.cell (.im (.int .i64))),.slot 1 (.cell (.int .i64))],[.slot 0 (.cell (.im (.int .i64))),.slot 1 (.cell (.int .i64))],
 [(4,[.blk (.arr 3 true (.int .i64)),.slot 0 (.cell (.im (.int .i64))),.slot 1 (.cell (.int .i64)),.slot 6 (.ref 0 false),.slot 7 (.cell (.int .i64)),.slot 8 (.cell (.int .i64))])],
 [(4,[(.exit 0,[.blk (.arr 3 true (.int .i64)),.slot 6 (.ref 0 false),.slot 7 (.cell (.int .i64))])])],
 []⟩
def BZ:FAnn:=⟨246,0,[.slot 0 (.cell (.im (.int .i64)))],[.blk (.arr 3 true (.int .i64)),.slot 0 (.ref 0 false)],
 [],
 [],
 []⟩
def WO:FAnn:=⟨193,0,[.slot 0 (.cell (.bool)),.slot 1 (.cell (.im (.int .i64)))],[.blk (.arr 3 true (.int .i64)),.slot 0 (.agg [.bool,.at 0])],
 [],
 [],
 []⟩
def Qi:FAnn:=⟨139,0,[.slot 0 (.agg [.bool,.im (.int .i64)]),.slot 1 (.agg [.bool,.im (.int .i64)])],[.blk (.arr 3 true (.int .i64)),.slot 0 (.agg [.bool,.at 0])],
 [(3,[.blk (.box 24 [.bool,.im (.int .i64)]),.blk (.box 24 [.bool,.im (.int .i64)]),.blk (.box 24 [.bool,.im (.int .i64)]),.blk (.arr 3 true (.int .i64)),.slot 2 (.ref 0 true),.slot 3 (.ref 1 true),.slot 4 (.ref 2 true),.slot 5 (.ref 3 false),.slot 20 (.cell (.im (.int .i64))),.slot 21 (.cell (.int .i64)),.slot 22 (.cell (.int .i64))]),(7,[.blk (.box 24 [.bool,.im (.int .i64)]),.blk (.box 24 [.bool,.im (.int .i64)]),.blk (.box 24 [.bool,.im (.int .i64)]),.blk (.arr 3 true (.int .i64)),.slot 2 (.ref 0 true),.slot 3 (.ref 1 true),.slot 4 (.ref 2 true),.slot 5 (.ref 3 false),.slot 6 (.cell (.int .i64)),.slot 7 (.cell (.int .i64)),.slot 8 (.cell (.int .i64)),.slot 20 (.cell (.im (.int .i64))),.slot 21 (.cell (.int .i64)),.slot 22 (.cell (.int .i64)),.slot 28 (.cell (.im (.int .i64))),.slot 29 (.cell (.int .i64)),.slot 30 (.cell (.int .i64))])],
 [(3,[(.exit 0,[.blk (.box 24 [.bool,.im (.int .i64)]),.blk (.box 24 [.bool,.im (.int .i64)]),.blk (.box 24 [.bool,.im (.int .i64)]),.blk (.arr 3 true (.int .i64)),.slot 2 (.ref 0 true),.slot 3 (.ref 1 true),.slot 4 (.ref 2 true),.slot 5 (.ref 3 false)])]),(7,[(.exit 2,[.blk (.box 24 [.bool,.im (.int .i64)]),.blk (.box 24 [.bool,.im (.int .i64)]),.blk (.box 24 [.bool,.im (.int .i64)]),.blk (.arr 3 true (.int .i64)),.slot 2 (.ref 0 true),.slot 3 (.ref 1 true),.slot 4 (.ref 2 true),.slot 5 (.ref 3 false),.slot 6 (.cell (.int .i64)),.slot 8 (.cell (.int .i64)),.slot 20 (.cell (.im (.int .i64))),.slot 21 (.cell (.int .i64)),.slot 22 (.cell (.int .i64))])])],
 []⟩
def OF:FAnn:=⟨245,0,[.slot 0 (.cell (.im (.int .i64))),.slot 1 (.cell (.im (.int .i64)))],[.slot 0 (.cell (.im (.int .i64))),.slot 1 (.cell (.im (.int .i64)))],
 [(10,[.blk (.arr 3 true (.int .i64)),.blk (.arr 3 true (.int .i64)),.slot 0 (.cell (.im (.int .i64))),.slot 6 (.cell (.int .i64)),.slot 9 (.cell (.int .i64)),.slot 10 (.ref 0 false),.slot 11 (.ref 1 false)]),(14,[.blk (.arr 3 true (.int .i64)),.blk (.arr 3 true (.int .i64)),.blk (.arr 3 true (.int .i64)),.slot 6 (.cell (.int .i64)),.slot 9 (.cell (.int .i64)),.slot 10 (.ref 0 false),.slot 11 (.ref 1 false),.slot 12 (.ref 2 false),.slot 13 (.cell (.int .i64))]),(18,[.blk (.arr 3 true (.int .i64)),.blk (.arr 3 true (.int .i64)),.blk (.arr 3 true (.int .i64)),.slot 6 (.cell (.int .i64)),.slot 9 (.cell (.int .i64)),.slot 10 (.ref 0 false),.slot 11 (.ref 1 false),.slot 12 (.ref 2 false),.slot 13 (.cell (.int .i64)),.slot 15 (.cell (.int .i64)),.slot 16 (.cell (.int .i64))]),(23,[.blk (.arr 3 true (.int .i64)),.blk (.arr 3 true (.int .i64)),.blk (.arr 3 true (.int .i64)),.slot 6 (.cell (.int .i64)),.slot 9 (.cell (.int .i64)),.slot 10 (.ref 0 false),.slot 11 (.ref 1 false),.slot 12 (.ref 2 false),.slot 13 (.cell (.int .i64)),.slot 15 (.cell (.int .i64)),.slot 17 (.cell (.int .i64)),.slot 153 (.cell (.int .i64)),.slot 154 (.cell (.int .i64))]),(37,[.blk (.arr 3 true (.int .i64)),.blk (.arr 3 true (.int .i64)),.blk (.arr 3 true (.int .i64)),.slot 6 (.cell (.int .i64)),.slot 9 (.cell (.int .i64)),.slot 10 (.ref 0 false),.slot 11 (.ref 1 false),.slot 12 (.ref 2 false),.slot 13 (.cell (.int .i64)),.slot 15 (.cell (.int .i64)),.slot 20 (.cell (.int .i64)),.slot 208 (.cell (.int .i64)),.slot 209 (.cell (.int .i64))])],
 [(10,[(.exit 0,[.blk (.arr 3 true (.int .i64)),.blk (.arr 3 true (.int .i64)),.slot 6 (.cell (.int .i64)),.slot 9 (.cell (.int .i64)),.slot 10 (.ref 0 false),.slot 11 (.ref 1 false)])]),(14,[(.exit 2,[.blk (.arr 3 true (.int .i64)),.blk (.arr 3 true (.int .i64)),.slot 6 (.cell (.int .i64)),.slot 9 (.cell (.int .i64)),.slot 10 (.ref 0 false),.slot 12 (.ref 1 false)])]),(18,[(.exit 4,[.blk (.arr 3 true (.int .i64)),.blk (.arr 3 true (.int .i64)),.blk (.arr 3 true (.int .i64)),.slot 6 (.cell (.int .i64)),.slot 9 (.cell (.int .i64)),.slot 10 (.ref 0 false),.slot 11 (.ref 1 false),.slot 12 (.ref 2 false),.slot 13 (.cell (.int .i64)),.slot 15 (.cell (.int .i64))])]),(23,[(.exit 6,[.blk (.arr 3 true (.int .i64)),.blk (.arr 3 true (.int .i64)),.blk (.arr 3 true (.int .i64)),.slot 6 (.cell (.int .i64)),.slot 9 (.cell (.int .i64)),.slot 10 (.ref 0 false),.slot 11 (.ref 1 false),.slot 12 (.ref 2 false),.slot 13 (.cell (.int .i64)),.slot 15 (.cell (.int .i64)),.slot 17 (.cell (.int .i64))])]),(37,[(.exit 8,[.blk (.arr 3 true (.int .i64)),.blk (.arr 3 true (.int .i64)),.blk (.arr 3 true (.int .i64)),.slot 6 (.cell (.int .i64)),.slot 9 (.cell (.int .i64)),.slot 10 (.ref 0 false),.slot 11 (.ref 1 false),.slot 12 (.ref 2 false),.slot 13 (.cell (.int .i64)),.slot 15 (.cell (.int .i64)),.slot 20 (.cell (.int .i64))])])],
 [(19,[.blk (.arr 3 true (.int .i64)),.blk (.arr 3 true (.int .i64)),.blk (.arr 3 true (.int .i64)),.slot 6 (.cell (.int .i64)),.slot 9 (.cell (.int .i64)),.slot 10 (.ref 0 false),.slot 11 (.ref 1 false),.slot 12 (.ref 2 false),.slot 13 (.cell (.int .i64)),.slot 15 (.cell (.int .i64)),.slot 16 (.cell (.int .i64))]),(30,[.blk (.arr 3 true (.int .i64)),.blk (.arr 3 true (.int .i64)),.blk (.arr 3 true (.int .i64)),.slot 6 (.cell (.int .i64)),.slot 9 (.cell (.int .i64)),.slot 10 (.ref 0 false),.slot 11 (.ref 1 false),.slot 12 (.ref 2 false),.slot 13 (.cell (.int .i64)),.slot 15 (.cell (.int .i64)),.slot 17 (.cell (.int .i64)),.slot 18 (.cell (.int .i64)),.slot 19 (.cell (.int .i64)),.slot 153 (.cell (.int .i64)),.slot 154 (.cell (.int .i64))])]⟩
def QD:FAnn:=⟨190,0,[.slot 0 (.agg [.bool,.im (.int .i64)]),.slot 1 (.agg [.bool,.im (.int .i64)])],[.slot 0 (.agg [.bool,.im (.int .i64)])],
 [(2,[.blk (.box 24 [.bool,.im (.int .i64)]),.slot 4 (.ref 0 true),.slot 5 (.cell (.im (.int .i64))),.slot 6 (.cell (.im (.int .i64)))])],
 [(2,[(.exit 0,[.blk (.box 24 [.bool,.im (.int .i64)]),.slot 4 (.ref 0 true),.slot 5 (.cell (.im (.int .i64)))])])],
 []⟩
def K8:FAnn:=⟨236,0,[.slot 0 (.agg [.bool,.im (.int .i64)]),.slot 1 (.agg [.bool,.im (.int .i64)])],[.slot 0 (.cell (.int .i64))],
 [],
 [],
 []⟩
def Pt:FAnn:=⟨182,0,[.slot 0 (.agg [.bool,.im (.int .i64),.bool,.im (.int .i64)])],[.slot 0 (.cell (.bool))],
 [],
 [],
 []⟩
def Q1:FAnn:=⟨124,0,[.slot 0 (.cell (.im Yq0))],[.slot 0 (.cell (.bool))],
 [(2,[.slot 5 (.cell (.im Yq0)),.slot 6 (.cell (.int .i64)),.slot 7 (.cell (.int .i64))])],
 [(2,[(.exit 0,[]),(.ret,[.slot 2 (.cell (.bool))])])],
 []⟩
def Jo:FAnn:=⟨144,0,[.slot 0 (.agg [.bool,.im (.int .i64),.bool,.im (.int .i64)]),.slot 1 (.cell (.int .i64))],[.slot 0 (.cell (.bool))],
 [],
 [],
 []⟩
def Xc:FAnn:=⟨225,0,[.slot 0 (.agg [.bool,.im (.int .i64),.bool,.im (.int .i64),.bool,.im (.int .i64),.bool,.im (.int .i64)]),.slot 1 (.cell (.int .i64))],[.slot 0 (.cell (.bool))],
 [],
 [],
 []⟩
def LI:FAnn:=⟨224,0,[.slot 0 (.agg [.bool,.im (.int .i64),.bool,.im (.int .i64),.bool,.im (.int .i64),.bool,.im (.int .i64)])],[.slot 0 (.cell (.bool))],
 [],
 [],
 []⟩
def Cn:FAnn:=⟨267,0,[.slot 0 (.cell (.im Yq2)),.slot 1 (.clo 224)],[.slot 0 (.cell (.int .i64))],
 [(2,[.slot 0 (.cell (.im Yq2)),.slot 1 (.clo 224),.slot 7 (.cell (.int .i64)),.slot 8 (.cell (.int .i64))])],
 [(2,[(.exit 0,[]),(.ret,[.slot 4 (.cell (.int .i64))])])],
 []⟩
def BV:FAnn:=⟨223,0,[.slot 0 (.cell (.im Yq2)),.slot 1 (.clo 224)],[.slot 0 (.cell (.bool))],
 [],
 [],
 []⟩
def NO:FAnn:=⟨174,0,[.slot 0 (.cell (.im Yq2))],[.slot 0 (.cell (.bool))],
 [],
 [],
 []⟩
def Ln:FAnn:=⟨264,0,[.slot 0 (.agg [.bool,.im (.int .i64),.bool,.im (.int .i64)]),.slot 1 (.agg [.bool,.im (.int .i64),.bool,.im (.int .i64)])],[.slot 0 (.cell (.int .i64))],
 [],
 [],
 []⟩
def N8:FAnn:=⟨220,0,[.slot 0 (.agg [.bool,.im (.int .i64),.bool,.im (.int .i64)]),.slot 1 (.agg [.bool,.im (.int .i64),.bool,.im (.int .i64)])],[.slot 0 (.cell (.bool))],
 [],
 [],
 []⟩
def GA:FAnn:=⟨309,0,[.slot 0 (.agg [.bool,.im (.int .i64),.bool,.im (.int .i64),.bool,.im (.int .i64),.bool,.im (.int .i64)]),.slot 1 (.cell (.bool))],[.slot 0 (.agg [.bool,.im (.int .i64),.bool,.im (.int .i64)])],
 [],
 [],
 []⟩
def TW:FAnn:=⟨308,3,[.blk (.box 4 [.bool]),.blk (.box 4 [.bool]),.blk (.box 26 [.bool,.im (.int .i64),.bool,.im (.int .i64)]),.slot 0 (.agg [.bool,.im (.int .i64),.bool,.im (.int .i64),.bool,.im (.int .i64),.bool,.im (.int .i64)]),.slot 1 (.ref 0 true),.slot 2 (.ref 1 true),.slot 3 (.ref 2 true)],[.blk (.box 4 [.bool]),.blk (.box 4 [.bool]),.blk (.box 26 [.bool,.im (.int .i64),.bool,.im (.int .i64)]),.slot 0 (.cell (.bool))],
 [],
 [],
 []⟩
def Qd:FAnn:=⟨191,0,[.slot 0 (.agg [.bool,.im (.int .i64)])],[.slot 0 (.agg [.bool,.im (.int .i64)])],
 [],
 [],
 []⟩
def QK:FAnn:=⟨197,0,[.slot 0 (.agg [.bool,.im (.int .i64),.bool,.im (.int .i64)])],[.slot 0 (.agg [.bool,.im (.int .i64),.bool,.im (.int .i64)])],
 [],
 [],
 []⟩
def ND:FAnn:=⟨194,0,[.slot 0 (.cell (.im (.int .i64))),.slot 1 (.cell (.im (.int .i64)))],[.blk (.arr 3 true (.int .i64)),.slot 0 (.ref 0 false)],
 [(4,[.blk (.arr 3 true (.int .i64)),.slot 0 (.cell (.im (.int .i64))),.slot 1 (.cell (.im (.int .i64))),.slot 5 (.ref 0 false),.slot 6 (.cell (.int .i64)),.slot 7 (.cell (.int .i64))])],
 [(4,[(.exit 0,[.blk (.arr 3 true (.int .i64)),.slot 5 (.ref 0 false)])])],
 [(6,[.blk (.arr 3 true (.int .i64)),.slot 0 (.cell (.im (.int .i64))),.slot 1 (.cell (.im (.int .i64))),.slot 5 (.ref 0 false),.slot 6 (.cell (.int .i64)),.slot 7 (.cell (.int .i64))]),(8,[.blk (.arr 3 true (.int .i64)),.slot 0 (.cell (.im (.int .i64))),.slot 1 (.cell (.im (.int .i64))),.slot 5 (.ref 0 false),.slot 6 (.cell (.int .i64)),.slot 7 (.cell (.int .i64))]),(10,[.blk (.arr 3 true (.int .i64)),.slot 0 (.cell (.im (.int .i64))),.slot 1 (.cell (.im (.int .i64))),.slot 5 (.ref 0 false),.slot 6 (.cell (.int .i64)),.slot 7 (.cell (.int .i64))])]⟩
def OK:FAnn:=⟨196,0,[.slot 0 (.cell (.im (.int .i64))),.slot 1 (.cell (.im (.int .i64)))],[.slot 0 (.cell (.im (.int .i64)))],
 [(4,[.blk (.arr 3 true (.int .i64)),.slot 1 (.cell (.im (.int .i64))),.slot 5 (.ref 0 false),.slot 6 (.cell (.int .i64)),.slot 11 (.cell (.int .i64)),.slot 12 (.cell (.int .i64))])],
 [(4,[(.exit 0,[.blk (.arr 3 true (.int .i64)),.slot 5 (.ref 0 false)])])],
 [(9,[.blk (.arr 3 true (.int .i64)),.slot 1 (.cell (.im (.int .i64))),.slot 5 (.ref 0 false),.slot 7 (.cell (.int .i64)),.slot 11 (.cell (.int .i64)),.slot 12 (.cell (.int .i64))])]⟩
def Ri:FAnn:=⟨140,0,[.slot 0 (.agg [.bool,.im (.int .i64)]),.slot 1 (.agg [.bool,.im (.int .i64)])],[.slot 0 (.agg [.bool,.im (.int .i64)])],
 [],
 [],
 []⟩
def Q5:FAnn:=⟨192,0,[.slot 0 (.agg [.bool,.im (.int .i64)]),.slot 1 (.agg [.bool,.im (.int .i64)])],[.slot 0 (.agg [.bool,.im (.int .i64)]),.slot 1 (.agg [.bool,.im (.int .i64)])],
 [],
 [],
 []⟩
def W3:FAnn:=⟨138,0,[.slot 0 (.agg [.bool,.im (.int .i64)]),.slot 1 (.agg [.bool,.im (.int .i64)])],[.slot 0 (.agg [.bool,.im (.int .i64),.bool,.im (.int .i64)])],
 [],
 [],
 [(4,[.blk (.box 24 [.bool,.im (.int .i64)]),.blk (.box 24 [.bool,.im (.int .i64)]),.blk (.box 26 [.bool,.im (.int .i64),.bool,.im (.int .i64)]),.blk (.box 24 [.bool,.im (.int .i64)]),.slot 2 (.ref 0 true),.slot 3 (.ref 1 true),.slot 4 (.ref 2 true),.slot 5 (.ref 3 true)])]⟩
def PA:FAnn:=⟨74,0,[.slot 0 (.agg [.bool,.im (.int .i64),.bool,.im (.int .i64)]),.slot 1 (.agg [.bool,.im (.int .i64),.bool,.im (.int .i64)])],[.slot 0 (.agg [.bool,.im (.int .i64),.bool,.im (.int .i64)])],
 [],
 [],
 []⟩
def Qm:FAnn:=⟨142,0,[.slot 0 (.agg [.bool,.im (.int .i64),.bool,.im (.int .i64)]),.slot 1 (.agg [.bool,.im (.int .i64),.bool,.im (.int .i64)])],[.slot 0 (.agg [.bool,.im (.int .i64),.bool,.im (.int .i64)])],
 [],
 [],
 []⟩
def Pu:FAnn:=⟨198,0,[.slot 0 (.agg [.bool,.im (.int .i64),.bool,.im (.int .i64)]),.slot 1 (.agg [.bool,.im (.int .i64),.bool,.im (.int .i64)])],[.slot 0 (.agg [.bool,.im (.int .i64),.bool,.im (.int .i64)])],
 [],
 [],
 []⟩
def QX:FAnn:=⟨141,0,[.slot 0 (.agg [.bool,.im (.int .i64),.bool,.im (.int .i64)]),.slot 1 (.agg [.bool,.im (.int .i64),.bool,.im (.int .i64)])],[.slot 0 (.agg [.bool,.im (.int .i64),.bool,.im (.int .i64)])],
 [],
 [],
 []⟩
def AO7:FAnn:=⟨310,0,[.slot 0 (.agg [.bool,.im (.int .i64),.bool,.im (.int .i64),.bool,.im (.int .i64),.bool,.im (.int .i64)]),.slot 1 (.agg [.bool,.im (.int .i64),.bool,.im (.int .i64),.bool,.im (.int .i64),.bool,.im (.int .i64)]),.slot 2 (.agg [.bool,.im (.int .i64),.bool,.im (.int .i64)])],[.slot 0 (.agg [.bool,.im (.int .i64),.bool,.im (.int .i64),.bool,.im (.int .i64),.bool,.im (.int .i64)])],
 [],
 [],
 []⟩
def Al1:FAnn:=⟨296,0,[.slot 0 (.cell (.im Yq2)),.slot 1 (.cell (.bool)),.slot 2 (.cell (.bool)),.slot 3 (.agg [.bool,.im (.int .i64),.bool,.im (.int .i64)])],[.blk (.arr 161 false Yq2),.slot 0 (.ref 0 false)],
 [(4,[.blk (.box 4 [.bool]),.blk (.box 26 [.bool,.im (.int .i64),.bool,.im (.int .i64)]),.blk (.box 4 [.bool]),.blk (.arr 161 false Yq2),.slot 0 (.cell (.im Yq2)),.slot 5 (.ref 0 true),.slot 7 (.ref 1 true),.slot 9 (.cap 308 [2,0,1]),.slot 10 (.ref 3 false),.slot 17 (.cell (.im Yq2)),.slot 18 (.cell (.int .i64)),.slot 19 (.cell (.int .i64))])],
 [(4,[(.exit 0,[.blk (.arr 161 false Yq2),.slot 10 (.ref 0 false)])])],
 [(10,[.blk (.box 4 [.bool]),.blk (.box 26 [.bool,.im (.int .i64),.bool,.im (.int .i64)]),.blk (.box 4 [.bool]),.blk (.arr 161 false Yq2),.blk (.box 161 [.bool,.im (.int .i64),.bool,.im (.int .i64),.bool,.im (.int .i64),.bool,.im (.int .i64)]),.slot 0 (.cell (.im Yq2)),.slot 5 (.ref 0 true),.slot 7 (.ref 1 true),.slot 9 (.cap 308 [2,0,1]),.slot 10 (.ref 3 false),.slot 12 (.ref 4 true),.slot 17 (.cell (.im Yq2)),.slot 18 (.cell (.int .i64)),.slot 19 (.cell (.int .i64))])]⟩
def Pv:FAnn:=⟨269,0,[.slot 0 (.cell (.im Yq2)),.slot 1 (.agg [.bool,.im (.int .i64),.bool,.im (.int .i64),.bool,.im (.int .i64),.bool,.im (.int .i64)]),.slot 2 (.agg [.bool,.im (.int .i64),.bool,.im (.int .i64),.bool,.im (.int .i64),.bool,.im (.int .i64)])],[.blk (.arr 161 false Yq2),.slot 0 (.ref 0 false)],
 [],
 [],
 []⟩
def Th:FAnn:=⟨315,0,[.slot 0 (.agg [.bool,.im (.int .i64),.bool,.im (.int .i64)])],[.slot 0 (.agg [.bool,.im (.int .i64),.bool,.im (.int .i64)])],
 [],
 [],
 []⟩
def SN:FAnn:=⟨307,0,[.slot 0 (.agg [.bool,.im (.int .i64),.bool,.im (.int .i64),.bool,.im (.int .i64),.bool,.im (.int .i64)])],[.slot 0 (.agg [.bool,.im (.int .i64),.bool,.im (.int .i64),.bool,.im (.int .i64),.bool,.im (.int .i64)])],
 [],
 [],
 []⟩
def P4:FAnn:=⟨295,0,[.slot 0 (.cell (.im Yq2))],[.blk (.arr 161 false Yq2),.slot 0 (.ref 0 false)],
 [(3,[.blk (.arr 161 false Yq2),.slot 3 (.ref 0 false),.slot 7 (.cell (.im Yq2)),.slot 8 (.cell (.int .i64)),.slot 9 (.cell (.int .i64))])],
 [(3,[(.exit 0,[.blk (.arr 161 false Yq2),.slot 3 (.ref 0 false)])])],
 []⟩
def Jz:FAnn:=⟨268,0,[.slot 0 (.cell (.im Yq2))],[.blk (.arr 161 false Yq2),.slot 0 (.ref 0 false),.slot 1 (.cell (.bool))],
 [],
 [],
 []⟩
def QC:FAnn:=⟨226,0,[.slot 0 (.cell (.im Yq2)),.slot 1 (.agg [.bool,.im (.int .i64),.bool,.im (.int .i64),.bool,.im (.int .i64),.bool,.im (.int .i64)]),.slot 2 (.agg [.bool,.im (.int .i64),.bool,.im (.int .i64),.bool,.im (.int .i64),.bool,.im (.int .i64)])],[.blk (.arr 161 false Yq2),.slot 0 (.ref 0 false),.slot 1 (.cell (.bool))],
 [],
 [],
 []⟩
def Ot:FAnn:=⟨143,0,[.slot 0 (.agg [.bool,.im (.int .i64),.bool,.im (.int .i64)])],[.slot 0 (.agg [.bool,.im (.int .i64),.bool,.im (.int .i64)])],
 [],
 [],
 []⟩
def OB:FAnn:=⟨75,0,[.slot 0 (.cell (.im Yq2))],[.slot 0 (.agg [.bool,.im (.int .i64),.bool,.im (.int .i64)])],
 [(3,[.blk (.box 26 [.bool,.im (.int .i64),.bool,.im (.int .i64)]),.blk (.box 26 [.bool,.im (.int .i64),.bool,.im (.int .i64)]),.slot 0 (.cell (.im Yq2)),.slot 2 (.ref 0 true),.slot 3 (.ref 1 true),.slot 8 (.cell (.im Yq2)),.slot 9 (.cell (.int .i64)),.slot 10 (.cell (.int .i64))])],
 [(3,[(.exit 0,[.blk (.box 26 [.bool,.im (.int .i64),.bool,.im (.int .i64)]),.blk (.box 26 [.bool,.im (.int .i64),.bool,.im (.int .i64)]),.slot 2 (.ref 0 true),.slot 3 (.ref 1 true)])])],
 []⟩
def Lo:FAnn:=⟨77,0,[.slot 0 (.agg [.bool,.im (.int .i64),.bool,.im (.int .i64)])],[.slot 0 (.agg [.bool,.im (.int .i64),.bool,.im (.int .i64)]),.slot 1 (.cell (.bool))],
 [],
 [],
 []⟩
def NP:FAnn:=⟨227,0,[.slot 0 (.cell (.im Yq2))],[.slot 0 (.agg [.bool,.im (.int .i64),.bool,.im (.int .i64)]),.slot 1 (.cell (.bool))],
 [],
 [],
 []⟩
def QE:FAnn:=⟨175,0,[.slot 0 (.cell (.im Yq2)),.slot 1 (.cell (.int .i64)),.slot 2 (.cell (.int .i64))],[.slot 0 (.agg [.bool,.im (.int .i64),.bool,.im (.int .i64)]),.slot 1 (.cell (.bool))],
 [],
 [],
 []⟩
def NM:FAnn:=⟨116,0,[.slot 0 (.cell (.im Yq2)),.slot 1 (.agg [.int .i64,.int .i64,.int .i64,.int .i64])],[.slot 0 (.cell (.im Yq0)),.slot 1 (.cell (.bool))],
 [(5,[.blk (.box 58 [.int .i64,.int .i64,.int .i64,.int .i64]),.blk (.arr 26 false Yq0),.slot 0 (.cell (.im Yq2)),.slot 3 (.ref 0 true),.slot 6 (.ref 1 false),.slot 7 (.cell (.int .i64))]),(8,[.blk (.box 58 [.int .i64,.int .i64,.int .i64,.int .i64]),.blk (.arr 26 false Yq0),.slot 0 (.cell (.im Yq2)),.slot 3 (.ref 0 true),.slot 6 (.ref 1 false),.slot 7 (.cell (.int .i64)),.slot 8 (.cell (.int .i64))])],
 [(5,[(.exit 0,[.blk (.arr 26 false Yq0),.slot 6 (.ref 0 false)]),(.ret,[.slot 4 (.cell (.im Yq0)),.slot 5 (.cell (.bool))])]),(8,[(.exit 2,[.blk (.box 58 [.int .i64,.int .i64,.int .i64,.int .i64]),.blk (.arr 26 false Yq0),.slot 0 (.cell (.im Yq2)),.slot 3 (.ref 0 true),.slot 6 (.ref 1 false),.slot 7 (.cell (.int .i64))]),(.ret,[.slot 4 (.cell (.im Yq0)),.slot 5 (.cell (.bool))])])],
 []⟩
def Mw:FAnn:=⟨50,0,[.slot 0 (.cell (.str)),.slot 1 (.agg [.int .i64,.int .i64,.int .i64,.int .i64])],[.slot 0 (.cell (.im Yq0)),.slot 1 (.cell (.bool))],
 [(6,[.blk (.box 58 [.int .i64,.int .i64,.int .i64,.int .i64]),.blk (.arr 26 false Yq0),.slot 3 (.ref 0 true),.slot 6 (.cell (.im (.sl Yq1))),.slot 10 (.ref 1 false),.slot 36 (.cell (.int .i64)),.slot 37 (.cell (.int .i64))]),(10,[.blk (.box 58 [.int .i64,.int .i64,.int .i64,.int .i64]),.blk (.arr 26 false Yq0),.slot 3 (.ref 0 true),.slot 10 (.ref 1 false),.slot 44 (.cell (.im (.sl Yq1))),.slot 45 (.cell (.int .i64)),.slot 46 (.cell (.int .i64))]),(16,[.blk (.box 58 [.int .i64,.int .i64,.int .i64,.int .i64]),.blk (.arr 26 false Yq0),.slot 3 (.ref 0 true),.slot 10 (.ref 1 false),.slot 44 (.cell (.im (.sl Yq1))),.slot 45 (.cell (.int .i64)),.slot 46 (.cell (.int .i64)),.slot 59 (.cell (.im Yq0)),.slot 60 (.cell (.int .i64)),.slot 61 (.cell (.int .i64))])],
 [(6,[(.exit 0,[.blk (.box 58 [.int .i64,.int .i64,.int .i64,.int .i64]),.blk (.arr 26 false Yq0),.slot 3 (.ref 0 true),.slot 6 (.cell (.im (.sl Yq1))),.slot 10 (.ref 1 false)])]),(10,[(.exit 2,[.blk (.arr 26 false Yq0),.slot 10 (.ref 0 false)]),(.ret,[.slot 4 (.cell (.im Yq0)),.slot 5 (.cell (.bool))])]),(16,[(.exit 4,[.blk (.box 58 [.int .i64,.int .i64,.int .i64,.int .i64]),.blk (.arr 26 false Yq0),.slot 3 (.ref 0 true),.slot 10 (.ref 1 false),.slot 44 (.cell (.im (.sl Yq1))),.slot 45 (.cell (.int .i64)),.slot 46 (.cell (.int .i64))]),(.ret,[.slot 4 (.cell (.im Yq0)),.slot 5 (.cell (.bool))])])],
 []⟩
def PR:FAnn:=⟨263,0,[.slot 0 (.agg [.bool,.im (.int .i64)])],[.slot 0 (.agg [.bool,.im (.int .i64)])],
 [],
 [],
 []⟩
def Py:FAnn:=⟨219,0,[.slot 0 (.agg [.bool,.im (.int .i64),.bool,.im (.int .i64)])],[.slot 0 (.agg [.bool,.im (.int .i64),.bool,.im (.int .i64)])],
 [],
 [],
 []⟩
def QS:FAnn:=⟨294,0,[.slot 0 (.agg [.bool,.im (.int .i64)]),.slot 1 (.agg [.bool,.im (.int .i64)])],[.slot 0 (.agg [.bool,.im (.int .i64)])],
 [],
 [],
 []⟩
def Iq:FAnn:=⟨266,0,[.slot 0 (.agg [.bool,.im (.int .i64)]),.slot 1 (.agg [.bool,.im (.int .i64)])],[.slot 0 (.agg [.bool,.im (.int .i64)])],
 [],
 [],
 []⟩
def Mk:FAnn:=⟨222,0,[.slot 0 (.agg [.bool,.im (.int .i64),.bool,.im (.int .i64)])],[.slot 0 (.agg [.bool,.im (.int .i64)])],
 [],
 [],
 []⟩
def Xb:FAnn:=⟨221,0,[.slot 0 (.agg [.bool,.im (.int .i64)])],[.slot 0 (.cell (.int .i64)),.slot 1 (.cell (.bool))],
 [(5,[.blk (.box 24 [.bool,.im (.int .i64)]),.slot 1 (.ref 0 true),.slot 4 (.cell (.int .i64)),.slot 5 (.cell (.int .i64))])],
 [(5,[(.exit 0,[.blk (.box 24 [.bool,.im (.int .i64)]),.slot 1 (.ref 0 true),.slot 4 (.cell (.int .i64))])])],
 []⟩
def Tj:FAnn:=⟨172,0,[.slot 0 (.agg [.bool,.im (.int .i64),.bool,.im (.int .i64)])],[.slot 0 (.cell (.int .i64))],
 [],
 [],
 [(4,[.blk (.box 26 [.bool,.im (.int .i64),.bool,.im (.int .i64)]),.slot 1 (.ref 0 true)])]⟩
def QZ:FAnn:=⟨109,0,[.slot 0 (.cell (.im Yq0))],[.blk (.arr 3 true (.int .i64)),.slot 0 (.ref 0 false)],
 [(3,[.blk (.arr 3 true (.int .i64)),.slot 3 (.ref 0 false),.slot 7 (.cell (.im Yq0)),.slot 8 (.cell (.int .i64)),.slot 9 (.cell (.int .i64))])],
 [(3,[(.exit 0,[.blk (.arr 3 true (.int .i64)),.slot 3 (.ref 0 false)])])],
 []⟩
def LP:FAnn:=⟨40,0,[.slot 0 (.cell (.str)),.slot 1 (.agg [.int .i64,.int .i64,.int .i64,.int .i64])],[.blk (.arr 3 true (.int .i64)),.slot 0 (.ref 0 false),.slot 1 (.cell (.bool))],
 [],
 [],
 []⟩
def S9:FAnn:=⟨113,0,[.slot 0 (.cell (.im (.int .i64)))],[.blk (.arr 151 true Yq1),.slot 0 (.ref 0 false)],
 [(3,[.blk (.arr 151 true Yq1),.slot 3 (.ref 0 false),.slot 8 (.cell (.im (.int .i64))),.slot 9 (.cell (.int .i64)),.slot 10 (.cell (.int .i64))])],
 [(3,[(.exit 0,[.blk (.arr 151 true Yq1),.slot 3 (.ref 0 false)])])],
 []⟩
def PK:FAnn:=⟨83,0,[.slot 0 (.cell (.im (.str))),.slot 1 (.cell (.str))],[.slot 0 (.cell (.str))],
 [],
 [],
 []⟩
def OS:FAnn:=⟨112,0,[.slot 0 (.cell (.im Yq1))],[.slot 0 (.cell (.str))],
 [(3,[.blk (.arr 9 true (.str)),.slot 3 (.ref 0 false),.slot 7 (.cell (.im Yq1)),.slot 8 (.cell (.int .i64)),.slot 9 (.cell (.int .i64))])],
 [(3,[(.exit 0,[.blk (.arr 9 true (.str)),.slot 3 (.ref 0 false)])])],
 []⟩
def QI:FAnn:=⟨45,0,[.slot 0 (.cell (.str)),.slot 1 (.agg [.int .i64,.int .i64,.int .i64,.int .i64])],[.blk (.arr 9 true (.str)),.slot 0 (.ref 0 false),.slot 1 (.cell (.bool))],
 [(6,[.blk (.box 58 [.int .i64,.int .i64,.int .i64,.int .i64]),.blk (.arr 3 true (.int .i64)),.blk (.arr 9 true (.str)),.slot 3 (.ref 0 true),.slot 6 (.ref 1 false),.slot 8 (.ref 2 false),.slot 20 (.cell (.int .i64)),.slot 21 (.cell (.int .i64))])],
 [(6,[(.exit 0,[.blk (.arr 9 true (.str)),.slot 8 (.ref 0 false)])])],
 []⟩
def Mm:FAnn:=⟨46,0,[.slot 0 (.cell (.im (.str))),.slot 1 (.cell (.im (.str)))],[.slot 0 (.cell (.bool))],
 [(4,[.slot 0 (.cell (.im (.str))),.slot 1 (.cell (.im (.str))),.slot 5 (.cell (.int .i64))])],
 [(4,[(.exit 0,[]),(.ret,[.slot 4 (.cell (.bool))])])],
 []⟩
def Oa:FAnn:=⟨114,0,[.slot 0 (.cell (.int .i64))],[.slot 0 (.cell (.str))],
 [(4,[.slot 0 (.cell (.int .i64)),.slot 3 (.cell (.str))])],
 [(4,[(.exit 0,[.slot 3 (.cell (.str))])])],
 []⟩
def JA:FAnn:=⟨47,1,[.blk (.arr 9 true (.str)),.slot 0 (.ref 0 false),.slot 1 (.cell (.int .i64))],[.blk (.arr 9 true (.str)),.slot 0 (.cell (.int .i64))],
 [(2,[.blk (.arr 9 true (.str)),.slot 0 (.ref 0 false),.slot 1 (.cell (.int .i64)),.slot 5 (.cell (.int .i64))])],
 [(2,[(.exit 0,[.blk (.arr 9 true (.str)),.slot 1 (.cell (.int .i64))])])],
 []⟩
def Jr:FAnn:=⟨48,0,[.slot 0 (.cell (.im (.str))),.slot 1 (.cell (.int .i64))],[.slot 0 (.cell (.int .i64))],
 [(2,[.slot 0 (.cell (.im (.str))),.slot 1 (.cell (.int .i64)),.slot 5 (.cell (.int .i64))])],
 [(2,[(.exit 0,[.slot 1 (.cell (.int .i64))]),(.ret,[.slot 4 (.cell (.int .i64))])])],
 []⟩
def Gr:FAnn:=⟨7,0,[.slot 0 (.cell (.str)),.slot 1 (.agg [.int .i64,.int .i64,.int .i64,.int .i64])],[.slot 0 (.cell (.bool))],
 [],
 [],
 []⟩
def Bp6:List FAnn:=[N4,NX,TU,Kv,Jt,Ap7,TV,K7,Iu,Mu,Lu,W4,Tc,WA,Xh,Wo,WD,Xn,T6,PJ,Ww,QR,Ar0,PP,TH,TO,T9,Ui,KT,W2,Qb,QH,Ns,OD,Wa,La,WT,Oz,Wg,N9,Ra,Xj,WC,Lw,K6,WW,V8,Ud,Xr,XC,Xm,Xx,Qa,Ta,Tk,QQ,SX,ST,P7,S7,Qh,Qs,QN,NL,NC,Mz,Wi,Xd,PU,Xt,P8,Kp,Pw,RK,P1,Pq,SQ,OV,CI,Cb,K1,KA,PG,N7,P6,KF,Jy,Mt,TK,Iw,Ml,KB,W8,Xk,Tt,Mj,CQ,Cy,Q4,Og,Co,BW,S8,Ox,Jx,HR,IE,AQ0,Ny,BZ,WO,Qi,OF,QD,K8,Pt,Q1,Jo,Xc,LI,Cn,BV,NO,Ln,N8,GA,TW,Qd,QK,ND,OK,Ri,Q5,W3,PA,Qm,Pu,QX,AO7,Al1,Pv,Th,SN,P4,Jz,QC,Ot,OB,Lo,NP,QE,NM,Mw,PR,Py,QS,Iq,Mk,Xb,Tj,QZ,LP,S9,PK,OS,QI,Mm,Oa,JA,Jr,Gr]
def Bl1:Rel:=fun _ _ _ _ _=>False
def cfC:Cfg:=At2 [BZ] fun _=>false
def Ab7:List (FuncId×TypeId×Nat×Bool):=[(246,3,Ty.size (.int .i64),true)]
theorem Mq:CloneOK Tryz.prog (246,3,Ty.size (.int .i64),true):=⟨Tryz.f246,22,4,A9D,Bo4,Tryz.func246,by kernel_rfl,by kernel_rfl,rfl,Bv7,rfl,ty3,by kernel_rfl,rfl,rfl⟩
theorem A7H:∀ x∈Ab7,CloneOK Tryz.prog x:=by
 intro x hx;simp only[Ab7,zc8,List.not_mem_nil,or_false] at hx;rcases hx with rfl
 exact Mq
def Bn8:Rel:=fun g args blks r blks'=>An4 (Hk Tryz.prog cfC Bl1) Ab7 g args blks r blks'\/An2 91 9 g args blks r blks'\/QW 155 g args blks r blks'\/AU6 101 g args blks r blks'\/AU3 82 g args blks r blks'\/AV9 83 g args blks r blks'
theorem A7a:ZP Tryz.prog 91:=⟨Tryz.f91,Tryz.func91,by kernel_rfl,by kernel_rfl⟩
theorem AP0:ZP Tryz.prog 155:=⟨Tryz.f155,Tryz.func155,by kernel_rfl,by kernel_rfl⟩
theorem A96:ZP Tryz.prog 101:=⟨Tryz.f101,Tryz.func101,by kernel_rfl,by kernel_rfl⟩
theorem Ba8:ZP Tryz.prog 82:=⟨Tryz.f82,Tryz.func82,by kernel_rfl,by kernel_rfl⟩
theorem A9t:ZP Tryz.prog 83:=⟨Tryz.f83,Tryz.func83,by kernel_rfl,by kernel_rfl⟩
structure LibJ (J:J1):Prop where
 tab:Bs3 Tryz.prog J "internal/strconv.uint64pow10" .u64 Lib.pow10Tab
 max:Bf4 J 2
 syn:A80 Tryz.prog J "strconv.ErrSyntax"
 rng:A80 Tryz.prog J "strconv.ErrRange"
theorem A8y {J:J1} (hJ:LibJ J):∀ g args blks r blks',Bn8 g args blks r blks'->CSpec Tryz.prog J g args blks r blks':=by
 intro g args blks r blks' h;rcases h with h | h | h | h | h | h
 ·exact Aw0 (by kernel_rfl) A7H _ _ _ _ _ h
 ·exact A4r A7a Tryz.strings_Split hJ.max _ _ _ _ _ h
 ·exact Aw3 AP0 Tryz.strings_Contains hJ.max _ _ _ _ _ h
 ·exact A7J A96 Tryz.strconv_Atoi_ok Tryz.strconv_Atoi_syntax_var Tryz.strconv_Atoi_range_var hJ.syn hJ.rng _ _ _ _ _ h
 ·exact A7C Ba8 Tryz.strconv_Itoa hJ.tab _ _ _ _ _ h
 ·exact A6e A9t Tryz.strings_Join_none Tryz.strings_Join _ _ _ _ _ h
def cf0:Cfg:=At2 Bp6 fun g=>([246,91,155,101,82,83]:List Nat).contains g
abbrev RR:Rel:=Hk Tryz.prog cf0 Bn8
def En (a0:Tq2):Option ((Int×Int×Int×Int)) :=
 some (a0.1,(a0.2.1,(a0.2.2.1,a0.2.2.2)))
def Ut:Ent:=⟨N4,fun x=>En x⟩
def txq (l:List Ent) (a:FAnn):TX:=⟨Ak,Af,[],[4],l,a⟩
theorem fnDq {l:List Ent} {a:FAnn} {fn:Func} {c:Code} {F:Dp a.params->Option (Dp a.res)} (hE:A9J RR cf0 l) (h:VF Bp6 a.g=some a) (hf:FnOK Tryz.prog cf0 (txq l a) fn c) (hF:∀ x,wtF (txq l a) fn x=F x):Ai RR ⟨a,F⟩:=Aa (X:=txq l a) ⟨Ay,Ae,Az⟩ (Ab hE) (Al h) hf hF
theorem Av5:Ai RR Ut:=fnDq (l:=[]) trivial (by kernel_rfl) ⟨Tryz.func39,rfl,by kernel_rfl,rfl⟩ (fun _=>by kernel_rfl)
def FF (s0:Tq9) (s1:(List UInt8)) (s2:Int) (s3:Int):Option ((Tq9×Tq26) ⊕ (Tq9×((List UInt8)×Int))) :=
 bif decide (s3<(((List.length s1):Nat):Int)) then
  ((AP s1 s3)).bind fun x0 =>
  bif ((((UInt8.toNat x0):Nat):Int)==(32:Int)) then
   ((JL s2 s3 (List.length s1))).bind fun x1 =>
   ((Ct 16 1 s0 (List.cons (List.drop x1.1 (List.take x1.2 s1)) (List.nil:List (List UInt8))))).bind fun x2 =>
   some (Sum.inl (x2,(s1,((IntKind.wrap .i64 (s3 + (1:Int))),(IntKind.wrap .i64 (s3 + (1:Int)))))))
  else
  some (Sum.inl (s0,(s1,(s2,(IntKind.wrap .i64 (s3 + (1:Int)))))))
 else
 some (Sum.inr (s0,(s1,s2)))
def HU (a0:(List UInt8)):Option Tq9 :=
 (Ah (fun (s:(Tq9×Tq26))=>FF s.1 s.2.1 s.2.2.1 s.2.2.2) ((List.nil:List (List UInt8)),(a0,((0:Int),(0:Int))))).bind fun x0 =>
 ((JL x0.2.2 (((List.length x0.2.1):Nat):Int) (List.length x0.2.1))).bind fun x1 =>
 ((Ct 16 1 x0.1 (List.cons (List.drop x1.1 (List.take x1.2 x0.2.1)) (List.nil:List (List UInt8))))).bind fun x2 =>
 some x2
def UH:Ent:=⟨NX,fun x=>HU x⟩
theorem At4:Ai RR UH:=fnDq (l:=[]) trivial (by kernel_rfl) ⟨Tryz.func95,rfl,by kernel_rfl,rfl⟩ (fun _=>by kernel_rfl)
def Dx (s0:(List UInt8)) (s1:Int) (s2:Int) (s3:Int):Option (((List UInt8)×(Int×(Int×Int))) ⊕ ((List UInt8)×(Int×(Int×Int)))) :=
 bif decide (s3<(((List.length s0):Nat):Int)) then
  bif decide (s3<(IntKind.wrap .i64 (s1 + (4:Int)))) then
   ((AP s0 s3)).bind fun x0 =>
   bif decide ((((UInt8.toNat x0):Nat):Int)>=(48:Int)) then
    ((AP s0 s3)).bind fun x1 =>
    bif decide ((((UInt8.toNat x1):Nat):Int)<=(57:Int)) then
     ((AP s0 s3)).bind fun x2 =>
     some (Sum.inl (s0,(s1,((IntKind.wrap .i64 ((IntKind.wrap .i64 ((10:Int)*s2)) + (IntKind.wrap .i64 (Go.IntKind.wrap Go.IntKind.u8 ((((UInt8.toNat x2):Nat):Int)-(48:Int)))))),(IntKind.wrap .i64 (s3 + (1:Int)))))))
    else
    some (Sum.inr (s0,(s1,(s2,s3))))
   else
   some (Sum.inr (s0,(s1,(s2,s3))))
  else
  some (Sum.inr (s0,(s1,(s2,s3))))
 else
 some (Sum.inr (s0,(s1,(s2,s3))))
def Km (a0:(List UInt8)) (a1:Int):Option (Int×Int) :=
 (Ah (fun (s:((List UInt8)×(Int×(Int×Int))))=>Dx s.1 s.2.1 s.2.2.1 s.2.2.2) (a0,(a1,((0:Int),a1)))).bind fun x0 =>
 bif (x0.2.2.2==x0.2.1) then
  some ((-(1:Int)),x0.2.1)
 else
 ((AP x0.1 x0.2.1)).bind fun x1 =>
 bif ((((UInt8.toNat x1):Nat):Int)==(48:Int)) then
  bif decide (x0.2.2.2>(IntKind.wrap .i64 (x0.2.1 + (1:Int)))) then
   some ((-(1:Int)),x0.2.1)
  else
  some (x0.2.2.1,x0.2.2.2)
 else
 some (x0.2.2.1,x0.2.2.2)
def Ai6:Ent:=⟨TU,fun x=>Km x.1 x.2⟩
theorem A1b:Ai RR Ai6:=fnDq (l:=[]) trivial (by kernel_rfl) ⟨Tryz.func102,rfl,by kernel_rfl,rfl⟩ (fun _=>by kernel_rfl)
def FE (a0:(List UInt8)):Option (Int×Bool) :=
 (bif decide ((((List.length a0):Nat):Int)>(0:Int)) then
   ((AP a0 (0:Int))).bind fun x0 =>
   some (Sum.inr (a0,((((UInt8.toNat x0):Nat):Int)==(45:Int))))
  else
  some (Sum.inr (a0,false))).bind fun x1 =>
 Sum.elim
  (fun x2 =>
  some x2)
  (fun x3 =>
  (bif x3.2 then
    ((JL (1:Int) (((List.length x3.1):Nat):Int) (List.length x3.1))).bind fun x4 =>
    some (Sum.inr (x3.2,(List.drop x4.1 (List.take x4.2 x3.1))))
   else
   some (Sum.inr (x3.2,x3.1))).bind fun x5 =>
  Sum.elim
   (fun x6 =>
   some x6)
   (fun x7 =>
   ((Km x7.2 (0:Int))).bind fun x8 =>
   (bif decide (x8.1<(0:Int)) then
     some (Sum.inl ((0:Int),false))
    else
    bif decide (x8.2<(((List.length x7.2):Nat):Int)) then
     some (Sum.inl ((0:Int),false))
    else
    bif x7.1 then
     bif (x8.1==(0:Int)) then
      some (Sum.inl ((0:Int),false))
     else
     some (Sum.inr (x7.1,x8.1))
    else
    some (Sum.inr (x7.1,x8.1))).bind fun x9 =>
   Sum.elim
    (fun x10 =>
    some x10)
    (fun x11 =>
    bif x11.1 then
     some ((IntKind.wrap .i64 ((0:Int)-x11.2)),true)
    else
    some (x11.2,true))
    x9)
   x5)
  x1
def Qc:Ent:=⟨Kv,fun x=>FE x⟩
theorem Zs:Ai RR Qc:=fnDq (l:=[Ai6]) ⟨⟨A1b,rfl⟩,trivial⟩ (by kernel_rfl) ⟨Tryz.func31,rfl,by kernel_rfl,rfl⟩ (fun _=>by kernel_rfl)
def Av (a0:Tq16) (a1:(List Tq3)) (a2:Tq3):Option ((List (List UInt8)×Int×Int)×List Tq23×List ((Int×Int))×Int) :=
 bif (a0.2.2 != (0:Int)) then
  some ((a0.1,(a0.2.1,a0.2.2)),(a1,(a2,(0:Int))))
 else
 bif (a0.2.1==(((List.length a0.1):Nat):Int)) then
  some ((a0.1,(a0.2.1,(3:Int))),(a1,(a2,(0:Int))))
 else
 ((AP a0.1 a0.2.1)).bind fun x0 =>
 ((FE x0)).bind fun x1 =>
 bif (!x1.2) then
  some ((a0.1,(a0.2.1,(3:Int))),(a1,(a2,(0:Int))))
 else
 some ((a0.1,((IntKind.wrap .i64 (a0.2.1 + (1:Int))),a0.2.2)),(a1,(a2,x1.1)))
def O5:Ent:=⟨Jt,fun x=>Av x.1 x.2.1 x.2.2⟩
theorem Wb:Ai RR O5:=fnDq (l:=[Qc]) ⟨⟨Zs,rfl⟩,trivial⟩ (by kernel_rfl) ⟨Tryz.func161,rfl,by kernel_rfl,rfl⟩ (fun _=>by kernel_rfl)
def De (a0:Int) (a1:Int) (a2:Int):Option (Bool) :=
 bif decide (a0>=a1) then
  some (decide (a0<=a2))
 else
 some false
def PV:Ent:=⟨Ap7,fun x=>De x.1 x.2.1 x.2.2⟩
theorem Rz:Ai RR PV:=fnDq (l:=[]) trivial (by kernel_rfl) ⟨Tryz.func90,rfl,by kernel_rfl,rfl⟩ (fun _=>by kernel_rfl)
def Fh (a0:(Int×Int)):Option (Bool) :=
 ((De a0.1 (-(1000:Int)) (1000:Int))).bind fun x0 =>
 bif x0 then
  ((De a0.2 (-(1000:Int)) (1000:Int))).bind fun x1 =>
  some x1
 else
 some false
def TP:Ent:=⟨TV,fun x=>Fh x⟩
theorem Ye:Ai RR TP:=fnDq (l:=[PV]) ⟨⟨Rz,rfl⟩,trivial⟩ (by kernel_rfl) ⟨Tryz.func166,rfl,by kernel_rfl,rfl⟩ (fun _=>by kernel_rfl)
def AK (a0:Tq16) (a1:(List Tq3)) (a2:Tq3) (a3:(Int×Int)):Option ((List (List UInt8)×Int×Int)×List Tq23×List ((Int×Int))) :=
 bif (a0.2.2 != (0:Int)) then
  some ((a0.1,(a0.2.1,a0.2.2)),(a1,a2))
 else
 ((Fh (a3.1,a3.2))).bind fun x0 =>
 bif (!x0) then
  some ((a0.1,((IntKind.wrap .i64 (a0.2.1-(1:Int))),(6:Int))),(a1,a2))
 else
 ((Ct 16 2 a2 (List.cons (a3.1,a3.2) (List.nil:List (Int×Int))))).bind fun x1 =>
 some ((a0.1,(a0.2.1,a0.2.2)),(a1,x1))
def Qt:Ent:=⟨K7,fun x=>AK x.1 x.2.1 x.2.2.1 x.2.2.2⟩
theorem ZA:Ai RR Qt:=fnDq (l:=[TP]) ⟨⟨Ye,rfl⟩,trivial⟩ (by kernel_rfl) ⟨Tryz.func162,rfl,by kernel_rfl,rfl⟩ (fun _=>by kernel_rfl)
def Dk (s0:Tq16) (s1:Tq9) (s2:(List Tq3)) (s3:Tq3) (s4:(List UInt8)) (s5:Bool) (s6:Bool) (s7:Int) (s8:Int):Option ((Tq16×(Tq9×((List Tq3)×(Tq3×((List UInt8)×(Bool×(Bool×(Int×Int)))))))) ⊕ (Tq16×((List Tq3)×(Tq3×((List UInt8)×(Bool×Bool)))))) :=
 bif decide (s8<s7) then
  ((A2 s8 (List.length s1))).bind fun x0 =>
  ((AV s1 x0)).bind fun x1 =>
  bif s6 then
   some (Sum.inl ((s0.1,(s0.2.1,s0.2.2)),(s1,(s2,(s3,(s4,(s5,(true,(s7,(IntKind.wrap .i64 (s8 + (1:Int))))))))))))
  else
  some (Sum.inl ((s0.1,(s0.2.1,s0.2.2)),(s1,(s2,(s3,(s4,(s5,((x1==s4),(s7,(IntKind.wrap .i64 (s8 + (1:Int))))))))))))
 else
 some (Sum.inr ((s0.1,(s0.2.1,s0.2.2)),(s2,(s3,(s4,(s5,s6))))))
def AD (a0:Tq16) (a1:(List Tq3)) (a2:Tq3):Option ((List (List UInt8)×Int×Int)×List Tq23×List ((Int×Int))) :=
 ((AP a0.1 a0.2.1)).bind fun x0 =>
 (Ah (fun (s:(Tq16×(Tq9×((List Tq3)×(Tq3×((List UInt8)×(Bool×(Bool×(Int×Int)))))))))=>Dk s.1 s.2.1 s.2.2.1 s.2.2.2.1 s.2.2.2.2.1 s.2.2.2.2.2.1 s.2.2.2.2.2.2.1 s.2.2.2.2.2.2.2.1 s.2.2.2.2.2.2.2.2) ((a0.1,(a0.2.1,a0.2.2)),((List.cons (List.cons 77 (List.nil:List UInt8)) (List.cons (List.cons 76 (List.nil:List UInt8)) (List.cons (List.cons 108 (List.nil:List UInt8)) (List.cons (List.cons 72 (List.nil:List UInt8)) (List.cons (List.cons 104 (List.nil:List UInt8)) (List.cons (List.cons 86 (List.nil:List UInt8)) (List.cons (List.cons 118 (List.nil:List UInt8)) (List.cons (List.cons 90 (List.nil:List UInt8)) (List.nil:List (List UInt8)))))))))),(a1,(a2,(x0,(decide ((((List.length a2):Nat):Int)>(0:Int)),(false,(((8:Nat):Int),(0:Int)))))))))).bind fun x1 =>
 (bif (!x1.2.2.2.2.2) then
   some (Sum.inr ((x1.1.1,(x1.1.2.1,(2:Int))),(x1.2.1,(x1.2.2.1,(x1.2.2.2.1,x1.2.2.2.2.1)))))
  else
  bif (x1.2.2.2.2.1==(x1.2.2.2.1==(List.cons 77 (List.nil:List UInt8)))) then
   some (Sum.inr ((x1.1.1,(x1.1.2.1,(4:Int))),(x1.2.1,(x1.2.2.1,(x1.2.2.2.1,x1.2.2.2.2.1)))))
  else
  bif (x1.2.2.2.1==(List.cons 77 (List.nil:List UInt8))) then
   bif ((((List.length x1.2.1):Nat):Int)==(4:Int)) then
    bif ((((List.length x1.2.1):Nat):Int)==(4:Int)) then
     some (Sum.inr ((x1.1.1,(x1.1.2.1,(5:Int))),(x1.2.1,(x1.2.2.1,(x1.2.2.2.1,x1.2.2.2.2.1)))))
    else
    some (Sum.inr ((x1.1.1,(x1.1.2.1,x1.1.2.2)),(x1.2.1,(x1.2.2.1,(x1.2.2.2.1,x1.2.2.2.2.1)))))
   else
   bif (x1.2.2.2.1==(List.cons 90 (List.nil:List UInt8))) then
    bif decide ((((List.length x1.2.2.1):Nat):Int)<(3:Int)) then
     bif decide ((((List.length x1.2.2.1):Nat):Int)<(3:Int)) then
      some (Sum.inr ((x1.1.1,(x1.1.2.1,(5:Int))),(x1.2.1,(x1.2.2.1,(x1.2.2.2.1,x1.2.2.2.2.1)))))
     else
     some (Sum.inr ((x1.1.1,(x1.1.2.1,x1.1.2.2)),(x1.2.1,(x1.2.2.1,(x1.2.2.2.1,x1.2.2.2.2.1)))))
    else
    bif (!(x1.2.2.2.1==(List.cons 90 (List.nil:List UInt8)))) then
     bif ((((List.length x1.2.2.1):Nat):Int)==(12:Int)) then
      some (Sum.inr ((x1.1.1,(x1.1.2.1,(5:Int))),(x1.2.1,(x1.2.2.1,(x1.2.2.2.1,x1.2.2.2.2.1)))))
     else
     some (Sum.inr ((x1.1.1,(x1.1.2.1,x1.1.2.2)),(x1.2.1,(x1.2.2.1,(x1.2.2.2.1,x1.2.2.2.2.1)))))
    else
    some (Sum.inr ((x1.1.1,(x1.1.2.1,x1.1.2.2)),(x1.2.1,(x1.2.2.1,(x1.2.2.2.1,x1.2.2.2.2.1)))))
   else
   bif (!(x1.2.2.2.1==(List.cons 90 (List.nil:List UInt8)))) then
    bif ((((List.length x1.2.2.1):Nat):Int)==(12:Int)) then
     some (Sum.inr ((x1.1.1,(x1.1.2.1,(5:Int))),(x1.2.1,(x1.2.2.1,(x1.2.2.2.1,x1.2.2.2.2.1)))))
    else
    some (Sum.inr ((x1.1.1,(x1.1.2.1,x1.1.2.2)),(x1.2.1,(x1.2.2.1,(x1.2.2.2.1,x1.2.2.2.2.1)))))
   else
   some (Sum.inr ((x1.1.1,(x1.1.2.1,x1.1.2.2)),(x1.2.1,(x1.2.2.1,(x1.2.2.2.1,x1.2.2.2.2.1)))))
  else
  bif (x1.2.2.2.1==(List.cons 90 (List.nil:List UInt8))) then
   bif decide ((((List.length x1.2.2.1):Nat):Int)<(3:Int)) then
    bif decide ((((List.length x1.2.2.1):Nat):Int)<(3:Int)) then
     some (Sum.inr ((x1.1.1,(x1.1.2.1,(5:Int))),(x1.2.1,(x1.2.2.1,(x1.2.2.2.1,x1.2.2.2.2.1)))))
    else
    some (Sum.inr ((x1.1.1,(x1.1.2.1,x1.1.2.2)),(x1.2.1,(x1.2.2.1,(x1.2.2.2.1,x1.2.2.2.2.1)))))
   else
   bif (!(x1.2.2.2.1==(List.cons 90 (List.nil:List UInt8)))) then
    bif ((((List.length x1.2.2.1):Nat):Int)==(12:Int)) then
     some (Sum.inr ((x1.1.1,(x1.1.2.1,(5:Int))),(x1.2.1,(x1.2.2.1,(x1.2.2.2.1,x1.2.2.2.2.1)))))
    else
    some (Sum.inr ((x1.1.1,(x1.1.2.1,x1.1.2.2)),(x1.2.1,(x1.2.2.1,(x1.2.2.2.1,x1.2.2.2.2.1)))))
   else
   some (Sum.inr ((x1.1.1,(x1.1.2.1,x1.1.2.2)),(x1.2.1,(x1.2.2.1,(x1.2.2.2.1,x1.2.2.2.2.1)))))
  else
  bif (!(x1.2.2.2.1==(List.cons 90 (List.nil:List UInt8)))) then
   bif ((((List.length x1.2.2.1):Nat):Int)==(12:Int)) then
    some (Sum.inr ((x1.1.1,(x1.1.2.1,(5:Int))),(x1.2.1,(x1.2.2.1,(x1.2.2.2.1,x1.2.2.2.2.1)))))
   else
   some (Sum.inr ((x1.1.1,(x1.1.2.1,x1.1.2.2)),(x1.2.1,(x1.2.2.1,(x1.2.2.2.1,x1.2.2.2.2.1)))))
  else
  some (Sum.inr ((x1.1.1,(x1.1.2.1,x1.1.2.2)),(x1.2.1,(x1.2.2.1,(x1.2.2.2.1,x1.2.2.2.2.1)))))).bind fun x2 =>
 Sum.elim
  (fun x3 =>
  some x3)
  (fun x4 =>
  bif (x4.1.2.2 != (0:Int)) then
   some ((x4.1.1,(x4.1.2.1,x4.1.2.2)),(x4.2.1,x4.2.2.1))
  else
  (bif x4.2.2.2.2 then
    ((A2 (IntKind.wrap .i64 ((((List.length x4.2.2.1):Nat):Int)-(1:Int))) (List.length x4.2.2.1))).bind fun x5 =>
    ((AV x4.2.2.1 x5)).bind fun x6 =>
    some (Sum.inr ((x4.1.1,((IntKind.wrap .i64 (x4.1.2.1 + (1:Int))),x4.1.2.2)),((x6.1,x6.2),(x4.2.1,(x4.2.2.1,x4.2.2.2.1)))))
   else
   some (Sum.inr ((x4.1.1,((IntKind.wrap .i64 (x4.1.2.1 + (1:Int))),x4.1.2.2)),(((0:Int),(0:Int)),(x4.2.1,(x4.2.2.1,x4.2.2.2.1)))))).bind fun x7 =>
  Sum.elim
   (fun x8 =>
   some x8)
   (fun x9 =>
   bif (x9.2.2.2.2==(List.cons 77 (List.nil:List UInt8))) then
    bif (x9.2.2.2.2==(List.cons 77 (List.nil:List UInt8))) then
     ((Av (x9.1.1,(x9.1.2.1,x9.1.2.2)) x9.2.2.1 x9.2.2.2.1)).bind fun x10 =>
     ((Av (x10.1.1,(x10.1.2.1,x10.1.2.2)) x10.2.1 x10.2.2.1)).bind fun x11 =>
     ((AK (x11.1.1,(x11.1.2.1,x11.1.2.2)) x11.2.1 x11.2.2.1 (x10.2.2.2,x11.2.2.2))).bind fun x12 =>
     some ((x12.1.1,(x12.1.2.1,x12.1.2.2)),(x12.2.1,x12.2.2))
    else
    bif (x9.2.2.2.2==(List.cons 108 (List.nil:List UInt8))) then
     ((Av (x9.1.1,(x9.1.2.1,x9.1.2.2)) x9.2.2.1 x9.2.2.2.1)).bind fun x13 =>
     ((Av (x13.1.1,(x13.1.2.1,x13.1.2.2)) x13.2.1 x13.2.2.1)).bind fun x14 =>
     ((AK (x14.1.1,(x14.1.2.1,x14.1.2.2)) x14.2.1 x14.2.2.1 ((IntKind.wrap .i64 (x9.2.1.1 + x13.2.2.2)),(IntKind.wrap .i64 (x9.2.1.2 + x14.2.2.2))))).bind fun x15 =>
     some ((x15.1.1,(x15.1.2.1,x15.1.2.2)),(x15.2.1,x15.2.2))
    else
    bif (x9.2.2.2.2==(List.cons 72 (List.nil:List UInt8))) then
     ((Av (x9.1.1,(x9.1.2.1,x9.1.2.2)) x9.2.2.1 x9.2.2.2.1)).bind fun x16 =>
     ((AK (x16.1.1,(x16.1.2.1,x16.1.2.2)) x16.2.1 x16.2.2.1 (x16.2.2.2,x9.2.1.2))).bind fun x17 =>
     some ((x17.1.1,(x17.1.2.1,x17.1.2.2)),(x17.2.1,x17.2.2))
    else
    bif (x9.2.2.2.2==(List.cons 104 (List.nil:List UInt8))) then
     ((Av (x9.1.1,(x9.1.2.1,x9.1.2.2)) x9.2.2.1 x9.2.2.2.1)).bind fun x18 =>
     ((AK (x18.1.1,(x18.1.2.1,x18.1.2.2)) x18.2.1 x18.2.2.1 ((IntKind.wrap .i64 (x9.2.1.1 + x18.2.2.2)),x9.2.1.2))).bind fun x19 =>
     some ((x19.1.1,(x19.1.2.1,x19.1.2.2)),(x19.2.1,x19.2.2))
    else
    bif (x9.2.2.2.2==(List.cons 86 (List.nil:List UInt8))) then
     ((Av (x9.1.1,(x9.1.2.1,x9.1.2.2)) x9.2.2.1 x9.2.2.2.1)).bind fun x20 =>
     ((AK (x20.1.1,(x20.1.2.1,x20.1.2.2)) x20.2.1 x20.2.2.1 (x9.2.1.1,x20.2.2.2))).bind fun x21 =>
     some ((x21.1.1,(x21.1.2.1,x21.1.2.2)),(x21.2.1,x21.2.2))
    else
    bif (x9.2.2.2.2==(List.cons 118 (List.nil:List UInt8))) then
     ((Av (x9.1.1,(x9.1.2.1,x9.1.2.2)) x9.2.2.1 x9.2.2.2.1)).bind fun x22 =>
     ((AK (x22.1.1,(x22.1.2.1,x22.1.2.2)) x22.2.1 x22.2.2.1 (x9.2.1.1,(IntKind.wrap .i64 (x9.2.1.2 + x22.2.2.2))))).bind fun x23 =>
     some ((x23.1.1,(x23.1.2.1,x23.1.2.2)),(x23.2.1,x23.2.2))
    else
    ((Ct 24 1 x9.2.2.1 (List.cons x9.2.2.2.1 (List.nil:List Tq3)))).bind fun x24 =>
    some ((x9.1.1,(x9.1.2.1,x9.1.2.2)),(x24,(List.nil:List (Int×Int))))
   else
   bif (x9.2.2.2.2==(List.cons 76 (List.nil:List UInt8))) then
    ((Av (x9.1.1,(x9.1.2.1,x9.1.2.2)) x9.2.2.1 x9.2.2.2.1)).bind fun x25 =>
    ((Av (x25.1.1,(x25.1.2.1,x25.1.2.2)) x25.2.1 x25.2.2.1)).bind fun x26 =>
    ((AK (x26.1.1,(x26.1.2.1,x26.1.2.2)) x26.2.1 x26.2.2.1 (x25.2.2.2,x26.2.2.2))).bind fun x27 =>
    some ((x27.1.1,(x27.1.2.1,x27.1.2.2)),(x27.2.1,x27.2.2))
   else
   bif (x9.2.2.2.2==(List.cons 108 (List.nil:List UInt8))) then
    ((Av (x9.1.1,(x9.1.2.1,x9.1.2.2)) x9.2.2.1 x9.2.2.2.1)).bind fun x28 =>
    ((Av (x28.1.1,(x28.1.2.1,x28.1.2.2)) x28.2.1 x28.2.2.1)).bind fun x29 =>
    ((AK (x29.1.1,(x29.1.2.1,x29.1.2.2)) x29.2.1 x29.2.2.1 ((IntKind.wrap .i64 (x9.2.1.1 + x28.2.2.2)),(IntKind.wrap .i64 (x9.2.1.2 + x29.2.2.2))))).bind fun x30 =>
    some ((x30.1.1,(x30.1.2.1,x30.1.2.2)),(x30.2.1,x30.2.2))
   else
   bif (x9.2.2.2.2==(List.cons 72 (List.nil:List UInt8))) then
    ((Av (x9.1.1,(x9.1.2.1,x9.1.2.2)) x9.2.2.1 x9.2.2.2.1)).bind fun x31 =>
    ((AK (x31.1.1,(x31.1.2.1,x31.1.2.2)) x31.2.1 x31.2.2.1 (x31.2.2.2,x9.2.1.2))).bind fun x32 =>
    some ((x32.1.1,(x32.1.2.1,x32.1.2.2)),(x32.2.1,x32.2.2))
   else
   bif (x9.2.2.2.2==(List.cons 104 (List.nil:List UInt8))) then
    ((Av (x9.1.1,(x9.1.2.1,x9.1.2.2)) x9.2.2.1 x9.2.2.2.1)).bind fun x33 =>
    ((AK (x33.1.1,(x33.1.2.1,x33.1.2.2)) x33.2.1 x33.2.2.1 ((IntKind.wrap .i64 (x9.2.1.1 + x33.2.2.2)),x9.2.1.2))).bind fun x34 =>
    some ((x34.1.1,(x34.1.2.1,x34.1.2.2)),(x34.2.1,x34.2.2))
   else
   bif (x9.2.2.2.2==(List.cons 86 (List.nil:List UInt8))) then
    ((Av (x9.1.1,(x9.1.2.1,x9.1.2.2)) x9.2.2.1 x9.2.2.2.1)).bind fun x35 =>
    ((AK (x35.1.1,(x35.1.2.1,x35.1.2.2)) x35.2.1 x35.2.2.1 (x9.2.1.1,x35.2.2.2))).bind fun x36 =>
    some ((x36.1.1,(x36.1.2.1,x36.1.2.2)),(x36.2.1,x36.2.2))
   else
   bif (x9.2.2.2.2==(List.cons 118 (List.nil:List UInt8))) then
    ((Av (x9.1.1,(x9.1.2.1,x9.1.2.2)) x9.2.2.1 x9.2.2.2.1)).bind fun x37 =>
    ((AK (x37.1.1,(x37.1.2.1,x37.1.2.2)) x37.2.1 x37.2.2.1 (x9.2.1.1,(IntKind.wrap .i64 (x9.2.1.2 + x37.2.2.2))))).bind fun x38 =>
    some ((x38.1.1,(x38.1.2.1,x38.1.2.2)),(x38.2.1,x38.2.2))
   else
   ((Ct 24 1 x9.2.2.1 (List.cons x9.2.2.2.1 (List.nil:List Tq3)))).bind fun x39 =>
   some ((x9.1.1,(x9.1.2.1,x9.1.2.2)),(x39,(List.nil:List (Int×Int)))))
   x7)
  x2
def MY:Ent:=⟨Iu,fun x=>AD x.1 x.2.1 x.2.2⟩
theorem VX:Ai RR MY:=fnDq (l:=[O5,Qt]) ⟨⟨Wb,rfl⟩,⟨⟨ZA,rfl⟩,trivial⟩⟩ (by kernel_rfl) ⟨Tryz.func96,rfl,by kernel_rfl,rfl⟩ (fun _=>by kernel_rfl)
def Dt (s0:Tq16) (s1:(List Tq3)) (s2:Tq3):Option ((Tq16×((List Tq3)×Tq3)) ⊕ (Tq16×((List Tq3)×Tq3))) :=
 bif decide (s0.2.1<(((List.length s0.1):Nat):Int)) then
  bif (s0.2.2==(0:Int)) then
   ((AD (s0.1,(s0.2.1,s0.2.2)) s1 s2)).bind fun x0 =>
   some (Sum.inl ((x0.1.1,(x0.1.2.1,x0.1.2.2)),(x0.2.1,x0.2.2)))
  else
  some (Sum.inr ((s0.1,(s0.2.1,s0.2.2)),(s1,s2)))
 else
 some (Sum.inr ((s0.1,(s0.2.1,s0.2.2)),(s1,s2)))
def F9 (a0:(List UInt8)):Option (List Tq23×Int×Int×Bool) :=
 bif ((((List.length a0):Nat):Int)==(0:Int)) then
  some ((List.nil:List Tq3),((1:Int),((0:Int),false)))
 else
 bif decide ((((List.length a0):Nat):Int)>(400:Int)) then
  some ((List.nil:List Tq3),((1:Int),((0:Int),false)))
 else
 ((HU a0)).bind fun x0 =>
 (Ah (fun (s:(Tq16×((List Tq3)×Tq3)))=>Dt s.1 s.2.1 s.2.2) ((x0,((0:Int),(0:Int))),((List.nil:List Tq3),(List.nil:List (Int×Int))))).bind fun x1 =>
 (bif (x1.1.2.2==(0:Int)) then
   bif decide ((((List.length x1.2.2):Nat):Int)>(0:Int)) then
    some (Sum.inr ((x1.1.1,(x1.1.2.1,(7:Int))),(x1.2.1,x1.2.2)))
   else
   some (Sum.inr ((x1.1.1,(x1.1.2.1,x1.1.2.2)),(x1.2.1,x1.2.2)))
  else
  some (Sum.inr ((x1.1.1,(x1.1.2.1,x1.1.2.2)),(x1.2.1,x1.2.2)))).bind fun x2 =>
 Sum.elim
  (fun x3 =>
  some x3)
  (fun x4 =>
  bif (x4.1.2.2 != (0:Int)) then
   some ((List.nil:List Tq3),(x4.1.2.2,(x4.1.2.1,false)))
  else
  some (x4.2.1,((0:Int),((0:Int),true))))
  x2
def SH:Ent:=⟨Mu,fun x=>F9 x⟩
theorem Aj8:Ai RR SH:=fnDq (l:=[UH,MY]) ⟨⟨At4,rfl⟩,⟨⟨VX,rfl⟩,trivial⟩⟩ (by kernel_rfl) ⟨Tryz.func25,rfl,by kernel_rfl,rfl⟩ (fun _=>by kernel_rfl)
def C8 (a0:Tq2):Option (Bool) :=
 ((De a0.1 (-(20:Int)) (20:Int))).bind fun x0 =>
 bif x0 then
  ((De a0.2.1 (-(20:Int)) (20:Int))).bind fun x1 =>
  bif x1 then
   ((De a0.2.2.1 (1:Int) (8:Int))).bind fun x2 =>
   bif x2 then
    ((De a0.2.2.2 (1:Int) (8:Int))).bind fun x3 =>
    some x3
   else
   some false
  else
  some false
 else
 some false
def LO:Ent:=⟨Lu,fun x=>C8 x⟩
theorem Pf:Ai RR LO:=fnDq (l:=[PV]) ⟨⟨Rz,rfl⟩,trivial⟩ (by kernel_rfl) ⟨Tryz.func117,rfl,by kernel_rfl,rfl⟩ (fun _=>by kernel_rfl)
def L4 (s0:(List Int)):Option ((List Int) ⊕ (List Int)) :=
 bif decide ((((List.length s0):Nat):Int)>(0:Int)) then
  ((AP s0 (IntKind.wrap .i64 ((((List.length s0):Nat):Int)-(1:Int))))).bind fun x0 =>
  bif (x0==(0:Int)) then
   ((JL (0:Int) (IntKind.wrap .i64 ((((List.length s0):Nat):Int)-(1:Int))) (List.length s0))).bind fun x1 =>
   some (Sum.inl (List.drop x1.1 (List.take x1.2 s0)))
  else
  some (Sum.inr s0)
 else
 some (Sum.inr s0)
def Cw (a0:(List Int)):Option (List (Int)) :=
 (Ah (fun (s:(List Int))=>L4 s) a0).bind fun x0 =>
 bif (AD1 (List.length x0) 8 1) then
  some x0
 else
 none
def Hi:Ent:=⟨W4,fun x=>Cw x⟩
theorem Gv:Ai RR Hi:=fnDq (l:=[]) trivial (by kernel_rfl) ⟨Tryz.func188,rfl,by kernel_rfl,rfl⟩ (fun _=>by kernel_rfl)
def Bs (a0:Bool) (a1:(List Int)):Option (List (Int)×(Bool)) :=
 ((Cw a1)).bind fun x0 =>
 bif a0 then
  some (x0,decide ((((List.length x0):Nat):Int)>(0:Int)))
 else
 some (x0,false)
def Ez:Ent:=⟨Tc,fun x=>Bs x.1 x.2⟩
theorem Ef:Ai RR Ez:=fnDq (l:=[Hi]) ⟨⟨Gv,rfl⟩,trivial⟩ (by kernel_rfl) ⟨Tryz.func133,rfl,by kernel_rfl,rfl⟩ (fun _=>by kernel_rfl)
def L9 (s0:Tq5) (s1:(List Int)) (s2:Int) (s3:Int):Option ((Tq5×Tq10) ⊕ (Tq5×((List Int)×Int))) :=
 bif (s3 != (0:Int)) then
  bif decide ((Int.tmod s3 (65536:Int))<(0:Int)) then
   ((Ct 8 1 s1 (List.cons (IntKind.wrap .i64 ((0:Int)-(Int.tmod s3 (65536:Int)))) (List.nil:List Int)))).bind fun x0 =>
   some (Sum.inl ((s0.1,s0.2),(x0,(s2,(IntKind.wrap .i64 (Int.tdiv s3 (65536:Int)))))))
  else
  ((Ct 8 1 s1 (List.cons (Int.tmod s3 (65536:Int)) (List.nil:List Int)))).bind fun x1 =>
  some (Sum.inl ((s0.1,s0.2),(x1,(s2,(IntKind.wrap .i64 (Int.tdiv s3 (65536:Int)))))))
 else
 some (Sum.inr ((s0.1,s0.2),(s1,s2)))
def DY (a0:Int):Option Tq18 :=
 (Ah (fun (s:(Tq5×Tq10))=>L9 s.1 s.2.1 s.2.2.1 s.2.2.2) ((false,(List.nil:List Int)),((List.nil:List Int),(a0,a0)))).bind fun x0 =>
 ((Bs (decide (x0.2.2<(0:Int))) x0.2.1)).bind fun x1 =>
 some (x1.2,x1.1)
def MX:Ent:=⟨WA,fun x=>DY x⟩
theorem Om:Ai RR MX:=fnDq (l:=[Ez]) ⟨⟨Ef,rfl⟩,trivial⟩ (by kernel_rfl) ⟨Tryz.func72,rfl,by kernel_rfl,rfl⟩ (fun _=>by kernel_rfl)
def CA (a0:Int):Option (Tq8) :=
 ((DY a0)).bind fun x0 =>
 ((DY (1:Int))).bind fun x1 =>
 some (x0.1,(x0.2,(x1.1,x1.2)))
def M8:Ent:=⟨Xh,fun x=>CA x⟩
theorem Oq:Ai RR M8:=fnDq (l:=[MX]) ⟨⟨Om,rfl⟩,trivial⟩ (by kernel_rfl) ⟨Tryz.func118,rfl,by kernel_rfl,rfl⟩ (fun _=>by kernel_rfl)
def I7 (s0:Tq3) (s1:Int) (s2:Int):Option (Tq24 ⊕ (Unit ⊕ Bool)) :=
 bif decide (s2<s1) then
  ((AP s0 s2)).bind fun x0 =>
  ((Fh (x0.1,x0.2))).bind fun x1 =>
  bif (!x1) then
   some (Sum.inr (Sum.inr false))
  else
  some (Sum.inl (s0,(s1,(IntKind.wrap .i64 (s2 + (1:Int))))))
 else
 some (Sum.inr (Sum.inl ()))
def Nh (a0:Tq3):Option (Bool) :=
 (Ah (fun (s:Tq24)=>I7 s.1 s.2.1 s.2.2) (a0,((((List.length a0):Nat):Int),(0:Int)))).bind fun x0 =>
 Sum.elim
  (fun x1 =>
  some true)
  (fun x2 =>
  some x2)
  x0
def AE1:Ent:=⟨Wo,fun x=>Nh x⟩
theorem A26:Ai RR AE1:=fnDq (l:=[TP]) ⟨⟨Ye,rfl⟩,trivial⟩ (by kernel_rfl) ⟨Tryz.func152,rfl,by kernel_rfl,rfl⟩ (fun _=>by kernel_rfl)
def MH (a0:Tq3):Option (Bool) :=
 ((De (((List.length a0):Nat):Int) (3:Int) (12:Int))).bind fun x0 =>
 bif x0 then
  ((Nh a0)).bind fun x1 =>
  some x1
 else
 some false
def AC0:Ent:=⟨WD,fun x=>MH x⟩
theorem A3p:Ai RR AC0:=fnDq (l:=[PV,AE1]) ⟨⟨Rz,rfl⟩,⟨⟨A26,rfl⟩,trivial⟩⟩ (by kernel_rfl) ⟨Tryz.func89,rfl,by kernel_rfl,rfl⟩ (fun _=>by kernel_rfl)
def Ih (a0:(Int×Int)):Option (Tq12) :=
 ((CA a0.1)).bind fun x0 =>
 ((CA a0.2)).bind fun x1 =>
 some (x0.1,(x0.2.1,(x0.2.2.1,(x0.2.2.2,(x1.1,(x1.2.1,(x1.2.2.1,x1.2.2.2)))))))
def XG:Ent:=⟨Xn,fun x=>Ih x⟩
theorem Ag5:Ai RR XG:=fnDq (l:=[M8]) ⟨⟨Oq,rfl⟩,trivial⟩ (by kernel_rfl) ⟨Tryz.func176,rfl,by kernel_rfl,rfl⟩ (fun _=>by kernel_rfl)
def DB (s0:Tq4) (s1:Tq3) (s2:Int) (s3:Int):Option ((Tq4×Tq24) ⊕ Tq4) :=
 bif decide (s3<s2) then
  ((AP s1 s3)).bind fun x0 =>
  ((Ih (x0.1,x0.2))).bind fun x1 =>
  ((Ct 128 8 s0 (List.cons (((x1.1,x1.2.1),(x1.2.2.1,x1.2.2.2.1)),((x1.2.2.2.2.1,x1.2.2.2.2.2.1),(x1.2.2.2.2.2.2.1,x1.2.2.2.2.2.2.2))) (List.nil:List (Tq0×Tq0))))).bind fun x2 =>
  some (Sum.inl (x2,(s1,(s2,(IntKind.wrap .i64 (s3 + (1:Int)))))))
 else
 some (Sum.inr s0)
def KP (a0:Tq3):Option Tq27 :=
 ((MH a0)).bind fun x0 =>
 bif (!x0) then
  some ((List.nil:List (Tq0×Tq0)),false)
 else
 (Ah (fun (s:(Tq4×Tq24))=>DB s.1 s.2.1 s.2.2.1 s.2.2.2) ((List.nil:List (Tq0×Tq0)),(a0,((((List.length a0):Nat):Int),(0:Int))))).bind fun x1 =>
 some (x1,true)
def Ac2:Ent:=⟨T6,fun x=>KP x⟩
theorem A1g:Ai RR Ac2:=fnDq (l:=[AC0,XG]) ⟨⟨A3p,rfl⟩,⟨⟨Ag5,rfl⟩,trivial⟩⟩ (by kernel_rfl) ⟨Tryz.func119,rfl,by kernel_rfl,rfl⟩ (fun _=>by kernel_rfl)
def Ga (s0:Tq5) (s1:(List Int)) (s2:Int) (s3:Int):Option ((Tq5×Tq10) ⊕ (Tq5 ⊕ Bool)) :=
 bif decide (s3<s2) then
  ((AP s1 s3)).bind fun x0 =>
  ((De x0 (0:Int) (65535:Int))).bind fun x1 =>
  bif (!x1) then
   some (Sum.inr (Sum.inr false))
  else
  some (Sum.inl ((s0.1,s0.2),(s1,(s2,(IntKind.wrap .i64 (s3 + (1:Int)))))))
 else
 some (Sum.inr (Sum.inl (s0.1,s0.2)))
def Ff (a0:Tq5):Option (Bool) :=
 (Ah (fun (s:(Tq5×Tq10))=>Ga s.1 s.2.1 s.2.2.1 s.2.2.2) ((a0.1,a0.2),(a0.2,((((List.length a0.2):Nat):Int),(0:Int))))).bind fun x0 =>
 Sum.elim
  (fun x1 =>
  bif ((((List.length x1.2):Nat):Int)==(0:Int)) then
   some (!x1.1)
  else
  bif decide ((((List.length x1.2):Nat):Int)<=(40:Int)) then
   ((AP x1.2 (IntKind.wrap .i64 ((((List.length x1.2):Nat):Int)-(1:Int))))).bind fun x2 =>
   some (x2 != (0:Int))
  else
  some false)
  (fun x3 =>
  some x3)
  x0
def Qk:Ent:=⟨PJ,fun x=>Ff x⟩
theorem UW:Ai RR Qk:=fnDq (l:=[PV]) ⟨⟨Rz,rfl⟩,trivial⟩ (by kernel_rfl) ⟨Tryz.func216,rfl,by kernel_rfl,rfl⟩ (fun _=>by kernel_rfl)
def DF (s0:(List Int)) (s1:(List Int)) (s2:Int):Option (Tq20 ⊕ (Unit ⊕ Int)) :=
 bif decide (s2>=(0:Int)) then
  ((AP s0 s2)).bind fun x0 =>
  ((AP s1 s2)).bind fun x1 =>
  bif decide (x0<x1) then
   some (Sum.inr (Sum.inr (-(1:Int))))
  else
  ((AP s0 s2)).bind fun x2 =>
  ((AP s1 s2)).bind fun x3 =>
  bif decide (x2>x3) then
   some (Sum.inr (Sum.inr (1:Int)))
  else
  some (Sum.inl (s0,(s1,(IntKind.wrap .i64 (s2-(1:Int))))))
 else
 some (Sum.inr (Sum.inl ()))
def Ci (a0:(List Int)) (a1:(List Int)):Option (Int) :=
 bif ((((List.length a0):Nat):Int) != (((List.length a1):Nat):Int)) then
  bif decide ((((List.length a0):Nat):Int)<(((List.length a1):Nat):Int)) then
   some (-(1:Int))
  else
  some (1:Int)
 else
 (Ah (fun (s:Tq20)=>DF s.1 s.2.1 s.2.2) (a0,(a1,(IntKind.wrap .i64 ((((List.length a0):Nat):Int)-(1:Int)))))).bind fun x0 =>
 Sum.elim
  (fun x1 =>
  some (0:Int))
  (fun x2 =>
  some x2)
  x0
def J2:Ent:=⟨Ww,fun x=>Ci x.1 x.2⟩
theorem Li:Ai RR J2:=fnDq (l:=[]) trivial (by kernel_rfl) ⟨Tryz.func217,rfl,by kernel_rfl,rfl⟩ (fun _=>by kernel_rfl)
def Gf (s0:(List Int)) (s1:(List Int)) (s2:Int) (s3:Int) (s4:Int):Option (Tq11 ⊕ ((List Int)×Int)) :=
 bif decide (s4>=(0:Int)) then
  ((AP s1 s4)).bind fun x0 =>
  bif (s2==(0:Int)) then
   none
  else
  ((A2 s4 (List.length s0))).bind fun x1 =>
  ((AV s0 x1)).bind fun x2 =>
  bif (s2==(0:Int)) then
   none
  else
  some (Sum.inl ((List.set s0 x1 (IntKind.wrap .i64 (Int.tdiv (IntKind.wrap .i64 ((IntKind.wrap .i64 (s3*(65536:Int))) + x0)) s2))),(s1,(s2,((Int.tmod (IntKind.wrap .i64 ((IntKind.wrap .i64 (s3*(65536:Int))) + x0)) s2),(IntKind.wrap .i64 (s4-(1:Int))))))))
 else
 some (Sum.inr (s0,s3))
def Jd (a0:(List Int)) (a1:Int):Option (List (Int)×List (Int)) :=
 ((Sa (((List.length a0):Nat):Int) 8 1)).bind fun x0 =>
 (Ah (fun (s:Tq11)=>Gf s.1 s.2.1 s.2.2.1 s.2.2.2.1 s.2.2.2.2) ((List.replicate x0 (0:Int)),(a0,(a1,((0:Int),(IntKind.wrap .i64 ((((List.length a0):Nat):Int)-(1:Int)))))))).bind fun x1 =>
 ((Cw x1.1)).bind fun x2 =>
 ((Cw (List.cons x1.2 (List.nil:List Int)))).bind fun x3 =>
 some (x2,x3)
def XZ:Ent:=⟨QR,fun x=>Jd x.1 x.2⟩
theorem AP8:Ai RR XZ:=fnDq (l:=[Hi]) ⟨⟨Gv,rfl⟩,trivial⟩ (by kernel_rfl) ⟨Tryz.func239,rfl,by kernel_rfl,rfl⟩ (fun _=>by kernel_rfl)
def Ov (s0:(List Int)) (s1:Int) (s2:(List Int)) (s3:Int) (s4:Int):Option (((List Int)×(Int×Tq10)) ⊕ (List Int)) :=
 bif decide (s4<s3) then
  ((AP s2 s4)).bind fun x0 =>
  bif decide ((IntKind.wrap .u64 s1)<(0:Int)) then
   none
  else
  ((A2 s4 (List.length s0))).bind fun x1 =>
  ((AV s0 x1)).bind fun x2 =>
  ((A2 s4 (List.length s0))).bind fun x3 =>
  ((AV s0 x3)).bind fun x4 =>
  ((A2 (IntKind.wrap .i64 (s4 + (1:Int))) (List.length (List.set s0 x3 (orI Go.IntKind.i64 x2 (Int.tmod (Wh Go.IntKind.i64 x0 (IntKind.wrap .u64 s1)) (65536:Int))))))).bind fun x5 =>
  ((AV (List.set s0 x3 (orI Go.IntKind.i64 x2 (Int.tmod (Wh Go.IntKind.i64 x0 (IntKind.wrap .u64 s1)) (65536:Int)))) x5)).bind fun x6 =>
  some (Sum.inl ((List.set (List.set s0 x3 (orI Go.IntKind.i64 x2 (Int.tmod (Wh Go.IntKind.i64 x0 (IntKind.wrap .u64 s1)) (65536:Int)))) x5 (IntKind.wrap .i64 (Int.tdiv (Wh Go.IntKind.i64 x0 (IntKind.wrap .u64 s1)) (65536:Int)))),(s1,(s2,(s3,(IntKind.wrap .i64 (s4 + (1:Int))))))))
 else
 some (Sum.inr s0)
def Nf (a0:(List Int)) (a1:Int):Option (List (Int)) :=
 ((Sa (IntKind.wrap .i64 ((((List.length a0):Nat):Int) + (1:Int))) 8 1)).bind fun x0 =>
 (Ah (fun (s:((List Int)×(Int×Tq10)))=>Ov s.1 s.2.1 s.2.2.1 s.2.2.2.1 s.2.2.2.2) ((List.replicate x0 (0:Int)),(a1,(a0,((((List.length a0):Nat):Int),(0:Int)))))).bind fun x1 =>
 some x1
def AY2:Ent:=⟨Ar0,fun x=>Nf x.1 x.2⟩
theorem A6x:Ai RR AY2:=fnDq (l:=[]) trivial (by kernel_rfl) ⟨Tryz.func240,rfl,by kernel_rfl,rfl⟩ (fun _=>by kernel_rfl)
def EP (s0:(List Int)) (s1:(List Int)) (s2:Int) (s3:Int) (s4:Int) (s5:Int):Option (Tq28 ⊕ Int) :=
 (bif decide (s5<(65536:Int)) then
   bif decide (s4>=(65536:Int)) then
    some (Sum.inr (s0,(s1,(s2,(s3,(s4,s5))))))
   else
   ((AP s1 (IntKind.wrap .i64 (s3-(2:Int))))).bind fun x0 =>
   ((AP s0 (IntKind.wrap .i64 ((IntKind.wrap .i64 (s2 + s3))-(2:Int))))).bind fun x1 =>
   bif decide ((IntKind.wrap .i64 (s4*x0))>(IntKind.wrap .i64 ((IntKind.wrap .i64 (s5*(65536:Int))) + x1))) then
    some (Sum.inr (s0,(s1,(s2,(s3,(s4,s5))))))
   else
   some (Sum.inl (Sum.inr s4))
  else
  some (Sum.inl (Sum.inr s4))).bind fun x2 =>
 Sum.elim
  (fun x3 =>
  some x3)
  (fun x4 =>
  ((AP x4.2.1 (IntKind.wrap .i64 (x4.2.2.2.1-(1:Int))))).bind fun x5 =>
  some (Sum.inl (x4.1,(x4.2.1,(x4.2.2.1,(x4.2.2.2.1,((IntKind.wrap .i64 (x4.2.2.2.2.1-(1:Int))),(IntKind.wrap .i64 (x4.2.2.2.2.2 + x5)))))))))
  x2
def Jk (a0:(List Int)) (a1:(List Int)) (a2:Int):Option (Int) :=
 ((AP a0 (IntKind.wrap .i64 (a2 + (((List.length a1):Nat):Int))))).bind fun x0 =>
 ((AP a0 (IntKind.wrap .i64 ((IntKind.wrap .i64 (a2 + (((List.length a1):Nat):Int)))-(1:Int))))).bind fun x1 =>
 ((AP a1 (IntKind.wrap .i64 ((((List.length a1):Nat):Int)-(1:Int))))).bind fun x2 =>
 bif (x2==(0:Int)) then
  none
 else
 ((AP a1 (IntKind.wrap .i64 ((((List.length a1):Nat):Int)-(1:Int))))).bind fun x3 =>
 bif (x3==(0:Int)) then
  none
 else
 (Ah (fun (s:Tq28)=>EP s.1 s.2.1 s.2.2.1 s.2.2.2.1 s.2.2.2.2.1 s.2.2.2.2.2) (a0,(a1,(a2,((((List.length a1):Nat):Int),((IntKind.wrap .i64 (Int.tdiv (IntKind.wrap .i64 ((IntKind.wrap .i64 (x0*(65536:Int))) + x1)) x2)),(Int.tmod (IntKind.wrap .i64 ((IntKind.wrap .i64 (x0*(65536:Int))) + x1)) x3))))))).bind fun x4 =>
 some x4
def Zm:Ent:=⟨PP,fun x=>Jk x.1 x.2.1 x.2.2⟩
theorem AP9:Ai RR Zm:=fnDq (l:=[]) trivial (by kernel_rfl) ⟨Tryz.func241,rfl,by kernel_rfl,rfl⟩ (fun _=>by kernel_rfl)
def Db (a0:(List Int)) (a1:Int):Option (Int) :=
 bif decide (a1<(((List.length a0):Nat):Int)) then
  ((AP a0 a1)).bind fun x0 =>
  some x0
 else
 some (0:Int)
def GE:Ent:=⟨TH,fun x=>Db x.1 x.2⟩
theorem GQ:Ai RR GE:=fnDq (l:=[]) trivial (by kernel_rfl) ⟨Tryz.func276,rfl,by kernel_rfl,rfl⟩ (fun _=>by kernel_rfl)
def JT (s0:(List Int)) (s1:(List Int)) (s2:Int) (s3:Int) (s4:Int) (s5:Int):Option (Tq28 ⊕ ((List Int)×Int)) :=
 bif decide (s5<=(((List.length s1):Nat):Int)) then
  ((A2 (IntKind.wrap .i64 (s2 + s5)) (List.length s0))).bind fun x0 =>
  ((AV s0 x0)).bind fun x1 =>
  ((Db s1 s5)).bind fun x2 =>
  (bif decide ((IntKind.wrap .i64 ((IntKind.wrap .i64 (x1-(IntKind.wrap .i64 (s3*x2))))-s4))<(0:Int)) then
    some (Sum.inr (s0,(s1,(s2,(s3,((IntKind.wrap .i64 (Int.tdiv (IntKind.wrap .i64 ((IntKind.wrap .i64 ((IntKind.wrap .i64 ((0:Int)-(IntKind.wrap .i64 ((IntKind.wrap .i64 (x1-(IntKind.wrap .i64 (s3*x2))))-s4)))) + (65536:Int)))-(1:Int))) (65536:Int))),(s5,(IntKind.wrap .i64 ((IntKind.wrap .i64 ((IntKind.wrap .i64 (x1-(IntKind.wrap .i64 (s3*x2))))-s4)) + (IntKind.wrap .i64 ((IntKind.wrap .i64 (Int.tdiv (IntKind.wrap .i64 ((IntKind.wrap .i64 ((IntKind.wrap .i64 ((0:Int)-(IntKind.wrap .i64 ((IntKind.wrap .i64 (x1-(IntKind.wrap .i64 (s3*x2))))-s4)))) + (65536:Int)))-(1:Int))) (65536:Int)))*(65536:Int))))))))))))
   else
   some (Sum.inr (s0,(s1,(s2,(s3,((0:Int),(s5,(IntKind.wrap .i64 ((IntKind.wrap .i64 (x1-(IntKind.wrap .i64 (s3*x2))))-s4)))))))))).bind fun x3 =>
  Sum.elim
   (fun x4 =>
   some x4)
   (fun x5 =>
   ((A2 (IntKind.wrap .i64 (x5.2.2.1 + x5.2.2.2.2.2.1)) (List.length x5.1))).bind fun x6 =>
   ((AV x5.1 x6)).bind fun x7 =>
   some (Sum.inl ((List.set x5.1 x6 x5.2.2.2.2.2.2),(x5.2.1,(x5.2.2.1,(x5.2.2.2.1,(x5.2.2.2.2.1,(IntKind.wrap .i64 (x5.2.2.2.2.2.1 + (1:Int))))))))))
   x3
 else
 some (Sum.inr (s0,s4))
def KL (a0:(List Int)) (a1:(List Int)) (a2:Int) (a3:Int):Option (List (Int)×Int) :=
 (Ah (fun (s:Tq28)=>JT s.1 s.2.1 s.2.2.1 s.2.2.2.1 s.2.2.2.2.1 s.2.2.2.2.2) (a0,(a1,(a2,(a3,((0:Int),(0:Int))))))).bind fun x0 =>
 some (x0.1,x0.2)
def Aj5:Ent:=⟨TO,fun x=>KL x.1 x.2.1 x.2.2.1 x.2.2.2⟩
theorem A1Z:Ai RR Aj5:=fnDq (l:=[GE]) ⟨⟨GQ,rfl⟩,trivial⟩ (by kernel_rfl) ⟨Tryz.func242,rfl,by kernel_rfl,rfl⟩ (fun _=>by kernel_rfl)
def JS (s0:(List Int)) (s1:(List Int)) (s2:Int) (s3:Int) (s4:Int):Option (Tq11 ⊕ (List Int)) :=
 bif decide (s4<=(((List.length s1):Nat):Int)) then
  ((A2 (IntKind.wrap .i64 (s2 + s4)) (List.length s0))).bind fun x0 =>
  ((AV s0 x0)).bind fun x1 =>
  ((Db s1 s4)).bind fun x2 =>
  ((A2 (IntKind.wrap .i64 (s2 + s4)) (List.length s0))).bind fun x3 =>
  ((AV s0 x3)).bind fun x4 =>
  some (Sum.inl ((List.set s0 x3 (Int.tmod (IntKind.wrap .i64 ((IntKind.wrap .i64 (x1 + x2)) + s3)) (65536:Int))),(s1,(s2,((IntKind.wrap .i64 (Int.tdiv (IntKind.wrap .i64 ((IntKind.wrap .i64 (x1 + x2)) + s3)) (65536:Int))),(IntKind.wrap .i64 (s4 + (1:Int))))))))
 else
 some (Sum.inr s0)
def KM (a0:(List Int)) (a1:(List Int)) (a2:Int):Option (List (Int)) :=
 (Ah (fun (s:Tq11)=>JS s.1 s.2.1 s.2.2.1 s.2.2.2.1 s.2.2.2.2) (a0,(a1,(a2,((0:Int),(0:Int)))))).bind fun x0 =>
 some x0
def Ai1:Ent:=⟨T9,fun x=>KM x.1 x.2.1 x.2.2⟩
theorem A0W:Ai RR Ai1:=fnDq (l:=[GE]) ⟨⟨GQ,rfl⟩,trivial⟩ (by kernel_rfl) ⟨Tryz.func243,rfl,by kernel_rfl,rfl⟩ (fun _=>by kernel_rfl)
def JN (s0:(List Int)) (s1:(List Int)) (s2:Int) (s3:Int) (s4:Int):Option (Tq11 ⊕ (List Int)) :=
 bif decide (s4<s3) then
  ((AP s1 s4)).bind fun x0 =>
  ((Db s1 (IntKind.wrap .i64 (s4 + (1:Int))))).bind fun x1 =>
  bif decide ((IntKind.wrap .u64 s2)<(0:Int)) then
   none
  else
  ((A2 s4 (List.length s0))).bind fun x2 =>
  ((AV s0 x2)).bind fun x3 =>
  some (Sum.inl ((List.set s0 x2 (Int.tmod (A8X Go.IntKind.i64 (orI Go.IntKind.i64 x0 (Wh Go.IntKind.i64 x1 (16:Int))) (IntKind.wrap .u64 s2)) (65536:Int))),(s1,(s2,(s3,(IntKind.wrap .i64 (s4 + (1:Int))))))))
 else
 some (Sum.inr s0)
def LM (a0:(List Int)) (a1:Int):Option (List (Int)) :=
 ((Sa (((List.length a0):Nat):Int) 8 1)).bind fun x0 =>
 (Ah (fun (s:Tq11)=>JN s.1 s.2.1 s.2.2.1 s.2.2.2.1 s.2.2.2.2) ((List.replicate x0 (0:Int)),(a0,(a1,((((List.length a0):Nat):Int),(0:Int)))))).bind fun x1 =>
 ((Cw x1)).bind fun x2 =>
 some x2
def Ab3:Ent:=⟨Ui,fun x=>LM x.1 x.2⟩
theorem A1r:Ai RR Ab3:=fnDq (l:=[GE,Hi]) ⟨⟨GQ,rfl⟩,⟨⟨Gv,rfl⟩,trivial⟩⟩ (by kernel_rfl) ⟨Tryz.func244,rfl,by kernel_rfl,rfl⟩ (fun _=>by kernel_rfl)
def DZ (s0:(List Int)) (s1:(List Int)) (s2:Int):Option (Tq20 ⊕ Tq20) :=
 ((AP s1 (IntKind.wrap .i64 ((((List.length s1):Nat):Int)-(1:Int))))).bind fun x0 =>
 bif decide ((IntKind.wrap .u64 s2)<(0:Int)) then
  none
 else
 bif decide ((Wh Go.IntKind.i64 x0 (IntKind.wrap .u64 s2))<(32768:Int)) then
  some (Sum.inl (s0,(s1,(IntKind.wrap .i64 (s2 + (1:Int))))))
 else
 some (Sum.inr (s0,(s1,s2)))
def Cu (s0:(List Int)) (s1:(List Int)) (s2:(List Int)) (s3:Int) (s4:Int):Option (Tq14 ⊕ Tq20) :=
 bif decide (s4>=(0:Int)) then
  ((Jk s0 s1 s4)).bind fun x0 =>
  ((KL s0 s1 s4 x0)).bind fun x1 =>
  bif decide ((List.length x1.1)=(List.length s0)) then
   bif decide (x1.2>(0:Int)) then
    ((KM x1.1 s1 s4)).bind fun x2 =>
    bif decide ((List.length x2)=(List.length x1.1)) then
     ((A2 s4 (List.length s2))).bind fun x3 =>
     ((AV s2 x3)).bind fun x4 =>
     some (Sum.inl (x2,(s1,((List.set s2 x3 (IntKind.wrap .i64 (x0-(1:Int)))),(s3,(IntKind.wrap .i64 (s4-(1:Int))))))))
    else
    none
   else
   ((A2 s4 (List.length s2))).bind fun x5 =>
   ((AV s2 x5)).bind fun x6 =>
   some (Sum.inl (x1.1,(s1,((List.set s2 x5 x0),(s3,(IntKind.wrap .i64 (s4-(1:Int))))))))
  else
  none
 else
 some (Sum.inr (s0,(s2,s3)))
def D5 (a0:(List Int)) (a1:(List Int)):Option (List (Int)×List (Int)) :=
 ((Cw a0)).bind fun x0 =>
 ((Ci x0 a1)).bind fun x1 =>
 bif decide (x1<(0:Int)) then
  some ((List.nil:List Int),x0)
 else
 bif ((((List.length a1):Nat):Int)==(1:Int)) then
  ((AP a1 (0:Int))).bind fun x2 =>
  ((Jd x0 x2)).bind fun x3 =>
  some (x3.1,x3.2)
 else
 (Ah (fun (s:Tq20)=>DZ s.1 s.2.1 s.2.2) (x0,(a1,(0:Int)))).bind fun x4 =>
 ((Nf x4.1 x4.2.2)).bind fun x5 =>
 ((Nf x4.2.1 x4.2.2)).bind fun x6 =>
 ((Cw x6)).bind fun x7 =>
 ((Sa (IntKind.wrap .i64 ((IntKind.wrap .i64 ((((List.length x4.1):Nat):Int)-(((List.length x4.2.1):Nat):Int))) + (1:Int))) 8 1)).bind fun x8 =>
 (Ah (fun (s:Tq14)=>Cu s.1 s.2.1 s.2.2.1 s.2.2.2.1 s.2.2.2.2) (x5,(x7,((List.replicate x8 (0:Int)),(x4.2.2,(IntKind.wrap .i64 ((((List.length x4.1):Nat):Int)-(((List.length x4.2.1):Nat):Int)))))))).bind fun x9 =>
 ((Cw x9.2.1)).bind fun x10 =>
 ((Cw x9.1)).bind fun x11 =>
 ((LM x11 x9.2.2)).bind fun x12 =>
 some (x10,x12)
def K0:Ent:=⟨KT,fun x=>D5 x.1 x.2⟩
theorem Pl:Ai RR K0:=fnDq (l:=[Hi,J2,XZ,AY2,Zm,Aj5,Ai1,Ab3]) ⟨⟨Gv,rfl⟩,⟨⟨Li,rfl⟩,⟨⟨AP8,rfl⟩,⟨⟨A6x,rfl⟩,⟨⟨AP9,rfl⟩,⟨⟨A1Z,rfl⟩,⟨⟨A0W,rfl⟩,⟨⟨A1r,rfl⟩,trivial⟩⟩⟩⟩⟩⟩⟩⟩ (by kernel_rfl) ⟨Tryz.func189,rfl,by kernel_rfl,rfl⟩ (fun _=>by kernel_rfl)
def Mg (s0:(List Int)) (s1:(List Int)):Option (((List Int)×(List Int)) ⊕ (List Int)) :=
 bif decide ((((List.length s1):Nat):Int)>(0:Int)) then
  ((D5 s0 s1)).bind fun x0 =>
  some (Sum.inl (s1,x0.2))
 else
 some (Sum.inr s0)
def J8 (a0:(List Int)) (a1:(List Int)):Option (List (Int)) :=
 (Ah (fun (s:((List Int)×(List Int)))=>Mg s.1 s.2) (a0,a1)).bind fun x0 =>
 ((Cw x0)).bind fun x1 =>
 some x1
def WJ:Ent:=⟨W2,fun x=>J8 x.1 x.2⟩
theorem Aa2:Ai RR WJ:=fnDq (l:=[K0,Hi]) ⟨⟨Pl,rfl⟩,⟨⟨Gv,rfl⟩,trivial⟩⟩ (by kernel_rfl) ⟨Tryz.func134,rfl,by kernel_rfl,rfl⟩ (fun _=>by kernel_rfl)
def GM (a0:Tq1):Option (Bool) :=
 ((Ff (a0.1,a0.2.1))).bind fun x0 =>
 bif (!x0) then
  some false
 else
 ((Ff (a0.2.2.1,a0.2.2.2))).bind fun x1 =>
 bif (!x1) then
  some false
 else
 bif a0.2.2.1 then
  some false
 else
 bif ((((List.length a0.2.2.2):Nat):Int)==(0:Int)) then
  some false
 else
 ((J8 a0.2.1 a0.2.2.2)).bind fun x2 =>
 ((Ci x2 (List.cons (1:Int) (List.nil:List Int)))).bind fun x3 =>
 some (x3==(0:Int))
def PS:Ent:=⟨Qb,fun x=>GM x⟩
theorem Vq:Ai RR PS:=fnDq (l:=[Qk,WJ,J2]) ⟨⟨UW,rfl⟩,⟨⟨Aa2,rfl⟩,⟨⟨Li,rfl⟩,trivial⟩⟩⟩ (by kernel_rfl) ⟨Tryz.func311,rfl,by kernel_rfl,rfl⟩ (fun _=>by kernel_rfl)
def GR (a0:Tq1):Option (Bool) :=
 bif decide ((((List.length a0.2.1):Nat):Int)<=(8:Int)) then
  bif decide ((((List.length a0.2.2.2):Nat):Int)<=(8:Int)) then
   ((GM (a0.1,(a0.2.1,(a0.2.2.1,a0.2.2.2))))).bind fun x0 =>
   some x0
  else
  some false
 else
 some false
def Zj:Ent:=⟨QH,fun x=>GR x⟩
theorem AN4:Ai RR Zj:=fnDq (l:=[PS]) ⟨⟨Vq,rfl⟩,trivial⟩ (by kernel_rfl) ⟨Tryz.func297,rfl,by kernel_rfl,rfl⟩ (fun _=>by kernel_rfl)
def CG (s0:Tq4) (s1:Tq4) (s2:Int) (s3:Int):Option ((Tq4×Tq15) ⊕ (Tq4 ⊕ Bool)) :=
 bif decide (s3<s2) then
  ((AP s1 s3)).bind fun x0 =>
  ((GR (x0.1.1.1,(x0.1.1.2,(x0.1.2.1,x0.1.2.2))))).bind fun x1 =>
  bif (!x1) then
   some (Sum.inr (Sum.inr false))
  else
  ((GR (x0.2.1.1,(x0.2.1.2,(x0.2.2.1,x0.2.2.2))))).bind fun x2 =>
  bif (!x2) then
   some (Sum.inr (Sum.inr false))
  else
  some (Sum.inl (s0,(s1,(s2,(IntKind.wrap .i64 (s3 + (1:Int)))))))
 else
 some (Sum.inr (Sum.inl s0))
def FU (a0:Tq4):Option (Bool) :=
 (Ah (fun (s:(Tq4×Tq15))=>CG s.1 s.2.1 s.2.2.1 s.2.2.2) (a0,(a0,((((List.length a0):Nat):Int),(0:Int))))).bind fun x0 =>
 Sum.elim
  (fun x1 =>
  some (decide ((((List.length x1):Nat):Int)<=(40:Int))))
  (fun x2 =>
  some x2)
  x0
def Nt:Ent:=⟨Ns,fun x=>FU x⟩
theorem Sn:Ai RR Nt:=fnDq (l:=[Zj]) ⟨⟨AN4,rfl⟩,trivial⟩ (by kernel_rfl) ⟨Tryz.func270,rfl,by kernel_rfl,rfl⟩ (fun _=>by kernel_rfl)
def FQ (a0:Tq1):Option (Bool) :=
 bif decide ((((List.length a0.2.1):Nat):Int)<=(2:Int)) then
  bif decide ((((List.length a0.2.2.2):Nat):Int)<=(2:Int)) then
   ((GM (a0.1,(a0.2.1,(a0.2.2.1,a0.2.2.2))))).bind fun x0 =>
   some x0
  else
  some false
 else
 some false
def UQ:Ent:=⟨OD,fun x=>FQ x⟩
theorem At3:Ai RR UQ:=fnDq (l:=[PS]) ⟨⟨Vq,rfl⟩,trivial⟩ (by kernel_rfl) ⟨Tryz.func298,rfl,by kernel_rfl,rfl⟩ (fun _=>by kernel_rfl)
def Kb (a0:Tq7):Option (Bool) :=
 ((FQ (a0.1,(a0.2.1,(a0.2.2.1,a0.2.2.2.1))))).bind fun x0 =>
 bif x0 then
  ((FQ (a0.2.2.2.2.1,(a0.2.2.2.2.2.1,(a0.2.2.2.2.2.2.1,a0.2.2.2.2.2.2.2))))).bind fun x1 =>
  some x1
 else
 some false
def Az6:Ent:=⟨Wa,fun x=>Kb x⟩
theorem A4k:Ai RR Az6:=fnDq (l:=[UQ]) ⟨⟨At3,rfl⟩,trivial⟩ (by kernel_rfl) ⟨Tryz.func271,rfl,by kernel_rfl,rfl⟩ (fun _=>by kernel_rfl)
def DW (s0:(List Int)) (s1:(List Int)) (s2:Int) (s3:Int) (s4:Int) (s5:Int) (s6:(List Int)) (s7:Int) (s8:Int):Option (((List Int)×((List Int)×(Int×(Int×(Int×(Int×Tq10)))))) ⊕ Tq14) :=
 (bif decide (s5<(((List.length s1):Nat):Int)) then
   some (Sum.inr (s0,(s1,(s2,(s3,(s4,(s5,(s6,(s7,s8)))))))))
  else
  bif decide (s4>(0:Int)) then
   some (Sum.inr (s0,(s1,(s2,(s3,(s4,(s5,(s6,(s7,s8)))))))))
  else
  some (Sum.inl (Sum.inr (s0,(s1,(s6,(s7,s8))))))).bind fun x0 =>
 Sum.elim
  (fun x1 =>
  some x1)
  (fun x2 =>
  ((A2 (IntKind.wrap .i64 (x2.2.2.1 + x2.2.2.2.2.2.1)) (List.length x2.1))).bind fun x3 =>
  ((AV x2.1 x3)).bind fun x4 =>
  ((Db x2.2.1 x2.2.2.2.2.2.1)).bind fun x5 =>
  ((A2 (IntKind.wrap .i64 (x2.2.2.1 + x2.2.2.2.2.2.1)) (List.length x2.1))).bind fun x6 =>
  ((AV x2.1 x6)).bind fun x7 =>
  some (Sum.inl ((List.set x2.1 x6 (Int.tmod (IntKind.wrap .i64 ((IntKind.wrap .i64 (x4 + (IntKind.wrap .i64 (x2.2.2.2.1*x5)))) + x2.2.2.2.2.1)) (65536:Int))),(x2.2.1,(x2.2.2.1,(x2.2.2.2.1,((IntKind.wrap .i64 (Int.tdiv (IntKind.wrap .i64 ((IntKind.wrap .i64 (x4 + (IntKind.wrap .i64 (x2.2.2.2.1*x5)))) + x2.2.2.2.2.1)) (65536:Int))),((IntKind.wrap .i64 (x2.2.2.2.2.2.1 + (1:Int))),(x2.2.2.2.2.2.2.1,(x2.2.2.2.2.2.2.2.1,x2.2.2.2.2.2.2.2.2))))))))))
  x0
def F0 (s0:(List Int)) (s1:(List Int)) (s2:(List Int)) (s3:Int) (s4:Int):Option (Tq14 ⊕ (List Int)) :=
 bif decide (s4<s3) then
  ((AP s2 s4)).bind fun x0 =>
  (Ah (fun (s:((List Int)×((List Int)×(Int×(Int×(Int×(Int×Tq10)))))))=>DW s.1 s.2.1 s.2.2.1 s.2.2.2.1 s.2.2.2.2.1 s.2.2.2.2.2.1 s.2.2.2.2.2.2.1 s.2.2.2.2.2.2.2.1 s.2.2.2.2.2.2.2.2) (s0,(s1,(s4,(x0,((0:Int),((0:Int),(s2,(s3,s4))))))))).bind fun x1 =>
  some (Sum.inl (x1.1,(x1.2.1,(x1.2.2.1,(x1.2.2.2.1,(IntKind.wrap .i64 (x1.2.2.2.2 + (1:Int))))))))
 else
 some (Sum.inr s0)
def Fp (a0:(List Int)) (a1:(List Int)):Option (List (Int)) :=
 ((Sa (IntKind.wrap .i64 ((IntKind.wrap .i64 ((((List.length a0):Nat):Int) + (((List.length a1):Nat):Int))) + (1:Int))) 8 1)).bind fun x0 =>
 (Ah (fun (s:Tq14)=>F0 s.1 s.2.1 s.2.2.1 s.2.2.2.1 s.2.2.2.2) ((List.replicate x0 (0:Int)),(a1,(a0,((((List.length a0):Nat):Int),(0:Int)))))).bind fun x1 =>
 ((Cw x1)).bind fun x2 =>
 some x2
def Pr:Ent:=⟨La,fun x=>Fp x.1 x.2⟩
theorem Zx:Ai RR Pr:=fnDq (l:=[GE,Hi]) ⟨⟨GQ,rfl⟩,⟨⟨Gv,rfl⟩,trivial⟩⟩ (by kernel_rfl) ⟨Tryz.func232,rfl,by kernel_rfl,rfl⟩ (fun _=>by kernel_rfl)
def C4 (a0:Tq5) (a1:Tq5):Option Tq18 :=
 ((Fp a0.2 a1.2)).bind fun x0 =>
 ((Bs (!(a0.1==a1.1)) x0)).bind fun x1 =>
 some (x1.2,x1.1)
def Nl:Ent:=⟨WT,fun x=>C4 x.1 x.2⟩
theorem Nv:Ai RR Nl:=fnDq (l:=[Pr,Ez]) ⟨⟨Zx,rfl⟩,⟨⟨Ef,rfl⟩,trivial⟩⟩ (by kernel_rfl) ⟨Tryz.func179,rfl,by kernel_rfl,rfl⟩ (fun _=>by kernel_rfl)
def HI (a0:Tq5) (a1:Tq5):Option (Int) :=
 bif a0.1 then
  bif (!a1.1) then
   some (-(1:Int))
  else
  bif (!a0.1) then
   bif a1.1 then
    some (1:Int)
   else
   bif a0.1 then
    ((Ci a1.2 a0.2)).bind fun x0 =>
    some x0
   else
   ((Ci a0.2 a1.2)).bind fun x1 =>
   some x1
  else
  bif a0.1 then
   ((Ci a1.2 a0.2)).bind fun x2 =>
   some x2
  else
  ((Ci a0.2 a1.2)).bind fun x3 =>
  some x3
 else
 bif (!a0.1) then
  bif a1.1 then
   some (1:Int)
  else
  bif a0.1 then
   ((Ci a1.2 a0.2)).bind fun x4 =>
   some x4
  else
  ((Ci a0.2 a1.2)).bind fun x5 =>
  some x5
 else
 bif a0.1 then
  ((Ci a1.2 a0.2)).bind fun x6 =>
  some x6
 else
 ((Ci a0.2 a1.2)).bind fun x7 =>
 some x7
def Vg:Ent:=⟨Oz,fun x=>HI x.1 x.2⟩
theorem Au0:Ai RR Vg:=fnDq (l:=[J2]) ⟨⟨Li,rfl⟩,trivial⟩ (by kernel_rfl) ⟨Tryz.func215,rfl,by kernel_rfl,rfl⟩ (fun _=>by kernel_rfl)
def GJ (a0:Tq1) (a1:Tq1):Option (Int) :=
 ((C4 (a0.1,a0.2.1) (a1.2.2.1,a1.2.2.2))).bind fun x0 =>
 ((C4 (a1.1,a1.2.1) (a0.2.2.1,a0.2.2.2))).bind fun x1 =>
 ((HI (x0.1,x0.2) (x1.1,x1.2))).bind fun x2 =>
 some x2
def RP:Ent:=⟨Wg,fun x=>GJ x.1 x.2⟩
theorem Td:Ai RR RP:=fnDq (l:=[Nl,Vg]) ⟨⟨Nv,rfl⟩,⟨⟨Au0,rfl⟩,trivial⟩⟩ (by kernel_rfl) ⟨Tryz.func168,rfl,by kernel_rfl,rfl⟩ (fun _=>by kernel_rfl)
def FS (a0:Tq7) (a1:Bool):Option (Tq8) :=
 bif a1 then
  some (a0.2.2.2.2.1,(a0.2.2.2.2.2.1,(a0.2.2.2.2.2.2.1,a0.2.2.2.2.2.2.2)))
 else
 some (a0.1,(a0.2.1,(a0.2.2.1,a0.2.2.2.1)))
def Oj:Ent:=⟨N9,fun x=>FS x.1 x.2⟩
theorem SJ:Ai RR Oj:=fnDq (l:=[]) trivial (by kernel_rfl) ⟨Tryz.func316,rfl,by kernel_rfl,rfl⟩ (fun _=>by kernel_rfl)
def Hg (a0:Tq7) (a1:Bool) (a2:Tq1) (a3:Bool):Option (Int) :=
 ((FS (a0.1,(a0.2.1,(a0.2.2.1,(a0.2.2.2.1,(a0.2.2.2.2.1,(a0.2.2.2.2.2.1,(a0.2.2.2.2.2.2.1,a0.2.2.2.2.2.2.2))))))) a1)).bind fun x0 =>
 ((GJ (x0.1,(x0.2.1,(x0.2.2.1,x0.2.2.2))) (a2.1,(a2.2.1,(a2.2.2.1,a2.2.2.2))))).bind fun x1 =>
 bif a3 then
  some (IntKind.wrap .i64 ((0:Int)-x1))
 else
 some x1
def Yd:Ent:=⟨Ra,fun x=>Hg x.1 x.2.1 x.2.2.1 x.2.2.2⟩
theorem AM1:Ai RR Yd:=fnDq (l:=[Oj,RP]) ⟨⟨SJ,rfl⟩,⟨⟨Td,rfl⟩,trivial⟩⟩ (by kernel_rfl) ⟨Tryz.func313,rfl,by kernel_rfl,rfl⟩ (fun _=>by kernel_rfl)
def Hd (a0:Tq5):Option Tq18 :=
 ((Bs (!a0.1) a0.2)).bind fun x0 =>
 some (x0.2,x0.1)
def RM:Ent:=⟨Xj,fun x=>Hd x⟩
theorem T5:Ai RR RM:=fnDq (l:=[Ez]) ⟨⟨Ef,rfl⟩,trivial⟩ (by kernel_rfl) ⟨Tryz.func136,rfl,by kernel_rfl,rfl⟩ (fun _=>by kernel_rfl)
def MK (a0:Tq1):Option (Tq8) :=
 ((Hd (a0.1,a0.2.1))).bind fun x0 =>
 some (x0.1,(x0.2,(a0.2.2.1,a0.2.2.2)))
def AC2:Ent:=⟨WC,fun x=>MK x⟩
theorem A2K:Ai RR AC2:=fnDq (l:=[RM]) ⟨⟨T5,rfl⟩,trivial⟩ (by kernel_rfl) ⟨Tryz.func301,rfl,by kernel_rfl,rfl⟩ (fun _=>by kernel_rfl)
def D8 (s0:(List Int)) (s1:(List Int)) (s2:(List Int)) (s3:Int) (s4:Int):Option (Tq14 ⊕ (List Int)) :=
 (bif decide (s4<(((List.length s1):Nat):Int)) then
   some (Sum.inr (s0,(s1,(s2,(s3,s4)))))
  else
  bif decide (s4<(((List.length s2):Nat):Int)) then
   some (Sum.inr (s0,(s1,(s2,(s3,s4)))))
  else
  bif decide (s3>(0:Int)) then
   some (Sum.inr (s0,(s1,(s2,(s3,s4)))))
  else
  some (Sum.inl (Sum.inr s0))).bind fun x0 =>
 Sum.elim
  (fun x1 =>
  some x1)
  (fun x2 =>
  ((Db x2.2.1 x2.2.2.2.2)).bind fun x3 =>
  ((Db x2.2.2.1 x2.2.2.2.2)).bind fun x4 =>
  ((Ct 8 1 x2.1 (List.cons (Int.tmod (IntKind.wrap .i64 ((IntKind.wrap .i64 (x3 + x4)) + x2.2.2.2.1)) (65536:Int)) (List.nil:List Int)))).bind fun x5 =>
  some (Sum.inl (x5,(x2.2.1,(x2.2.2.1,((IntKind.wrap .i64 (Int.tdiv (IntKind.wrap .i64 ((IntKind.wrap .i64 (x3 + x4)) + x2.2.2.2.1)) (65536:Int))),(IntKind.wrap .i64 (x2.2.2.2.2 + (1:Int)))))))))
  x0
def Fk (a0:(List Int)) (a1:(List Int)):Option (List (Int)) :=
 (Ah (fun (s:Tq14)=>D8 s.1 s.2.1 s.2.2.1 s.2.2.2.1 s.2.2.2.2) ((List.nil:List Int),(a0,(a1,((0:Int),(0:Int)))))).bind fun x0 =>
 some x0
def PF:Ent:=⟨Lw,fun x=>Fk x.1 x.2⟩
theorem Zv:Ai RR PF:=fnDq (l:=[GE]) ⟨⟨GQ,rfl⟩,trivial⟩ (by kernel_rfl) ⟨Tryz.func230,rfl,by kernel_rfl,rfl⟩ (fun _=>by kernel_rfl)
def FX (s0:(List Int)) (s1:(List Int)) (s2:(List Int)) (s3:Int) (s4:Int) (s5:Int):Option (((List Int)×Tq11) ⊕ (List Int)) :=
 bif decide (s5<s4) then
  ((AP s1 s5)).bind fun x0 =>
  ((Db s2 s5)).bind fun x1 =>
  bif decide ((IntKind.wrap .i64 ((IntKind.wrap .i64 (x0-x1))-s3))<(0:Int)) then
   ((Ct 8 1 s0 (List.cons (IntKind.wrap .i64 ((IntKind.wrap .i64 ((IntKind.wrap .i64 (x0-x1))-s3)) + (65536:Int))) (List.nil:List Int)))).bind fun x2 =>
   some (Sum.inl (x2,(s1,(s2,((1:Int),(s4,(IntKind.wrap .i64 (s5 + (1:Int)))))))))
  else
  ((Ct 8 1 s0 (List.cons (IntKind.wrap .i64 ((IntKind.wrap .i64 (x0-x1))-s3)) (List.nil:List Int)))).bind fun x3 =>
  some (Sum.inl (x3,(s1,(s2,((0:Int),(s4,(IntKind.wrap .i64 (s5 + (1:Int)))))))))
 else
 some (Sum.inr s0)
def Ec (a0:(List Int)) (a1:(List Int)):Option (List (Int)) :=
 (Ah (fun (s:((List Int)×Tq11))=>FX s.1 s.2.1 s.2.2.1 s.2.2.2.1 s.2.2.2.2.1 s.2.2.2.2.2) ((List.nil:List Int),(a0,(a1,((0:Int),((((List.length a0):Nat):Int),(0:Int))))))).bind fun x0 =>
 ((Cw x0)).bind fun x1 =>
 some x1
def PN:Ent:=⟨K6,fun x=>Ec x.1 x.2⟩
theorem ZJ:Ai RR PN:=fnDq (l:=[GE,Hi]) ⟨⟨GQ,rfl⟩,⟨⟨Gv,rfl⟩,trivial⟩⟩ (by kernel_rfl) ⟨Tryz.func231,rfl,by kernel_rfl,rfl⟩ (fun _=>by kernel_rfl)
def Ka (a0:Tq5) (a1:Tq5):Option Tq18 :=
 bif (a0.1==a1.1) then
  ((Fk a0.2 a1.2)).bind fun x0 =>
  ((Bs a0.1 x0)).bind fun x1 =>
  some (x1.2,x1.1)
 else
 ((Ci a0.2 a1.2)).bind fun x2 =>
 bif decide (x2>=(0:Int)) then
  ((Ec a0.2 a1.2)).bind fun x3 =>
  ((Bs a0.1 x3)).bind fun x4 =>
  some (x4.2,x4.1)
 else
 ((Ec a1.2 a0.2)).bind fun x5 =>
 ((Bs a1.1 x5)).bind fun x6 =>
 some (x6.2,x6.1)
def WV:Ent:=⟨WW,fun x=>Ka x.1 x.2⟩
theorem Ad5:Ai RR WV:=fnDq (l:=[PF,Ez,J2,PN]) ⟨⟨Zv,rfl⟩,⟨⟨Ef,rfl⟩,⟨⟨Li,rfl⟩,⟨⟨ZJ,rfl⟩,trivial⟩⟩⟩⟩ (by kernel_rfl) ⟨Tryz.func178,rfl,by kernel_rfl,rfl⟩ (fun _=>by kernel_rfl)
def Ic (a0:Tq5) (a1:Tq5):Option Tq6 :=
 ((D5 a0.2 a1.2)).bind fun x0 =>
 ((Bs (!(a0.1==a1.1)) x0.1)).bind fun x1 =>
 ((Bs a0.1 x0.2)).bind fun x2 =>
 some ((x1.2,x1.1),(x2.2,x2.1))
def V7:Ent:=⟨V8,fun x=>Ic x.1 x.2⟩
theorem Ag0:Ai RR V7:=fnDq (l:=[K0,Ez]) ⟨⟨Pl,rfl⟩,⟨⟨Ef,rfl⟩,trivial⟩⟩ (by kernel_rfl) ⟨Tryz.func135,rfl,by kernel_rfl,rfl⟩ (fun _=>by kernel_rfl)
def FA (a0:Tq5) (a1:Tq5):Option (Tq8) :=
 ((J8 a0.2 a1.2)).bind fun x0 =>
 ((Bs false x0)).bind fun x1 =>
 ((Ic (a0.1,a0.2) (x1.2,x1.1))).bind fun x2 =>
 ((Ic (a1.1,a1.2) (x1.2,x1.1))).bind fun x3 =>
 bif x3.1.1 then
  ((Hd (x2.1.1,x2.1.2))).bind fun x4 =>
  ((Hd (x3.1.1,x3.1.2))).bind fun x5 =>
  some (x4.1,(x4.2,(x5.1,x5.2)))
 else
 some (x2.1.1,(x2.1.2,(x3.1.1,x3.1.2)))
def LC:Ent:=⟨Ud,fun x=>FA x.1 x.2⟩
theorem LY:Ai RR LC:=fnDq (l:=[WJ,Ez,V7,RM]) ⟨⟨Aa2,rfl⟩,⟨⟨Ef,rfl⟩,⟨⟨Ag0,rfl⟩,⟨⟨T5,rfl⟩,trivial⟩⟩⟩⟩ (by kernel_rfl) ⟨Tryz.func71,rfl,by kernel_rfl,rfl⟩ (fun _=>by kernel_rfl)
def FW (a0:Tq1) (a1:Tq1):Option (Tq8) :=
 ((C4 (a0.1,a0.2.1) (a1.2.2.1,a1.2.2.2))).bind fun x0 =>
 ((C4 (a1.1,a1.2.1) (a0.2.2.1,a0.2.2.2))).bind fun x1 =>
 ((Ka (x0.1,x0.2) (x1.1,x1.2))).bind fun x2 =>
 ((C4 (a0.2.2.1,a0.2.2.2) (a1.2.2.1,a1.2.2.2))).bind fun x3 =>
 ((FA (x2.1,x2.2) (x3.1,x3.2))).bind fun x4 =>
 some (x4.1,(x4.2.1,(x4.2.2.1,x4.2.2.2)))
def J3:Ent:=⟨Xr,fun x=>FW x.1 x.2⟩
theorem LQ:Ai RR J3:=fnDq (l:=[Nl,WV,LC]) ⟨⟨Nv,rfl⟩,⟨⟨Ad5,rfl⟩,⟨⟨LY,rfl⟩,trivial⟩⟩⟩ (by kernel_rfl) ⟨Tryz.func121,rfl,by kernel_rfl,rfl⟩ (fun _=>by kernel_rfl)
def GX (a0:Tq1) (a1:Tq1):Option (Tq8) :=
 ((MK (a1.1,(a1.2.1,(a1.2.2.1,a1.2.2.2))))).bind fun x0 =>
 ((FW (a0.1,(a0.2.1,(a0.2.2.1,a0.2.2.2))) (x0.1,(x0.2.1,(x0.2.2.1,x0.2.2.2))))).bind fun x1 =>
 some (x1.1,(x1.2.1,(x1.2.2.1,x1.2.2.2)))
def R5:Ent:=⟨XC,fun x=>GX x.1 x.2⟩
theorem TD:Ai RR R5:=fnDq (l:=[AC2,J3]) ⟨⟨A2K,rfl⟩,⟨⟨LQ,rfl⟩,trivial⟩⟩ (by kernel_rfl) ⟨Tryz.func274,rfl,by kernel_rfl,rfl⟩ (fun _=>by kernel_rfl)
def Kc (a0:Tq1) (a1:Tq1):Option (Tq8) :=
 ((C4 (a0.1,a0.2.1) (a1.2.2.1,a1.2.2.2))).bind fun x0 =>
 ((C4 (a0.2.2.1,a0.2.2.2) (a1.1,a1.2.1))).bind fun x1 =>
 ((FA (x0.1,x0.2) (x1.1,x1.2))).bind fun x2 =>
 some (x2.1,(x2.2.1,(x2.2.2.1,x2.2.2.2)))
def WB:Ent:=⟨Xm,fun x=>Kc x.1 x.2⟩
theorem Aq0:Ai RR WB:=fnDq (l:=[Nl,LC]) ⟨⟨Nv,rfl⟩,⟨⟨LY,rfl⟩,trivial⟩⟩ (by kernel_rfl) ⟨Tryz.func275,rfl,by kernel_rfl,rfl⟩ (fun _=>by kernel_rfl)
def He (a0:Tq1) (a1:Tq1):Option (Tq8) :=
 ((C4 (a0.1,a0.2.1) (a1.1,a1.2.1))).bind fun x0 =>
 ((C4 (a0.2.2.1,a0.2.2.2) (a1.2.2.1,a1.2.2.2))).bind fun x1 =>
 ((FA (x0.1,x0.2) (x1.1,x1.2))).bind fun x2 =>
 some (x2.1,(x2.2.1,(x2.2.2.1,x2.2.2.2)))
def RV:Ent:=⟨Xx,fun x=>He x.1 x.2⟩
theorem S3:Ai RR RV:=fnDq (l:=[Nl,LC]) ⟨⟨Nv,rfl⟩,⟨⟨LY,rfl⟩,trivial⟩⟩ (by kernel_rfl) ⟨Tryz.func171,rfl,by kernel_rfl,rfl⟩ (fun _=>by kernel_rfl)
def Hh (a0:Tq1) (a1:Tq1) (a2:Tq1):Option (Tq8) :=
 ((GX (a1.1,(a1.2.1,(a1.2.2.1,a1.2.2.2))) (a0.1,(a0.2.1,(a0.2.2.1,a0.2.2.2))))).bind fun x0 =>
 ((He (a2.1,(a2.2.1,(a2.2.2.1,a2.2.2.2))) (x0.1,(x0.2.1,(x0.2.2.1,x0.2.2.2))))).bind fun x1 =>
 ((FW (a0.1,(a0.2.1,(a0.2.2.1,a0.2.2.2))) (x1.1,(x1.2.1,(x1.2.2.1,x1.2.2.2))))).bind fun x2 =>
 some (x2.1,(x2.2.1,(x2.2.2.1,x2.2.2.2)))
def YW:Ent:=⟨Qa,fun x=>Hh x.1 x.2.1 x.2.2⟩
theorem AN3:Ai RR YW:=fnDq (l:=[R5,RV,J3]) ⟨⟨TD,rfl⟩,⟨⟨S3,rfl⟩,⟨⟨LQ,rfl⟩,trivial⟩⟩⟩ (by kernel_rfl) ⟨Tryz.func318,rfl,by kernel_rfl,rfl⟩ (fun _=>by kernel_rfl)
def K5 (a0:Tq7) (a1:Tq7) (a2:Tq1):Option (Tq12) :=
 ((Hh (a0.1,(a0.2.1,(a0.2.2.1,a0.2.2.2.1))) (a1.1,(a1.2.1,(a1.2.2.1,a1.2.2.2.1))) (a2.1,(a2.2.1,(a2.2.2.1,a2.2.2.2))))).bind fun x0 =>
 ((Hh (a0.2.2.2.2.1,(a0.2.2.2.2.2.1,(a0.2.2.2.2.2.2.1,a0.2.2.2.2.2.2.2))) (a1.2.2.2.2.1,(a1.2.2.2.2.2.1,(a1.2.2.2.2.2.2.1,a1.2.2.2.2.2.2.2))) (a2.1,(a2.2.1,(a2.2.2.1,a2.2.2.2))))).bind fun x1 =>
 some (x0.1,(x0.2.1,(x0.2.2.1,(x0.2.2.2,(x1.1,(x1.2.1,(x1.2.2.1,x1.2.2.2)))))))
def Aq7:Ent:=⟨Ta,fun x=>K5 x.1 x.2.1 x.2.2⟩
theorem A2a:Ai RR Aq7:=fnDq (l:=[YW]) ⟨⟨AN3,rfl⟩,trivial⟩ (by kernel_rfl) ⟨Tryz.func317,rfl,by kernel_rfl,rfl⟩ (fun _=>by kernel_rfl)
def KK (a0:Tq7) (a1:Tq7) (a2:Bool) (a3:Tq1):Option (Tq12) :=
 ((FS (a0.1,(a0.2.1,(a0.2.2.1,(a0.2.2.2.1,(a0.2.2.2.2.1,(a0.2.2.2.2.2.1,(a0.2.2.2.2.2.2.1,a0.2.2.2.2.2.2.2))))))) a2)).bind fun x0 =>
 ((GX (a3.1,(a3.2.1,(a3.2.2.1,a3.2.2.2))) (x0.1,(x0.2.1,(x0.2.2.1,x0.2.2.2))))).bind fun x1 =>
 ((FS (a1.1,(a1.2.1,(a1.2.2.1,(a1.2.2.2.1,(a1.2.2.2.2.1,(a1.2.2.2.2.2.1,(a1.2.2.2.2.2.2.1,a1.2.2.2.2.2.2.2))))))) a2)).bind fun x2 =>
 ((GX (x2.1,(x2.2.1,(x2.2.2.1,x2.2.2.2))) (x0.1,(x0.2.1,(x0.2.2.1,x0.2.2.2))))).bind fun x3 =>
 ((Kc (x1.1,(x1.2.1,(x1.2.2.1,x1.2.2.2))) (x3.1,(x3.2.1,(x3.2.2.1,x3.2.2.2))))).bind fun x4 =>
 ((K5 (a0.1,(a0.2.1,(a0.2.2.1,(a0.2.2.2.1,(a0.2.2.2.2.1,(a0.2.2.2.2.2.1,(a0.2.2.2.2.2.2.1,a0.2.2.2.2.2.2.2))))))) (a1.1,(a1.2.1,(a1.2.2.1,(a1.2.2.2.1,(a1.2.2.2.2.1,(a1.2.2.2.2.2.1,(a1.2.2.2.2.2.2.1,a1.2.2.2.2.2.2.2))))))) (x4.1,(x4.2.1,(x4.2.2.1,x4.2.2.2))))).bind fun x5 =>
 bif a2 then
  some (x5.1,(x5.2.1,(x5.2.2.1,(x5.2.2.2.1,(a3.1,(a3.2.1,(a3.2.2.1,a3.2.2.2)))))))
 else
 some (a3.1,(a3.2.1,(a3.2.2.1,(a3.2.2.2,(x5.2.2.2.2.1,(x5.2.2.2.2.2.1,(x5.2.2.2.2.2.2.1,x5.2.2.2.2.2.2.2)))))))
def Ar3:Ent:=⟨Tk,fun x=>KK x.1 x.2.1 x.2.2.1 x.2.2.2⟩
theorem A15:Ai RR Ar3:=fnDq (l:=[Oj,R5,WB,Aq7]) ⟨⟨SJ,rfl⟩,⟨⟨TD,rfl⟩,⟨⟨Aq0,rfl⟩,⟨⟨A2a,rfl⟩,trivial⟩⟩⟩⟩ (by kernel_rfl) ⟨Tryz.func314,rfl,by kernel_rfl,rfl⟩ (fun _=>by kernel_rfl)
def C1 (s0:Tq1) (s1:Tq4) (s2:Tq4) (s3:Bool) (s4:Bool) (s5:Tq4) (s6:Int) (s7:Int):Option ((Tq1×(Tq4×(Tq4×(Bool×(Bool×Tq15))))) ⊕ Tq4) :=
 bif decide (s7<s6) then
  ((AP s5 s7)).bind fun x0 =>
  bif ((((List.length s2):Nat):Int)==(0:Int)) then
   none
  else
  ((AP s2 (Int.tmod (IntKind.wrap .i64 ((IntKind.wrap .i64 (s7 + (((List.length s2):Nat):Int)))-(1:Int))) (((List.length s2):Nat):Int)))).bind fun x1 =>
  ((Hg (x1.1.1.1,(x1.1.1.2,(x1.1.2.1,(x1.1.2.2,(x1.2.1.1,(x1.2.1.2,(x1.2.2.1,x1.2.2.2))))))) s3 (s0.1,(s0.2.1,(s0.2.2.1,s0.2.2.2))) s4)).bind fun x2 =>
  ((Hg (x0.1.1.1,(x0.1.1.2,(x0.1.2.1,(x0.1.2.2,(x0.2.1.1,(x0.2.1.2,(x0.2.2.1,x0.2.2.2))))))) s3 (s0.1,(s0.2.1,(s0.2.2.1,s0.2.2.2))) s4)).bind fun x3 =>
  bif (!(decide (x2<=(0:Int))==decide (x3<=(0:Int)))) then
   ((KK (x1.1.1.1,(x1.1.1.2,(x1.1.2.1,(x1.1.2.2,(x1.2.1.1,(x1.2.1.2,(x1.2.2.1,x1.2.2.2))))))) (x0.1.1.1,(x0.1.1.2,(x0.1.2.1,(x0.1.2.2,(x0.2.1.1,(x0.2.1.2,(x0.2.2.1,x0.2.2.2))))))) s3 (s0.1,(s0.2.1,(s0.2.2.1,s0.2.2.2))))).bind fun x4 =>
   ((Ct 128 8 s1 (List.cons (((x4.1,x4.2.1),(x4.2.2.1,x4.2.2.2.1)),((x4.2.2.2.2.1,x4.2.2.2.2.2.1),(x4.2.2.2.2.2.2.1,x4.2.2.2.2.2.2.2))) (List.nil:List (Tq0×Tq0))))).bind fun x5 =>
   bif decide (x3<=(0:Int)) then
    ((Ct 128 8 x5 (List.cons (((x0.1.1.1,x0.1.1.2),(x0.1.2.1,x0.1.2.2)),((x0.2.1.1,x0.2.1.2),(x0.2.2.1,x0.2.2.2))) (List.nil:List (Tq0×Tq0))))).bind fun x6 =>
    some (Sum.inl ((s0.1,(s0.2.1,(s0.2.2.1,s0.2.2.2))),(x6,(s2,(s3,(s4,(s5,(s6,(IntKind.wrap .i64 (s7 + (1:Int)))))))))))
   else
   some (Sum.inl ((s0.1,(s0.2.1,(s0.2.2.1,s0.2.2.2))),(x5,(s2,(s3,(s4,(s5,(s6,(IntKind.wrap .i64 (s7 + (1:Int)))))))))))
  else
  bif decide (x3<=(0:Int)) then
   ((Ct 128 8 s1 (List.cons (((x0.1.1.1,x0.1.1.2),(x0.1.2.1,x0.1.2.2)),((x0.2.1.1,x0.2.1.2),(x0.2.2.1,x0.2.2.2))) (List.nil:List (Tq0×Tq0))))).bind fun x7 =>
   some (Sum.inl ((s0.1,(s0.2.1,(s0.2.2.1,s0.2.2.2))),(x7,(s2,(s3,(s4,(s5,(s6,(IntKind.wrap .i64 (s7 + (1:Int)))))))))))
  else
  some (Sum.inl ((s0.1,(s0.2.1,(s0.2.2.1,s0.2.2.2))),(s1,(s2,(s3,(s4,(s5,(s6,(IntKind.wrap .i64 (s7 + (1:Int)))))))))))
 else
 some (Sum.inr s1)
def El (a0:Tq4) (a1:Bool) (a2:Tq1) (a3:Bool):Option (List ((Tq6×Tq6))) :=
 (Ah (fun (s:(Tq1×(Tq4×(Tq4×(Bool×(Bool×Tq15))))))=>C1 s.1 s.2.1 s.2.2.1 s.2.2.2.1 s.2.2.2.2.1 s.2.2.2.2.2.1 s.2.2.2.2.2.2.1 s.2.2.2.2.2.2.2) ((a2.1,(a2.2.1,(a2.2.2.1,a2.2.2.2))),((List.nil:List (Tq0×Tq0)),(a0,(a1,(a3,(a0,((((List.length a0):Nat):Int),(0:Int))))))))).bind fun x0 =>
 some x0
def YC:Ent:=⟨QQ,fun x=>El x.1 x.2.1 x.2.2.1 x.2.2.2⟩
theorem AU0:Ai RR YC:=fnDq (l:=[Yd,Ar3]) ⟨⟨AM1,rfl⟩,⟨⟨A15,rfl⟩,trivial⟩⟩ (by kernel_rfl) ⟨Tryz.func300,rfl,by kernel_rfl,rfl⟩ (fun _=>by kernel_rfl)
def Kq (a0:Tq4) (a1:Tq7) (a2:Tq7):Option (List ((Tq6×Tq6))) :=
 ((El a0 false (a1.1,(a1.2.1,(a1.2.2.1,a1.2.2.2.1))) true)).bind fun x0 =>
 ((El x0 false (a2.1,(a2.2.1,(a2.2.2.1,a2.2.2.2.1))) false)).bind fun x1 =>
 ((El x1 true (a1.2.2.2.2.1,(a1.2.2.2.2.2.1,(a1.2.2.2.2.2.2.1,a1.2.2.2.2.2.2.2))) true)).bind fun x2 =>
 ((El x2 true (a2.2.2.2.2.1,(a2.2.2.2.2.2.1,(a2.2.2.2.2.2.2.1,a2.2.2.2.2.2.2.2))) false)).bind fun x3 =>
 some x3
def An1:Ent:=⟨SX,fun x=>Kq x.1 x.2.1 x.2.2⟩
theorem A18:Ai RR An1:=fnDq (l:=[YC]) ⟨⟨AU0,rfl⟩,trivial⟩ (by kernel_rfl) ⟨Tryz.func273,rfl,by kernel_rfl,rfl⟩ (fun _=>by kernel_rfl)
def Et (a0:Tq1):Option (Tq8×Bool) :=
 bif decide ((((List.length a0.2.1):Nat):Int)>(40:Int)) then
  some ((false,((List.nil:List Int),(false,(List.nil:List Int)))),false)
 else
 bif decide ((((List.length a0.2.2.2):Nat):Int)>(40:Int)) then
  some ((false,((List.nil:List Int),(false,(List.nil:List Int)))),false)
 else
 ((Bs a0.1 a0.2.1)).bind fun x0 =>
 ((Bs false a0.2.2.2)).bind fun x1 =>
 some ((x0.2,(x0.1,(x1.2,x1.1))),true)
def N6:Ent:=⟨ST,fun x=>Et x⟩
theorem PE:Ai RR N6:=fnDq (l:=[Ez]) ⟨⟨Ef,rfl⟩,trivial⟩ (by kernel_rfl) ⟨Tryz.func70,rfl,by kernel_rfl,rfl⟩ (fun _=>by kernel_rfl)
def Jj (a0:Tq7):Option (Tq12×Bool) :=
 ((Et (a0.1,(a0.2.1,(a0.2.2.1,a0.2.2.2.1))))).bind fun x0 =>
 ((Et (a0.2.2.2.2.1,(a0.2.2.2.2.2.1,(a0.2.2.2.2.2.2.1,a0.2.2.2.2.2.2.2))))).bind fun x1 =>
 bif (!x0.2) then
  some ((false,((List.nil:List Int),(false,((List.nil:List Int),(false,((List.nil:List Int),(false,(List.nil:List Int)))))))),false)
 else
 bif (!x1.2) then
  some ((false,((List.nil:List Int),(false,((List.nil:List Int),(false,((List.nil:List Int),(false,(List.nil:List Int)))))))),false)
 else
 some ((x0.1.1,(x0.1.2.1,(x0.1.2.2.1,(x0.1.2.2.2,(x1.1.1,(x1.1.2.1,(x1.1.2.2.1,x1.1.2.2.2))))))),true)
def XN:Ent:=⟨P7,fun x=>Jj x⟩
theorem AN8:Ai RR XN:=fnDq (l:=[N6]) ⟨⟨PE,rfl⟩,trivial⟩ (by kernel_rfl) ⟨Tryz.func312,rfl,by kernel_rfl,rfl⟩ (fun _=>by kernel_rfl)
def Es (s0:Tq4) (s1:Tq4) (s2:Int) (s3:Int):Option ((Tq4×Tq15) ⊕ (Tq4 ⊕ (Tq4×Bool))) :=
 bif decide (s3<s2) then
  ((AP s1 s3)).bind fun x0 =>
  ((Jj (x0.1.1.1,(x0.1.1.2,(x0.1.2.1,(x0.1.2.2,(x0.2.1.1,(x0.2.1.2,(x0.2.2.1,x0.2.2.2))))))))).bind fun x1 =>
  bif (!x1.2) then
   some (Sum.inr (Sum.inr ((List.nil:List (Tq0×Tq0)),false)))
  else
  ((Ct 128 8 s0 (List.cons (((x1.1.1,x1.1.2.1),(x1.1.2.2.1,x1.1.2.2.2.1)),((x1.1.2.2.2.2.1,x1.1.2.2.2.2.2.1),(x1.1.2.2.2.2.2.2.1,x1.1.2.2.2.2.2.2.2))) (List.nil:List (Tq0×Tq0))))).bind fun x2 =>
  some (Sum.inl (x2,(s1,(s2,(IntKind.wrap .i64 (s3 + (1:Int)))))))
 else
 some (Sum.inr (Sum.inl s0))
def Kr (a0:Tq4):Option Tq27 :=
 (Ah (fun (s:(Tq4×Tq15))=>Es s.1 s.2.1 s.2.2.1 s.2.2.2) ((List.nil:List (Tq0×Tq0)),(a0,((((List.length a0):Nat):Int),(0:Int))))).bind fun x0 =>
 Sum.elim
  (fun x1 =>
  some (x1,true))
  (fun x2 =>
  some (x2.1,x2.2))
  x0
def Ah5:Ent:=⟨S7,fun x=>Kr x⟩
theorem A1k:Ai RR Ah5:=fnDq (l:=[XN]) ⟨⟨AN8,rfl⟩,trivial⟩ (by kernel_rfl) ⟨Tryz.func299,rfl,by kernel_rfl,rfl⟩ (fun _=>by kernel_rfl)
def Ja (a0:Tq4):Option Tq27 :=
 ((FU a0)).bind fun x0 =>
 bif (!x0) then
  some ((List.nil:List (Tq0×Tq0)),false)
 else
 ((Kr a0)).bind fun x1 =>
 some (x1.1,x1.2)
def YN:Ent:=⟨Qh,fun x=>Ja x⟩
theorem AU7:Ai RR YN:=fnDq (l:=[Nt,Ah5]) ⟨⟨Sn,rfl⟩,⟨⟨A1k,rfl⟩,trivial⟩⟩ (by kernel_rfl) ⟨Tryz.func272,rfl,by kernel_rfl,rfl⟩ (fun _=>by kernel_rfl)
def BX (a0:Tq4) (a1:Tq7) (a2:Tq7):Option Tq27 :=
 ((FU a0)).bind fun x0 =>
 bif (!x0) then
  some ((List.nil:List (Tq0×Tq0)),false)
 else
 ((Kb (a1.1,(a1.2.1,(a1.2.2.1,(a1.2.2.2.1,(a1.2.2.2.2.1,(a1.2.2.2.2.2.1,(a1.2.2.2.2.2.2.1,a1.2.2.2.2.2.2.2))))))))).bind fun x1 =>
 bif (!x1) then
  some ((List.nil:List (Tq0×Tq0)),false)
 else
 ((Kb (a2.1,(a2.2.1,(a2.2.2.1,(a2.2.2.2.1,(a2.2.2.2.2.1,(a2.2.2.2.2.2.1,(a2.2.2.2.2.2.2.1,a2.2.2.2.2.2.2.2))))))))).bind fun x2 =>
 bif (!x2) then
  some ((List.nil:List (Tq0×Tq0)),false)
 else
 ((GJ (a1.1,(a1.2.1,(a1.2.2.1,a1.2.2.2.1))) (a2.1,(a2.2.1,(a2.2.2.1,a2.2.2.2.1))))).bind fun x3 =>
 bif decide (x3>(0:Int)) then
  some ((List.nil:List (Tq0×Tq0)),false)
 else
 ((GJ (a1.2.2.2.2.1,(a1.2.2.2.2.2.1,(a1.2.2.2.2.2.2.1,a1.2.2.2.2.2.2.2))) (a2.2.2.2.2.1,(a2.2.2.2.2.2.1,(a2.2.2.2.2.2.2.1,a2.2.2.2.2.2.2.2))))).bind fun x4 =>
 bif decide (x4>(0:Int)) then
  some ((List.nil:List (Tq0×Tq0)),false)
 else
 ((Kq a0 (a1.1,(a1.2.1,(a1.2.2.1,(a1.2.2.2.1,(a1.2.2.2.2.1,(a1.2.2.2.2.2.1,(a1.2.2.2.2.2.2.1,a1.2.2.2.2.2.2.2))))))) (a2.1,(a2.2.1,(a2.2.2.1,(a2.2.2.2.1,(a2.2.2.2.2.1,(a2.2.2.2.2.2.1,(a2.2.2.2.2.2.2.1,a2.2.2.2.2.2.2.2))))))))).bind fun x5 =>
 ((Ja x5)).bind fun x6 =>
 some (x6.1,x6.2)
def Ys:Ent:=⟨Qs,fun x=>BX x.1 x.2.1 x.2.2⟩
theorem AR3:Ai RR Ys:=fnDq (l:=[Nt,Az6,RP,An1,YN]) ⟨⟨Sn,rfl⟩,⟨⟨A4k,rfl⟩,⟨⟨Td,rfl⟩,⟨⟨A18,rfl⟩,⟨⟨AU7,rfl⟩,trivial⟩⟩⟩⟩⟩ (by kernel_rfl) ⟨Tryz.func228,rfl,by kernel_rfl,rfl⟩ (fun _=>by kernel_rfl)
def BP (s0:Tq1) (s1:Tq1) (s2:Tq4) (s3:Tq4) (s4:Int) (s5:Int):Option ((Tq1×(Tq1×(Tq4×Tq15))) ⊕ (Tq1×Tq1)) :=
 bif decide (s5<s4) then
  ((AP s3 s5)).bind fun x0 =>
  bif ((((List.length s2):Nat):Int)==(0:Int)) then
   none
  else
  ((AP s2 (Int.tmod (IntKind.wrap .i64 (s5 + (1:Int))) (((List.length s2):Nat):Int)))).bind fun x1 =>
  ((He (x0.1.1.1,(x0.1.1.2,(x0.1.2.1,x0.1.2.2))) (x1.2.1.1,(x1.2.1.2,(x1.2.2.1,x1.2.2.2))))).bind fun x2 =>
  ((He (x1.1.1.1,(x1.1.1.2,(x1.1.2.1,x1.1.2.2))) (x0.2.1.1,(x0.2.1.2,(x0.2.2.1,x0.2.2.2))))).bind fun x3 =>
  ((GX (x2.1,(x2.2.1,(x2.2.2.1,x2.2.2.2))) (x3.1,(x3.2.1,(x3.2.2.1,x3.2.2.2))))).bind fun x4 =>
  ((FW (s1.1,(s1.2.1,(s1.2.2.1,s1.2.2.2))) (x4.1,(x4.2.1,(x4.2.2.1,x4.2.2.2))))).bind fun x5 =>
  some (Sum.inl ((s0.1,(s0.2.1,(s0.2.2.1,s0.2.2.2))),((x5.1,(x5.2.1,(x5.2.2.1,x5.2.2.2))),(s2,(s3,(s4,(IntKind.wrap .i64 (s5 + (1:Int)))))))))
 else
 some (Sum.inr ((s0.1,(s0.2.1,(s0.2.2.1,s0.2.2.2))),(s1.1,(s1.2.1,(s1.2.2.1,s1.2.2.2)))))
def Hf (a0:Tq4):Option (Tq8) :=
 ((CA (0:Int))).bind fun x0 =>
 (Ah (fun (s:(Tq1×(Tq1×(Tq4×Tq15))))=>BP s.1 s.2.1 s.2.2.1 s.2.2.2.1 s.2.2.2.2.1 s.2.2.2.2.2) ((false,((List.nil:List Int),(false,(List.nil:List Int)))),((x0.1,(x0.2.1,(x0.2.2.1,x0.2.2.2))),(a0,(a0,((((List.length a0):Nat):Int),(0:Int))))))).bind fun x1 =>
 ((CA (2:Int))).bind fun x2 =>
 ((Kc (x1.2.1,(x1.2.2.1,(x1.2.2.2.1,x1.2.2.2.2))) (x2.1,(x2.2.1,(x2.2.2.1,x2.2.2.2))))).bind fun x3 =>
 some (x3.1,(x3.2.1,(x3.2.2.1,x3.2.2.2)))
def YE:Ent:=⟨QN,fun x=>Hf x⟩
theorem AT3:Ai RR YE:=fnDq (l:=[M8,RV,R5,J3,WB]) ⟨⟨Oq,rfl⟩,⟨⟨S3,rfl⟩,⟨⟨TD,rfl⟩,⟨⟨LQ,rfl⟩,⟨⟨Aq0,rfl⟩,trivial⟩⟩⟩⟩⟩ (by kernel_rfl) ⟨Tryz.func229,rfl,by kernel_rfl,rfl⟩ (fun _=>by kernel_rfl)
def Ew (a0:Tq4) (a1:Int) (a2:Int):Option (Tq8×Bool) :=
 ((Ih (a1,a2))).bind fun x0 =>
 ((Ih ((IntKind.wrap .i64 (a1 + (1:Int))),(IntKind.wrap .i64 (a2 + (1:Int)))))).bind fun x1 =>
 ((BX a0 (x0.1,(x0.2.1,(x0.2.2.1,(x0.2.2.2.1,(x0.2.2.2.2.1,(x0.2.2.2.2.2.1,(x0.2.2.2.2.2.2.1,x0.2.2.2.2.2.2.2))))))) (x1.1,(x1.2.1,(x1.2.2.1,(x1.2.2.2.1,(x1.2.2.2.2.1,(x1.2.2.2.2.2.1,(x1.2.2.2.2.2.2.1,x1.2.2.2.2.2.2.2))))))))).bind fun x2 =>
 bif (!x2.2) then
  some ((false,((List.nil:List Int),(false,(List.nil:List Int)))),false)
 else
 ((Hf x2.1)).bind fun x3 =>
 ((Et (x3.1,(x3.2.1,(x3.2.2.1,x3.2.2.2))))).bind fun x4 =>
 some ((x4.1.1,(x4.1.2.1,(x4.1.2.2.1,x4.1.2.2.2))),x4.2)
def VS:Ent:=⟨NL,fun x=>Ew x.1 x.2.1 x.2.2⟩
theorem Aw1:Ai RR VS:=fnDq (l:=[XG,Ys,YE,N6]) ⟨⟨Ag5,rfl⟩,⟨⟨AR3,rfl⟩,⟨⟨AT3,rfl⟩,⟨⟨PE,rfl⟩,trivial⟩⟩⟩⟩ (by kernel_rfl) ⟨Tryz.func177,rfl,by kernel_rfl,rfl⟩ (fun _=>by kernel_rfl)
def Cd (s0:Tq2) (s1:(List Tq0)) (s2:Tq4) (s3:Int) (s4:Int):Option ((Tq2×((List Tq0)×Tq15)) ⊕ (Tq25 ⊕ Tq30)) :=
 bif decide (s4<(IntKind.wrap .i64 (s0.1 + s0.2.2.1))) then
  ((Ew s2 s4 s3)).bind fun x0 =>
  bif (!x0.2) then
   some (Sum.inr (Sum.inr ((List.nil:List Tq0),false)))
  else
  ((Ct 64 4 s1 (List.cons ((x0.1.1,x0.1.2.1),(x0.1.2.2.1,x0.1.2.2.2)) (List.nil:List Tq0)))).bind fun x1 =>
  some (Sum.inl ((s0.1,(s0.2.1,(s0.2.2.1,s0.2.2.2))),(x1,(s2,(s3,(IntKind.wrap .i64 (s4 + (1:Int))))))))
 else
 some (Sum.inr (Sum.inl ((s0.1,(s0.2.1,(s0.2.2.1,s0.2.2.2))),(s1,(s2,s3)))))
def BO (s0:Tq2) (s1:(List Tq0)) (s2:Tq4) (s3:Int):Option (Tq25 ⊕ ((List Tq0) ⊕ Tq30)) :=
 bif decide (s3<(IntKind.wrap .i64 (s0.2.1 + s0.2.2.2))) then
  (Ah (fun (s:(Tq2×((List Tq0)×Tq15)))=>Cd s.1 s.2.1 s.2.2.1 s.2.2.2.1 s.2.2.2.2) ((s0.1,(s0.2.1,(s0.2.2.1,s0.2.2.2))),(s1,(s2,(s3,s0.1))))).bind fun x0 =>
  Sum.elim
   (fun x1 =>
   some (Sum.inl ((x1.1.1,(x1.1.2.1,(x1.1.2.2.1,x1.1.2.2.2))),(x1.2.1,(x1.2.2.1,(IntKind.wrap .i64 (x1.2.2.2 + (1:Int))))))))
   (fun x2 =>
   some (Sum.inr (Sum.inr (x2.1,x2.2))))
   x0
 else
 some (Sum.inr (Sum.inl s1))
def CP (a0:Tq4) (a1:Tq2):Option (List (Tq6)×Bool) :=
 ((C8 (a1.1,(a1.2.1,(a1.2.2.1,a1.2.2.2))))).bind fun x0 =>
 bif (!x0) then
  some ((List.nil:List Tq0),false)
 else
 (Ah (fun (s:Tq25)=>BO s.1 s.2.1 s.2.2.1 s.2.2.2) ((a1.1,(a1.2.1,(a1.2.2.1,a1.2.2.2))),((List.nil:List Tq0),(a0,a1.2.1)))).bind fun x1 =>
 Sum.elim
  (fun x2 =>
  some (x2,true))
  (fun x3 =>
  some (x3.1,x3.2))
  x1
def UG:Ent:=⟨NC,fun x=>CP x.1 x.2⟩
theorem Ax7:Ai RR UG:=fnDq (l:=[LO,VS]) ⟨⟨Pf,rfl⟩,⟨⟨Aw1,rfl⟩,trivial⟩⟩ (by kernel_rfl) ⟨Tryz.func120,rfl,by kernel_rfl,rfl⟩ (fun _=>by kernel_rfl)
def Cl (s0:Tq2) (s1:(List Tq3)) (s2:(List Tq0)) (s3:Int):Option ((Tq2×((List Tq3)×((List Tq0)×Int))) ⊕ (Tq2×((List Tq3)×(List Tq0)))) :=
 bif decide (s3>(0:Int)) then
  ((CA (0:Int))).bind fun x0 =>
  ((Ct 64 4 s2 (List.cons ((x0.1,x0.2.1),(x0.2.2.1,x0.2.2.2)) (List.nil:List Tq0)))).bind fun x1 =>
  some (Sum.inl ((s0.1,(s0.2.1,(s0.2.2.1,s0.2.2.2))),(s1,(x1,(IntKind.wrap .i64 (s3-(1:Int)))))))
 else
 some (Sum.inr ((s0.1,(s0.2.1,(s0.2.2.1,s0.2.2.2))),(s1,s2)))
def BS (s0:Tq2) (s1:(List Tq0)) (s2:(List Tq3)) (s3:Int) (s4:Int) (s5:(List Tq0)) (s6:Int) (s7:Int):Option (Tq17 ⊕ (Tq13 ⊕ Tq30)) :=
 bif decide (s7<s6) then
  ((AP s5 s7)).bind fun x0 =>
  ((A2 s7 (List.length s1))).bind fun x1 =>
  ((AV s1 x1)).bind fun x2 =>
  ((FW (x2.1.1,(x2.1.2,(x2.2.1,x2.2.2))) (x0.1.1,(x0.1.2,(x0.2.1,x0.2.2))))).bind fun x3 =>
  ((Et (x3.1,(x3.2.1,(x3.2.2.1,x3.2.2.2))))).bind fun x4 =>
  bif (!x4.2) then
   some (Sum.inr (Sum.inr ((List.nil:List Tq0),false)))
  else
  ((A2 s7 (List.length s1))).bind fun x5 =>
  ((AV s1 x5)).bind fun x6 =>
  some (Sum.inl ((s0.1,(s0.2.1,(s0.2.2.1,s0.2.2.2))),((List.set s1 x5 ((x4.1.1,x4.1.2.1),(x4.1.2.2.1,x4.1.2.2.2))),(s2,(s3,(s4,(s5,(s6,(IntKind.wrap .i64 (s7 + (1:Int)))))))))))
 else
 some (Sum.inr (Sum.inl ((s0.1,(s0.2.1,(s0.2.2.1,s0.2.2.2))),(s1,(s2,(s3,s4))))))
def Br (s0:Tq2) (s1:(List Tq0)) (s2:(List Tq3)) (s3:Int) (s4:Int):Option (Tq13 ⊕ ((List Tq0) ⊕ Tq30)) :=
 bif decide (s4<s3) then
  ((A2 s4 (List.length s2))).bind fun x0 =>
  ((AV s2 x0)).bind fun x1 =>
  ((KP x1)).bind fun x2 =>
  ((CP x2.1 (s0.1,(s0.2.1,(s0.2.2.1,s0.2.2.2))))).bind fun x3 =>
  bif (!x3.2) then
   some (Sum.inr (Sum.inr ((List.nil:List Tq0),false)))
  else
  (Ah (fun (s:Tq17)=>BS s.1 s.2.1 s.2.2.1 s.2.2.2.1 s.2.2.2.2.1 s.2.2.2.2.2.1 s.2.2.2.2.2.2.1 s.2.2.2.2.2.2.2) ((s0.1,(s0.2.1,(s0.2.2.1,s0.2.2.2))),(s1,(s2,(s3,(s4,(x3.1,((((List.length x3.1):Nat):Int),(0:Int))))))))).bind fun x4 =>
  Sum.elim
   (fun x5 =>
   some (Sum.inl ((x5.1.1,(x5.1.2.1,(x5.1.2.2.1,x5.1.2.2.2))),(x5.2.1,(x5.2.2.1,(x5.2.2.2.1,(IntKind.wrap .i64 (x5.2.2.2.2 + (1:Int)))))))))
   (fun x6 =>
   some (Sum.inr (Sum.inr (x6.1,x6.2))))
   x4
 else
 some (Sum.inr (Sum.inl s1))
def ER (a0:(List UInt8)) (a1:Tq2):Option (List (Tq6)×Bool) :=
 ((F9 a0)).bind fun x0 =>
 bif (!x0.2.2.2) then
  some ((List.nil:List Tq0),false)
 else
 ((C8 (a1.1,(a1.2.1,(a1.2.2.1,a1.2.2.2))))).bind fun x1 =>
 bif (!x1) then
  some ((List.nil:List Tq0),false)
 else
 (Ah (fun (s:(Tq2×((List Tq3)×((List Tq0)×Int))))=>Cl s.1 s.2.1 s.2.2.1 s.2.2.2) ((a1.1,(a1.2.1,(a1.2.2.1,a1.2.2.2))),(x0.1,((List.nil:List Tq0),(IntKind.wrap .i64 (a1.2.2.1*a1.2.2.2)))))).bind fun x2 =>
 (Ah (fun (s:Tq13)=>Br s.1 s.2.1 s.2.2.1 s.2.2.2.1 s.2.2.2.2) ((x2.1.1,(x2.1.2.1,(x2.1.2.2.1,x2.1.2.2.2))),(x2.2.2,(x2.2.1,((((List.length x2.2.1):Nat):Int),(0:Int)))))).bind fun x3 =>
 Sum.elim
  (fun x4 =>
  some (x4,true))
  (fun x5 =>
  some (x5.1,x5.2))
  x3
def SE:Ent:=⟨Mz,fun x=>ER x.1 x.2⟩
theorem An6:Ai RR SE:=fnDq (l:=[SH,LO,M8,Ac2,UG,J3,N6]) ⟨⟨Aj8,rfl⟩,⟨⟨Pf,rfl⟩,⟨⟨Oq,rfl⟩,⟨⟨A1g,rfl⟩,⟨⟨Ax7,rfl⟩,⟨⟨LQ,rfl⟩,⟨⟨PE,rfl⟩,trivial⟩⟩⟩⟩⟩⟩⟩ (by kernel_rfl) ⟨Tryz.func51,rfl,by kernel_rfl,rfl⟩ (fun _=>by kernel_rfl)
def MJ (a0:Tq1):Option (Tq8) :=
 ((Bs false a0.2.1)).bind fun x0 =>
 some (x0.2,(x0.1,(a0.2.2.1,a0.2.2.2)))
def Az3:Ent:=⟨Wi,fun x=>MJ x⟩
theorem A34:Ai RR Az3:=fnDq (l:=[Ez]) ⟨⟨Ef,rfl⟩,trivial⟩ (by kernel_rfl) ⟨Tryz.func167,rfl,by kernel_rfl,rfl⟩ (fun _=>by kernel_rfl)
def MQ (a0:Tq5) (a1:Tq5):Option Tq18 :=
 ((Hd (a1.1,a1.2))).bind fun x0 =>
 ((Ka (a0.1,a0.2) (x0.1,x0.2))).bind fun x1 =>
 some (x1.1,x1.2)
def AA7:Ent:=⟨Xd,fun x=>MQ x.1 x.2⟩
theorem A3B:Ai RR AA7:=fnDq (l:=[RM,WV]) ⟨⟨T5,rfl⟩,⟨⟨Ad5,rfl⟩,trivial⟩⟩ (by kernel_rfl) ⟨Tryz.func218,rfl,by kernel_rfl,rfl⟩ (fun _=>by kernel_rfl)
def IX (a0:Tq1):Option Tq18 :=
 ((Ic (a0.1,a0.2.1) (a0.2.2.1,a0.2.2.2))).bind fun x0 =>
 bif x0.2.1 then
  ((DY (1:Int))).bind fun x1 =>
  ((MQ (x0.1.1,x0.1.2) (x1.1,x1.2))).bind fun x2 =>
  some (x2.1,x2.2)
 else
 some (x0.1.1,x0.1.2)
def X8:Ent:=⟨PU,fun x=>IX x⟩
theorem AL0:Ai RR X8:=fnDq (l:=[V7,MX,AA7]) ⟨⟨Ag0,rfl⟩,⟨⟨Om,rfl⟩,⟨⟨A3B,rfl⟩,trivial⟩⟩⟩ (by kernel_rfl) ⟨Tryz.func170,rfl,by kernel_rfl,rfl⟩ (fun _=>by kernel_rfl)
def LZ (s0:Tq5) (s1:Int) (s2:Int):Option ((Tq5×(Int×Int)) ⊕ (Tq5×Int)) :=
 bif decide (s2>=(0:Int)) then
  ((AP s0.2 s2)).bind fun x0 =>
  some (Sum.inl ((s0.1,s0.2),((IntKind.wrap .i64 ((IntKind.wrap .i64 (s1*(65536:Int))) + x0)),(IntKind.wrap .i64 (s2-(1:Int))))))
 else
 some (Sum.inr ((s0.1,s0.2),s1))
def J6 (a0:Tq5):Option (Int×Bool) :=
 ((Ff (a0.1,a0.2))).bind fun x0 =>
 bif (!x0) then
  some ((0:Int),false)
 else
 bif decide ((((List.length a0.2):Nat):Int)>(4:Int)) then
  some ((0:Int),false)
 else
 ((DY (4611686018427387904:Int))).bind fun x1 =>
 ((Ci a0.2 x1.2)).bind fun x2 =>
 bif decide (x2>(0:Int)) then
  some ((0:Int),false)
 else
 (Ah (fun (s:(Tq5×(Int×Int)))=>LZ s.1 s.2.1 s.2.2) ((a0.1,a0.2),((0:Int),(IntKind.wrap .i64 ((((List.length a0.2):Nat):Int)-(1:Int)))))).bind fun x3 =>
 bif x3.1.1 then
  some ((IntKind.wrap .i64 ((0:Int)-x3.2)),true)
 else
 some (x3.2,true)
def AA0:Ent:=⟨Xt,fun x=>J6 x⟩
theorem A3h:Ai RR AA0:=fnDq (l:=[Qk,MX,J2]) ⟨⟨UW,rfl⟩,⟨⟨Om,rfl⟩,⟨⟨Li,rfl⟩,trivial⟩⟩⟩ (by kernel_rfl) ⟨Tryz.func169,rfl,by kernel_rfl,rfl⟩ (fun _=>by kernel_rfl)
def I5 (a0:Tq1):Option (Int) :=
 ((MJ (a0.1,(a0.2.1,(a0.2.2.1,a0.2.2.2))))).bind fun x0 =>
 ((CA (1:Int))).bind fun x1 =>
 ((GJ (x0.1,(x0.2.1,(x0.2.2.1,x0.2.2.2))) (x1.1,(x1.2.1,(x1.2.2.1,x1.2.2.2))))).bind fun x2 =>
 bif decide (x2>(0:Int)) then
  some (255:Int)
 else
 ((DY (1:Int))).bind fun x3 =>
 ((DY (2:Int))).bind fun x4 =>
 ((FA (x3.1,x3.2) (x4.1,x4.2))).bind fun x5 =>
 ((CA (255:Int))).bind fun x6 =>
 ((He (x0.1,(x0.2.1,(x0.2.2.1,x0.2.2.2))) (x6.1,(x6.2.1,(x6.2.2.1,x6.2.2.2))))).bind fun x7 =>
 ((FW (x7.1,(x7.2.1,(x7.2.2.1,x7.2.2.2))) (x5.1,(x5.2.1,(x5.2.2.1,x5.2.2.2))))).bind fun x8 =>
 ((IX (x8.1,(x8.2.1,(x8.2.2.1,x8.2.2.2))))).bind fun x9 =>
 ((J6 (x9.1,x9.2))).bind fun x10 =>
 some x10.1
def Yj:Ent:=⟨P8,fun x=>I5 x⟩
theorem AO4:Ai RR Yj:=fnDq (l:=[Az3,M8,RP,MX,LC,RV,J3,X8,AA0]) ⟨⟨A34,rfl⟩,⟨⟨Oq,rfl⟩,⟨⟨Td,rfl⟩,⟨⟨Om,rfl⟩,⟨⟨LY,rfl⟩,⟨⟨S3,rfl⟩,⟨⟨LQ,rfl⟩,⟨⟨AL0,rfl⟩,⟨⟨A3h,rfl⟩,trivial⟩⟩⟩⟩⟩⟩⟩⟩⟩ (by kernel_rfl) ⟨Tryz.func108,rfl,by kernel_rfl,rfl⟩ (fun _=>by kernel_rfl)
def B2 (s0:(List Int)) (s1:(List Tq0)) (s2:Int) (s3:Int):Option (Tq29 ⊕ (List Int)) :=
 bif decide (s3<s2) then
  ((AP s1 s3)).bind fun x0 =>
  ((I5 (x0.1.1,(x0.1.2,(x0.2.1,x0.2.2))))).bind fun x1 =>
  ((Ct 8 1 s0 (List.cons x1 (List.nil:List Int)))).bind fun x2 =>
  some (Sum.inl (x2,(s1,(s2,(IntKind.wrap .i64 (s3 + (1:Int)))))))
 else
 some (Sum.inr s0)
def D7 (a0:(List UInt8)) (a1:Tq2):Option (List (Int)×Bool) :=
 ((ER a0 (a1.1,(a1.2.1,(a1.2.2.1,a1.2.2.2))))).bind fun x0 =>
 bif (!x0.2) then
  some ((List.nil:List Int),false)
 else
 (Ah (fun (s:Tq29)=>B2 s.1 s.2.1 s.2.2.1 s.2.2.2) ((List.nil:List Int),(x0.1,((((List.length x0.1):Nat):Int),(0:Int))))).bind fun x1 =>
 some (x1,true)
end
end Go.Proofs.YtiijheppiboglaaGreatDoor.Ev
