/- What the theorem of this claim leans on, part 2. -/
import Derived.Test.YtnohbihcoikkbaaGreatKA
import Derived.Orders
import Derived.LoopN
import Derived.ProofKit
import Derived.OpenShut
import Derived.ShutString
import Derived.ChangeOld
import Derived.SizedLaws
import Derived.Below
import Derived.Carry
set_option maxHeartbeats 2000000
open Option renaming bind_some → za0, map_eq_some_iff → zb4, map_some → zd1
open List renaming getElem?_eq_getElem → za1, getElem?_eq_some_iff → za3, getD_eq_getElem?_getD → za4, mem_of_getElem? → za5, all_eq_true → za6, mem_flatMap → zb0, flatMap_cons → zb2, eq_nil_of_length_eq_zero → zb3, mem_append → zb5, getElem?_take → zb6, drop_eq_getElem_cons → zb9, take_of_length_le → zc0, all_cons → zc1, map_cons → zc2, length_cons → zc6, length_take → zc7, getElem?_replicate → zc8, mem_cons → zc9, getElem?_drop → zd2, getElem?_map → zd5, getElem?_append_left → zd6, mem_map → ze0, getElem?_append → ze2, getElem?_of_mem → ze3, length_append → ze5, drop_zero → ze7, take_length → zf1
open Bool renaming and_eq_true → za2, false_eq_true → zb8, true_and → ze4, not_eq_true' → zf0
open Nat renaming eq_of_beq_eq_true → za7, le_refl → za8, le_trans → zd0, lt_or_ge → zd3, mul_le_mul_right → zd4, lt_of_lt_of_le → zd8, zero_add → ze6, add_mul → zf2, zero_le → zf5
open Int renaming mul_le_mul_of_nonneg_right → za9, mul_le_mul_of_nonneg_left → zb1, tdiv_eq_ediv_of_nonneg → zc3, toNat_natCast → zc4, tmod_eq_emod_of_nonneg → zc5, mul_add → zd7, le_of_lt → ze1, mul_nonneg → ze8, natAbs_natCast → ze9, mul_comm → zf3, mul_assoc → zf4
open Array renaming getD_eq_getD_getElem? → zb7
open Sum renaming elim_inr → zd9
open Go.IntKind renaming wrap → zj, i64 → zk, u64 → zx
open Option.some renaming inj → zy, injEq → zb
open Sum renaming inl → zc, inr → zd
noncomputable section
set_option linter.unusedVariables false
set_option linter.unusedSimpArgs false
set_option linter.unusedSectionVars false
namespace Go.Proofs.YtnohbihcoikkbaaGreat.Ev
section
open Go
variable {P:Program} {w w' w0:World} {E E':Env} {hp hp':Hp} {G G' U A W F S:Nat->Prop} {B:Nat->Prop} {ρ:Operand->V} {ρr:Operand->Value}
theorem Xi:∀(l:List Blk)(hp:Hp)(b id:Nat)(k:Blk),inst hp b l id=some k->(∃i,l[i]? =some k/\id=b+i)\/(hp id=some k/\¬(b<=id/\id<b+l.length))
 |[],hp,b,id,k,h=>.inr ⟨h,by simp⟩
 |x::l,hp,b,id,k,h=>by
  simp only[inst]at h;rcases Xi l _ (b+1) id k h with⟨i,h1,h2⟩|⟨h1,h2⟩
  ·exact .inl ⟨i+1,by simpa using h1,by omega⟩
  ·by_cases hid:id=b
   ·subst hid;simp only[upd,if_true,zb]at h1;exact .inl ⟨0,by simp[h1],by omega⟩
   ·simp only[upd,zi hid]at h1;refine .inr ⟨h1,?_⟩
    simp only[zc6];omega
theorem U9:∀(ids:List Nat)(ks:List Blk)(hp:Hp)(id:Nat)(k:Blk),setAt hp ids ks id=some k->(∃i:Nat,ids[i]? =some id/\ks[i]? =some k)\/hp id=some k
 |[],ks,hp,id,k,h=>.inr (by cases ks<;>exact h)
 |i::ids,[],hp,id,k,h=>.inr h
 |i::ids,x::ks,hp,id,k,h=>by
  simp only[setAt]at h;rcases U9 ids ks _ id k h with⟨q,h1,h2⟩|h1
  ·exact .inl ⟨q+1,by simpa using h1,by simpa using h2⟩
  ·by_cases hid:id=i
   ·subst hid;simp only[upd,if_true,zb]at h1;exact .inl ⟨0,by simp,by simp[h1]⟩
   ·simp only[upd,zi hid]at h1;exact .inr h1
theorem RM{hp1:Hp}{order:List Nat}{e b:Nat}{blks:List Blk}(he:e<=blks.length)(heo:e<=order.length){id:Nat}{k:Blk}(h:BV hp1 order e b blks id=some k):
  (∃j kj,BA order e blks.length b j=some id/\blks[j]? =some kj/\k=Ee (BA order e blks.length b) kj)\/(hp1 id=some k/\id ∉ order/\¬(b<=id/\id<b+(blks.length-e))):=by
 unfold BV at h;rcases Xi _ _ _ _ _ h with⟨i,h1,h2⟩|⟨h1,h2⟩
 ·left
  rw[zd2,zd5,zb4]at h1;obtain⟨kj,h3,h4⟩:=h1;have hlt:=(za3.1 h3).1;refine⟨e+i,kj,?_,h3,h4.symm⟩
  unfold BA;rw[zi (by omega),zw hlt,h2]
  congr 2
  omega
 ·simp only[List.length_drop,List.length_map]at h2;rcases U9 _ _ _ _ _ h1 with⟨i,h3,h4⟩|h3
  ·left
   rw[zb6]at h3 h4
   split at h3
   ·rename_i hi;rw[zw hi,zd5,zb4]at h4;obtain⟨kj,h5,h6⟩:=h4;refine⟨i,kj,?_,h5,h6.symm⟩
    unfold BA;rw[zw hi];exact h3
   ·cases h3
  ·right
   obtain⟨h5,h6⟩:=JE order hp1 id k h3;exact⟨h5,h6,h2⟩
theorem WO{order:List Nat}{e n b:Nat}(hn:order.Nodup)(hnew:∀id∈order,¬(b<=id/\id<b+16))(hle:n-e<=16){j j' id:Nat}(h:BA order e n b j=some id)(h':BA order e n b j'=some id):j=j':=by
 unfold BA at h h'
 split at h
 ·split at h'
  ·exact(List.getElem_inj (h₀:=(za3.1 h).1) (h₁:=(za3.1 h').1) hn).1 ((za3.1 h).2.trans (za3.1 h').2.symm)
  ·split at h'
   ·cases h'
    exact absurd ⟨by omega,by omega⟩ (hnew _ (za5 h))
   ·cases h'
 ·split at h
  ·cases h
   split at h'
   ·exact absurd ⟨by omega,by omega⟩ (hnew _ (za5 h'))
   ·split at h'
    ·have:=zy h';omega
    ·cases h'
  ·cases h
def Ki(order:List Nat)(e n b id:Nat):Option Nat:=(List.range n).find? fun j=>BA order e n b j==some id
theorem Al2{order:List Nat}{e n b:Nat}(hn:order.Nodup)(hnew:∀id∈order,¬(b<=id/\id<b+16))(hle:n-e<=16){j id:Nat}(hj:j<n)(h:BA order e n b j=some id):Ki order e n b id=some j:=by
 unfold Ki;cases hf:(List.range n).find? fun j=>BA order e n b j==some id with
 |none=>
  have:=List.find?_eq_none.1 hf j (by simpa using hj);simp[h]at this
 |some j'=>
  have h1:=List.find?_some hf;have h2:BA order e n b j'=some id:=by simpa using h1
  rw[WO hn hnew hle h2 h]
theorem X3{order:List Nat}{e n b id:Nat}(h1:id ∉ order)(h2:¬(b<=id/\id<b+(n-e))):Ki order e n b id=none:=by
 unfold Ki;refine List.find?_eq_none.2 fun j hj=> ?_
 simp only[List.mem_range]at hj;simp only[beq_iff_eq];intro h;unfold BA at h;by_cases hje:j<e
 ·rw[zw hje]at h;exact h1 (za5 h)
 ·rw[zi hje,zw hj]at h;have:=zy h;exact h2 ⟨by omega,by omega⟩
def Bf(E E':Env)(order:List Nat)(e n b:Nat):Env:=
 ⟨fun id=>match Ki order e n b id with|some j=>E'.m j|none=>E.m id,fun id=>match Ki order e n b id with|some j=>E'.N j|none=>E.N id⟩
def AN9(n:Nat)(blks blks':List Blk)(E E':Env):Prop:=∀j,j<n->∀k',blks'[j]? =some k'->∃k,blks[j]? =some k/\(k.kind≠ .box->k'.kind≠ .box/\k.rows.length<=k'.rows.length)/\∀b,E.m j=some b->k'.size=k.size/\E'.m j=some b
theorem RN{hp1:Hp}{G1 G3 Ac:Nat->Prop}{order:List Nat}{e b:Nat}{blks':List Blk}{r:V}{y:Value}{noim:Bool}
  (hI:HpInv w0 U A E G1 hp1 w) (hw:Dz B hp1) (hnew:∀j,j<16->¬B (b+j)) (hn:order.Nodup) (hs:∀id∈order,∃k,hp1 id=some k) (heo:e<=order.length) (heb:e<=blks'.length) (hlen:blks'.length-e<=16)
  (hC:HpInv w (Own (CQ E order) (lkB (AF hp1 order))) Ac E' G' (lkB blks') w') (hkept:AN9 e (AF hp1 order) blks' (CQ E order) E')
  (hv:VR2 w' E' (lkB blks') G' r y) (hnoim:noim=true->Jc r=true/\blks'.all Dq=true)
  (hG:∀b,G1 b->G3 b) (hG3:∀b,G3 b->G1 b\/(G' b/\(Ac b->G1 b)/\noim=false)) (hG':noim=false->∀b,G' b->G3 b):
  HpInv w0 U A (Bf E E' order e blks'.length b) G3 (BV hp1 order e b blks') w'/\
   VR2 w' (Bf E E' order e blks'.length b) (BV hp1 order e b blks') G3 (EQ (BA order e blks'.length b) r) y/\
   Ext B E G1 hp1 w (Bf E E' order e blks'.length b) G3 (BV hp1 order e b blks') w':=by
 have hordB:∀id∈order,¬(b<=id/\id<b+16):=by
  intro id hid hh;obtain⟨k,hk⟩:=hs id hid;have h1:=(hw id k hk).1;have:=hnew (id-b) (by omega);rw[show b+(id-b)=id by omega]at this;exact this h1
 have hBn:∀id,B id->¬(b<=id/\id<b+16):=by
  intro id hid hh;have:=hnew (id-b) (by omega);rw[show b+(id-b)=id by omega]at this;exact this hid
 have hub:∀{j id},j<blks'.length->BA order e blks'.length b j=some id->Ki order e blks'.length b id=some j:=fun hj h=>Al2 hn hordB hlen hj h
 have hget:∀{id k},BV hp1 order e b blks' id=some k->(∃j kj,j<blks'.length/\BA order e blks'.length b j=some id/\Ki order e blks'.length b id=some j/\blks'[j]? =some kj/\k=Ee (BA order e blks'.length b) kj)\/
   (hp1 id=some k/\id ∉ order/\Ki order e blks'.length b id=none):=by
  intro id k h;rcases RM heb heo h with⟨j,kj,h1,h2,h3⟩|⟨h1,h2,h3⟩
  ·have hj:=(za3.1 h2).1;exact .inl ⟨j,kj,hj,h1,hub hj h1,h2,h3⟩
  ·exact .inr ⟨h1,h2,X3 h2 h3⟩
 have hUc:∀x,Own (CQ E order) (lkB (AF hp1 order)) x->Own E hp1 x/\∃id∈order,∃k,hp1 id=some k/\AQ k=true/\Di E id x:=by
  intro x hx;obtain⟨id,hid,k,hk,hl,ho⟩:=SJ hs hx;exact⟨⟨id,k,hk,hl,ho⟩,id,hid,k,hk,hl,ho⟩
 have hfr:Fr (Own (CQ E order) (lkB (AF hp1 order))) w w':=hC.fr;have hGW:∀x,G1 x->x<w.heap.size/\¬Own (CQ E order) (lkB (AF hp1 order)) x:=fun x hx=>⟨(hI.g1 x hx).1,fun ho=>hI.g2 x hx (hUc x ho).1⟩
 have hturn:Turn (BA order e blks'.length b) E' (lkB blks') (Bf E E' order e blks'.length b) (BV hp1 order e b blks'):=by
  refine⟨fun j id hj k' hk'=> ?_⟩
  rcases hget hk' with⟨j',kj,hj',h1,h2,h3,h4⟩|⟨h1,h2,h3⟩
  ·have:j'=j:=WO hn hordB hlen h1 hj;subst this;obtain⟨r1,r2,r3,r4,r5⟩:=BW (BA order e blks'.length b) kj;subst h4;exact⟨kj,h3,by rw[r1],r2,r5,by simp[Bf,h2]⟩
  ·exfalso
   have hjn:j<blks'.length:=by
    unfold BA at hj
    split at hj
    ·omega
    ·split at hj
     ·assumption
     ·cases hj
   rw[hub hjn hj]at h3;cases h3
 have hvr:∀x y,VR0 w' E' (lkB blks') G' x y->(noim=true->Fo x=true)->VR0 w' (Bf E E' order e blks'.length b) (BV hp1 order e b blks') G3 (BR (BA order e blks'.length b) x) y:=by
  intro x y hx hno;cases hnn:noim with
  |true=>exact hturn.vr0' (hno hnn) hx
  |false=>exact hturn.vr0 (hG' hnn) hx
 have hres:VR2 w' (Bf E E' order e blks'.length b) (BV hp1 order e b blks') G3 (EQ (BA order e blks'.length b) r) y:=by
  cases hnn:noim with
  |true=>exact hturn.vr2' (hnoim hnn).1 hv
  |false=>exact hturn.vr2 (hG' hnn) hv
 have hold:∀x y,(∀id∈Ae x,B id)->VR0 w E hp1 G1 x y->VR0 w' (Bf E E' order e blks'.length b) (BV hp1 order e b blks') G3 x y:=by
  intro x y hB hx;have hsame:Am4 G1 w w':=hfr.same hGW;have hshape:∀id k',B id->BV hp1 order e b blks' id=some k'->∃k,hp1 id=some k/\(k.kind≠ .box->k'.kind≠ .box/\k.rows.length<=k'.rows.length)/\∀bb,E.m id=some bb->k'.size=k.size/\(Bf E E' order e blks'.length b).m id=some bb:=by
   intro id k' hid hk';rcases hget hk' with⟨j,kj,hj,h1,h2,h3,h4⟩|⟨h1,h2,h3⟩
   ·have hje:j<e/\order[j]? =some id:=by
     unfold BA at h1;by_cases hje:j<e
     ·rw[zw hje]at h1;exact⟨hje,h1⟩
     ·rw[zi hje,zw hj]at h1;have:=zy h1;exact absurd ⟨by omega,by omega⟩ (hBn _ hid)
    obtain⟨k0,q1,q2,q5⟩:=hkept j hje.1 kj h3;obtain⟨id',q6,q7⟩:=D9 (hp:=hp1) (order:=order) (j:=j) (k':=k0) q1;rw[hje.2]at q6;cases q6
    obtain⟨k,hk⟩:=hs id (za5 hje.2);rw[hk,Option.getD_some]at q7;obtain⟨r1,r2,r3,r4,r5⟩:=BW (idx order) k;obtain⟨s1,s2,s3,s4,s5⟩:=BW (BA order e blks'.length b) kj;subst h4;subst q7;refine⟨k,hk,by rw[s1,s5,<-r1,<-r5];exact q2,fun bb hbb=> ?_⟩
    obtain⟨p1,p2⟩:=q5 bb (by simp[CQ,hje.2,hbb]);refine⟨by rw[s2,p1,r2],?_⟩
    simp only[Bf,h2];exact p2
   ·exact⟨k',h1,fun h=>⟨h,za8 _⟩,fun bb hbb=>⟨rfl,by simpa[Bf,h3]using hbb⟩⟩
  cases x with
  |ar id lo n=>
   obtain⟨a,cap,hy,hk⟩:=hx;refine⟨a,cap,hy,fun k' hk'=> ?_⟩
   obtain⟨k,h1,h2,h5⟩:=hshape id k' (hB id (by simp[Ae])) hk';obtain⟨q1,q2,q3⟩:=hk k h1;refine⟨(h2 q1).1,zd0 q2 (h2 q1).2,q3.imp (fun h=>h) ?_⟩
   rintro⟨bb,cur,ty,fz,s1,s2,s3,s4,s5⟩;obtain⟨h3,h5⟩:=h5 bb s1;obtain⟨cur',fz',s6,s7⟩:=hfr.shape bb cur ty fz s4;exact⟨bb,cur',ty,fz',h5,by rw[h3];exact s2,s3,s6,by rw[h3,s7];exact s5⟩
  |rf id r c=>
   obtain⟨bb,o,hy,hk⟩:=hx;refine⟨bb,o,hy,fun k' hk'=> ?_⟩
   obtain⟨k,h1,h2,h5⟩:=hshape id k' (hB id (by simp[Ae])) hk';obtain⟨q2,q3⟩:=hk k h1;obtain⟨h3,h5⟩:=h5 bb q2;exact⟨h5,by rw[h3];exact q3⟩
  |ir row c=>
   obtain⟨bb,off,f,hg,hy,hc⟩:=hx;refine⟨bb,off,f,hG bb hg,hy,fun j x hx=> ?_⟩
   obtain⟨h1,h2⟩:=hc j x hx;exact⟨by rw[LT (hfr.block bb (hGW bb hg).1 (hGW bb hg).2)];exact h1,h2.same hsame hG⟩
  |v a=>exact Rep.same hx hsame hG
  |em=>exact Rep.same hx hsame hG
  |er e=>exact Rep.same hx hsame hG
  |im rows=>exact Rep.same hx hsame hG
  |any=>exact trivial
  |agg cs=>exact hx.elim
  |tup vs=>exact hx.elim
  |cl f caps=>cases caps<;>exact hx
 have hc1:∀x,Own E' (lkB blks') x->x<w'.heap.size/\(Own (CQ E order) (lkB (AF hp1 order)) x\/w.heap.size<=x):=fun x hx=>hC.o1 x hx
 have hown:∀id k x,BV hp1 order e b blks' id=some k->AQ k=true->Di (Bf E E' order e blks'.length b) id x->
   (∃j kj,BA order e blks'.length b j=some id/\blks'[j]? =some kj/\AQ kj=true/\Di E' j x)\/(hp1 id=some k/\id ∉ order/\Di E id x):=by
  intro id k x hk hl ho;rcases hget hk with⟨j,kj,hj,h1,h2,h3,h4⟩|⟨h1,h2,h3⟩
  ·left
   refine⟨j,kj,h1,h3,?_,?_⟩
   ·subst h4;unfold AQ at hl⊢;rw[(BW _ kj).1]at hl;exact hl
   ·rcases ho with ho|ho
    ·left;simpa[Bf,h2]using ho
    ·right;simpa[Bf,h2]using ho
  ·right
   refine⟨h1,h2,?_⟩
   rcases ho with ho|ho
   ·left;simpa[Bf,h3]using ho
   ·right;simpa[Bf,h3]using ho
 have hG1c:∀x,G1 x->¬Own E' (lkB blks') x:=by
  intro x hg ho;rcases(hc1 x ho).2 with h|h
  ·exact hI.g2 x hg (hUc x h).1
  ·have:=(hI.g1 x hg).1;omega
 have hrest:∀id k x,hp1 id=some k->AQ k=true->id ∉ order->Di E id x->¬Own E' (lkB blks') x:=by
  intro id k x hk hl hid ho hc;rcases(hc1 x hc).2 with h|h
  ·obtain⟨_,id',hid',k',hk',hl',ho'⟩:=hUc x h;exact hid (hI.dis id k id' k' hk hl hk' hl' x ho ho'▸hid')
  ·have:=(hI.o1 x ⟨id,k,hk,hl,ho⟩).1;omega
 refine⟨⟨hI.fr.then hfr (fun x hx=>(hI.o1 x (hUc x hx).1).2),?_,?_,?_,?_,?_,?_⟩,hres,⟨hold⟩⟩
 ·intro x hx;rcases hG3 x hx with hg|⟨hg,ha,_⟩
  ·have:=hI.g1 x hg;exact⟨zd8 this.1 hfr.size,this.2⟩
  ·have h1:=hC.g1 x hg;refine⟨h1.1,?_⟩
   rcases h1.2 with h|h|h
   ·exact(hI.g1 x (ha h)).2
   ·exact .inr (hI.o1 x (hUc x h).1).2
   ·exact .inr (.inr (zd0 hI.fr.size h))
 ·rintro x hx ⟨id,k,hk,hl,ho⟩;rcases hown id k x hk hl ho with⟨j,kj,h1,h2,h3,h4⟩|⟨h1,h2,h3⟩
  ·have hoc:Own E' (lkB blks') x:=⟨j,kj,h2,h3,h4⟩;rcases hG3 x hx with hg|⟨hg,_,_⟩
   ·exact hG1c x hg hoc
   ·exact hC.g2 x hg hoc
  ·rcases hG3 x hx with hg|⟨hg,ha,_⟩
   ·exact hI.g2 x hg ⟨id,k,h1,hl,h3⟩
   ·rcases(hC.g1 x hg).2 with h|h|h
    ·exact hI.g2 x (ha h) ⟨id,k,h1,hl,h3⟩
    ·obtain⟨_,id',hid',k',hk',hl',ho'⟩:=hUc x h;exact h2 (hI.dis id k id' k' h1 hl hk' hl' x h3 ho'▸hid')
    ·have:=(hI.o1 x ⟨id,k,h1,hl,h3⟩).1;omega
 ·rintro x ⟨id,k,hk,hl,ho⟩;rcases hown id k x hk hl ho with⟨j,kj,h1,h2,h3,h4⟩|⟨h1,h2,h3⟩
  ·have:=hc1 x ⟨j,kj,h2,h3,h4⟩;refine⟨this.1,?_⟩
   rcases this.2 with h|h
   ·exact(hI.o1 x (hUc x h).1).2
   ·exact .inr (zd0 hI.fr.size h)
  ·have:=hI.o1 x ⟨id,k,h1,hl,h3⟩;exact⟨zd8 this.1 hfr.size,this.2⟩
 ·intro id k id' k' hk hl hk' hl' x ho ho';rcases hown id k x hk hl ho with⟨j,kj,h1,h2,h3,h4⟩|⟨h1,h2,h3⟩
  ·rcases hown id' k' x hk' hl' ho' with⟨j',kj',h1',h2',h3',h4'⟩|⟨h1',h2',h3'⟩
   ·have:=hC.dis j kj j' kj' h2 h3 h2' h3' x h4 h4';subst this;rw[h1]at h1';exact zy h1'
   ·exact absurd ⟨j,kj,h2,h3,h4⟩ (hrest id' k' x h1' hl' h2' h3')
  ·rcases hown id' k' x hk' hl' ho' with⟨j',kj',h1',h2',h3',h4'⟩|⟨h1',h2',h3'⟩
   ·exact absurd ⟨j',kj',h2',h3',h4'⟩ (hrest id k x h1 hl h2 h3)
   ·exact hI.dis id k id' k' h1 hl h1' hl' x h3 h3'
 ·intro id k x hk hl hm hN;rcases hget hk with⟨j,kj,hj,h1,h2,h3,h4⟩|⟨h1,h2,h3⟩
  ·refine hC.self j kj x h3 ?_ (by simpa[Bf,h2]using hm) (by simpa[Bf,h2]using hN)
   subst h4;unfold AQ at hl⊢;rw[(BW _ kj).1]at hl;exact hl
  ·exact hI.self id k x h1 hl (by simpa[Bf,h3]using hm) (by simpa[Bf,h3]using hN)
 ·intro id k hk;rcases hget hk with⟨j,kj,hj,h1,h2,h3,h4⟩|⟨h1,h2,h3⟩
  ·subst h4;have hnb:noim=true->Dq kj=true:=fun hh=>za6.1 (hnoim hh).2 kj (za5 h3)
   refine(hC.blk j kj h3).turn (by simp[Bf,h2]) (fun x hx=>by simpa[Bf,h2]using hx) (fun hkind x hx=> ?_) (fun hkind row hrow x hx y hv=>hvr x y hv fun hh=> ?_)
   ·cases hnn:noim with
    |true=>
     have:=hnb hnn;unfold Dq at this;rcases hkind with hkind|⟨hkind,hd⟩
     ·simp[hkind]at this
     ·simp[hkind,hd]at this
    |false=>exact hG' hnn x hx
   ·have:=hnb hh;unfold Dq at this;rw[hkind]at this;exact za6.1 (za6.1 this row hrow) x hx
  ·have hW:GJ E (kill hp1 order) G1 (Own (CQ E order) (lkB (AF hp1 order))):=by
    intro x hx;obtain⟨q1,id',hid',k',hk',hl',ho'⟩:=hUc x hx;have hf:=hI.freedL (l:=order) (x:=x) ⟨id',hid',k',hk',hl',ho'⟩;exact⟨hf.2.1,hf.2.2.1⟩
   have hk2:kill hp1 order id=some k:=by rw[Ia order hp1 id h2];exact h1
   have hblk:=hI.blk id k h1;have hI2:=(hI.dropL (B:=B) order).1;have hNlt:=hI2.N_lt hW hk2;have hMn:=hI2.M_nW hW hk2;unfold AU at hblk⊢
   cases hkk:k.kind with
   |box=>
    simp only[hkk]at hblk⊢
    obtain⟨bb,row,cur,q1,q2,q3,q4,q5,q6⟩:=hblk;exact⟨bb,row,cur,by simpa[Bf,h3]using q1,hfr.at (hMn bb q1) q2,q3,q4,q5,q6.mono fun x hx y hxy=>⟨hold x y (fun i hi=>(hw id k h1).2 i (JI hkk (by rw[q3];simp) hx hi)) hxy.1,hxy.2⟩⟩
   |arr=>
    simp only[hkk]at hblk⊢
    rcases hblk with⟨q1,q2⟩|⟨bb,cur,cap,q1,q2,q3,q4,q5,q6,q7,q8⟩
    ·exact .inl ⟨q1,by simpa[Bf,h3]using q2⟩
    ·refine .inr ⟨bb,cur,cap,by simpa[Bf,h3]using q1,hfr.at (hMn bb q1) q2,q3,q4,q5,q6,q7,fun i q row x hi hq=> ?_⟩
     obtain⟨u,hu,hr⟩:=q8 i q row x hi hq;refine⟨u,hu,?_⟩
     cases hd:k.deep with
     |true=>
      simp only[hd,if_true]at hr⊢
      exact hr.same (hfr.same fun x hx=>(hNlt x hx).elim (fun h=>h) (fun h=>by simp[hkk,hd]at h)) (fun x hx=>by simpa[Bf,h3]using hx)
     |false=>
      simp only[hd,zb8,if_false]at hr⊢
      exact hr.same (hfr.same hGW) hG
   |frz=>
    simp only[hkk]at hblk⊢
    rcases hblk with⟨q1,q2⟩|⟨bb,cur,cap,fz,q1,q1',q2,q3,q4,q5,q6,q7,q8⟩
    ·exact .inl ⟨q1,by simpa[Bf,h3]using q2⟩
    ·refine .inr ⟨bb,cur,cap,fz,by simpa[Bf,h3]using q1,hG bb q1',hfr.at (hMn bb q1) q2,q3,q4,q5,q6,q7,fun i q row x hi hq=> ?_⟩
     obtain⟨u,hu,hr⟩:=q8 i q row x hi hq;exact⟨u,hu,hr.same (hfr.same hGW) hG⟩
end
section
open Go
variable {P:Program} {w w' w0:World} {E E':Env} {hp hp':Hp} {G G' U A W F S:Nat->Prop} {B:Nat->Prop} {ρ:Operand->V} {ρr:Operand->Value}
def AF9(args:List V)(blks blks':List Blk)(E E':Env):Prop:=∀j∈args.flatMap Af,∀k',blks'[j]? =some k'->∃k,blks[j]? =some k/\(k.kind≠ .box->k'.kind≠ .box/\k.rows.length<=k'.rows.length)/\∀b,E.m j=some b->k'.size=k.size/\E'.m j=some b
abbrev F3:=List (Nat×Obj)
def Tab(J:F3)(U:Nat->Prop)(w:World):Prop:=∀x∈J,w.heap[x.1]? =some x.2/\¬U x.1
theorem Tab.inner{J:F3}(h:Tab J U w0)(hI:HpInv w0 U A E G hp w){U':Nat->Prop}(hu:∀b,U' b->Own E hp b):Tab J U' w:=by
 intro x hx;obtain⟨h1,h2⟩:=h x hx;have hlt:=(Array.getElem?_eq_some_iff.1 h1).1;refine⟨(hI.fr.block x.1 hlt h2).trans h1,fun hb=> ?_⟩
 rcases(hI.o1 x.1 (hu _ hb)).2 with h3|h3
 ·exact h2 h3
 ·omega
structure CSpec (P:Program) (J:F3) (g:FuncId) (args:List V) (blks:List Blk) (r:V) (blks':List Blk):Prop where
 enter:∃fn,P.funcs[g]? =some fn/\NO fn=true/\fn.body.isSome=true
 calls:Hg args blks=true->∀(w:World)(A:Nat->Prop)(E:Env)(vals:Array Value),Tab J (Own E (lkB blks)) w->HpInv w (Own E (lkB blks)) A E A (lkB blks) w->VL (VR1 w E (lkB blks) A) args vals.toList->
  Calls P g vals w fun e w'=>∃y E' G',e=.returned y/\HpInv w (Own E (lkB blks)) A E' G' (lkB blks') w'/\VR2 w' E' (lkB blks') G' r y/\AF9 args blks blks' E E'
structure RSpec (P:Program) (J:F3) (U:Nat->Prop) (w0:World) (R:Rel):Prop where
 tab:Tab J U w0
 spec:∀g args blks r blks',R g args blks r blks'->CSpec P J g args blks r blks'
theorem JJ{f:Nat->Option Nat}{x:V}{i:Nat}(h:i∈Ae (BR f x)):∃j,f j=some i/\j∈Ae x:=by
 cases x with
 |ar id lo n=>
  simp only[BR]at h;cases hf:f id with
  |none=>rw[hf]at h;simp[Ae]at h
  |some j=>rw[hf]at h;simp[Ae]at h;subst h;exact⟨id,hf,by simp[Ae]⟩
 |rf id r c=>
  simp only[BR]at h;cases hf:f id with
  |none=>rw[hf]at h;simp[Ae]at h
  |some j=>rw[hf]at h;simp[Ae]at h;subst h;exact⟨id,hf,by simp[Ae]⟩
 |cl g caps=>cases caps<;>simp[BR,Ae]at h
 |_=>simp[BR,Ae]at h
theorem L6{f:Nat->Option Nat}{x:V}{i:Nat}(h:i∈Af (Cp f x)):∃j,f j=some i/\j∈Af x:=by
 cases x with
 |agg cs=>
  simp only[Cp,Af,zb0,ze0]at h;obtain⟨_,⟨a,ha,rfl⟩,hi⟩:=h;obtain⟨j,h1,h2⟩:=JJ hi;exact⟨j,h1,zb0.2 ⟨a,ha,h2⟩⟩
 |cl g caps=>
  simp only[Cp,Af,zb0,ze0]at h;obtain⟨_,⟨a,ha,rfl⟩,hi⟩:=h;obtain⟨j,h1,h2⟩:=JJ hi;exact⟨j,h1,zb0.2 ⟨a,ha,h2⟩⟩
 |ar id lo n=>
  simp only[Cp,BR]at h;cases hf:f id with
  |none=>rw[hf]at h;simp[Af,Ae]at h
  |some j=>rw[hf]at h;simp[Af,Ae]at h;subst h;exact⟨id,hf,by simp[Af,Ae]⟩
 |rf id r c=>
  simp only[Cp,BR]at h;cases hf:f id with
  |none=>rw[hf]at h;simp[Af,Ae]at h
  |some j=>rw[hf]at h;simp[Af,Ae]at h;subst h;exact⟨id,hf,by simp[Af,Ae]⟩
 |_=>simp[Cp,BR,Af,Ae]at h
theorem Ai9{f:Nat->Option Nat}{x:V}{i:Nat}(h:i∈Ah (EQ f x)):∃j,f j=some i/\j∈Ah x:=by
 cases x with
 |tup vs=>
  simp only[EQ,Ah,zb0,ze0]at h;obtain⟨_,⟨a,ha,rfl⟩,hi⟩:=h;obtain⟨j,h1,h2⟩:=L6 hi;exact⟨j,h1,zb0.2 ⟨a,ha,h2⟩⟩
 |agg cs=>exact L6 (x:=.agg cs) h
 |cl g caps=>exact L6 (x:=.cl g caps) h
 |ar a b c=>
  simp only[EQ,Cp,BR]at h;cases hf:f a with
  |none=>rw[hf]at h;simp[Ah,Af,Ae]at h
  |some j=>rw[hf]at h;simp[Ah,Af,Ae]at h;subst h;exact⟨a,hf,by simp[Ah,Af,Ae]⟩
 |rf a b c=>
  simp only[EQ,Cp,BR]at h;cases hf:f a with
  |none=>rw[hf]at h;simp[Ah,Af,Ae]at h
  |some j=>rw[hf]at h;simp[Ah,Af,Ae]at h;subst h;exact⟨a,hf,by simp[Ah,Af,Ae]⟩
 |_=>simp[EQ,Cp,BR,Ah,Af,Ae]at h
theorem UY{f:Nat->Option Nat}{k:Blk}{i:Nat}(h:i∈Ck (Ee f k)):∃j,f j=some i/\j∈Ck k:=by
 unfold Ck at h;rw[(BW f k).1]at h
 split at h
 ·rename_i hk;have:(Ee f k).rows=k.rows.map (·.map (BR f)):=by unfold Ee;rw[hk]
  rw[this]at h;simp only[zb0,ze0]at h;obtain⟨_,⟨row,hrow,rfl⟩,c,hc,hi⟩:=h;simp only[ze0]at hc;obtain⟨a,ha,rfl⟩:=hc;obtain⟨j,h1,h2⟩:=JJ hi;exact⟨j,h1,JI hk hrow ha h2⟩
 ·simp at h
theorem Sd:∀(l:List Nat)(hp:Hp)(id:Nat)(k:Blk),freeze hp l id=some k->∃k0,hp id=some k0/\k.rows=k0.rows/\(k.kind=.box↔k0.kind=.box)
 |[],hp,id,k,h=>⟨k,h,rfl,Iff.rfl⟩
 |i::l,hp,id,k,h=>by
  simp only[freeze]at h;obtain⟨k1,h1,h2,h3⟩:=Sd l _ id k h;by_cases hid:id=i
  ·subst hid;simp only[upd,if_true,zb4]at h1;obtain⟨k0,h4,h5⟩:=h1;subst h5;refine⟨k0,h4,h2,h3.trans ?_⟩
   cases hk:k0.kind<;>simp[hk]
  ·simp only[upd,zi hid]at h1;exact⟨k1,h1,h2,h3⟩
theorem Hv:∀(l:List Nat)(hp:Hp)(id:Nat),id ∉ l->freeze hp l id=hp id
 |[],hp,id,_=>rfl
 |i::l,hp,id,h=>by
  simp only[zc9,not_or]at h;simp only[freeze];rw[Hv l _ id h.2];simp only[upd,zi h.1]
theorem Dz.freeze(h:Dz B hp)(l:List Nat):Dz B (freeze hp l):=by
 intro id k hk;obtain⟨k0,h1,h2,h3⟩:=Sd l hp id k hk;refine⟨(h id k0 h1).1,fun j hj=>(h id k0 h1).2 j ?_⟩
 unfold Ck at hj⊢
 by_cases hb:k0.kind=.box
 ·have:=h3.2 hb;rw[this]at hj;rw[hb];rw[h2]at hj;exact hj
 ·have hb':k.kind≠ .box:=fun hh=>hb (h3.1 hh)
  cases hkk:k.kind with
  |box=>exact absurd hkk hb'
  |arr=>rw[hkk]at hj;simp at hj
  |frz=>rw[hkk]at hj;simp at hj
theorem Su{x x':V}(h:JF hp x=some x'):∀i∈C1 x,∀k,hp i=some k->k.kind≠ .box:=by
 cases x with
 |ar id lo n=>
  intro i hi k hk;simp[C1]at hi;subst hi;simp only[JF,hk]at h;intro hb;rw[hb]at h;cases h
 |_=>intro i hi;simp[C1]at hi
theorem ML:∀{xs xs':List V},JG hp xs=some xs'->∀i∈xs.flatMap C1,∀k,hp i=some k->k.kind≠ .box
 |[],_,_,i,hi=>by simp at hi
 |x::xs,xs',h,i,hi=>by
  simp only[JG]at h
  split at h
  ·rename_i y r h1 h2;simp only[zb2,zb5]at hi;exact hi.elim (Su h1 i) (ML h2 i)
  ·cases h
theorem YR{x x':V}(h:F7 hp x=some x'):∀i∈JW x,∀k,hp i=some k->k.kind≠ .box:=by
 cases x with
 |agg cs=>
  simp only[F7]at h
  split at h
  ·rename_i r hr;exact ML hr
  ·cases h
 |cl g caps=>
  simp only[F7]at h
  split at h
  ·rename_i r hr;exact ML hr
  ·cases h
 |ar a b c=>exact Su (x:=.ar a b c) h
 |_=>intro i hi;simp[JW,C1]at hi
theorem Sv:∀{fs:List Bool}{xs xs':List V},EC hp fs xs=some xs'->∀i∈Dp fs xs,∀k,hp i=some k->k.kind≠ .box
 |_,[],_,_,i,hi=>by simp[Dp]at hi
 |fs,x::xs,xs',h,i,hi=>by
  simp only[EC]at h
  split at h
  ·rename_i y r h1 h2;simp only[Dp,zb5]at hi;refine hi.elim (fun hi=> ?_) (Sv h2 i)
   split at hi
   ·simp at hi
   ·rename_i hf;rw[zi hf]at h1;exact YR h1 i hi
  ·cases h
theorem Nq{hp1:Hp}{order:List Nat}(h:∀id∈order,hp1 id=hp id):AF hp1 order=AF hp order:=by
 unfold AF
 apply List.map_congr_left
 intro id hid;rw[h id hid]
theorem Kl{hp1:Hp}(hw:Dz B hp1){order:List Nat}(hs:∀id∈order,∃k,hp1 id=some k){e b:Nat}{blks:List Blk}(he:e<=blks.length)(heo:e<=order.length)(hlen:blks.length-e<=16)(r:V):
  GP B b (EQ (BA order e blks.length b) r) (BV hp1 order e b blks):=by
 have hb:∀j i,BA order e blks.length b j=some i->Tp B b i:=by
  intro j i h;unfold BA at h;by_cases hje:j<e
  ·rw[zw hje]at h;obtain⟨k,hk⟩:=hs i (za5 h);exact .inl (hw i k hk).1
  ·rw[zi hje]at h
   split at h
   ·have:=zy h;exact .inr ⟨by omega,by omega⟩
   ·cases h
 refine⟨fun i hi=> ?_,fun id k hk=> ?_⟩
 ·obtain⟨j,h1,_⟩:=Ai9 hi;exact hb j i h1
 ·rcases RM he heo hk with⟨j,kj,h1,h2,h3⟩|⟨h1,h2,h3⟩
  ·subst h3;refine⟨hb j id h1,fun i hi=> ?_⟩
   obtain⟨q,h4,_⟩:=UY hi;exact hb q i h4
  ·exact⟨.inl (hw id k h1).1,fun i hi=>.inl ((hw id k h1).2 i hi)⟩
end
section
open Go
variable {P:Program} {J:F3} {w w' w0:World} {E E':Env} {hp hp':Hp} {G G' U A W F S:Nat->Prop} {B:Nat->Prop} {ρ:Operand->V} {ρr:Operand->Value}
theorem FZ{x:V}{y:Value}(h:VR0 w E hp G x y):VR0 w E' (lkB []) G x y:=by
 cases x with
 |ar id lo n=>obtain⟨a,cap,hy,_⟩:=h;exact⟨a,cap,hy,fun k hk=>by simp[lkB]at hk⟩
 |rf id r c=>obtain⟨b,o,hy,_⟩:=h;exact⟨b,o,hy,fun k hk=>by simp[lkB]at hk⟩
 |cl f caps=>cases caps<;>exact h
 |_=>exact h
theorem Ay9{x:V}{y:Value}(h:VR1 w E hp G x y):VR1 w E' (lkB []) G x y:=by
 cases x with
 |agg cs=>obtain⟨us,rfl,hl⟩:=h;exact⟨us,rfl,hl.mono fun x _ y hx=>FZ (E:=E) (hp:=hp) hx⟩
 |cl g caps=>obtain⟨us,rfl,hl⟩:=h;exact⟨us,rfl,hl.mono fun x _ y hx=>FZ (E:=E) (hp:=hp) hx⟩
 |v a=>exact(FZ (E:=E) (hp:=hp) (x:=.v a) h).to1
 |em=>exact(FZ (E:=E) (hp:=hp) (x:=.em) h).to1
 |er e=>exact(FZ (E:=E) (hp:=hp) (x:=.er e) h).to1
 |im a=>exact(FZ (E:=E) (hp:=hp) (x:=.im a) h).to1
 |ar a b c=>exact(FZ (E:=E) (hp:=hp) (x:=.ar a b c) h).to1
 |rf a b c=>exact(FZ (E:=E) (hp:=hp) (x:=.rf a b c) h).to1
 |ir a b=>exact(FZ (E:=E) (hp:=hp) (x:=.ir a b) h).to1
 |tup a=>exact h.elim
 |any=>exact trivial
theorem Ae1{fo:Operand}{args:Array Operand}{tys:Array TypeId}{o:Oper}{a:Act}{g:FuncId}{us:Array Value}{fn:Func}(ho:o.op=.call {callee:=.value fo,args:=args,argTypes:=tys})
  (hf:a.eval fo=.func (.func g) #[] us) (hfn:P.funcs[g]? =some fn) (h1:NO fn=true) (h2:fn.body.isSome=true):(execOp a.eval o).run P w=.ok (.enter g (args.map a.eval++us)) w:=by
 have hn:(fn.name== "runtime.NumGoroutine")=false:=by simpa[NO]using h1
 have hb:fn.body.isNone=false:=by cases hh:fn.body<;>simp[hh]at h2⊢
 simp only[execOp,ho,resolve,hf,Deferred.ofValue,Sem.run_bind,Sem.run_pure,Result.andThen_ok,invoke,callFunc,XL,hfn,hn,hb,zb8,if_false,Array.empty_append]
theorem PQ{fo:Operand}{args:Array Operand}{tys:Array TypeId}{o:Oper}{a:Act}{g:FuncId}{us:Array Value}{b:Nat}(c:MCtx P w0 U A B E G hp w ρ a.eval b)(ho:o.op=.call {callee:=.value fo,args:=args,argTypes:=tys})
  (hf:a.eval fo=.func (.func g) #[] us) {order lent:List Nat} {e:Nat} {args2:List V} {blks':List Blk} {r:V} (hJ:Tab J U w0) (hsp:CSpec P J g args2 (AF hp order) r blks') (hid:Hg args2 (AF hp order)=true)
  (hn:order.Nodup) (hs:∀id∈order,∃k,hp id=some k) (hdis:∀id∈order,id ∉ lent) (hkind:∀i∈lent,∀k,hp i=some k->k.kind≠ .box) (heo:e<=order.length) (heb:e<=blks'.length) (hlen:blks'.length-e<=16)
  (hdir:∀j,j<e->j∈args2.flatMap Af)
  (hv:VL (VR1 w (CQ E order) (lkB (AF hp order)) (fun b=>G b\/B8 E hp lent b)) args2 (args.map a.eval++us).toList):
  CG P w0 U A B E G hp w o a (EQ (BA order e blks'.length b) r) (BV (if(lent.isEmpty||(Jc r&&blks'.all Dq))=true then hp else freeze hp lent) order e b blks'):=by
 obtain⟨fn,hfn,h1,h2⟩:=hsp.enter;intro next Q hnext;unfold Oper.wp;rw[Ae1 ho hf hfn h1 h2];rw[Oper.upon_enter];refine(hsp.calls hid w _ (CQ E order) _ (hJ.inner c.inv fun b hb=>by obtain⟨id,hid,k,hk,hl,ho⟩:=SJ hs hb;exact⟨id,k,hk,hl,ho⟩) (ZC c.inv hn hs hdis) hv).mono ?_
 rintro e' w' ⟨y,E',G',rfl,hC,hy,hk⟩;have hkept:∀(hp1:Hp),(∀id∈order,hp1 id=hp id)->AN9 e (AF hp1 order) blks' (CQ E order) E':=by
  intro hp1 h1 j hj k' hk';obtain⟨k,q1,q2⟩:=hk j (hdir j hj) k' hk';rw[<-Nq h1]at q1;exact⟨k,q1,q2⟩
 by_cases hc:(lent.isEmpty||(Jc r&&blks'.all Dq))=true
 ·rw[zw hc]at hnext;by_cases hl:lent=[]
  ·subst hl;obtain⟨g1,g2,g3⟩:=RN (noim:=false) (G3:=fun x=>G x\/G' x) (e:=e) (b:=b) (r:=r) c.inv c.wf c.new hn hs heo heb hlen hC (hkept hp fun _ _=>rfl) hy (fun h=>by cases h)
    (fun x hx=>.inl hx) (fun x hx=>hx.imp (fun h=>h) fun h=>⟨h,fun ha=>ha.elim (fun h=>h) (fun⟨i,hi,_⟩=>by simp at hi),rfl⟩) (fun _ x hx=>.inr hx)
   exact hnext y w' _ _ g1 g2 g3
  ·have hno:Jc r=true/\blks'.all Dq=true:=by
    simp only[Bool.or_eq_true,za2,List.isEmpty_iff]at hc;exact hc.resolve_left hl
   obtain⟨g1,g2,g3⟩:=RN (noim:=true) (G3:=G) (e:=e) (b:=b) (r:=r) c.inv c.wf c.new hn hs heo heb hlen hC (hkept hp fun _ _=>rfl) hy (fun _=>hno)
    (fun x hx=>hx) (fun x hx=>.inl hx) (fun h=>by cases h)
   exact hnext y w' _ _ g1 g2 g3
 ·rw[zi hc]at hnext;obtain⟨G1,f1,f2,f3,f4⟩:=c.inv.freezeL (B:=B) lent;have hsame:∀id∈order,freeze hp lent id=hp id:=fun id hid=>Hv lent hp id (hdis id hid)
  have hC':HpInv w (Own (CQ E order) (lkB (AF (freeze hp lent) order))) (fun b=>G b\/B8 E hp lent b) E' G' (lkB blks') w':=by rw[Nq hsame];exact hC
  obtain⟨g1,g2,g3⟩:=RN (noim:=false) (G3:=fun x=>G1 x\/G' x) (e:=e) (b:=b) (r:=r) f1 (c.wf.freeze lent) c.new hn (fun id hid=>by rw[hsame id hid];exact hs id hid) heo heb hlen hC' (hkept _ hsame) hy (fun h=>by cases h)
   (fun x hx=>.inl hx) (fun x hx=>hx.imp (fun h=>h) fun h=>⟨h,fun ha=>ha.elim (f3 x) (fun⟨i,hi,k,hk',hl',ho'⟩=>f4 i hi k hk' (hkind i hi k hk') x ho' hl'),rfl⟩) (fun _ x hx=>.inr hx)
  exact hnext y w' _ _ g1 g2 (f2.trans g3 fun _ h=>h)
theorem I6{l:List Nat}{x:Nat}:x∈l.eraseDups↔x∈l:=by simp
theorem Ay8{x:V}{y:Value}{G':Nat->Prop}(hG:∀b,G b->G' b)(h:VR1 w E hp G x y):VR1 w E hp G' x y:=by
 have he:Ext (fun _=>True) E G hp w E G' hp w:=⟨fun x y _ hv=>by
  have:=(Turn.vr0 (f:=fun i=>some i) (E:=E) (hp:=hp) (E':=E) (hp':=hp) (G:=G) (G':=G') ⟨fun id j hj k' hk'=>by cases hj;exact⟨k',hk',Iff.rfl,rfl,rfl,rfl⟩⟩ hG hv);have hx:VR0 w E hp G x y->BR (fun i=>some i) x=x:=by
   intro hv;cases x with
   |cl f caps=>
    cases caps with
    |nil=>rfl
    |cons a l=>exact hv.elim
   |agg cs=>exact hv.elim
   |tup vs=>exact hv.elim
   |_=>rfl
  rw[hx hv]at this;exact this⟩
 exact he.v1 x y (fun _ _=>trivial) h
theorem AL3{x:V}{y:Value}(h:EG x=true)(hv:VR2 w E hp G x y):VR1 w E hp G x y/\Af x=Ah x:=by
 cases x with
 |tup vs=>cases h
 |_=>exact⟨hv,rfl⟩
theorem UR(hI:HpInv w0 U A E G hp w){lent:List Nat}:∀{fs:List Bool}{xs xs':List V}{ys:List Value},EC hp fs xs=some xs'->(∀i∈Dp fs xs,i∈lent)->VL (VR2 w E hp G) xs ys->
  VL (VR1 w E hp (fun b=>G b\/B8 E hp lent b)) xs' ys/\∀i∈xs'.flatMap Af,i∈xs.flatMap Ah
 |_,[],xs',ys,h,_,hv=>by
  simp only[EC,zb]at h;subst h;cases ys with
  |nil=>exact⟨trivial,fun _ h=>h⟩
  |cons y ys=>exact hv.elim
 |fs,x::xs,xs',ys,h,hl,hv=>by
  simp only[EC]at h
  split at h
  ·rename_i y r h1 h2;cases h
   cases ys with
   |nil=>exact hv.elim
   |cons u us=>
    have hq:VR1 w E hp (fun b=>G b\/B8 E hp lent b) y u/\∀i∈Af y,i∈Ah x:=by
     split at h1
     ·split at h1
      ·rename_i hnt;cases h1
       obtain⟨g1,g2⟩:=AL3 hnt hv.1;exact⟨Ay8 (fun _ h=>.inl h) g1,fun i hi=>by rw[<-g2];exact hi⟩
      ·cases h1
     ·rename_i hf;exact Ah5 hI h1 (lent:=lent) (fun i hi=>hl i (by simp only[Dp,zb5];rw[zi hf];exact .inl hi)) hv.1
    obtain⟨q1,q2⟩:=hq;obtain⟨r1,r2⟩:=UR hI h2 (fun i hi=>hl i (by simp only[Dp,zb5];exact .inr hi)) hv.2;refine⟨⟨q1,r1⟩,fun i hi=> ?_⟩
    simp only[zb2,zb5]at hi⊢
    exact hi.imp (q2 i) (r2 i)
  ·cases h
theorem Yu{R:Rel}{cf:Cfg}(hR:RSpec P J U w0 R){fo:Operand}{args:Array Operand}{tys:Array TypeId}{o:Oper}{a:Act}{g:FuncId}{caps:List V}{b:Nat}{K:BP}
  (c:MCtx P w0 U A B E G hp w ρ a.eval b) (ho:o.op=.call {callee:=.value fo,args:=args,argTypes:=tys}) (hf:ρ fo=.cl g caps) (h:Dr R cf g (args.toList.map ρ++caps) hp b K):
  ∃x hp' cls,K x hp' cls/\CG P w0 U A B E G hp w o a x hp'/\GP B b x hp':=by
 have hfo:=c.rel fo;rw[hf]at hfo;obtain⟨us,hus,hcaps⟩:=hfo;have hall:VL (VR2 w E hp G) (args.toList.map ρ++caps) (args.map a.eval++us).toList:=by
  simp only[Array.toList_append,Array.toList_map];refine VL.append ?_ (hcaps.mono fun _ _ _ h=>h.to1.to2)
  have:∀l:List Operand,VL (VR2 w E hp G) (l.map ρ) (l.map a.eval):=by
   intro l
   induction l with
   |nil=>exact trivial
   |cons x l ih=>exact⟨c.rel x,ih⟩
  exact this args.toList
 unfold Dr at h;have hargs:∀args',EC hp (cf.byref g) (args.toList.map ρ++caps)=some args'->
   VL (VR1 w E hp (fun b=>G b\/B8 E hp (Dp (cf.byref g) (args.toList.map ρ++caps)) b)) args' (args.map a.eval++us).toList/\
   ∀i∈Dp (cf.byref g) (args.toList.map ρ++caps),∀k,hp i=some k->k.kind≠ .box:=by
  intro args' h;exact⟨(UR c.inv h (fun i hi=>hi) hall).1,Sv h⟩
 cases hargs':EC hp (cf.byref g) (args.toList.map ρ++caps)with
 |none=>rw[hargs']at h;exact h.elim
 |some args'=>
  rw[hargs']at h;obtain⟨hv,hkind⟩:=hargs args' hargs';generalize hlent:Dp (cf.byref g) (args.toList.map ρ++caps)=lent at h hv hkind
  clear hargs hall
  cases hcl0:DA hp (args'.flatMap Af)with
  |none=>simp only[hcl0]at h
  |some order=>
  have hcl:=(PU hcl0).1;cases order with
  |nil=>
   simp only[hcl0]at h;unfold Iq GR at h;obtain⟨r,blks',hr,hlen,hid,hK⟩:=h;have hsp:=hR.spec _ _ _ _ _ hr;have hv':VL (VR1 w (CQ E []) (lkB (AF hp [])) (fun b=>G b\/B8 E hp lent b)) args' (args.map a.eval++us).toList:=hv.mono fun x _ y hx=>Ay9 hx
   have hst:=PQ (order:=[]) (e:=0) (lent:=lent) c ho hus (r:=r) (blks':=blks') hR.tab hsp hid (by simp) (fun id hid=>by simp at hid) (fun id hid=>by simp at hid) hkind (by simp) (by simp) (by omega) (fun j hj=>by omega) hv';by_cases hc:(lent.isEmpty||Jc r&&blks'.all Dq)=true
   ·rw[zw hc]at hst hK;exact⟨_,_,_,hK,hst,Kl c.wf (fun id hid=>by simp at hid) (by simp) (by simp) (by omega) r⟩
   ·rw[zi hc]at hst hK;exact⟨_,_,_,hK,hst,Kl (c.wf.freeze _) (fun id hid=>by simp at hid) (by simp) (by simp) (by omega) r⟩
  |cons i0 ol=>
   simp only[hcl0]at h;generalize ho2:i0::ol=order at h hcl hcl0
   clear ho2 i0 ol
   unfold Ky GR at h;obtain⟨hdis,htake,hid,r,blks',hr,hle,hlen,hK⟩:=h;have hsp:=hR.spec _ _ _ _ _ hr;obtain⟨c1,c2,c3,c4⟩:=EZ hp 64 _ _ _ hcl (by simp) (fun id hid=>by simp at hid);have hdis':∀id∈order,id ∉ lent:=by
    intro id hid hin;have:=za6.1 hdis id hid;simp[hin]at this
   have heo:(args'.flatMap Af).eraseDups.length<=order.length:=by
    have:=congrArg List.length htake;simp only[zc7]at this;omega
   have hv':=hv.map (f:=Cp (idx order)) (R':=VR1 w (CQ E order) (lkB (AF hp order)) (fun b=>G b\/B8 E hp lent b)) fun x _ y hx=>(N9 c2).vr1 (fun _ h=>h) hx
   have hdir:∀j,j<(args'.flatMap Af).eraseDups.length->j∈(args'.map (Cp (idx order))).flatMap Af:=by
    intro j hj;have h1:((args'.flatMap Af).eraseDups)[j]? =some ((args'.flatMap Af).eraseDups[j]'hj):=za1 hj;have h2:order[j]? =some ((args'.flatMap Af).eraseDups[j]'hj):=by
     rw[<-h1]
     conv=>rhs;rw[<-htake]
     rw[zb6,zw hj]
    have h3:((args'.flatMap Af).eraseDups[j]'hj)∈args'.flatMap Af:=I6.1 (List.getElem_mem hj);have h4:=L3 c1 h2;obtain⟨x,hx,hi⟩:=zb0.1 h3;refine zb0.2 ⟨Cp (idx order) x,ze0.2 ⟨x,hx,rfl⟩,?_⟩
    have hren0:∀z,((args'.flatMap Af).eraseDups[j]'hj)∈Ae z->j∈Ae (BR (idx order) z):=by
     intro z hz;cases z with
     |ar id lo n=>simp[Ae]at hz;simp only[BR];rw[<-hz,h4];simp[Ae]
     |rf id lo n=>simp[Ae]at hz;simp only[BR];rw[<-hz,h4];simp[Ae]
     |_=>simp[Ae]at hz
    cases x with
    |agg cs=>
     obtain⟨z,hz,hi⟩:=zb0.1 hi;exact zb0.2 ⟨_,ze0.2 ⟨z,hz,rfl⟩,hren0 z hi⟩
    |cl f cs=>
     obtain⟨z,hz,hi⟩:=zb0.1 hi;exact zb0.2 ⟨_,ze0.2 ⟨z,hz,rfl⟩,hren0 z hi⟩
    |ar id lo n=>have hi:_∈Ae (.ar id lo n):=hi;simp[Ae]at hi;simp only[Cp,BR];rw[<-hi,h4];simp[Af,Ae]
    |rf id lo n=>have hi:_∈Ae (.rf id lo n):=hi;simp[Ae]at hi;simp only[Cp,BR];rw[<-hi,h4];simp[Af,Ae]
    |_=>simp[Af,Ae]at hi
   have hst:=PQ (order:=order) (e:=(args'.flatMap Af).eraseDups.length) c ho hus (r:=r) (blks':=blks') hR.tab hsp hid c1 c2 hdis' hkind heo hle hlen hdir hv';by_cases hc:(lent.isEmpty||Jc r&&blks'.all Dq)=true
   ·rw[zw hc]at hst hK;exact⟨_,_,_,hK,hst,Kl c.wf c2 hle heo hlen r⟩
   ·rw[zi hc]at hst hK;exact⟨_,_,_,hK,hst,Kl (c.wf.freeze _) (fun id hid=>by rw[Hv _ hp id (hdis' id hid)];exact c2 id hid) hle heo hlen r⟩
end
section
open Go
variable {P:Program} {J:F3} {w w' w0:World} {E E':Env} {hp hp':Hp} {G G' U A W F S:Nat->Prop} {B:Nat->Prop} {ρ:Operand->V} {ρr:Operand->Value}
theorem SQ{x:V}{y:Value}(h:Rep w G x y):Ah x=[]:=by
 cases h<;>rfl
theorem HK{x:V}{y:Value}(h:Rep w G x y):Ae x=[]:=by
 cases h<;>rfl
theorem X7{x:V}{y:Value}(h:VR0 w E hp G x y):Ah x=Ae x:=by
 cases x with
 |agg cs=>exact h.elim
 |tup cs=>exact h.elim
 |cl f cs=>cases cs with|nil=>rfl|cons a l=>exact h.elim
 |_=>rfl
theorem Ke{x:V}{id:Nat}(h:id∈(flat x).flatMap Ae):id∈Ah x:=by
 cases x with
 |agg cs=>exact h
 |ar a b c=>simpa[flat,Ah,Af]using h
 |rf a b c=>simpa[flat,Ah,Af]using h
 |_=>simp[flat,Ae]at h
theorem AD5{g:Bool}{l:List V}{x:V}{us:List Value}(h:mk g l=some x)(hl:VL (VR0 w E hp G) l us){id:Nat}(hid:id∈Ah x):∃z∈l,id∈Ae z:=by
 unfold mk at h
 split at h
 ·cases h
  exact zb0.1 hid
 ·split at h
  ·rename_i x';cases h
   cases us with
   |nil=>exact hl.elim
   |cons u us=>
    rw[X7 hl.1]at hid;exact⟨x,by simp,hid⟩
  ·cases h
theorem Wi{cs l:List V}{off n:Nat}(h:seg cs off n=some l){z:V}(hz:z∈l):z∈cs:=by
 unfold seg at h
 split at h
 ·cases h
  exact List.mem_of_mem_drop (List.mem_of_mem_take hz)
 ·cases h
theorem Y4{cs l new:List V}{off:Nat}(h:FT cs off new=some l){z:V}(hz:z∈l):z∈cs\/z∈new:=by
 unfold FT at h
 split at h
 ·cases h
  simp only[zb5]at hz;rcases hz with(hz|hz)|hz
  ·exact .inl (List.mem_of_mem_take hz)
  ·exact .inr hz
  ·exact .inl (List.mem_of_mem_drop hz)
 ·cases h
theorem Uv{flds:List Fld}{ρ:Operand->V}:∀(l:List (Nat×Operand))(cs out:List V),Hf flds ρ cs l=some out->∀z∈out,∀id∈Ae z,(∃z∈cs,id∈Ae z)\/∃y,id∈Ah (ρ y)
 |[],cs,out,h,z,hz,id,hid=>by
  simp only[Hf,zb]at h;subst h;exact .inl ⟨z,hz,hid⟩
 |(k,x)::rest,cs,out,h,z,hz,id,hid=>by
  simp only[Hf]at h
  split at h
  ·split at h
   ·cases hp:FT cs _ (flat (ρ x))with
    |none=>rw[hp]at h;cases h
    |some cs'=>
     rw[hp,za0]at h;rcases Uv rest cs' out h z hz id hid with⟨z',hz',hid'⟩|h'
     ·rcases Y4 hp hz' with h1|h1
      ·exact .inl ⟨z',h1,hid'⟩
      ·exact .inr ⟨x,Ke (zb0.2 ⟨z',h1,hid'⟩)⟩
     ·exact .inr h'
   ·cases h
  ·cases h
theorem Vi{t:TypeId}{d:TyD}(hd:AY P t=some d):∀x∈d.zero,Ah x=[]:=by
 intro x hx;obtain⟨i,u,z',_,_,_,_,_,_,rfl⟩:=Bx hd;simp only[ze0]at hx;obtain⟨cc,_,hcc⟩:=hx;subst hcc;unfold CM
 split
 ·rfl
 ·split<;>rfl
theorem Y6{x:V}{id:Nat}(h:id∈Ae x):id∈Ah x:=by
 cases x with
 |ar a b c=>exact h
 |rf a b c=>exact h
 |_=>simp[Ae]at h
theorem EP{o:Option Value}{x:V}(h:o.bind Aw=some x):Ah x=[]:=by
 cases o with
 |none=>cases h
 |some a=>
  rw[za0]at h;unfold Aw at h
  split at h
  ·cases h;rfl
  ·cases h
theorem AI1{op:Op}{x:V}(hρ:∀x,VR2 w E hp G (ρ x) (ρr x))(h:Aq P op ρ=some x):∀id∈Ah x,∃y,id∈Ah (ρ y):=by
 intro id hid;cases op with
 |move a=>cases zy h;exact⟨a,hid⟩
 |assign a=>cases zy h;exact⟨a,hid⟩
 |pick c a b=>
  simp only[Aq]at h
  split at h
  ·rename_i t hc;cases zy h
   cases t
   ·exact⟨b,hid⟩
   ·exact⟨a,hid⟩
  ·cases h
 |build t parts=>
  simp only[Aq]at h
  split at h
  ·rename_i d hd
   split at h
   ·cases hf:Hf d.flds ρ d.zero parts.toList with
    |none=>simp[hf]at h
    |some cs=>
     rw[hf]at h;cases zy h
     obtain⟨z,hz,hid⟩:=zb0.1 hid;rcases Uv _ _ _ hf z hz id hid with⟨z',h1,h2⟩|h1
     ·have:=Vi hd z' h1;have:=Y6 h2
      simp_all
     ·exact h1
   ·cases h
  ·cases h
 |nilCheck a=>
  simp only[Aq]at h
  split at h<;>first|(rename_i hx;cases zy h;exact⟨a,by rw[hx];exact hid⟩)|cases h
 |binOp b t a c yt=>
  simp only[Aq]at h
  split at h
  ·rw[EP h]at hid;simp at hid
  ·unfold NN at h
   split at h
   ·split at h
    ·cases h;simp[Ah,Af,Ae]at hid
    ·cases h;simp[Ah,Af,Ae]at hid
    ·cases h
   ·unfold Af9 at h
    split at h
    ·cases h;simp[Ah,Af,Ae]at hid
    ·cases h;simp[Ah,Af,Ae]at hid
    ·cases h
 |unOp u t a=>
  simp only[Aq]at h
  split at h
  ·rw[EP h]at hid;simp at hid
  ·cases h
 |convert s d a=>
  simp only[Aq]at h
  split at h
  ·rw[EP h]at hid;simp at hid
  ·cases h
 |field t a k=>
  simp only[Aq]at h
  split at h
  ·rename_i cs d hx hd
   split at h
   ·rename_i f hk;have h1:=hρ a;rw[hx]at h1;obtain⟨us,hy,hl⟩:=h1;cases hs:seg cs f.off f.size with
    |none=>rw[hs]at h;cases h
    |some l=>
     rw[hs,za0]at h;obtain⟨z,hz,hid⟩:=AD5 (us:=(us.toList.drop f.off).take f.size) h (by
      unfold seg at hs
      split at hs
      ·cases hs;exact(hl.drop _).take _
      ·cases hs) hid
     exact⟨a,by rw[hx];exact zb0.2 ⟨z,Wi hs hz,hid⟩⟩
   ·cases h
  ·cases h
 |fieldAddr t a k=>
  simp only[Aq]at h
  split at h
  ·split at h
   ·rename_i f id r c hk hx;cases zy h
    exact⟨a,by rw[hx];exact hid⟩
   ·cases zy h
    simp[Ah,Af,Ae]at hid
   ·cases h
  ·cases h
 |index t a i=>
  simp only[Aq]at h
  split at h
  ·split at h
   ·cases zy h
    simp[Ah,Af,Ae]at hid
   ·cases h
  ·cases h
 |indexAddr t a i=>
  simp only[Aq]at h
  split at h
  ·split at h
   ·split at h
    ·split at h
     ·split at h
      ·cases zy h
       simp[Ah,Af,Ae]at hid
      ·cases h
     ·cases h
    ·cases h
   ·cases h
  ·cases h
 |slice t a lo hi mx=>
  cases mx with
  |none=>
   simp only[Aq]at h
   split at h
   ·split at h
    ·split at h
     ·cases zy h
      simp[Ah,Af,Ae]at hid
     ·cases h
    ·cases h
   ·cases h
  |some m=>
   cases hi with
   |none=>simp[Aq]at h
   |some h'=>
   simp only[Aq]at h
   split at h
   ·split at h
    ·split at h
     ·cases zy h
      simp[Ah,Af,Ae]at hid
     ·cases h
    ·cases h
   ·split at h
    ·split at h
     ·cases zy h
      simp[Ah,Af,Ae]at hid
     ·cases h
    ·cases h
   ·cases h
 |extract a k=>
  simp only[Aq]at h
  split at h
  ·rename_i vs hx;have h1:=hρ a;rw[hx]at h1;obtain⟨us,hy,hl⟩:=h1;obtain⟨u,hu,hr⟩:=hl.get k x h;refine⟨a,?_⟩
   rw[hx];refine zb0.2 ⟨x,za5 h,?_⟩
   cases x with
   |tup l=>exact hr.elim
   |_=>exact hid
  ·cases h
 |makeFunc fn first caps=>
  cases fn with
  |func f=>
   simp only[Aq]at h
   split at h
   ·rename_i hc;cases zy h
    obtain⟨z,hz,hid⟩:=zb0.1 hid;simp only[ze0]at hz;obtain⟨y,hy,rfl⟩:=hz;exact⟨y,Y6 hid⟩
   ·cases h
  |_=>simp[Aq]at h
 |call c=>
  obtain⟨callee,args,tys⟩:=c;cases callee with
  |value f=>simp[Aq]at h
  |invoke r m=>simp[Aq]at h
  |builtin b=>
   cases b with
   |len=>
    simp only[Aq]at h
    split at h
    ·split at h<;>first|(cases zy h;simp[Ah,Af,Ae]at hid)|cases h
    ·cases h
   |min=>
    simp only[Aq]at h
    split at h
    ·rw[EP h]at hid;simp at hid
    ·cases h
   |max=>
    simp only[Aq]at h
    split at h
    ·rw[EP h]at hid;simp at hid
    ·cases h
   |_=>simp[Aq]at h
 |_=>simp[Aq]at h
theorem IX{x:V}{b:Nat}(hw:Dz B hp)(hx:∀id∈Ah x,B id):GP B b x hp:=⟨fun id h=>.inl (hx id h),hw.more b⟩
theorem Zr{x:V}{b:Nat}{k:Blk}(hw:Dz B hp)(hx:∀id∈Ah x,Tp B b id)(hk:∀id∈Ck k,B id):GP B b x (inst hp b [k]):=by
 refine⟨hx,fun id k' h=> ?_⟩
 simp only[inst,upd]at h
 split at h
 ·rename_i he;cases h
  exact⟨.inr ⟨by omega,by omega⟩,fun j hj=>.inl (hk j hj)⟩
 ·exact⟨.inl (hw id k' h).1,fun j hj=>.inl ((hw id k' h).2 j hj)⟩
theorem Av8{b:Nat}(c:MCtx P w0 U A B E G hp w ρ ρr b){id r:Nat}{k:Blk}{row:List V}(hk:hp id=some k)(hr:k.rows[r]? =some row){z:V}(hz:z∈row):Ah z=Ae z/\∀i∈Ae z,B i:=by
 have hb:=c.inv.blk id k hk;obtain⟨j,hj⟩:=ze3 hz;unfold AU at hb;cases hkk:k.kind with
 |box=>
  rw[hkk]at hb;obtain⟨b',row',cur,h1,h2,h3,h4,h5,h6⟩:=hb;have hrow:row=row':=by
   rw[h3]at hr;cases r with
   |zero=>simpa using hr.symm
   |succ r=>simp at hr
  subst hrow;obtain⟨y,hy,hv,_⟩:=h6.get j z hj;refine⟨X7 hv,fun i hi=>(c.wf id k hk).2 i ?_⟩
  unfold Ck;rw[hkk,h3];simp only[zb2,List.flatMap_nil,List.append_nil,zb0];exact⟨z,hz,hi⟩
 |arr=>
  rw[hkk]at hb;rcases hb with⟨h1,_⟩|⟨b',cur,cap,h1,h2,h3,h4,h5,h6,h7,h8⟩
  ·rw[h1]at hr;simp at hr
  ·obtain⟨u,_,hrep⟩:=h8 r j row z hr hj;have:=SQ hrep;exact⟨by rw[this,HK hrep],fun i hi=>by rw[HK hrep]at hi;simp at hi⟩
 |frz=>
  rw[hkk]at hb;rcases hb with⟨h1,_⟩|⟨b',cur,cap,fz,h1,h0,h2,h3,h4,h5,h6,h7,h8⟩
  ·rw[h1]at hr;simp at hr
  ·obtain⟨u,_,hrep⟩:=h8 r j row z hr hj;have:=SQ hrep;exact⟨by rw[this,HK hrep],fun i hi=>by rw[HK hrep]at hi;simp at hi⟩
theorem Xw{g:Bool}{l:List V}{x:V}(h:mk g l=some x)(hl:∀z∈l,Ah z=Ae z/\∀i∈Ae z,B i):∀id∈Ah x,B id:=by
 intro id hid;unfold mk at h
 split at h
 ·cases h
  obtain⟨z,hz,hid⟩:=zb0.1 hid;exact(hl z hz).2 id hid
 ·split at h
  ·cases h
   obtain⟨h1,h2⟩:=hl x (by simp);rw[h1]at hid;exact h2 id hid
  ·cases h
theorem AO1{op:Op}{x:V}{b:Nat}{new:List Blk}(c:MCtx P w0 U A B E G hp w ρ ρr b)(h:A4 P op ρ hp b=some (x,new)):GP B b x (inst hp b new):=by
 cases op with
 |alloc t=>
  simp only[A4]at h
  split at h
  ·rename_i d hd;cases zy h
   refine Zr c.wf (fun id hid=> ?_) (fun id hid=> ?_)
   ·simp[Ah,Af,Ae]at hid;subst hid;exact .inr ⟨za8 _,by omega⟩
   ·simp only[Ck,K4,zb2,List.flatMap_nil,List.append_nil,zb0]at hid;obtain⟨z,hz,hid⟩:=hid;have:=Vi hd z hz;have:=Y6 hid
    simp_all
  ·cases h
 |box t a=>
  simp only[A4]at h
  split at h
  ·rename_i d hd
   split at h
   ·cases zy h
    refine Zr c.wf (fun id hid=> ?_) (fun id hid=> ?_)
    ·simp[Ah,Af,Ae]at hid;subst hid;exact .inr ⟨za8 _,by omega⟩
    ·simp only[Ck,K4,zb2,List.flatMap_nil,List.append_nil]at hid;exact c.ids a id (Ke hid)
   ·cases h
  ·cases h
 |load t a=>
  simp only[A4]at h
  split at h
  ·rename_i d hd
   split at h
   ·rename_i row cc hx
    split at h
    ·rename_i x' hb;cases zy h
     have ha:=c.rel a;rw[hx]at ha;obtain⟨bb,off,f,hg,hy,hrel⟩:=ha;cases hseg:seg row cc d.size with
     |none=>simp[hseg]at hb
     |some cs=>
      rw[hseg,za0]at hb;refine IX c.wf (Xw hb fun z hz=> ?_)
      obtain⟨j,hj⟩:=ze3 (Wi hseg hz);have hrep:=(hrel j z hj).2;have:=SQ hrep;exact⟨by rw[this,HK hrep],fun i hi=>by rw[HK hrep]at hi;simp at hi⟩
    ·cases h
   ·rename_i id r cc hx
    split at h
    ·rename_i k hk
     split at h
     ·rename_i row hr
      split at h
      ·rename_i cs hseg
       split at h
       ·split at h
        ·rename_i x' hm;cases zy h
         exact IX c.wf (Xw hm fun z hz=>Av8 c hk hr (Wi hseg hz))
        ·cases h
       ·cases h
      ·cases h
     ·cases h
    ·cases h
   ·cases h
  ·cases h
 |indexAddr t a i=>
  simp only[A4]at h
  split at h
  ·rename_i id lo n k j hx hi
   split at h
   ·split at h
    ·split at h
     ·cases zy h
      refine IX c.wf (fun i' hi'=>c.ids a i' ?_)
      rw[hx];exact hi'
     ·cases h
    ·cases h
   ·cases h
  ·cases h
 |makeSlice t l m=>
  simp only[A4]at h
  split at h
  ·split at h
   ·rename_i d hd
    split at h
    ·rename_i hc;cases zy h
     refine Zr c.wf (fun id hid=> ?_) (fun id hid=> ?_)
     ·simp[Ah,Af,Ae]at hid;subst hid;exact .inr ⟨za8 _,by omega⟩
     ·simp[Ck,AG]at hid
    ·cases h
   ·cases h
  ·cases h
 |convert s d a=>
  simp only[A4]at h
  split at h
  ·split at h
   ·split at h
    ·cases zy h
     exact IX c.wf (fun i hi=>by simp[Ah,Af,Ae]at hi)
    ·cases h
   ·cases h
  ·split at h
   ·split at h
    ·split at h
     ·cases zy h
      exact IX c.wf (fun i hi=>by simp[Ah,Af,Ae]at hi)
     ·cases h
    ·cases h
   ·cases h
  ·split at h
   ·cases zy h
    exact IX c.wf (fun i hi=>by simp[Ah,Af,Ae]at hi)
   ·cases h
  ·split at h
   ·cases zy h
    exact IX c.wf (fun i hi=>by simp[Ah,Af,Ae]at hi)
   ·cases h
  ·cases h
 |_=>simp[A4]at h
theorem Am6{op:Op}{b:Nat}{o:Oper}{a:Act}{x:V}(c:MCtx P w0 U A B E G hp w ρ a.eval b)(ho:o.op=op)(h:Aq P op ρ=some x):
  CG P w0 U A B E G hp w o a x hp/\GP B b x hp:=
 ⟨(B9.same c (AR8 (fun _=>rfl) c.rel h)).steps ho,IX c.wf fun id hid=>by obtain⟨y,hy⟩:=AI1 c.rel h id hid;exact c.ids y id hy⟩
theorem AH9{op:Op}{b:Nat}{o:Oper}{a:Act}{x:V}{new:List Blk}(c:MCtx P w0 U A B E G hp w ρ a.eval b)(ho:o.op=op)(h:A4 P op ρ hp b=some (x,new)):
  CG P w0 U A B E G hp w o a x (inst hp b new)/\GP B b x (inst hp b new):=⟨(AR7 c h).steps ho,AO1 c h⟩
theorem Zn{R:Rel}{cf:Cfg}(hR:RSpec P J U w0 R){op:Op}{o:Oper}{a:Act}{b:Nat}{K:BP}
  (c:MCtx P w0 U A B E G hp w ρ a.eval b) (ho:o.op=op) (h:Bi P R cf op b ρ hp K):∃x hp' cls,K x hp' cls/\CG P w0 U A B E G hp w o a x hp'/\GP B b x hp':=by
 have rest:(match Aq P op ρ with|some x=>K x hp .T|none=>Bl (A4 P op ρ hp b) fun z=>z.2.length<=16/\K z.1 (inst hp b z.2) .M)->∃x hp' cls,K x hp' cls/\CG P w0 U A B E G hp w o a x hp'/\GP B b x hp':=by
  intro h
  split at h
  ·rename_i x hx;obtain⟨h1,h2⟩:=Am6 c ho hx;exact⟨_,_,_,h,h1,h2⟩
  ·obtain⟨z,hz,_,hK⟩:=Aa h;obtain⟨h1,h2⟩:=AH9 c ho (x:=z.1) (new:=z.2) hz;exact⟨_,_,_,hK,h1,h2⟩
 unfold Bi at h
 split at h
 ·rename_i t ad x;obtain⟨hp',h1,h2,h3⟩:=XT c ho h;exact⟨_,_,_,h1,h2,h3⟩
 ·exact WS c ho h
 ·rename_i t x lo hi
  split at h
  ·obtain⟨z,hz,hK⟩:=Aa h;obtain⟨h1,h2⟩:=Am6 c ho hz;exact⟨_,_,_,hK,h1,h2⟩
  ·exact XR c ho h
 ·split at h
  ·rename_i hargs;exact Vw c ho hargs h
  ·exact h.elim
 ·split at h
  ·rename_i hf;exact Yu hR c ho hf h
  ·exact h.elim
 ·exact rest h
end
section
open Go
variable {P:Program} {J:F3} {w w' w0:World} {E E' E0:Env} {hp hp' hp0:Hp} {G G' G0 U A W F S:Nat->Prop} {B B':Nat->Prop} {ρ:Operand->V} {ρr:Operand->Value}
theorem Ap6{e:Nat}(hI:HpInv w0 U A E0 G0 hp0 w)(hx:Ext (fun j=>j<e) E0 G0 hp0 w E' G' hp' w'){j:Nat}(hj:j<e){k':Blk}(hk':hp' j=some k'):
  ∃k,hp0 j=some k/\(k.kind≠ .box->k'.kind≠ .box/\k.rows.length<=k'.rows.length)/\∀b,E0.m j=some b->k'.size=k.size/\E'.m j=some b:=by
 cases hk:hp0 j with
 |none=>
  exfalso
  have h1:=hx.v0 (.rf j 0 0) (.pointer (some ⟨0,0,none⟩)) (fun id hid=>by simp[Ae]at hid;subst hid;exact hj) ⟨0,0,rfl,fun k h=>by rw[hk]at h;cases h⟩;have h2:=hx.v0 (.rf j 0 0) (.pointer (some ⟨1,0,none⟩)) (fun id hid=>by simp[Ae]at hid;subst hid;exact hj) ⟨1,0,rfl,fun k h=>by rw[hk]at h;cases h⟩;obtain⟨b1,o1,e1,f1⟩:=h1;obtain⟨b2,o2,e2,f2⟩:=h2;cases e1
  cases e2
  have:=(f1 k' hk').1;rw[(f2 k' hk').1]at this;cases this
 |some k=>
  have hin:∀id∈([j]:List Nat),id<e:=fun id hid=>by simp at hid;subst hid;exact hj
  refine⟨k,rfl,fun hkind=>⟨?_,?_⟩,fun b hb=> ?_⟩
  ·obtain⟨a,cap,hy,h⟩:=hx.v0 (.ar j 0 0) (.slice none 0 0) hin ⟨none,0,rfl,fun k1 h1=>by rw[hk]at h1;cases h1;exact⟨hkind,by omega,.inl ⟨rfl,rfl⟩⟩⟩;exact(h k' hk').1
  ·by_cases h0:k.rows.length=0
   ·omega
   ·have hb:=hI.blk j k hk;unfold AU at hb;have key:∀(bb cap:Nat)(cur:Array Value)(ty:TypeId)(fz:Nat×Nat),k.kind≠ .box->E0.m j=some bb->w.heap[bb]? =some (.cells cur ty fz)->cur.size=cap*k.size->k.rows.length<=cap->k.rows.length<=k'.rows.length:=by
     intro bb cap cur ty fz hkd hm hh hs hc;obtain⟨a,cap',hy,h⟩:=hx.v0 (.ar j 0 k.rows.length) (.slice (some ⟨bb,0,none⟩) k.rows.length cap) hin ⟨_,_,rfl,fun k1 h1=>by
      rw[hk]at h1;cases h1
      exact⟨hkd,by omega,.inr ⟨bb,cur,ty,fz,hm,by simp,hc,hh,by rw[hs];simp⟩⟩⟩
     have:=(h k' hk').2.1;omega
    cases hkk:k.kind with
    |box=>
     exact absurd hkk hkind
    |arr=>
     rw[hkk]at hb;rcases hb with⟨q1,_⟩|⟨bb,cur,cap,q1,q2,q3,q4,q5,q6,_⟩
     ·rw[q1]at h0;simp at h0
     ·exact key bb cap cur _ _ (by rw[hkk];simp) q1 q2 q4 q6
    |frz=>
     rw[hkk]at hb;rcases hb with⟨q1,_⟩|⟨bb,cur,cap,fz,q1,q0,q2,q3,q4,q5,q6,_⟩
     ·rw[q1]at h0;simp at h0
     ·exact key bb cap cur _ _ (by rw[hkk];simp) q1 q2 q4 q6
  ·obtain⟨b1,o1,e1,f1⟩:=hx.v0 (.rf j 1 0) (.pointer (some ⟨b,k.size,none⟩)) hin ⟨b,k.size,rfl,fun k1 h1=>by rw[hk]at h1;cases h1;exact⟨hb,by omega⟩⟩;cases e1
   obtain⟨g1,g2⟩:=f1 k' hk';exact⟨by omega,g1⟩
structure SB (w0:World) (U A:Nat->Prop) (E0:Env) (G0:Nat->Prop) (hp0:Hp) (e nt:Nat) (B:Nat->Prop) (tm:Tm) (hp:Hp) (a:Act) (w:World):Prop where
 size:a.tmps.size=nt
 defers:a.defers=[]
 low:∀j,j<e->B j
 env:∃E G,HpInv w0 U A E G hp w/\Dz B hp/\(∀t,VR2 w E hp G (tm t) (a.tmps.getD t undef))/\(∀t,∀id∈Ah (tm t),B id)/\Ext (fun j=>j<e) E0 G0 hp0 w0 E G hp w
theorem RY(c:Value):Ah (Hy c)=[]:=by
 have h0:∀x,Ah (CM x)=[]/\Ae (CM x)=[]:=by
  intro x;unfold CM
  split
  ·exact⟨rfl,rfl⟩
  ·split<;>exact⟨rfl,rfl⟩
 unfold Hy
 split
 ·rename_i cs;show(cs.toList.map CM).flatMap Ae=[];rw[List.flatMap_eq_nil_iff];intro x hx;obtain⟨y,_,rfl⟩:=ze0.1 hx;exact(h0 y).2
 ·exact(h0 _).1
theorem UV{tm:Tm}(h:∀t,∀id∈Ah (tm t),B id)(x:Operand):∀id∈Ah (Ax tm x),B id:=by
 cases x with
 |tmp t=>exact h t
 |const c=>intro id hid;rw[Ax,RY]at hid;simp at hid
 |global g=>intro id hid;simp[Ax,Ah,Af,Ae]at hid
 |func f=>intro id hid;simp[Ax,Ah,Af]at hid
theorem L5{tm:Tm}{dst:Option Tmp}{x:V}{t:Nat}:put tm dst x t=tm t\/(dst=some t/\put tm dst x t=x):=by
 unfold put;cases dst with
 |none=>exact .inl rfl
 |some d=>
  simp only[upd];by_cases h:t=d
  ·subst h;right;simp
  ·left;simp[h]
theorem Zw{a:Act}{dst:Option Tmp}{y:Value}(hd:∀d,dst=some d->d<a.tmps.size):(a.put dst y).tmps.size=a.tmps.size/\(a.put dst y).defers=a.defers/\
  ∀t,(a.put dst y).tmps.getD t undef=if dst=some t then y else a.tmps.getD t undef:=by
 cases dst with
 |none=>exact⟨rfl,rfl,fun t=>by simp[Act.put]⟩
 |some d=>
  refine⟨by simp[Act.put],rfl,fun t=> ?_⟩
  have hlt:=hd d rfl;simp only[Act.put,zb7,zb,Array.getElem?_setIfInBounds];by_cases h:d=t
  ·subst h;simp[hlt]
  ·simp[h]
theorem SB.put{e nt:Nat}{tm:Tm}{a:Act}(h:SB w0 U A E0 G0 hp0 e nt B tm hp a w){dst:Option Tmp}{x:V}{y:Value}(hd:∀d,dst=some d->d<nt)
  (hx:∀E G,HpInv w0 U A E G hp w->VR2 w E hp G x y) (hr:Ah x=[]):SB w0 U A E0 G0 hp0 e nt B (put tm dst x) hp (a.put dst y) w:=by
 obtain⟨E,G,h1,h2,h3,h4,h5⟩:=h.env;obtain⟨p1,p2,p3⟩:=Zw (a:=a) (dst:=dst) (y:=y) (fun d hh=>by rw[h.size];exact hd d hh);refine⟨p1.trans h.size,p2.trans h.defers,h.low,E,G,h1,h2,fun t=> ?_,fun t id hid=> ?_,h5⟩
 ·rw[p3];unfold Ev.put;cases dst with
  |none=>simpa using h3 t
  |some d=>
   simp only[upd,zb];by_cases ht:t=d
   ·subst ht;simpa using hx E G h1
   ·have:¬d=t:=fun hh=>ht hh.symm
    simpa[ht,this]using h3 t
 ·rcases L5 (tm:=tm) (dst:=dst) (x:=x) (t:=t)with hp|⟨_,hp⟩
  ·rw[hp]at hid;exact h4 t id hid
  ·rw[hp,hr]at hid;simp at hid
theorem SB.mono{e nt:Nat}{tm:Tm}{a:Act}(h:SB w0 U A E0 G0 hp0 e nt B tm hp a w)(hB:∀i,B i->B' i):SB w0 U A E0 G0 hp0 e nt B' tm hp a w:=by
 obtain⟨E,G,h1,h2,h3,h4,h5⟩:=h.env;exact⟨h.size,h.defers,fun j hj=>hB j (h.low j hj),E,G,h1,fun id k hk=>⟨hB id (h2 id k hk).1,fun j hj=>hB j ((h2 id k hk).2 j hj)⟩,h3,fun t id hid=>hB id (h4 t id hid),h5⟩
theorem SB.step{R:Rel}{cf:Cfg}(hR:RSpec P J U w0 R){o:Oper}{a:Act}{b e nt:Nat}{tm:Tm}{K:BP}
  (h:SB w0 U A E0 G0 hp0 e nt B tm hp a w) (hnew:∀j,j<16->¬B (b+j)) (hd:∀d,o.dst=some d->d<nt) (hK:Bi P R cf o.op b (Ax tm) hp K):
  ∃x hp' cls,K x hp' cls/\∀(next:Act->World->Prop)(Q:Exit->Act->World->Prop),
   (∀a' w',SB w0 U A E0 G0 hp0 e nt (Tp B b) (Ev.put tm o.dst x) hp' a' w'->next a' w')->o.wp P a w next Q:=by
 obtain⟨E,G,h1,h2,h3,h4,h5⟩:=h.env;obtain⟨x,hp',cls,hk,hs,hw⟩:=Zn hR (o:=o) (a:=a) (b:=b) ⟨h1,h2,fun x=>NP h3 x,fun x=>UV h4 x,hnew⟩ rfl hK;refine⟨x,hp',cls,hk,fun next Q hn=>hs next Q fun y w' E' G' g1 g2 g3=>hn _ _ ?_⟩
 obtain⟨p1,p2,p3⟩:=Zw (a:=a) (dst:=o.dst) (y:=y) (fun d hh=>by rw[h.size];exact hd d hh);refine⟨p1.trans h.size,p2.trans h.defers,fun j hj=>.inl (h.low j hj),E',G',g1,hw.2,fun t=> ?_,fun t id hid=> ?_,?_⟩
 ·rw[p3];have hold:VR2 w' E' hp' G' (tm t) (a.tmps.getD t undef):=g3.v2 _ _ (h4 t) (h3 t);unfold Ev.put;cases hdst:o.dst with
  |none=>simpa using hold
  |some d=>
   simp only[upd,zb];by_cases ht:t=d
   ·subst ht;simpa using g2
   ·have:¬d=t:=fun hh=>ht hh.symm
    simpa[ht,this]using hold
 ·rcases L5 (tm:=tm) (dst:=o.dst) (x:=x) (t:=t)with hp|⟨_,hp⟩
  ·rw[hp]at hid;exact .inl (h4 t id hid)
  ·rw[hp]at hid;exact hw.1 id hid
 ·exact h5.trans g3 h.low
end
section
open Go
variable {P:Program} {J:F3} {w w' w0:World} {E E' E0:Env} {hp hp' hp0:Hp} {G G' G0 U A W F S:Nat->Prop} {B B':Nat->Prop} {ρ:Operand->V} {ρr:Operand->Value}
theorem RO{x:V}{F:Bool->Prop}(h:Uo x F):∃t,x=.v (.bool t)/\F t:=by
 unfold Uo at h
 split at h
 ·exact⟨_,rfl,h⟩
 ·exact h.elim
theorem SB.bool{e nt:Nat}{tm:Tm}{a:Act}(h:SB w0 U A E0 G0 hp0 e nt B tm hp a w){d:Nat}{t:Bool}(hd:tm d=.v (.bool t)):a.tmps[d]? =some (.bool t):=by
 obtain⟨E,G,h1,h2,h3,h4,h5⟩:=h.env;have:=h3 d;rw[hd]at this;have hy:=(F0 this).1;rw[zb7]at hy;cases hh:a.tmps[d]? with
 |some v=>rw[hh]at hy;exact congrArg some hy
 |none=>rw[hh]at hy;cases hy
theorem SB.wanted{e nt:Nat}{tm:Tm}{a:Act}(h:SB w0 U A E0 G0 hp0 e nt B tm hp a w){ops:Array Oper}{o:Oper}{j:Nat}{want t:Bool}{d:Nat}
  (hg:o.guard=some (j,want)) (hj:(ops[j]?).bind (·.dst)=some d) (hd:OF (tm d) want=some t):Region.wanted o (yielded ops a.tmps)=t:=by
 unfold Region.wanted yielded;rw[hg];simp only[hj,za0];unfold OF at hd
 split at hd
 ·rename_i he;cases hd
  have:=h.bool he;simp only[this];rfl
 ·rename_i he;cases hd
  obtain⟨E,G,h1,h2,h3,h4,h5⟩:=h.env;have:=h3 d;rw[he]at this;obtain⟨us,hu,_⟩:=this;rw[zb7]at hu;cases hh:a.tmps[d]? with
  |some v=>rw[hh]at hu;have hu:v=.tuple us:=hu;subst hu;rfl
  |none=>rfl
 ·cases hd
theorem Al5{R:Rel}{cf:Cfg}{e nt:Nat}{b:Nat}{tm:Tm}{a:Act}{o:Oper}{K:BP}{next:Act->World->Prop}{Q:Exit->Act->World->Prop}
  (hR:RSpec P J U w0 R) (h:SB w0 U A E0 G0 hp0 e nt B tm hp a w) (hnew:∀j,j<16->¬B (b+j)) (hd:∀d,o.dst=some d->d<nt)
  (hK:Bi P R cf o.op b (Ax tm) hp K) (hn:∀x hp' cls a' w',K x hp' cls->SB w0 U A E0 G0 hp0 e nt (Tp B b) (Ev.put tm o.dst x) hp' a' w'->next a' w'):o.wp P a w next Q:=by
 obtain⟨x,hp',cls,hk,hs⟩:=h.step hR hnew hd hK;exact hs next Q fun a' w' hsb=>hn x hp' cls a' w' hk hsb
theorem Zx{y:Value}:VR2 w E hp G .any y:=trivial
theorem O5:VR2 w E hp G (.tup []) undef:=⟨#[],rfl,trivial⟩
theorem UW{R:Rel}{cf:Cfg}(hR:RSpec P J U w0 R){e nt:Nat}{ops:Array Oper}{Q:Exit->Act->World->Prop}{c:Nat}{K:St->Prop}:
  ∀(l:List Oper)(i:Nat)(tm:Tm)(hp:Hp)(a:Act)(w:World),(∀o∈l,∀d,o.dst=some d->d<nt)->BZ P R cf ops.toList false l i ⟨tm,hp,c⟩ K->
   SB w0 U A E0 G0 hp0 e nt (fun id=>id<16*(c+i)) tm hp a w->
   (∀tm' hp' a' w',K ⟨tm',hp',c⟩->SB w0 U A E0 G0 hp0 e nt (fun id=>id<16*(c+(i+l.length))) tm' hp' a' w'->Q .normal a' w')->wpList P ops Q l a w
 |[],i,tm,hp,a,w,_,h,hs,hQ=>hQ tm hp a w h (by simpa using hs)
 |o::l,i,tm,hp,a,w,hd,h,hs,hQ=>by
  have hmore:∀id,Tp (fun id=>id<16*(c+i)) (16*(c+i)) id->id<16*(c+(i+1)):=fun id h=>by rcases h with h|h<;>omega
  have hrest:∀x hp' a' w',BZ P R cf ops.toList false l (i+1) ⟨put tm o.dst x,hp',c⟩ K->SB w0 U A E0 G0 hp0 e nt (Tp (fun id=>id<16*(c+i)) (16*(c+i))) (Ev.put tm o.dst x) hp' a' w'->wpList P ops Q l a' w':=
   fun x hp' a' w' hK hsb=>UW hR l (i+1) _ _ a' w' (fun o ho=>hd o (by simp[ho])) hK (hsb.mono hmore) fun tm2 hp2 a2 w2 h1 h2=>hQ tm2 hp2 a2 w2 h1 (by
    refine h2.mono fun id hid=> ?_
    simp only[zc6];omega)
  unfold BZ at h;have hop:F4 P R cf false o.op (16*(c+i)) (Ax tm) hp (fun x hp cls=>
    drawn false (eOK ops.toList i) cls (BZ P R cf ops.toList false l (i+1) {tm:=put tm o.dst x,hp:=hp,c:=c} K))->o.wp P a w (wpList P ops Q l) Q:=by
   intro h;exact Al5 hR hs (fun j hj=>by omega) (hd o (by simp)) h fun x hp' cls a' w' hK hsb=>hrest x hp' a' w' hK hsb
  unfold wpList
  split at h
  ·rename_i hg;have hw:Region.wanted o (yielded ops a.tmps)=true:=by simp[Region.wanted,hg]
   rw[zw hw];exact .inl (hop h)
  ·rename_i j want hg;obtain⟨y,hy,h⟩:=Aa h;obtain⟨t,hyt,h'⟩:=Aa h
   clear h
   simp only[zb4]at hy;obtain⟨d,hjd,hyd⟩:=hy;have hjd':(ops[j]?).bind (·.dst)=some d:=by simpa using hjd
   have hwant:=hs.wanted hg hjd' (hyd▸hyt);cases t with
   |true=>
    simp only[if_true]at h';rw[hwant,zw rfl];exact .inl (hop h')
   |false=>
    simp only[zb8,if_false]at h';rw[hwant];simp only[zb8,if_false];refine hrest (.tup []) hp _ _ h' ?_
    exact(hs.put (hd o (by simp)) (fun E G _=>O5) rfl).mono fun _ h=>.inl h
theorem V3{R:Rel}{cf:Cfg}(hR:RSpec P J U w0 R){e nt id:Nat}{ops:Array Oper}{Q:Exit->Act->World->Prop}{st:St}{K:St->Prop}{a:Act}
  (hd:∀o∈ops.toList,∀d,o.dst=some d->d<nt) (h:BZ P R cf ops.toList false ops.toList 0 st fun s=>K {s with c:=s.c+ops.size})
  (hs:SB w0 U A E0 G0 hp0 e nt (fun id=>id<16*st.c) st.tm st.hp a w)
  (hQ:∀st' a' w',K st'->SB w0 U A E0 G0 hp0 e nt (fun id=>id<16*st'.c) st'.tm st'.hp a' w'->Q .normal a' w'):(Code.region id ops false).wp P Q a w:=by
 obtain⟨tm,hp,c⟩:=st;refine wp_region_list (UW hR ops.toList 0 tm hp a w hd h (by simpa using hs) fun tm' hp' a' w' hK h'=>hQ _ a' w' hK ?_)
 simpa using h'
end
section
open Go
variable {P:Program} {w w' w0:World} {E E' E0:Env} {hp hp' hp0:Hp} {G G' G0 U A W F S:Nat->Prop} {B B':Nat->Prop}
structure NS (w0:World) (U A:Nat->Prop) (B:Nat->Prop) (b n:Nat) (E:Env) (G:Nat->Prop) (hp:Hp) (w:World) (hp':Hp) (E':Env) (G':Nat->Prop):Prop where
 inv:HpInv w0 U A E' G' hp' w
 wf:Dz (fun i=>B i\/(b<=i/\i<b+n)) hp'
 ext:Ext B E G hp w E' G' hp' w
 box:∀id k,B id->hp id=some k->k.kind=.box->hp' id=some k
theorem Dz.mono(h:Dz B hp)(hb:∀i,B i->B' i):Dz B' hp:=fun id k hk=>⟨hb id (h id k hk).1,fun j hj=>hb j ((h id k hk).2 j hj)⟩
theorem NS.refl(hI:HpInv w0 U A E G hp w)(hw:Dz B hp){b:Nat}:NS w0 U A B b 0 E G hp w hp E G:=
 ⟨hI,hw.mono fun _ h=>.inl h,Ext.refl _ _ _ _ _,fun _ _ _ h _=>h⟩
theorem AJ7(hI:HpInv w0 U A E G hp w){id lo n:Nat}{k:Blk}{y:Value}(hy:VR0 w E hp G (.ar id lo n) y)(hk:hp id=some k)(hkk:k.kind=.frz):Rep w G (.im ((k.rows.take (lo+n)).drop lo)) y:=by
 refine RD hI hy hk (fun b hb=> ?_) (fun b hb=> ?_)
 ·have:=hI.blk id k hk;unfold AU at this;simp only[hkk]at this;rcases this with⟨_,h2⟩|⟨b',_,_,_,h1,h1',_⟩
  ·rw[hb]at h2;cases h2
  ·rw[hb]at h1;cases h1;exact h1'
 ·rw[zi (by simp[hkk])]at hb;exact hb
theorem P9{m:Md}{x x':V}{y:Value}{b n:Nat}(hI:HpInv w0 U A E G hp w)(hw:Dz B hp)(hv:VR0 w E hp G x y)(hx:∀i∈Ae x,B i)(hb:∀i,b<=i->¬B i)(h:Kv m x hp b=some (x',hp',n)):
  ∃E' G',NS w0 U A B b n E G hp w hp' E' G'/\VR0 w E' hp' G' x' y/\(∀i∈Ae x',B i\/(b<=i/\i<b+n)):=by
 unfold Kv at h
 split at h
 ·cases h;exact⟨E,G,NS.refl hI hw,hv,fun i hi=>.inl (hx i hi)⟩
 ·rename_i ty size deep
  split at h
  ·cases h
   have hfr:hp b=none:=HpInv.fresh hw (hb b (za8 _));obtain⟨g1,g2⟩:=hI.add hw (hb b (za8 _)) (Fr.refl (fun _=>False) w) GJ.none (fun _ h=>h.elim) (AG ty size deep []) none (fun _=>False) (fun _ h=>by cases h) (fun _ h=>h.elim) (by
    unfold AU AG;exact .inl ⟨rfl,by simp[upd]⟩)
   refine⟨_,_,⟨g1,fun id k hk=> ?_,g2,fun id k hid hk _=> ?_⟩,?_,fun i hi=> ?_⟩
   ·by_cases hid:id=b
    ·subst hid;simp only[upd,if_true,zb]at hk;subst hk;exact⟨.inr ⟨za8 _,by omega⟩,fun j hj=>by simp[Ck,AG]at hj⟩
    ·simp only[upd,zi hid]at hk;exact⟨.inl (hw id k hk).1,fun j hj=>.inl ((hw id k hk).2 j hj)⟩
   ·have:id≠b:=fun he=>hb b (za8 _) (he▸hid)
    simp only[upd,zi this];exact hk
   ·cases hv with
    |em a=>
     refine⟨a,0,rfl,fun k hk=> ?_⟩
     simp only[upd,if_true,zb]at hk;subst hk;exact⟨by simp[AG],by simp[AG],.inl ⟨rfl,rfl⟩⟩
   ·simp only[Ae,List.mem_singleton]at hi;subst hi;exact .inr ⟨za8 _,by omega⟩
  ·split at h
   ·split at h
    ·cases h;exact⟨E,G,NS.refl hI hw,hv,fun i hi=>.inl (hx i hi)⟩
    ·cases h
   ·cases h
  ·cases h
 ·split at h
  ·cases h
   refine⟨E,G,NS.refl hI hw,?_,fun i hi=>by simp[Ae]at hi⟩
   cases hv with
   |em a=>exact Rep.im0 a 0
  ·cases h;exact⟨E,G,NS.refl hI hw,hv,fun i hi=>.inl (hx i hi)⟩
  ·rename_i id lo n'
   split at h
   ·rename_i k hk;have key:∀rows,some (V.im rows,freeze hp [id],0)=some (x',hp',n)->rows=(k.rows.take (lo+n')).drop lo->k.kind≠ .box->∃E' G',NS w0 U A B b n E G hp w hp' E' G'/\VR0 w E' hp' G' x' y/\(∀i∈Ae x',B i\/(b<=i/\i<b+n)):=by
     intro rows h hr hkb;cases h
     obtain⟨G1,h1,h2,h3,h4⟩:=hI.freezeL (B:=B) [id];refine⟨E,G1,⟨h1,(hw.freeze [id]).mono fun _ h=>.inl h,h2,fun j kj hj hkj hkk=> ?_⟩,?_,fun i hi=>by simp[Ae]at hi⟩
     ·by_cases hji:j=id
      ·subst hji;rw[hk]at hkj;cases hkj;exact absurd hkk hkb
      ·rw[Hv _ _ _ (by simpa using hji)];exact hkj
     ·have hk':freeze hp [id] id=some {k with kind:=.frz}:=by
       simp only[freeze,upd,if_true,hk,zd1,zb];cases hkk:k.kind with
       |box=>exact absurd hkk hkb
       |arr=>rfl
       |frz=>rfl
      have:=AJ7 h1 (h2.v0 _ _ hx hv) hk' rfl;rw[hr];exact this
    split at h
    ·cases h
    ·rename_i hkb;exact key _ h rfl (fun he=>hkb he)
   ·cases h
  ·cases h
theorem NS.trans{hp1 hp2:Hp}{E1 E2:Env}{G1 G2:Nat->Prop}{b n k:Nat}(h:NS w0 U A B b n E G hp w hp1 E1 G1)(g:NS w0 U A (fun i=>B i\/(b<=i/\i<b+n)) (b+n) k E1 G1 hp1 w hp2 E2 G2):NS w0 U A B b (n+k) E G hp w hp2 E2 G2:=
 ⟨g.inv,g.wf.mono fun i hi=>by rcases hi with(hi|hi)|hi;exact .inl hi;exact .inr ⟨hi.1,by omega⟩;exact .inr ⟨by omega,by omega⟩,h.ext.trans g.ext fun _ h=>.inl h,fun id k' hid hk hkk=>g.box id k' (.inl hid) (h.box id k' hid hk hkk) hkk⟩
theorem Ln:∀{ms:List Md}{xs xs':List V}{ys:List Value}{E:Env}{G B:Nat->Prop}{hp hp':Hp}{b n:Nat},HpInv w0 U A E G hp w->Dz B hp->VL (VR0 w E hp G) xs ys->(∀i∈xs.flatMap Ae,B i)->(∀i,b<=i->¬B i)->Kw ms xs hp b=some (xs',hp',n)->
  ∃E' G',NS w0 U A B b n E G hp w hp' E' G'/\VL (VR0 w E' hp' G') xs' ys/\(∀i∈xs'.flatMap Ae,B i\/(b<=i/\i<b+n))
 |[],[],xs',ys,E,G,B,hp,hp',b,n,hI,hw,hv,hx,hb,h=>by
  simp only[Kw,zb,Prod.mk.injEq]at h;obtain⟨rfl,rfl,rfl⟩:=h;exact⟨E,G,NS.refl hI hw,hv,fun i hi=>by simp at hi⟩
 |m::ms,x::xs,xs',ys,E,G,B,hp,hp',b,n,hI,hw,hv,hx,hb,h=>by
  simp only[Kw]at h
  split at h
  ·rename_i z hp1 k1 h1
   split at h
   ·rename_i zs hp2 k2 h2;simp only[zb,Prod.mk.injEq]at h;obtain⟨rfl,rfl,rfl⟩:=h;cases ys with
    |nil=>exact hv.elim
    |cons y ys=>
     obtain⟨E1,G1,s1,v1,r1⟩:=P9 hI hw hv.1 (fun i hi=>hx i (by simp[hi])) hb h1;have hx2:∀i∈xs.flatMap Ae,B i:=fun i hi=>hx i (by rw[zb2];exact List.mem_append_right _ hi)
     obtain⟨E2,G2,s2,v2,r2⟩:=Ln s1.inv s1.wf (hv.2.mono fun x hxm y hxy=>s1.ext.v0 x y (fun i hi=>hx2 i (zb0.2 ⟨x,hxm,hi⟩)) hxy) (fun i hi=>.inl (hx2 i hi))
      (fun i hi hB=>by rcases hB with hB|hB;exact hb i (by omega) hB;omega) h2
     refine⟨E2,G2,s1.trans s2,⟨s2.ext.v0 z y r1 v1,v2⟩,fun i hi=> ?_⟩
     rw[zb2]at hi;rcases zb5.1 hi with hi|hi
     ·rcases r1 i hi with h|h
      ·exact .inl h
      ·exact .inr ⟨h.1,by omega⟩
     ·rcases r2 i hi with(h|h)|h
      ·exact .inl h
      ·exact .inr ⟨h.1,by omega⟩
      ·exact .inr ⟨by omega,by omega⟩
   ·cases h
  ·cases h
 |[],_::_,_,_,_,_,_,_,_,_,_,_,_,_,_,_,h=>by simp[Kw]at h
 |_::_,[],_,_,_,_,_,_,_,_,_,_,_,_,_,_,h=>by simp[Kw]at h
theorem Yt(hI:HpInv w0 U A E G hp w)(hw:Dz B hp){id:Nat}{k:Blk}{row cs:List V}(hk:hp id=some k)(hkk:k.kind=.box)(hrow:k.rows=[row])(hok:cs.all Bk=true)
  (hcs:∀b cur,E.m id=some b->w.heap[b]? =some (.cells cur k.ty (0,0))->VL (VR0 w E hp G) cs cur.toList) (hB:∀i∈cs.flatMap Ae,B i):
  HpInv w0 U A E G (upd hp id (some {k with rows:=[cs]})) w/\Dz B (upd hp id (some {k with rows:=[cs]}))/\Ext B E G hp w E G (upd hp id (some {k with rows:=[cs]})) w:=by
 have hl:AQ k=true:=by simp[AQ,hkk]
 have hsub:∀j kj,upd hp id (some {k with rows:=[cs]}) j=some kj->∃kj',hp j=some kj'/\kj.kind=kj'.kind/\kj.size=kj'.size/\kj.rows.length=kj'.rows.length/\(j≠id->kj=kj'):=by
  intro j kj hj;by_cases hji:j=id
  ·subst hji;simp only[upd,if_true,zb]at hj;subst hj;exact⟨k,hk,rfl,rfl,by simp[hrow],fun h=>absurd rfl h⟩
  ·simp only[upd,zi hji]at hj;exact⟨kj,hj,rfl,rfl,rfl,fun _=>rfl⟩
 have hlv:∀j kj,upd hp id (some {k with rows:=[cs]}) j=some kj->AQ kj=true->∃kj',hp j=some kj'/\AQ kj'=true:=by
  intro j kj hj h1;obtain⟨kj',h2,h3,_⟩:=hsub j kj hj;exact⟨kj',h2,by unfold AQ at h1⊢;rw[<-h3];exact h1⟩
 have hv:∀x y,VR0 w E hp G x y->VR0 w E (upd hp id (some {k with rows:=[cs]})) G x y:=by
  intro x y hv;cases x with
  |ar j lo n=>
   obtain⟨a,cap,hy,hr⟩:=hv;refine⟨a,cap,hy,fun kj hj=> ?_⟩
   obtain⟨kj',h1,h2,h3,h4,_⟩:=hsub j kj hj;obtain⟨r1,r2,r3⟩:=hr kj' h1;exact⟨by rw[h2];exact r1,by rw[h4];exact r2,by rw[h3];exact r3⟩
  |rf j r c=>
   obtain⟨b',o,hy,hr⟩:=hv;refine⟨b',o,hy,fun kj hj=> ?_⟩
   obtain⟨kj',h1,h2,h3,h4,_⟩:=hsub j kj hj;obtain⟨r2,r3⟩:=hr kj' h1;exact⟨r2,by rw[h3];exact r3⟩
  |ir row c=>exact hv
  |v a=>exact hv
  |em=>exact hv
  |er e=>exact hv
  |im rows=>exact hv
  |any=>exact trivial
  |agg cs=>exact hv.elim
  |tup vs=>exact hv.elim
  |cl f caps=>cases caps<;>exact hv
 refine⟨⟨hI.fr,hI.g1,?_,?_,?_,?_,?_⟩,?_,⟨fun x y _ hx=>hv x y hx⟩⟩
 ·rintro x hx ⟨j,kj,hj,hlj,ho⟩;obtain⟨kj',h1,h2⟩:=hlv j kj hj hlj;exact hI.g2 x hx ⟨j,kj',h1,h2,ho⟩
 ·rintro x ⟨j,kj,hj,hlj,ho⟩;obtain⟨kj',h1,h2⟩:=hlv j kj hj hlj;exact hI.o1 x ⟨j,kj',h1,h2,ho⟩
 ·intro j kj j' kj' hj hlj hj' hlj' x ho ho';obtain⟨q,h1,h2⟩:=hlv j kj hj hlj;obtain⟨q',h1',h2'⟩:=hlv j' kj' hj' hlj';exact hI.dis j q j' q' h1 h2 h1' h2' x ho ho'
 ·intro j kj x hj hlj;obtain⟨q,h1,h2⟩:=hlv j kj hj hlj;exact hI.self j q x h1 h2
 ·intro j kj hj;by_cases hji:j=id
  ·subst hji;simp only[upd,if_true,zb]at hj;subst hj;have hb:=hI.blk j k hk;unfold AU at hb⊢
   simp only[hkk]at hb⊢
   obtain⟨b',row',cur,h1,h2,h3,h4,h5,h6⟩:=hb;rw[hrow]at h3;cases h3
   have hc:=hcs _ _ h1 h2;have hlen:=hc.length;have hlen':=h6.length;refine⟨b',cs,cur,h1,h2,rfl,by omega,h5,VL.of_get hlen fun i x u hi hu=>⟨?_,?_⟩⟩
   ·obtain⟨u',hu',hr⟩:=hc.get i x hi;rw[hu]at hu';cases hu'
    have:=hv _ _ hr;rw[hkk]at this;exact this
   ·have hi2:i<row.length:=by have:=(za3.1 hi).1;omega
    obtain⟨u',hu',hr⟩:=h6.get i (row[i]'hi2) (za1 hi2);rw[hu]at hu';cases hu'
    exact hr.2
  ·have hjx:hp j=some kj:=by simpa only[upd,zi hji]using hj
   have hbj:=hI.blk j kj hjx;unfold AU at hbj⊢
   cases hlk:kj.kind with
   |box=>
    simp only[hlk]at hbj⊢
    obtain⟨b',row,cur,h1,h2,h3,h4,h5,h6⟩:=hbj;exact⟨b',row,cur,h1,h2,h3,h4,h5,h6.mono fun x _ y hxy=>⟨hv x y hxy.1,hxy.2⟩⟩
   |arr=>simp only[hlk]at hbj⊢;exact hbj
   |frz=>simp only[hlk]at hbj⊢;exact hbj
 ·intro j kj hj;by_cases hji:j=id
  ·subst hji;simp only[upd,if_true,zb]at hj;subst hj;refine⟨(hw j k hk).1,fun i hi=> ?_⟩
   unfold Ck at hi;simp only[hkk,zb2,List.flatMap_nil,List.append_nil]at hi;exact hB i hi
  ·exact hw j kj (by simpa only[upd,zi hji]using hj)
theorem Qd{m:Mds}{x x':V}{y:Value}{b n:Nat}(hI:HpInv w0 U A E G hp w)(hw:Dz B hp)(hv:VR2 w E hp G x y)(hx:∀i∈Ah x,B i)(hb:∀i,b<=i->¬B i)(h:Qc m x hp b=some (x',hp',n)):
  ∃E' G',HpInv w0 U A E' G' hp' w/\Dz (fun i=>B i\/(b<=i/\i<b+n)) hp'/\Ext B E G hp w E' G' hp' w/\VR2 w E' hp' G' x' y/\(∀i∈Ah x',B i\/(b<=i/\i<b+n))/\(EG x=true->EG x'=true):=by
 unfold Qc at h
 split at h
 ·rename_i m;have key:(∀x',Kv m x hp b=some (x',hp',n)->(VR0 w E hp G x y/\∀i∈Ae x,B i)/\∀E' G',VR0 w E' hp' G' x' y->VR2 w E' hp' G' x' y/\Ah x'=Ae x'/\EG x'=true)->Kv m x hp b=some (x',hp',n)->
    ∃E' G',HpInv w0 U A E' G' hp' w/\Dz (fun i=>B i\/(b<=i/\i<b+n)) hp'/\Ext B E G hp w E' G' hp' w/\VR2 w E' hp' G' x' y/\(∀i∈Ah x',B i\/(b<=i/\i<b+n))/\(EG x=true->EG x'=true):=by
   intro hk h;obtain⟨⟨k1,k2⟩,k3⟩:=hk x' h;obtain⟨E',G',h1,h2,h3⟩:=P9 hI hw k1 k2 hb h;obtain⟨q1,q2,q3⟩:=k3 E' G' h2;exact⟨E',G',h1.inv,h1.wf,h1.ext,q1,by rw[q2];exact h3,fun _=>q3⟩
  cases m with
  |keep=>
   simp only[Kv,zb,Prod.mk.injEq]at h;obtain⟨rfl,rfl,rfl⟩:=h;exact⟨E,G,hI,hw.mono fun _ h=>.inl h,Ext.refl _ _ _ _ _,hv,fun i hi=>.inl (hx i hi),fun h=>h⟩
  |own ty size deep=>
   refine key (fun x' h=> ?_) h
   simp only[Kv]at h
   split at h
   ·cases h;exact⟨⟨hv,hx⟩,fun E' G' h=>⟨h,rfl,rfl⟩⟩
   ·split at h
    ·split at h
     ·cases h;exact⟨⟨hv,hx⟩,fun E' G' h=>⟨h,rfl,rfl⟩⟩
     ·cases h
    ·cases h
   ·cases h
  |im=>
   refine key (fun x' h=> ?_) h
   simp only[Kv]at h
   split at h
   ·cases h;exact⟨⟨hv,hx⟩,fun E' G' h=>⟨h,rfl,rfl⟩⟩
   ·cases h;exact⟨⟨hv,hx⟩,fun E' G' h=>⟨h,rfl,rfl⟩⟩
   ·split at h
    ·split at h
     ·cases h
     ·cases h;exact⟨⟨hv,hx⟩,fun E' G' h=>⟨h,rfl,rfl⟩⟩
    ·cases h
   ·cases h
 ·rename_i l
  split at h
  ·rename_i cs;simp only[zb4]at h;obtain⟨⟨ys,hp1,k⟩,h1,h2⟩:=h;cases h2
   obtain⟨us,rfl,hl⟩:=hv;obtain⟨E',G',q1,q2,q3⟩:=Ln hI hw hl hx hb h1;exact⟨E',G',q1.inv,q1.wf,q1.ext,⟨us,rfl,q2⟩,q3,fun _=>rfl⟩
  ·cases h
 ·rename_i l
  split at h
  ·rename_i id r c
   split at h
   ·rename_i k hk
    split at h
    ·rename_i row hkk hrow
     split at h
     ·rename_i cs hp1 n1 h1
      split at h
      ·rename_i hok;cases h
       have hBid:B id:=hx id (by simp[Ah,Af,Ae]);have hblk:=hI.blk id k hk;have hblk':=hblk;unfold AU at hblk;simp only[hkk]at hblk;obtain⟨b',row',cur,g1,g2,g3,g4,g5,g6⟩:=hblk;rw[hrow]at g3;cases g3
       have hrefs:∀i∈row.flatMap Ae,B i:=fun i hi=>(hw id k hk).2 i (by
        unfold Ck;simp only[hkk,hrow,zb2,List.flatMap_nil,List.append_nil];exact hi)
       obtain⟨E1,G1,s1,v1,r1⟩:=Ln hI hw (g6.mono fun x _ y h=>h.1) hrefs hb h1;have hk1:hp1 id=some k:=s1.box id k hBid hk hkk;have hm1:E1.m id=some b':=by
        have h1:=s1.ext.v0 (.rf id 0 0) (.pointer (some ⟨b',0,none⟩)) (fun i hi=>by simp[Ae]at hi;subst hi;exact hBid) ⟨b',0,rfl,fun k' hk'=>by rw[hk]at hk';cases hk';exact⟨g1,by simp⟩⟩;obtain⟨b2,o2,e2,f2⟩:=h1;cases e2
        exact(f2 k hk1).1
       obtain⟨t1,t2,t3⟩:=Yt s1.inv s1.wf hk1 hkk hrow hok (fun b2 cur2 hb2 hc2=>by
        rw[hm1]at hb2;cases hb2
        rw[g2]at hc2;cases hc2
        exact v1) r1
       exact⟨E1,G1,t1,t2,s1.ext.trans t3 fun _ h=>.inl h,(s1.ext.trans t3 fun _ h=>.inl h).v2 _ _ hx hv,fun i hi=>.inl (hx i hi),fun _=>rfl⟩
      ·cases h
     ·cases h
    ·cases h
   ·cases h
  ·cases h
end
section
open Go
variable {P:Program} {w w' w0:World} {E E' E0:Env} {hp hp' hp0:Hp} {G G' G0 U A W F S:Nat->Prop} {B B':Nat->Prop} {ρ:Operand->V} {ρr:Operand->Value}
theorem X2(hI:HpInv w0 U A E G hp w){order:List Nat}(hn:order.Nodup)(hs:∀id∈order,∃k,hp id=some k):
  HpInv w0 U A (CQ E order) G (lkB (AF hp order)) w:=by
 have h:=ZC (lent:=[]) hI hn hs (fun _ _ h=>by simp at h);have hG:(fun b=>G b\/B8 E hp [] b)=G:=by
  funext b
  exact propext ⟨fun h=>h.elim (fun h=>h) (fun⟨i,hi,_⟩=>by simp at hi),.inl⟩
 rw[hG]at h;refine⟨hI.fr,hI.g1,h.g2,fun b ho=> ?_,h.dis,h.self,h.blk⟩
 obtain⟨id,hid,k,hk,hl,ho'⟩:=SJ hs ho;exact hI.o1 b ⟨id,k,hk,hl,ho'⟩
theorem Ar2{order:List Nat}{id j:Nat}(h:idx order id=some j):j<order.length:=(za3.1 (Xh h)).1
theorem AF3{order:List Nat}(hs:∀id∈order,∃k,hp id=some k):Dz (fun id=>id<order.length) (lkB (AF hp order)):=by
 intro j k' hj;obtain⟨id,h1,h2⟩:=D9 hj;refine⟨(za3.1 h1).1,fun i hi=> ?_⟩
 subst h2;obtain⟨r1,r2,r3,r4,r5⟩:=BW (idx order) ((hp id).getD default);unfold Ck at hi;rw[r1]at hi
 split at hi
 ·rename_i hk;unfold Ee at hi;rw[hk]at hi;simp only[zb0,ze0]at hi;obtain⟨row,⟨row0,hr0,rfl⟩,x,hx,hi⟩:=hi;obtain⟨x0,hx0,rfl⟩:=ze0.1 hx;obtain⟨j',hj',_⟩:=JJ hi;exact Ar2 hj'
 ·simp at hi
theorem S9{order:List Nat}{e:Nat}(hn:order.Nodup)(h:order.take e=List.range e){j:Nat}(hj:j<e):order[j]? =some j/\idx order j=some j:=by
 have h1:(order.take e)[j]? =some j:=by rw[h];simp[hj]
 rw[zb6,zw hj]at h1;exact⟨h1,L3 hn h1⟩
theorem X1{order:List Nat}{e:Nat}(hn:order.Nodup)(hs:∀id∈order,∃k,hp id=some k)(h:order.take e=List.range e):
  Ext (fun j=>j<e) E G hp w (CQ E order) G (lkB (AF hp order)) w:=by
 refine⟨fun x y hx hv=> ?_⟩
 have:=(N9 (E:=E) hs).vr0 (fun b hb=>hb) hv;have hren:BR (idx order) x=x:=by
  cases x with
  |ar id lo n=>simp only[BR,(S9 hn h (hx id (by simp[Ae]))).2]
  |rf id lo n=>simp only[BR,(S9 hn h (hx id (by simp[Ae]))).2]
  |agg cs=>exact hv.elim
  |tup cs=>exact hv.elim
  |cl f cs=>cases cs with|nil=>rfl|cons a l=>exact hv.elim
  |_=>rfl
 rw[hren]at this;exact this
theorem V2{order:List Nat}{x:V}:∀i∈Ah (EQ (idx order) x),i<order.length:=by
 have h0:∀x,∀i∈Ae (BR (idx order) x),i<order.length:=fun x i hi=>by
  obtain⟨j,hj,_⟩:=JJ hi;exact Ar2 hj
 have h1:∀x,∀i∈Af (Cp (idx order) x),i<order.length:=by
  intro x i hi;cases x with
  |agg cs=>
   obtain⟨z,hz,hi⟩:=zb0.1 hi;obtain⟨z0,_,rfl⟩:=ze0.1 hz;exact h0 z0 i hi
  |cl f cs=>
   obtain⟨z,hz,hi⟩:=zb0.1 hi;obtain⟨z0,_,rfl⟩:=ze0.1 hz;exact h0 z0 i hi
  |ar a b c=>
   have hr:Af (Cp (idx order) (.ar a b c))=Ae (BR (idx order) (.ar a b c)):=by
    simp only[Cp,BR];cases idx order a<;>rfl
   rw[hr]at hi;exact h0 _ i hi
  |rf a b c=>
   have hr:Af (Cp (idx order) (.rf a b c))=Ae (BR (idx order) (.rf a b c)):=by
    simp only[Cp,BR];cases idx order a<;>rfl
   rw[hr]at hi;exact h0 _ i hi
  |_=>simp[Cp,BR,Af,Ae]at hi
 intro i hi;cases x with
 |tup vs=>
  obtain⟨z,hz,hi⟩:=zb0.1 hi;obtain⟨z0,_,rfl⟩:=ze0.1 hz;exact h1 z0 i hi
 |ar a b c=>
  have hr:Ah (EQ (idx order) (.ar a b c))=Af (Cp (idx order) (.ar a b c)):=by
   simp only[EQ,Cp,BR];cases idx order a<;>rfl
  rw[hr]at hi;exact h1 _ i hi
 |rf a b c=>
  have hr:Ah (EQ (idx order) (.rf a b c))=Af (Cp (idx order) (.rf a b c)):=by
   simp only[EQ,Cp,BR];cases idx order a<;>rfl
  rw[hr]at hi;exact h1 _ i hi
 |agg cs=>exact h1 (.agg cs) i hi
 |cl f cs=>exact h1 (.cl f cs) i hi
 |_=>simp[EQ,Cp,BR,Ah,Af,Ae]at hi
abbrev SS(w0:World)(U A:Nat->Prop)(E0:Env)(G0:Nat->Prop)(hp0:Hp)(e nt:Nat)(st:St)(a:Act)(w:World):Prop:=
 SB w0 U A E0 G0 hp0 e nt (fun id=>id<16*st.c) st.tm st.hp a w
theorem YT{α:Type}{d:α}{f:Nat->α}:∀(l:List Nat)(i:Nat),lk d (l.map fun s=>(s,f s)) i=d\/lk d (l.map fun s=>(s,f s)) i=f i
 |[],i=>.inl rfl
 |k::l,i=>by
  simp only[zc2,lk];by_cases h:i=k
  ·subst h;simp
  ·simp only[zi h];exact YT l i
theorem VA{e nt:Nat}{keep:List Nat}{st:St}{K:St->Prop}{a:Act}(h:HX e keep st K)(hs:SS w0 U A E0 G0 hp0 e nt st a w):∃st',K st'/\SS w0 U A E0 G0 hp0 e nt st' a w:=by
 unfold HX at h
 split at h
 ·rename_i order hcl;obtain⟨h1,h2,hK⟩:=h;obtain⟨c1,c2,_,_⟩:=EZ st.hp 64 _ _ _ hcl (by simp) (fun id hid=>by simp at hid);refine⟨_,hK,?_⟩
  obtain⟨E,G,g1,g2,g3,g4,g5⟩:=hs.env;have hlow:e<=order.length:=by
   have:=congrArg List.length h2;simp only[zc7,List.length_range]at this;omega
  refine⟨hs.size,hs.defers,fun j hj=> ?_,CQ E order,G,X2 g1 c1 c2,?_,fun t=> ?_,fun t id hid=> ?_,g5.trans (X1 c1 c2 h2) fun _ h=>h⟩
  ·show j<16*1;omega
  ·intro id k hk;obtain⟨q1,q2⟩:=AF3 c2 id k hk;exact⟨show id<16*1 by omega,fun j hj=>show j<16*1 by have:=q2 j hj;omega⟩
  ·rcases YT (d:=V.any) (f:=fun s=>EQ (idx order) (st.tm s)) keep t with h'|h'
   ·show VR2 w _ _ G (lk _ _ t) _;rw[h'];exact Zx
   ·show VR2 w _ _ G (lk _ _ t) _;rw[h'];exact(N9 c2).vr2 (fun b hb=>hb) (g3 t)
  ·have hid:id∈Ah (lk V.any (keep.map fun s=>(s,EQ (idx order) (st.tm s))) t):=hid;rcases YT (d:=V.any) (f:=fun s=>EQ (idx order) (st.tm s)) keep t with h'|h'
   ·rw[h']at hid;simp[Ah,Af,Ae]at hid
   ·rw[h']at hid;have:=V2 id hid;show id<16*1;omega
 ·exact h.elim
theorem Qb{e nt:Nat}{a:Act}:∀{keep:List (Nat×Mds)}{st st':St},Mp keep st=some st'->SS w0 U A E0 G0 hp0 e nt st a w->SS w0 U A E0 G0 hp0 e nt st' a w
 |[],st,st',h,hs=>by simp only[Mp,zb]at h;subst h;exact hs
 |(s,m)::l,st,st',h,hs=>by
  simp only[Mp]at h
  split at h
  ·rename_i x hp n h1
   split at h
   ·rename_i hn;refine Qb h ?_
    obtain⟨E,G,g1,g2,g3,g4,g5⟩:=hs.env;obtain⟨E',G',q1,q2,q3,q4,q5,_⟩:=Qd g1 g2 (g3 s) (g4 s) (fun i hi hB=>by have:i<16*st.c:=hB;omega) h1;have hsub:∀i,(i<16*st.c\/(16*st.c<=i/\i<16*st.c+n))->i<16*(st.c+1):=fun i hi=>by omega
    refine⟨hs.size,hs.defers,fun j hj=>hsub j (.inl (hs.low j hj)),E',G',q1,q2.mono hsub,fun t=> ?_,fun t id hid=> ?_,g5.trans q3 fun j hj=>hs.low j hj⟩
    ·show VR2 w E' hp G' (upd st.tm s x t) _;unfold upd
     split
     ·rename_i ht;subst ht;exact q4
     ·exact q3.v2 _ _ (g4 t) (g3 t)
    ·have hid:id∈Ah (upd st.tm s x t):=hid;unfold upd at hid
     split at hid
     ·exact hsub id (q5 id hid)
     ·exact hsub id (.inl (g4 t id hid))
   ·cases h
  ·cases h
theorem GS{e nt:Nat}{keep:List (Nat×Mds)}{st:St}{K:St->Prop}{a:Act}(h:Ea e keep st K)(hs:SS w0 U A E0 G0 hp0 e nt st a w):∃st',K st'/\SS w0 U A E0 G0 hp0 e nt st' a w:=by
 unfold Ea Bl at h
 split at h
 ·rename_i st1 h1;exact VA h (Qb h1 hs)
 ·exact h.elim
theorem YV{e nt:Nat}{j:Option (List (Nat×Mds))}{st:St}{K:St->Prop}{a:Act}(h:VR e j st K)(hs:SS w0 U A E0 G0 hp0 e nt st a w):∃st',K st'/\SS w0 U A E0 G0 hp0 e nt st' a w:=by
 unfold VR at h
 split at h
 ·exact GS h hs
 ·exact⟨st,h,hs⟩
theorem Qa:∀{ms:List Mds}{xs xs':List V}{ys:List Value}{E:Env}{G:Nat->Prop}{hp hp':Hp}{c c':Nat},HpInv w0 U A E G hp w->Dz (fun i=>i<16*c) hp->xs.length=ys.length->
  (∀(i:Nat)(x:V)(y:Value),xs[i]? =some x->ys[i]? =some y->VR2 w E hp G x y)->(∀x∈xs,∀i∈Ah x,i<16*c)->Ie ms xs hp c=some (xs',hp',c')->
  ∃E' G',HpInv w0 U A E' G' hp' w/\Ext (fun i=>i<16*c) E G hp w E' G' hp' w/\xs'.length=ys.length/\(∀(i:Nat)(x:V)(y:Value),xs'[i]? =some x->ys[i]? =some y->VR2 w E' hp' G' x y)
 |[],[],xs',ys,E,G,hp,hp',c,c',hI,hw,hl,hv,hx,h=>by
  simp only[Ie,zb,Prod.mk.injEq]at h;obtain⟨rfl,rfl,rfl⟩:=h;exact⟨E,G,hI,Ext.refl _ _ _ _ _,hl,fun i x y hi=>by simp at hi⟩
 |m::ms,x::xs,xs',ys,E,G,hp,hp',c,c',hI,hw,hl,hv,hx,h=>by
  simp only[Ie]at h
  split at h
  ·rename_i z hp1 n h1
   split at h
   ·rename_i hn
    split at h
    ·rename_i zs hp2 c2 h2;simp only[zb,Prod.mk.injEq]at h;obtain⟨rfl,rfl,rfl⟩:=h;cases ys with
     |nil=>simp at hl
     |cons y ys=>
      have hsub:∀i,(i<16*c\/(16*c<=i/\i<16*c+n))->i<16*(c+1):=fun i hi=>by omega
      obtain⟨E1,G1,q1,q2,q3,q4,q5,_⟩:=Qd hI hw (hv 0 x y rfl rfl) (hx x (by simp)) (fun i hi hB=>by have:i<16*c:=hB;omega) h1;obtain⟨E2,G2,r1,r2,r3,r4⟩:=Qa q1 (q2.mono hsub) (by simpa using hl) (fun i x' y' hi hj=>q3.v2 x' y' (hx x' (by simp[za5 hi])) (hv (i+1) x' y' (by simpa using hi) (by simpa using hj))) (fun x' hx' i hi=>hsub i (.inl (hx x' (by simp[hx']) i hi))) h2;refine⟨E2,G2,r1,q3.trans r2 fun i hi=>hsub i (.inl hi),by simp[r3],fun i x' y' hi hj=> ?_⟩
      cases i with
      |zero=>
       simp at hi hj;subst hi;subst hj;exact r2.v2 _ _ (fun i hi=>hsub i (q5 i hi)) q4
      |succ i=>exact r4 i x' y' (by simpa using hi) (by simpa using hj)
    ·cases h
   ·cases h
  ·cases h
 |[],_::_,_,_,_,_,_,_,_,_,_,_,_,_,_,h=>by simp[Ie]at h
 |_::_,[],_,_,_,_,_,_,_,_,_,_,_,_,_,h=>by simp[Ie]at h
end
section
open Go
variable {P:Program} {cf:Cfg} {R:Rel} {Rk:Nat->Rel}
def Vm(Rk:Nat->Rel):Prop:=∀k k' g a b r b',k<=k'->Rk k g a b r b'->Rk k' g a b r b'
def Ad6(R:Rel):Prop:=∀g a b r b' r2 b2,R g a b r b'->R g a b r2 b2->r=r2/\b'=b2
def Q9(T:Rel->BP->Prop)(R:Rel)(Rk:Nat->Rel)(K:BP):Prop:=
 ∃k x hp cls,K x hp cls/\(∀k',k<=k'->∀K':BP,K' x hp cls->T (Rk k') K')/\(Ad6 R->∀K':BP,T R K'->K' x hp cls)
theorem Q9.of{T:Rel->BP->Prop}{K:BP}{x:V}{hp:Hp}{cls:Cls}(h:K x hp cls)(ht:∀R,∀K':BP,T R K'↔K' x hp cls):Q9 T R Rk K:=
 ⟨0,x,hp,cls,h,fun k' _ K' h'=>(ht _ K').2 h',fun _ K' h'=>(ht _ K').1 h'⟩
def Sub(R:Rel)(Rk:Nat->Rel):Prop:=∀g a b r b',R g a b r b'->∃k,Rk k g a b r b'
theorem Um{g:FuncId}{args:List V}{blks:List Blk}{F:V->List Blk->Prop}(h:GR R g args blks F)(hm:Vm Rk)(hS:Sub R Rk):∃k r b',F r b'/\(∀k',k<=k'->∀F':V->List Blk->Prop,F' r b'->GR (Rk k') g args blks F')/\(Ad6 R->∀F':V->List Blk->Prop,GR R g args blks F'->F' r b'):=by
 obtain⟨r,b',h,hF⟩:=h;obtain⟨k,hk⟩:=hS _ _ _ _ _ h;exact⟨k,r,b',hF,fun k' hle F' h'=>⟨r,b',hm k k' _ _ _ _ _ hle hk,h'⟩,fun hU F' ⟨r2,b2,h2,h'⟩=>by obtain⟨rfl,rfl⟩:=hU _ _ _ _ _ _ _ h h2;exact h'⟩
theorem Yd{t:TypeId}{a x:V}{hp:Hp}{K:BP}(h:B0 P t a x hp K):Q9 (fun _ K=>B0 P t a x hp K) R Rk K:=by
 unfold B0 at h
 split at h
 ·rename_i d id r c hd
  split at h
  ·rename_i k hk
   split at h
   ·rename_i row hr
    split at h
    ·rename_i hl
     split at h
     ·rename_i hkk
      split at h
      ·rename_i hok
       split at h
       ·rename_i row' hrow;exact .of h fun R K'=>by simp only[B0,hd,hk,hr,hl,hkk,hok,hrow,if_true]
       ·exact h.elim
      ·exact h.elim
     ·rename_i hkk
      split at h
      ·rename_i cs kills deep hcl
       split at h
       ·rename_i hnd
        split at h
        ·rename_i row' hrow;exact .of h fun R K'=>by simp only[B0,hd,hk,hr,hl,hkk,hcl,hnd,hrow,if_true]
        ·exact h.elim
       ·exact h.elim
      ·exact h.elim
     ·exact h.elim
    ·exact h.elim
   ·exact h.elim
  ·exact h.elim
 ·exact h.elim
theorem X9{t:TypeId}{len:Nat}{parts:List (Nat×Operand)}{ρ:Operand->V}{hp:Hp}{b:Nat}{K:BP}(h:Ap P t len parts ρ hp b K):Q9 (fun _ K=>Ap P t len parts ρ hp b K) R Rk K:=by
 unfold Ap at h;obtain⟨e,he,h⟩:=Aa h;obtain⟨d,hd,h⟩:=Aa h;cases len with
 |zero=>exact .of h.2 fun R K'=>by simp only[Ap,he,hd,Aj,h.1,true_and]
 |succ len=>
  obtain⟨z,hz,h1,h2,h3,h⟩:=Aa h;exact .of h fun R K'=>by simp only[Ap,he,hd,hz,Aj,h1,h2,h3,true_and]
theorem Ql{d:TyD}{x:V}{hp:Hp}{K:List (List V)->List Nat->Bool->Prop}(h:Bp d x hp K):∃rows kills deep,K rows kills deep/\∀K':List (List V)->List Nat->Bool->Prop,Bp d x hp K'↔K' rows kills deep:=by
 unfold Bp at h
 split at h
 ·exact⟨_,_,_,h,fun K'=>Iff.rfl⟩
 ·exact⟨_,_,_,h,fun K'=>Iff.rfl⟩
 ·exact⟨_,_,_,h,fun K'=>Iff.rfl⟩
 ·rename_i id lo n
  split at h
  ·rename_i k hk
   split at h
   ·exact h.elim
   ·rename_i hkk;exact⟨_,_,_,h,fun K'=>by simp only[Bp,hk,hkk]⟩
   ·rename_i hkk
    split at h
    ·rename_i hz;exact⟨_,_,_,h.2,fun K'=>by simp only[Bp,hk,hkk,hz,if_true,h.1,true_and]⟩
    ·rename_i hz;exact⟨_,_,_,h,fun K'=>by simp only[Bp,hk,hkk];rw[zi hz]⟩
  ·exact h.elim
 ·exact h.elim
theorem Wq{ts:List TypeId}{s x:V}{hp:Hp}{b:Nat}{K:BP}(h:Cb P ts s x hp b K):Q9 (fun _ K=>Cb P ts s x hp b K) R Rk K:=by
 unfold Cb at h
 split at h
 ·rename_i t t';obtain⟨e,he,h⟩:=Aa h;obtain⟨d,hd,h⟩:=Aa h;obtain⟨ht,h⟩:=h;obtain⟨rows,kills,deep,h,hs⟩:=Ql h
  split at h
  ·obtain⟨h1,h2,h3,h4,h⟩:=h;exact .of h fun R K'=>by
    simp only[Cb,he,hd,Aj];exact⟨fun h=>((hs _).1 h.2).2.2.2.2,fun h'=>⟨ht,(hs _).2 ⟨h1,h2,h3,h4,h'⟩⟩⟩
  ·rename_i id lo n;obtain⟨k,hk,h⟩:=Aa h;obtain⟨h1,h2,h3,h4,h5,h6,h7,h8,h⟩:=h;exact .of h fun R K'=>by
    simp only[Cb,he,hd,Aj];refine⟨fun h=> ?_,fun h'=>⟨ht,(hs _).2 ?_⟩⟩
    ·have:=(hs _).1 h.2;simp only[hk,Aj]at this;exact this.2.2.2.2.2.2.2.2
    ·simp only[hk,Aj];exact⟨h1,h2,h3,h4,h5,h6,h7,h8,h'⟩
  ·exact h.elim
 ·exact h.elim
theorem Yc{t:TypeId}{s:V}{lo hi:Option Operand}{ρ:Operand->V}{hp:Hp}{K:BP}(h:Bg P t s lo hi ρ hp K):Q9 (fun _ K=>Bg P t s lo hi ρ hp K) R Rk K:=by
 unfold Bg at h;obtain⟨e,he,h⟩:=Aa h;obtain⟨d,hd,h⟩:=Aa h
 split at h
 ·obtain⟨l,hl,h⟩:=Aa h;obtain⟨r,hr,h⟩:=Aa h;exact .of h.2.2 fun R K'=>by simp only[Bg,he,hd,hl,hr,Aj,h.1,h.2.1,true_and]
 ·obtain⟨l,hl,h⟩:=Aa h;obtain⟨r,hr,h⟩:=Aa h;obtain⟨h1,h2,h3,h⟩:=h;exact .of h fun R K'=>by
   simp only[Bg,he,hd,hl,hr,Aj];exact⟨fun h=>h.2.2.2,fun h'=>⟨h1,h2,h3,h'⟩⟩
 ·obtain⟨l,hl,h⟩:=Aa h;obtain⟨r,hr,h⟩:=Aa h;obtain⟨k,hk,h⟩:=Aa h;obtain⟨h1,h2,h3,h⟩:=h;exact .of h fun R K'=>by
   simp only[Bg,he,hd,hl,hr,hk,Aj];exact⟨fun h=>h.2.2.2,fun h'=>⟨h1,h2,h3,h'⟩⟩
 ·exact h.elim
theorem Zo(hm:Vm Rk)(hS:Sub R Rk){g:FuncId}{args:List V}{lent:List Nat}{hp:Hp}{b:Nat}{K:BP}(h:Iq R g args lent hp b K):Q9 (fun R K=>Iq R g args lent hp b K) R Rk K:=by
 unfold Iq at h;obtain⟨k,r,b',⟨h1,h2,h⟩,hk,hu⟩:=Um h hm hS;by_cases hc:(lent.isEmpty||(Jc r&&b'.all Dq))=true
 ·rw[zw hc]at h;refine⟨k,_,_,_,h,fun k' hle K' h'=>hk k' hle _ ⟨h1,h2,?_⟩,fun hU K' h'=> ?_⟩
  ·rw[zw hc];exact h'
  ·have:=(hu hU _ h').2.2;rw[zw hc]at this;exact this
 ·rw[zi hc]at h;refine⟨k,_,_,_,h,fun k' hle K' h'=>hk k' hle _ ⟨h1,h2,?_⟩,fun hU K' h'=> ?_⟩
  ·rw[zi hc];exact h'
  ·have:=(hu hU _ h').2.2;rw[zi hc]at this;exact this
theorem Al7(hm:Vm Rk)(hS:Sub R Rk){g:FuncId}{args:List V}{lent direct order:List Nat}{hp:Hp}{b:Nat}{K:BP}(h:Ky R g args lent direct order hp b K):Q9 (fun R K=>Ky R g args lent direct order hp b K) R Rk K:=by
 unfold Ky at h;obtain⟨h1,h2,h3,h⟩:=h;obtain⟨k,r,b',⟨h4,h5,h⟩,hk,hu⟩:=Um h hm hS;exact⟨k,_,_,_,h,fun k' hle K' h'=>⟨h1,h2,h3,hk k' hle _ ⟨h4,h5,h'⟩⟩,fun hU K' h'=>(hu hU _ h'.2.2.2).2.2⟩
theorem Al3(hm:Vm Rk)(hS:Sub R Rk){g:FuncId}{args:List V}{hp:Hp}{b:Nat}{K:BP}(h:Dr R cf g args hp b K):Q9 (fun R K=>Dr R cf g args hp b K) R Rk K:=by
 unfold Dr at h;cases ha:EC hp (cf.byref g) args with
 |none=>rw[ha]at h;exact h.elim
 |some args'=>
  rw[ha]at h;cases hc:DA hp (args'.flatMap Af)with
  |none=>simp only[hc]at h
  |some order=>
   cases order with
   |nil=>
    simp only[hc]at h;obtain⟨k,x,hp',cls,h1,h2,h3⟩:=Zo hm hS h;exact⟨k,x,hp',cls,h1,fun k' hle K' h'=>by unfold Dr;rw[ha];simp only[hc];exact h2 k' hle K' h',fun hU K' h'=>h3 hU K' (by unfold Dr at h';rw[ha]at h';simp only[hc]at h';exact h')⟩
   |cons i l=>
    simp only[hc]at h;obtain⟨k,x,hp',cls,h1,h2,h3⟩:=Al7 hm hS h;exact⟨k,x,hp',cls,h1,fun k' hle K' h'=>by unfold Dr;rw[ha];simp only[hc];exact h2 k' hle K' h',fun hU K' h'=>h3 hU K' (by unfold Dr at h';rw[ha]at h';simp only[hc]at h';exact h')⟩
theorem Yb(hm:Vm Rk)(hS:Sub R Rk){op:Op}{b:Nat}{ρ:Operand->V}{hp:Hp}{K:BP}(h:Bi P R cf op b ρ hp K):Q9 (fun R K=>Bi P R cf op b ρ hp K) R Rk K:=by
 unfold Bi at h
 split at h
 ·exact Yd h
 ·exact X9 h
 ·rename_i t x lo hi
  split at h
  ·rename_i hs;obtain⟨z,hz,h⟩:=Aa h;exact .of h fun R K'=>by simp only[Bi,hs,hz,if_true,Aj]
  ·rename_i hs;obtain⟨k,x,hp',cls,h1,h2,h3⟩:=Yc (R:=R) (Rk:=Rk) h;exact⟨k,x,hp',cls,h1,fun k' hle K' h'=>by simp only[Bi];rw[zi hs];exact h2 k' hle K' h',fun hU K' h'=>h3 hU K' (by simp only[Bi]at h';rw[zi hs]at h';exact h')⟩
 ·rename_i args tys
  split at h
  ·rename_i s x ha;obtain⟨k,x,hp',cls,h1,h2,h3⟩:=Wq (R:=R) (Rk:=Rk) h;exact⟨k,x,hp',cls,h1,fun k' hle K' h'=>by simp only[Bi,ha];exact h2 k' hle K' h',fun hU K' h'=>h3 hU K' (by simp only[Bi,ha]at h';exact h')⟩
  ·exact h.elim
 ·rename_i f args
  split at h
  ·rename_i g caps hf;obtain⟨k,x,hp',cls,h1,h2,h3⟩:=Al3 hm hS h;exact⟨k,x,hp',cls,h1,fun k' hle K' h'=>by simp only[Bi,hf];exact h2 k' hle K' h',fun hU K' h'=>h3 hU K' (by simp only[Bi,hf]at h';exact h')⟩
  ·exact h.elim
 ·rename_i n1 n2 n3 n4 n5;have hform:∀R,∀K':BP,Bi P R cf op b ρ hp K'↔(match Aq P op ρ with|some x=>K' x hp .T|none=>Bl (A4 P op ρ hp b) fun z=>z.2.length<=16/\K' z.1 (inst hp b z.2) .M):=by
   intro R K';unfold Bi
   split<;>first|exact Iff.rfl|(exfalso;simp_all;done)|skip
   all_goals first|exact(n1 _ _ _ rfl).elim|exact(n2 _ _ _ rfl).elim|exact(n3 _ _ _ _ rfl).elim|exact(n4 _ _ rfl).elim|exact(n5 _ _ _ rfl).elim
  cases hx:Aq P op ρ with
  |some x=>
   simp only[hx]at h;exact .of h fun R K'=>(hform R K').trans (by simp only[hx])
  |none=>
   simp only[hx]at h;obtain⟨z,hz,hl,h⟩:=Aa h;exact .of h fun R K'=>(hform R K').trans (by simp only[hx,hz,Aj,hl,true_and])
theorem XC(hm:Vm Rk)(hS:Sub R Rk){draw:Bool}{op:Op}{b:Nat}{ρ:Operand->V}{hp:Hp}{K:BP}(h:F4 P R cf draw op b ρ hp K):Q9 (fun R K=>F4 P R cf draw op b ρ hp K) R Rk K:=by
 unfold F4 at h
 split at h
 ·rename_i hd;obtain⟨k,x,hp',cls,h1,h2,h3⟩:=Yb hm hS h;exact⟨k,x,hp,cls,h1,fun k' hle K' h'=>by simp only[F4,hd];exact h2 k' hle _ h',fun hU K' h'=>by simp only[F4,hd]at h';exact h3 hU _ h'⟩
 ·rename_i hd;obtain⟨k,x,hp',cls,h1,h2,h3⟩:=Yb hm hS h;exact⟨k,x,hp',cls,h1,fun k' hle K' h'=>by simp only[F4,hd];exact h2 k' hle _ h',fun hU K' h'=>by simp only[F4,hd]at h';exact h3 hU _ h'⟩
end
section
open Go
variable {P:Program} {cf:Cfg} {R:Rel} {Rk:Nat->Rel}
def AO2(T:Rel->(St->Prop)->Prop)(R:Rel)(Rk:Nat->Rel)(K:St->Prop):Prop:=
 ∃k s,K s/\(∀k',k<=k'->∀K':St->Prop,K' s->T (Rk k') K')/\(Ad6 R->∀K':St->Prop,T R K'->K' s)
def AO3(T:Rel->Gk->Prop)(R:Rel)(Rk:Nat->Rel)(Q:Gk):Prop:=
 ∃k ex s,Q ex s/\(∀k',k<=k'->∀Q':Gk,Q' ex s->T (Rk k') Q')/\(Ad6 R->∀Q':Gk,T R Q'->Q' ex s)
theorem Oy{draw ok:Bool}{cls:Cls}{A:Prop}(h:drawn draw ok cls A):A/\∀A':Prop,drawn draw ok cls A'↔A':=by
 cases draw<;>cases cls<;>first|exact⟨h,fun _=>Iff.rfl⟩|exact⟨h.2,fun _=>⟨fun h'=>h'.2,fun h'=>⟨h.1,h'⟩⟩⟩
theorem O8(hm:Vm Rk)(hS:Sub R Rk){all:List Oper}{draw:Bool}:∀(l:List Oper)(i:Nat)(st:St)(K:St->Prop),BZ P R cf all draw l i st K->AO2 (fun R K=>BZ P R cf all draw l i st K) R Rk K
 |[],i,st,K,h=>⟨0,st,h,fun k' _ K' h'=>h',fun _ K' h'=>h'⟩
 |o::l,i,st,K,h=>by
  have hop:∀{hp:Hp},F4 P R cf draw o.op (16*(st.c+i)) (Ax st.tm) hp (fun x hp cls=>
    drawn draw (eOK all i||He cf all st.tm st.hp i) cls (BZ P R cf all draw l (i+1) {tm:=put st.tm o.dst x,hp:=hp,c:=st.c} K))->
    AO2 (fun R K=>F4 P R cf draw o.op (16*(st.c+i)) (Ax st.tm) hp (fun x hp cls=>
    drawn draw (eOK all i||He cf all st.tm st.hp i) cls (BZ P R cf all draw l (i+1) {tm:=put st.tm o.dst x,hp:=hp,c:=st.c} K))) R Rk K:=by
   intro hp h;obtain⟨k1,x,hp',cls,h1,h2,hu⟩:=XC hm hS h;obtain⟨h1,hdr⟩:=Oy h1;obtain⟨k2,s,h3,h4,hv⟩:=O8 hm hS l (i+1) _ K h1;exact⟨max k1 k2,s,h3,fun k' hle K' h'=>h2 k' (by omega) _ ((hdr _).2 (h4 k' (by omega) K' h')),fun hU K' h'=>hv hU K' ((Oy (hu hU _ h')).1)⟩
  unfold BZ at h
  split at h
  ·rename_i hg;obtain⟨k,s,h1,h2,h3⟩:=hop h;exact⟨k,s,h1,fun k' hle K' h'=>by unfold BZ;rw[hg];exact h2 k' hle K' h',fun hU K' h'=>h3 hU K' (by unfold BZ at h';rw[hg]at h';exact h')⟩
  ·rename_i j want hg;obtain⟨y,hy,h⟩:=Aa h;obtain⟨t,hyt,h'⟩:=Aa h
   clear h
   cases t with
   |true=>
    simp only[if_true]at h';obtain⟨k,s,h1,h2,h3⟩:=hop h';exact⟨k,s,h1,fun k' hle K' h'=>by unfold BZ;rw[hg];simp only[hy,hyt,Aj,if_true];exact h2 k' hle K' h',
     fun hU K' h'=>h3 hU K' (by unfold BZ at h';rw[hg]at h';simp only[hy,hyt,Aj,if_true]at h';exact h')⟩
   |false=>
    simp only[zb8,if_false]at h';obtain⟨k,s,h1,h2,h3⟩:=O8 hm hS l (i+1) _ K h';exact⟨k,s,h1,fun k' hle K' h'=>by unfold BZ;rw[hg];simp only[hy,hyt,Aj,zb8,if_false];exact h2 k' hle K' h',
     fun hU K' h'=>h3 hU K' (by unfold BZ at h';rw[hg]at h';simp only[hy,hyt,Aj,zb8,if_false]at h';exact h')⟩
theorem Yv{e:Nat}{keep:List Nat}{st:St}{K:St->Prop}(h:HX e keep st K):∃s,K s/\∀K':St->Prop,HX e keep st K'↔K' s:=by
 unfold HX at h
 split at h
 ·rename_i order ho;exact⟨_,h.2.2,fun K'=>by unfold HX;simp only[ho];exact⟨fun h'=>h'.2.2,fun h'=>⟨h.1,h.2.1,h'⟩⟩⟩
 ·exact h.elim
theorem Dw{e:Nat}{keep:List (Nat×Mds)}{st:St}{K:St->Prop}(h:Ea e keep st K):∃s,K s/\∀K':St->Prop,Ea e keep st K'↔K' s:=by
 unfold Ea at h;obtain⟨s1,h1,h⟩:=Aa h;obtain⟨s,h2,h3⟩:=Yv h;exact⟨s,h2,fun K'=>by unfold Ea;rw[h1];exact h3 K'⟩
theorem At0{e:Nat}{j:Option (List (Nat×Mds))}{st:St}{K:St->Prop}(h:VR e j st K):∃s,K s/\∀K':St->Prop,VR e j st K'↔K' s:=by
 cases j with
 |some keep=>exact Dw h
 |none=>exact⟨st,h,fun _=>Iff.rfl⟩
theorem Xl{F:Rel->St->Gk->Prop}{e:Nat}{keep:List (Nat×Mds)}{out:Ex->List (Nat×Mds)}(hF:∀st Q,F R st Q->AO3 (fun R Q=>F R st Q) R Rk Q):∀(n:Nat)(st:St)(Q:Gk),VM (F R) e keep out n st Q->
  ∃k ex s,Q ex s/\(∀k',k<=k'->∀Q':Gk,Q' ex s->VM (F (Rk k')) e keep out n st Q')/\(Ad6 R->∀n' (Q':Gk),VM (F R) e keep out n' st Q'->Q' ex s)
 |0,st,Q,h=>h.elim
 |n+1,st,Q,h=>by
  obtain⟨s,h1,hc⟩:=Dw h;obtain⟨k1,ex,s1,h2,h3,hu⟩:=hF s _ h1;have hback:∀n' (Q':Gk),Ad6 R->VM (F R) e keep out n' st Q'->∃m,n'=m+1/\(match ex with|.normal=>VM (F R) e keep out m s1 Q'|ex=>Ea e (out ex) s1 (Q' ex)):=by
   intro n' Q' hU h';cases n' with
   |zero=>exact h'.elim
   |succ m=>
    refine⟨m,rfl,?_⟩
    have:=hu hU _ ((hc _).1 h');cases ex<;>exact this
  cases ex with
  |normal=>
   obtain⟨k2,ex2,s2,h4,h5,hv⟩:=Xl hF n s1 Q h2;refine⟨max k1 k2,ex2,s2,h4,fun k' hle Q' h'=>(hc _).2 (h3 k' (by omega) _ (h5 k' (by omega) Q' h')),fun hU n' Q' h'=> ?_⟩
   obtain⟨m,rfl,h6⟩:=hback n' Q' hU h';exact hv hU m Q' h6
  |exit id=>
   obtain⟨s2,h4,h5⟩:=Dw h2;refine⟨k1,.exit id,s2,h4,fun k' hle Q' h'=>(hc _).2 (h3 k' hle _ ((h5 _).2 h')),fun hU n' Q' h'=> ?_⟩
   obtain⟨m,rfl,h6⟩:=hback n' Q' hU h';exact(h5 _).1 h6
  |ret=>
   obtain⟨s2,h4,h5⟩:=Dw h2;refine⟨k1,.ret,s2,h4,fun k' hle Q' h'=>(hc _).2 (h3 k' hle _ ((h5 _).2 h')),fun hU n' Q' h'=> ?_⟩
   obtain⟨m,rfl,h6⟩:=hback n' Q' hU h';exact(h5 _).1 h6
theorem Kk(hm:Vm Rk)(hS:Sub R Rk){g e:Nat}:∀(c:Code)(st:St)(Q:Gk),we P R cf g e c st Q->AO3 (fun R Q=>we P R cf g e c st Q) R Rk Q
 |.skip,st,Q,h=>⟨0,.normal,st,h,fun k' _ Q' h'=>h',fun _ Q' h'=>h'⟩
 |.exit id,st,Q,h=>⟨0,.exit id,st,h,fun k' _ Q' h'=>h',fun _ Q' h'=>h'⟩
 |.ret,st,Q,h=>⟨0,.ret,st,h,fun k' _ Q' h'=>h',fun _ Q' h'=>h'⟩
 |.region id ops draw,st,Q,h=>by
  unfold we at h;obtain⟨k,s,h1,h2,h3⟩:=O8 hm hS _ _ _ _ h;exact⟨k,.normal,_,h1,fun k' hle Q' h'=>by unfold we;exact h2 k' hle _ h',fun hU Q' h'=>by unfold we at h';have:=h3 hU _ h';exact this⟩
 |.seq a b,st,Q,h=>by
  unfold we at h;obtain⟨k1,ex,s,h1,h2,h3⟩:=Kk hm hS a st _ h;cases ex with
  |normal=>
   obtain⟨sm,h1,hmt⟩:=At0 h1;obtain⟨k2,ex2,s2,h4,h5,h6⟩:=Kk hm hS b sm Q h1;exact⟨max k1 k2,ex2,s2,h4,fun k' hle Q' h'=>by unfold we;exact h2 k' (by omega) _ ((hmt _).2 (h5 k' (by omega) Q' h')),fun hU Q' h'=>by unfold we at h';exact h6 hU _ ((hmt _).1 (h3 hU _ h'))⟩
  |exit id=>exact⟨k1,.exit id,s,h1,fun k' hle Q' h'=>by unfold we;exact h2 k' hle _ h',fun hU Q' h'=>by unfold we at h';have:=h3 hU _ h';exact this⟩
  |ret=>exact⟨k1,.ret,s,h1,fun k' hle Q' h'=>by unfold we;exact h2 k' hle _ h',fun hU Q' h'=>by unfold we at h';have:=h3 hU _ h';exact this⟩
 |.cond c x y,st,Q,h=>by
  unfold we at h;obtain⟨t,ht,h'⟩:=RO h;cases t with
  |true=>
   simp only[if_true]at h';obtain⟨k,ex,s,h1,h2,h3⟩:=Kk hm hS x st Q h';exact⟨k,ex,s,h1,fun k' hle Q' h'=>by unfold we;rw[ht];simp only[Qw,if_true];exact h2 k' hle Q' h',fun hU Q' h'=>by unfold we at h';rw[ht]at h';simp only[Qw,if_true]at h';exact h3 hU _ h'⟩
  |false=>
   simp only[zb8,if_false]at h';obtain⟨k,ex,s,h1,h2,h3⟩:=Kk hm hS y st Q h';exact⟨k,ex,s,h1,fun k' hle Q' h'=>by unfold we;rw[ht];simp only[Qw,zb8,if_false];exact h2 k' hle Q' h',fun hU Q' h'=>by unfold we at h';rw[ht]at h';simp only[Qw,zb8,if_false]at h';exact h3 hU _ h'⟩
 |.block id c,st,Q,h=>by
  unfold we at h;obtain⟨k,ex,s,h1,h2,h3⟩:=Kk hm hS c st _ h;cases ex with
  |normal=>exact⟨k,.normal,s,h1,fun k' hle Q' h'=>by unfold we;exact h2 k' hle _ h',fun hU Q' h'=>by unfold we at h';have:=h3 hU _ h';exact this⟩
  |ret=>exact⟨k,.ret,s,h1,fun k' hle Q' h'=>by unfold we;exact h2 k' hle _ h',fun hU Q' h'=>by unfold we at h';have:=h3 hU _ h';exact this⟩
  |exit j=>
   by_cases hj:j=id
   ·simp only[zw hj]at h1;exact⟨k,.normal,s,h1,fun k' hle Q' h'=>by unfold we;exact h2 k' hle _ (by simp only[zw hj];exact h'),fun hU Q' h'=>by unfold we at h';have:=h3 hU _ h';simp only[zw hj]at this;exact this⟩
   ·simp only[zi hj]at h1;exact⟨k,.exit j,s,h1,fun k' hle Q' h'=>by unfold we;exact h2 k' hle _ (by simp only[zi hj];exact h'),fun hU Q' h'=>by unfold we at h';have:=h3 hU _ h';simp only[zi hj]at this;exact this⟩
 |.loop c,st,Q,h=>by
  unfold we at h;obtain⟨n,h⟩:=h;obtain⟨k,ex,s,h1,h2,h3⟩:=Xl (F:=fun R st Q=>we P R cf g e c st Q) (fun st Q h=>Kk hm hS c st Q h) n st Q h;exact⟨k,ex,s,h1,fun k' hle Q' h'=>by unfold we;exact⟨n,h2 k' hle Q' h'⟩,fun hU Q' h'=>by unfold we at h';obtain⟨n',h'⟩:=h';exact h3 hU n' Q' h'⟩
 |.scope c,_,_,h=>by simp[we]at h
 |.label l,_,_,h=>by simp[we]at h
 |.goto l,_,_,h=>by simp[we]at h
 |.rangeFunc ..,_,_,h=>by simp[we]at h
theorem Az2{g e:Nat}{c:Code}{st:St}{Q:Gk}(h:we P R cf g e c st Q):∃ex s,Q ex s/\∀Q':Gk,Q' ex s->we P R cf g e c st Q':=by
 obtain⟨k,ex,s,h1,h2,_⟩:=Kk (Rk:=fun _=>R) (fun _ _ _ _ _ _ _ _ h=>h) (fun _ _ _ _ _ h=>⟨0,h⟩) c st Q h;exact⟨ex,s,h1,fun Q' h'=>h2 k (za8 _) Q' h'⟩
theorem AN6{R':Rel}{g e:Nat}{c:Code}{st:St}{Q:Gk}(hR:∀g a b r b',R g a b r b'->R' g a b r b')(h:we P R cf g e c st Q):we P R' cf g e c st Q:=by
 obtain⟨k,ex,s,h1,h2,_⟩:=Kk (Rk:=fun _=>R') (fun _ _ _ _ _ _ _ _ h=>h) (fun _ _ _ _ _ h=>⟨0,hR _ _ _ _ _ h⟩) c st Q h;exact h2 k (za8 _) Q h1
theorem U4{ext:Rel}:∀k g a b r b',SX P cf ext k g a b r b'->SX P cf ext (k+1) g a b r b'
 |0,g,a,b,r,b',h=>.inl h
 |k+1,g,a,b,r,b',h=>by
  rcases h with h|⟨h0,fn,c,h1,h2,h3,h4,h⟩
  ·exact .inl h
  ·obtain⟨s,q1,q2⟩:=Dw h;exact .inr ⟨h0,fn,c,h1,h2,h3,h4,(q2 _).2 (AN6 (U4 k) q1)⟩
theorem Aj5{ext:Rel}:Vm (SX P cf ext):=by
 intro k k' g a b r b' hle h
 induction hle with
 |refl=>exact h
 |step _ ih=>exact U4 _ _ _ _ _ _ ih
theorem GN.intro{ext:Rel}{g:FuncId}{fn:Func}{c:Code}{a b:_}{r:V}{b':List Blk}(h0:cf.isExt g=false)(h1:P.funcs[g]? =some fn)(h2:fn.body=some c)(h3:Mw fn c a.length=true)(h4:Hg a b=true)
  (h:Ea (a.flatMap Af).eraseDups.length (cf.par g) (R6 a b) fun st=>we P (GN P cf ext) cf g (a.flatMap Af).eraseDups.length c st (outs P fn.results.toList (cf.rts g) (cf.res g) (a.flatMap Af).eraseDups.length r b')):GN P cf ext g a b r b':=by
 obtain⟨s0,q1,q2⟩:=Dw h;obtain⟨k,ex,s,h5,h6,_⟩:=Kk (Rk:=SX P cf ext) Aj5 (fun _ _ _ _ _ h=>h) c _ _ q1;exact⟨k+1,.inr ⟨h0,fn,c,h1,h2,h3,h4,(q2 _).2 (h6 k (za8 _) _ h5)⟩⟩
theorem GN.ext{ext:Rel}{g:FuncId}{a b:_}{r:V}{b':List Blk}(h:ext g a b r b'):GN P cf ext g a b r b':=⟨0,h⟩
def after(e:Nat)(keep:List (Nat×Mds))(out:Ex->List (Nat×Mds))(K:St->Prop)(Q:Gk):Gk:=fun ex s=>
 match ex with
 |.normal=>Ea e keep s K
 |ex=>Ea e (out ex) s (Q ex)
def SC(P:Program)(R:Rel)(cf:Cfg)(g:FuncId)(e:Nat)(c:Code)(st:St)(Q:Gk):Prop:=
 ∃n,we P R cf g e c st fun ex s=>match ex with|.normal=>VM (we P R cf g e c) e (cf.live g (rid c)) (cf.out g (rid c)) n s Q|ex=>Ea e (cf.out g (rid c) ex) s (Q ex)
theorem AC6{g e:Nat}{c:Code}{st:St}{Q:Gk}:we P R cf g e (.loop c) st Q=Ea e (cf.live g (rid c)) st fun s=>SC P R cf g e c s Q:=by
 apply propext
 constructor
 ·intro h;unfold we at h;obtain⟨n,h⟩:=h;cases n with
  |zero=>exact h.elim
  |succ n=>
   obtain⟨s,h1,h2⟩:=Dw h;exact(h2 _).2 ⟨n,h1⟩
 ·intro h;obtain⟨s,⟨n,h1⟩,h2⟩:=Dw h;unfold we;exact⟨n+1,(h2 _).2 h1⟩
theorem SE{g e:Nat}{c:Code}{st:St}{Q:Gk}:SC P R cf g e c st Q=we P R cf g e c st (after e (cf.live g (rid c)) (cf.out g (rid c)) (fun s=>SC P R cf g e c s Q) Q):=by
 apply propext
 constructor
 ·rintro⟨n,h⟩;obtain⟨ex,s,h1,h2⟩:=Az2 h;refine h2 _ ?_
  cases ex with
  |normal=>
   cases n with
   |zero=>exact h1.elim
   |succ n=>
    obtain⟨s',h3,h4⟩:=Dw h1;exact(h4 _).2 ⟨n,h3⟩
  |exit id=>exact h1
  |ret=>exact h1
 ·intro h;obtain⟨ex,s,h1,h2⟩:=Az2 h;cases ex with
  |normal=>
   obtain⟨s',⟨n,h3⟩,h4⟩:=Dw h1;exact⟨n+1,h2 _ ((h4 _).2 h3)⟩
  |exit id=>exact⟨0,h2 _ h1⟩
  |ret=>exact⟨0,h2 _ h1⟩
end
section
open Go
variable {P:Program} {R:Rel} {cf:Cfg} {ρ ρ':Operand->V} {hp hp':Hp} {b:Nat} {K:BP}
theorem PX{flds:List Fld}:∀(l:List (Nat×Operand))(cs:List V),(∀x∈l,ρ x.2=ρ' x.2)->Hf flds ρ cs l=Hf flds ρ' cs l
 |[],_,_=>rfl
 |(k,x)::l,cs,h=>by
  have e:=h (k,x) (by simp);simp only at e;simp only[Hf,e];cases flds[k]? with
  |none=>rfl
  |some f=>
   simp only[]
   split
   ·cases FT cs f.off (flat (ρ' x))with
    |none=>rfl
    |some cs'=>simp only[za0];exact PX l cs' fun y hy=>h y (by simp[hy])
   ·rfl
theorem Jx{size:Nat}:∀(l:List (Nat×Operand))(n:Nat),(∀x∈l,ρ x.2=ρ' x.2)->AW hp ρ size n l=AW hp ρ' size n l
 |[],_,_=>rfl
 |(k,x)::l,n,h=>by
  have e:=h (k,x) (by simp);simp only at e;simp only[AW,e,Jx l (n+1) fun y hy=>h y (by simp[hy])]
theorem Jt{x:Option Operand}{d:Nat}(h:∀y,x=some y->ρ y=ρ' y):bnd ρ x d=bnd ρ' x d:=by
 cases x with
 |none=>rfl
 |some y=>simp only[bnd,h y rfl]
theorem MP{l:List Operand}(h:∀x∈l,ρ x=ρ' x):l.map ρ=l.map ρ':=List.map_congr_left h
theorem YX{op:Op}(h:∀y∈op.operands,ρ y=ρ' y):Aq P op ρ=Aq P op ρ':=by
 cases op with
 |move x=>simp only[Aq,h x (by simp[Op.operands])]
 |assign x=>simp only[Aq,h x (by simp[Op.operands])]
 |pick c a b=>simp only[Aq,h c (by simp[Op.operands]),h a (by simp[Op.operands]),h b (by simp[Op.operands])]
 |build t parts=>
  simp only[Aq];cases AY P t with
  |none=>rfl
  |some d=>simp only[PX parts.toList d.zero fun x hx=>h x.2 (by simp only[Op.operands,List.mem_toArray,ze0];exact⟨x,hx,rfl⟩)]
 |nilCheck x=>simp only[Aq,h x (by simp[Op.operands])]
 |binOp o t x y yt=>simp only[Aq,h x (by simp[Op.operands]),h y (by simp[Op.operands])]
 |unOp u t x=>simp only[Aq,h x (by simp[Op.operands])]
 |convert s d x=>simp only[Aq,h x (by simp[Op.operands])]
 |field t x k=>simp only[Aq,h x (by simp[Op.operands])]
 |fieldAddr t x k=>simp only[Aq,h x (by simp[Op.operands])]
 |index t x i=>simp only[Aq,h x (by simp[Op.operands]),h i (by simp[Op.operands])]
 |indexAddr t x i=>simp only[Aq,h x (by simp[Op.operands]),h i (by simp[Op.operands])]
 |slice t x lo hi mx=>
  have e:=h x (by simp[Op.operands]);have el:∀d,bnd ρ lo d=bnd ρ' lo d:=fun d=>Jt fun y hy=>h y (by subst hy;simp[Op.operands])
  have eh:∀d,bnd ρ hi d=bnd ρ' hi d:=fun d=>Jt fun y hy=>h y (by subst hy;simp[Op.operands])
  have em:∀d,bnd ρ mx d=bnd ρ' mx d:=fun d=>Jt fun y hy=>h y (by subst hy;simp[Op.operands])
  cases mx with
  |none=>simp only[Aq,e,el,eh]
  |some m=>
   cases hi with
   |none=>rfl
   |some r=>simp only[Aq,e,el,eh,em]
 |extract x k=>simp only[Aq,h x (by simp[Op.operands])]
 |makeFunc fn first caps=>
  cases fn with
  |func f=>
   have e:caps.toList.map ρ=caps.toList.map ρ':=MP fun x hx=>h x (by simp[Op.operands];right;simpa using hx)
   simp only[Aq,e]
  |_=>rfl
 |call c=>
  obtain⟨callee,args,tys⟩:=c;cases callee with
  |value f=>rfl
  |invoke r m=>rfl
  |builtin bb=>
   have e:args.toList.map ρ=args.toList.map ρ':=MP fun x hx=>h x (by simp[Op.operands,Call.operands];simpa using hx)
   cases bb with
   |len=>
    simp only[Aq]
    match hargs:args.toList,tys.toList with
    |[],_=>rfl
    |[x],[]=>rfl
    |[x],[t]=>
     rw[hargs]at e;simp only[zc2,List.map_nil,List.cons.injEq,and_true]at e;simp only[e]
    |[x],_::_::_=>rfl
    |_::_::_,_=>rfl
   |min=>simp only[Aq,e]
   |max=>simp only[Aq,e]
   |_=>rfl
 |_=>rfl
theorem YW{op:Op}(h:∀y∈op.operands,ρ y=ρ' y):A4 P op ρ hp b=A4 P op ρ' hp b:=by
 cases op with
 |box t x=>simp only[A4,h x (by simp[Op.operands])]
 |load t x=>simp only[A4,h x (by simp[Op.operands])]
 |indexAddr t x i=>simp only[A4,h x (by simp[Op.operands]),h i (by simp[Op.operands])]
 |makeSlice t x i=>simp only[A4,h x (by simp[Op.operands]),h i (by simp[Op.operands])]
 |convert s d x=>simp only[A4,h x (by simp[Op.operands])]
 |_=>rfl
theorem TI{t:TypeId}{s:V}{lo hi:Option Operand}(h1:∀y,lo=some y->ρ y=ρ' y)(h2:∀y,hi=some y->ρ y=ρ' y):Bg P t s lo hi ρ hp K=Bg P t s lo hi ρ' hp K:=by
 have e1:∀d,bnd ρ lo d=bnd ρ' lo d:=fun d=>Jt h1
 have e2:∀d,bnd ρ hi d=bnd ρ' hi d:=fun d=>Jt h2
 simp only[Bg,e1,e2]
theorem PO{ρ ρ':Operand->V}:∀{l:List (Nat×Operand)},(∀x∈l,ρ x.2=ρ' x.2)->I2 ρ l=I2 ρ' l
 |[],_=>rfl
 |x::l,h=>by
  have h2:=PO (l:=l) fun y hy=>h y (by simp[hy])
  unfold I2 at h2⊢
  simp only[zc1,h x (by simp),h2]
theorem TH{t:TypeId}{n:Nat}{l:List (Nat×Operand)}(h:∀x∈l,ρ x.2=ρ' x.2):Ap P t n l ρ hp b K=Ap P t n l ρ' hp b K:=by
 cases n with
 |zero=>rfl
 |succ n=>simp only[Ap,Jx l _ h,PO h]
theorem Zm{op:Op}(h:∀y∈op.operands,ρ y=ρ' y):Bi P R cf op b ρ hp K=Bi P R cf op b ρ' hp K:=by
 have eT:=YX (P:=P) h;have eM:=YW (P:=P) (hp:=hp) (b:=b) h;cases op with
 |store t a x=>simp only[Bi,h a (by simp[Op.operands]),h x (by simp[Op.operands])]
 |buildSlice t n parts=>simp only[Bi];exact TH fun x hx=>h x.2 (by simp only[Op.operands,List.mem_toArray,ze0];exact⟨x,hx,rfl⟩)
 |slice t x lo hi mx=>
  have e:=h x (by simp[Op.operands]);cases mx with
  |none=>
   have es:∀K,Bg P t (ρ' x) lo hi ρ hp K=Bg P t (ρ' x) lo hi ρ' hp K:=fun K=>
    TI (fun y (hy:lo=some y)=>h y (by subst hy;simp[Op.operands])) (fun y (hy:hi=some y)=>h y (by subst hy;simp[Op.operands]))
   simp only[Bi,eT,e,es]
  |some m=>simp only[Bi,eT,eM]
 |call c=>
  obtain⟨callee,args,tys⟩:=c;have e:args.toList.map ρ=args.toList.map ρ':=MP fun x hx=>h x (by cases callee<;>simp[Op.operands,Call.operands]<;>first|(right;simpa using hx)|simpa using hx)
  cases callee with
  |value f=>simp only[Bi,e,h f (by simp[Op.operands,Call.operands])]
  |invoke r m=>rfl
  |builtin bb=>
   cases bb with
   |append=>
    simp only[Bi]
    match hargs:args.toList with
    |[]=>rfl
    |[_]=>rfl
    |[s,x]=>
     rw[hargs]at e;simp only[zc2,List.map_nil,List.cons.injEq,and_true]at e;simp only[e.1,e.2]
    |_::_::_::_=>rfl
   |_=>simp only[Bi,eT,eM]
 |_=>simp only[Bi,eT,eM]
theorem Tk{op:Op}(ht:isT op=true)(h:Bi P R cf op b ρ hp K):∃x,K x hp .T/\∀(hp':Hp)(b':Nat)(K':BP),K' x hp' .T->Bi P R cf op b' ρ hp' K':=by
 have key:∀{op:Op},(∀hp b K,Bi P R cf op b ρ hp K=match Aq P op ρ with|some x=>K x hp .T|none=>Bl (A4 P op ρ hp b) fun z=>z.2.length<=16/\K z.1 (inst hp b z.2) .M)->(∀hp b,A4 P op ρ hp b=none)->
   Bi P R cf op b ρ hp K->∃x,K x hp .T/\∀(hp':Hp)(b':Nat)(K':BP),K' x hp' .T->Bi P R cf op b' ρ hp' K':=by
  intro op h1 h2 h;rw[h1]at h;cases hx:Aq P op ρ with
  |none=>rw[hx]at h;simp only[h2]at h;exact h.elim
  |some x=>
   rw[hx]at h;exact⟨x,h,fun hp' b' K' h'=>by rw[h1,hx];exact h'⟩
 cases op with
 |call c=>
  obtain⟨callee,args,tys⟩:=c;cases callee with
  |builtin bb=>cases bb<;>first|(simp[isT]at ht;done)|exact key (fun _ _ _=>rfl) (fun _ _=>rfl) h
  |_=>simp[isT]at ht
 |_=>first|(simp[isT]at ht;done)|exact key (fun _ _ _=>rfl) (fun _ _=>rfl) h
theorem Tj{op:Op}(hr:isR op=true)(h:Bi P R cf op b ρ hp K):∃x cls,K x hp cls/\∀(hp':Hp),(∀y∈op.operands,∀id∈Ah (ρ y),∀k,hp id=some k->hp' id=some k)->
  ∀(b':Nat)(K':BP),K' x hp' cls->Bi P R cf op b' ρ hp' K':=by
 have key:∀{op:Op},(∀hp b K,Bi P R cf op b ρ hp K=match Aq P op ρ with|some x=>K x hp .T|none=>Bl (A4 P op ρ hp b) fun z=>z.2.length<=16/\K z.1 (inst hp b z.2) .M)->
   (∀x new,A4 P op ρ hp b=some (x,new)->new=[]/\∀hp',(∀y∈op.operands,∀id∈Ah (ρ y),∀k,hp id=some k->hp' id=some k)->∀b',A4 P op ρ hp' b'=some (x,[]))->
   Bi P R cf op b ρ hp K->∃x cls,K x hp cls/\∀(hp':Hp),(∀y∈op.operands,∀id∈Ah (ρ y),∀k,hp id=some k->hp' id=some k)->∀(b':Nat)(K':BP),K' x hp' cls->Bi P R cf op b' ρ hp' K':=by
  intro op h1 h2 h;rw[h1]at h;cases hx:Aq P op ρ with
  |some x=>
   rw[hx]at h;exact⟨x,.T,h,fun hp' _ b' K' h'=>by rw[h1,hx];exact h'⟩
  |none=>
   rw[hx]at h;simp only at h;obtain⟨⟨x,new⟩,hz,hl,hK⟩:=Aa h;obtain⟨rfl,h3⟩:=h2 x new hz;refine⟨x,.M,hK,fun hp' ha b' K' h'=> ?_⟩
   rw[h1,hx];simp only[h3 hp' ha b',Aj,inst];exact⟨by simp,h'⟩
 cases op with
 |load t a=>
  refine key (fun _ _ _=>rfl) (fun x new hx=> ?_) h
  refine⟨As6 P b ρ hp t a _ hx,fun hp' ha b'=> ?_⟩
  simp only[A4]at hx⊢
  split at hx
  ·rename_i d hd
   split at hx
   ·rename_i row c hra
    split at hx
    ·rename_i z hz;cases hx
     simp only[hd,hra,hz]
    ·cases hx
   ·rename_i id r c hra;have hag:=ha a (by simp[Op.operands]) id (by rw[hra];simp[Ah,Af,Ae])
    split at hx
    ·rename_i k hk;have hag':=hag k hk
     split at hx
     ·rename_i row hrow
      split at hx
      ·rename_i cs hcs
       split at hx
       ·rename_i hc
        split at hx
        ·rename_i z hz;cases hx
         simp only[hd,hra,hag',hrow,hcs];rw[zw hc];simp only[hz]
        ·cases hx
       ·cases hx
      ·cases hx
     ·cases hx
    ·cases hx
   ·cases hx
  ·cases hx
 |indexAddr t a i=>
  refine key (fun _ _ _=>rfl) (fun x new hx=> ?_) h
  simp only[A4]at hx
  split at hx
  ·rename_i id lo n k j hra hri
   split at hx
   ·rename_i e he
    split at hx
    ·rename_i d kb hd hkb
     split at hx
     ·rename_i hc;cases hx
      refine⟨rfl,fun hp' ha b'=> ?_⟩
      have hag:=ha a (by simp[Op.operands]) id (by rw[hra];simp[Ah,Af,Ae]) kb hkb;simp only[A4,hra,hri,he,hd,hag];rw[zw hc]
     ·cases hx
    ·cases hx
   ·cases hx
  ·cases hx
 |convert s d a=>
  refine key (fun _ _ _=>rfl) (fun x new hx=> ?_) h
  simp only[A4]at hx
  split at hx
  ·rename_i rows hra
   split at hx
   ·rename_i hc
    split at hx
    ·rename_i bs hbs;cases hx
     exact⟨rfl,fun hp' ha b'=>by simp only[A4,hra,hbs];rw[zw hc]⟩
    ·cases hx
   ·cases hx
  ·rename_i id lo n hra
   split at hx
   ·rename_i k hk
    split at hx
    ·rename_i hc
     split at hx
     ·rename_i bs hbs;cases hx
      refine⟨rfl,fun hp' ha b'=> ?_⟩
      have hag:=ha a (by simp[Op.operands]) id (by rw[hra];simp[Ah,Af,Ae]) k hk;simp only[A4,hra,hag];rw[zw hc];simp only[hbs]
     ·cases hx
    ·cases hx
   ·cases hx
  ·rename_i str hra
   split at hx
   ·rename_i hc;cases hx
    exact⟨rfl,fun hp' ha b'=>by simp only[A4,hra];rw[zw hc]⟩
   ·cases hx
  ·rename_i hra
   split at hx
   ·rename_i hc;cases hx
    exact⟨rfl,fun hp' ha b'=>by simp only[A4,hra];rw[zw hc]⟩
   ·cases hx
  ·cases hx
 |slice t a lo hi mx=>
  cases mx with
  |some m=>exact key (fun _ _ _=>rfl) (fun x new hx=>by simp[A4]at hx) h
  |none=>
   simp only[Bi]at h;by_cases hs:DH P t=true
   ·rw[zw hs]at h;obtain⟨z,hz,hK⟩:=Aa h;refine⟨z,.M,hK,fun hp' ha b' K' h'=> ?_⟩
    simp only[Bi];rw[zw hs,hz];exact h'
   ·rw[zi hs]at h;unfold Bg at h;obtain⟨e,he,h⟩:=Aa h;obtain⟨d,hd,h⟩:=Aa h
    split at h
    ·rename_i hra;obtain⟨l,hl,h⟩:=Aa h;obtain⟨r,hrr,h⟩:=Aa h;refine⟨.em,.M,h.2.2,fun hp' ha b' K' h'=> ?_⟩
     simp only[Bi];rw[zi hs];simp only[Bg,he,hd,hra,hl,hrr,Aj];exact⟨h.1,h.2.1,h'⟩
    ·rename_i rows hra;obtain⟨l,hl,h⟩:=Aa h;obtain⟨r,hrr,h⟩:=Aa h;obtain⟨h1,h2,h3,h⟩:=h;refine⟨_,.M,h,fun hp' ha b' K' h'=> ?_⟩
     simp only[Bi];rw[zi hs];simp only[Bg,he,hd,hra,hl,hrr,Aj];exact⟨h1,h2,h3,h'⟩
    ·rename_i id l0 n hra;obtain⟨l,hl,h⟩:=Aa h;obtain⟨r,hrr,h⟩:=Aa h;obtain⟨k,hk,h⟩:=Aa h;obtain⟨h1,h2,h3,h⟩:=h;refine⟨_,.M,h,fun hp' ha b' K' h'=> ?_⟩
     have hag:=ha a (by simp[Op.operands]) id (by rw[hra];simp[Ah,Af,Ae]) k hk;simp only[Bi];rw[zi hs];simp only[Bg,he,hd,hra,hl,hrr,hag,Aj];exact⟨h1,h2,h3,h'⟩
    ·exact h.elim
 |_=>simp[isR]at hr
def HT(b:Nat)(hp hp':Hp):Prop:=∀id,¬(b<=id/\id<b+16)->hp' id=hp id
theorem HT.refl(b:Nat)(hp:Hp):HT b hp hp:=fun _ _=>rfl
theorem Ss{b:Nat}{hp:Hp}{x:Option Blk}:HT b hp (upd hp b x):=fun id h=>by
 simp only[upd];rw[zi (by omega)]
theorem MH:∀(l:List Blk)(hp:Hp)(b id:Nat),¬(b<=id/\id<b+l.length)->inst hp b l id=hp id
 |[],_,_,_,_=>rfl
 |k::l,hp,b,id,h=>by
  simp only[inst];simp only[zc6]at h;rw[MH l _ (b+1) id (by omega)];simp only[upd];rw[zi (by omega)]
theorem P3{b:Nat}{hp:Hp}{l:List Blk}(h:l.length<=16):HT b hp (inst hp b l):=fun id hid=>MH l hp b id (by omega)
def Lv(b:Nat)(hp:Hp)(K:BP):Prop:=∃x hp' cls,K x hp' cls/\(cls≠ .E->HT b hp hp')
theorem Zq{t:TypeId}{a x:V}(h:B0 P t a x hp K):Lv b hp K:=by
 unfold B0 at h
 repeat' (split at h)
 all_goals first|exact h.elim|exact⟨_,_,_,h,fun hh=>absurd rfl hh⟩
theorem Zl{t:TypeId}{len:Nat}{parts:List (Nat×Operand)}(h:Ap P t len parts ρ hp b K):Lv b hp K:=by
 unfold Ap at h;obtain⟨e,he,h⟩:=Aa h;obtain⟨d,hd,h⟩:=Aa h;cases len with
 |zero=>exact⟨_,_,_,h.2,fun _=>HT.refl _ _⟩
 |succ len=>
  obtain⟨z,hz,h1,h2,h3,h⟩:=Aa h;refine⟨_,_,_,h,fun hh=> ?_⟩
  cases hk:z.2.1 with
  |nil=>exact Ss
  |cons i l=>rw[hk]at hh;exact absurd rfl hh
theorem X8{ts:List TypeId}{s x:V}(h:Cb P ts s x hp b K):Lv b hp K:=by
 unfold Cb at h
 split at h
 ·obtain⟨e,he,h⟩:=Aa h;obtain⟨d,hd,h⟩:=Aa h;obtain⟨ht,h⟩:=h;obtain⟨rows,kills,deep,h,_⟩:=Ql h
  split at h
  ·obtain⟨h1,h2,h3,h4,h⟩:=h;refine⟨_,_,_,h,fun hh=> ?_⟩
   cases kills with
   |nil=>exact Ss
   |cons i l=>exact absurd rfl hh
  ·obtain⟨k,hk,h⟩:=Aa h;exact⟨_,_,_,h.2.2.2.2.2.2.2.2,fun hh=>absurd rfl hh⟩
  ·exact h.elim
 ·exact h.elim
theorem Zp{t:TypeId}{s:V}{lo hi:Option Operand}(h:Bg P t s lo hi ρ hp K):Lv b hp K:=by
 unfold Bg at h;obtain⟨e,he,h⟩:=Aa h;obtain⟨d,hd,h⟩:=Aa h
 split at h
 ·obtain⟨l,hl,h⟩:=Aa h;obtain⟨r,hr,h⟩:=Aa h;exact⟨_,_,_,h.2.2,fun _=>HT.refl _ _⟩
 ·obtain⟨l,hl,h⟩:=Aa h;obtain⟨r,hr,h⟩:=Aa h;exact⟨_,_,_,h.2.2.2,fun _=>HT.refl _ _⟩
 ·obtain⟨l,hl,h⟩:=Aa h;obtain⟨r,hr,h⟩:=Aa h;obtain⟨k,hk,h⟩:=Aa h;exact⟨_,_,_,h.2.2.2,fun _=>HT.refl _ _⟩
 ·exact h.elim
theorem Az1{g:FuncId}{args:List V}(h:Dr R cf g args hp b K):Lv b hp K:=by
 unfold Dr at h;cases ha:EC hp (cf.byref g) args with
 |none=>rw[ha]at h;exact h.elim
 |some args'=>
  rw[ha]at h;cases hc:DA hp (args'.flatMap Af)with
  |none=>simp only[hc]at h
  |some order=>
   cases order with
   |nil=>
    simp only[hc]at h;unfold Iq GR at h;obtain⟨r,blks',hr,hlen,hid,h⟩:=h;by_cases hif:((Dp (cf.byref g) args).isEmpty||(Jc r&&blks'.all Dq))=true
    ·rw[zw hif]at h;refine⟨_,_,_,h,fun _=> ?_⟩
     have:BV hp [] 0 b blks'=inst hp b (blks'.map (Ee (BA [] 0 blks'.length b))):=by cases blks'<;>rfl
     rw[this];exact P3 (by simpa using hlen)
    ·rw[zi hif]at h;exact⟨_,_,_,h,fun hh=>absurd rfl hh⟩
   |cons i l=>
    simp only[hc]at h;unfold Ky GR at h;obtain⟨_,_,_,r,blks',hr,_,_,h⟩:=h;exact⟨_,_,_,h,fun hh=>absurd rfl hh⟩
theorem AF5{op:Op}(h:Bi P R cf op b ρ hp K):Lv b hp K:=by
 unfold Bi at h
 split at h
 ·exact Zq h
 ·exact Zl h
 ·split at h
  ·obtain⟨z,hz,h⟩:=Aa h;exact⟨_,_,_,h,fun _=>HT.refl _ _⟩
  ·exact Zp h
 ·split at h
  ·exact X8 h
  ·exact h.elim
 ·split at h
  ·exact Az1 h
  ·exact h.elim
 ·split at h
  ·exact⟨_,_,_,h,fun _=>HT.refl _ _⟩
  ·obtain⟨z,hz,hl,h⟩:=Aa h;exact⟨_,_,_,h,fun _=>P3 hl⟩
end
section
open Go
variable {P:Program} {R:Rel} {cf:Cfg}
theorem OS{acc:List Nat}{j:Nat}:∀(l:List Edge),(l.foldr (fun e s=>if Region.binds .any e then s|||2^e.on|||acc.getD e.on 0 else s) 0).testBit j=true->
  ∃e∈l,Region.binds .any e=true/\(e.on=j\/(acc.getD e.on 0).testBit j=true)
 |[],h=>by simp at h
 |e::l,h=>by
  simp only[List.foldr_cons]at h;by_cases hb:Region.binds .any e=true
  ·rw[zw hb]at h;simp only[Nat.testBit_or,Bool.or_eq_true]at h;rcases h with(h|h)|h
   ·obtain⟨e',h1,h2⟩:=OS l h;exact⟨e',by simp[h1],h2⟩
   ·rw[Nat.testBit_two_pow]at h;exact⟨e,by simp,hb,.inl (by simpa using h)⟩
   ·exact⟨e,by simp,hb,.inr h⟩
  ·rw[zi hb]at h;obtain⟨e',h1,h2⟩:=OS l h;exact⟨e',by simp[h1],h2⟩
def AF8(ops:List Oper)(ms:List Nat):Prop:=∀(i m:Nat),ms[i]? =some m->∀j,m.testBit j=true->
 ∃o e,ops[i]? =some o/\e∈o.after.toList/\Region.binds .any e=true/\(e.on=j\/∃m',ms[e.on]? =some m'/\e.on<i/\m'.testBit j=true)
theorem WL:∀(l pre:List Oper)(acc:List Nat),acc.length=pre.length->AF8 pre acc->AF8 (pre++l) (anc l acc)
 |[],pre,acc,_,h=>by simpa[anc]using h
 |o::l,pre,acc,hlen,h=>by
  simp only[anc];have:=WL l (pre++[o]) (acc++[o.after.toList.foldr (fun e s=>if Region.binds .any e then s|||2^e.on|||acc.getD e.on 0 else s) 0]) (by simp[hlen]) (by
   intro i m hm j hj;by_cases hi:i<acc.length
   ·rw[zd6 hi]at hm;obtain⟨o',e,h1,h2,h3,h4⟩:=h i m hm j hj;refine⟨o',e,by rw[zd6 (by omega)];exact h1,h2,h3,h4.imp (fun h=>h) ?_⟩
    rintro⟨m',h5,h6,h7⟩;exact⟨m',by rw[zd6 (by omega)];exact h5,h6,h7⟩
   ·rw[List.getElem?_append_right (by omega)]at hm;have hi':i-acc.length=0:=by
     have:=(za3.1 hm).1;simp at this;omega
    rw[hi']at hm;simp only[List.getElem?_cons_zero,zb]at hm;subst hm;obtain⟨e,h1,h2,h3⟩:=OS _ hj;refine⟨o,e,?_,h1,h2,h3.imp (fun h=>h) ?_⟩
    ·rw[List.getElem?_append_right (by omega),show i-pre.length=0 by omega];rfl
    ·intro h3;have hlt:e.on<acc.length:=by
      rcases zd3 e.on acc.length with h'|h'
      ·exact h'
      ·rw[za4,List.getElem?_eq_none h']at h3;simp at h3
     refine⟨acc[e.on],by rw[zd6 hlt,za1 hlt],by omega,?_⟩
     rw[za4,za1 hlt]at h3;simpa using h3)
  rwa[List.append_assoc]at this
theorem RI{ops:List Oper}{i j:Nat}(h:Iu ops i j=true):∃o e,ops[i]? =some o/\e∈o.after.toList/\Region.binds .any e=true/\(e.on=j\/(e.on<i/\Iu ops e.on j=true)):=by
 have hs:=WL ops [] [] rfl (fun i m hm=>by simp at hm);unfold Iu at h;cases hm:(anc ops [])[i]? with
 |none=>rw[za4,hm]at h;simp at h
 |some m=>
  rw[za4,hm]at h;obtain⟨o,e,h1,h2,h3,h4⟩:=hs i m hm j (by simpa using h);refine⟨o,e,by simpa using h1,h2,h3,h4.imp (fun h=>h) ?_⟩
  rintro⟨m',h5,h6,h7⟩;refine⟨h6,?_⟩
  unfold Iu;rw[za4,h5];simpa using h7
def Az8(ops:List Oper)(D:Nat->Prop):Prop:=∀i o,D i->ops[i]? =some o->∀e∈o.after.toList,Region.binds .any e=true->D e.on
theorem Np{ops:List Oper}{D:Nat->Prop}(hD:Az8 ops D):∀(i j:Nat),Iu ops i j=true->D i->D j:=by
 intro i
 induction i using Nat.strongRecOn with
 |_ i ih=>
  intro j h hi;obtain⟨o,e,h1,h2,h3,h4⟩:=RI h;have he:=hD i o hi h1 e h2 h3;rcases h4 with h4|⟨h4,h5⟩
  ·exact h4▸he
  ·exact ih e.on h4 j h5 he
theorem Js{ops:List Oper}{D:Nat->Prop}(hD:Az8 ops D){i:Nat}{o:Oper}(ho:ops[i]? =some o)(hr:∀e∈o.after.toList,Region.binds .any e=true->D e.on){j:Nat}(h:Iu ops i j=true):D j:=by
 obtain⟨o',e,h1,h2,h3,h4⟩:=RI h;rw[ho]at h1;cases h1
 have he:=hr e h2 h3;rcases h4 with h4|⟨_,h5⟩
 ·exact h4▸he
 ·exact Np hD e.on j h5 he
theorem K2{ops:List Oper}(hb:K1 ops=true):∀(i j:Nat),Iu ops i j=true->j<i:=by
 intro i
 induction i using Nat.strongRecOn with
 |_ i ih=>
  intro j h;obtain⟨o,e,h1,h2,h3,h4⟩:=RI h;have hlt:i<ops.length:=(za3.1 h1).1;unfold K1 at hb;have:=za6.1 hb i (by simpa using hlt);simp only[h1,za2]at this;have h5:=this.1;rw[Array.all_eq_true_iff_forall_mem]at h5;have h6:=h5 e (by simpa using h2);simp only[h3,Bool.not_true,Bool.or_false,decide_eq_true_eq]at h6;rcases h4 with h4|⟨h4,h5⟩
  ·omega
  ·have:=ih e.on h4 j h5;omega
def AI2(all:List Oper)(tm:Tm)(o:Oper):Prop:=∀j want,o.guard=some (j,want)->∃d,(all[j]?).bind (·.dst)=some d/\OF (tm d) want=some true
def Zu(all:List Oper)(tm:Tm)(o:Oper):Prop:=∃j want d,o.guard=some (j,want)/\(all[j]?).bind (·.dst)=some d/\OF (tm d) want=some false
structure Trace (P:Program) (R:Rel) (cf:Cfg) (all:List Oper) (c:Nat) (tmS:Nat->Tm) (hpS:Nat->Hp) (xS:Nat->V) (clsS:Nat->Cls) (i:Nat) (o:Oper):Prop where
 tm:tmS (i+1)=put (tmS i) o.dst (xS i)
 step:(AI2 all (tmS i) o/\F4 P R cf true o.op (16*(c+i)) (Ax (tmS i)) (hpS i) (fun x hp cls=>x=xS i/\hp=hpS (i+1)/\cls=clsS i)/\(clsS i=.E->eOK all i=true\/He cf all (tmS i) (hpS i) i=true))\/
  (Zu all (tmS i) o/\xS i=.tup []/\hpS (i+1)=hpS i)
theorem Trace.congr{all:List Oper}{c:Nat}{tmS tmS':Nat->Tm}{hpS hpS':Nat->Hp}{xS xS':Nat->V}{clsS clsS':Nat->Cls}{i:Nat}{o:Oper}(h:Trace P R cf all c tmS hpS xS clsS i o)
  (h1:tmS' i=tmS i) (h2:tmS' (i+1)=tmS (i+1)) (h3:hpS' i=hpS i) (h4:hpS' (i+1)=hpS (i+1)) (h5:xS' i=xS i) (h6:clsS' i=clsS i):Trace P R cf all c tmS' hpS' xS' clsS' i o:=
 ⟨by rw[h2,h1,h5];exact h.tm,by rw[h1,h3,h4,h5,h6];exact h.step⟩
theorem X0{all:List Oper}{c:Nat}{K:St->Prop}:∀(l:List Oper)(i:Nat)(tm:Tm)(hp:Hp),BZ P R cf all true l i ⟨tm,hp,c⟩ K->
  ∃tmS hpS xS clsS,tmS i=tm/\hpS i=hp/\(∀(j:Nat)(o:Oper),l[j]? =some o->Trace P R cf all c tmS hpS xS clsS (i+j) o)/\K ⟨tmS (i+l.length),hpS (i+l.length),c⟩
 |[],i,tm,hp,h=>⟨fun _=>tm,fun _=>hp,fun _=>.any,fun _=>.T,rfl,rfl,fun j o hj=>by simp at hj,h⟩
 |o::l,i,tm,hp,h=>by
  have join:∀(x:V)(hp':Hp)(cls:Cls),BZ P R cf all true l (i+1) ⟨put tm o.dst x,hp',c⟩ K->
    ((AI2 all tm o/\F4 P R cf true o.op (16*(c+i)) (Ax tm) hp (fun x1 hp1 cls1=>x1=x/\hp1=hp'/\cls1=cls)/\(cls=.E->eOK all i=true\/He cf all tm hp i=true))\/(Zu all tm o/\x=.tup []/\hp'=hp))->
    ∃tmS hpS xS clsS,tmS i=tm/\hpS i=hp/\(∀(j:Nat)(o1:Oper),(o::l)[j]? =some o1->Trace P R cf all c tmS hpS xS clsS (i+j) o1)/\K ⟨tmS (i+(o::l).length),hpS (i+(o::l).length),c⟩:=by
   intro x hp' cls hrest hstep;obtain⟨tmS,hpS,xS,clsS,h1,h2,h3,h4⟩:=X0 l (i+1) _ _ hrest;have hne:∀j,i+1+j≠i:=fun j=>by omega
   refine⟨fun k=>if k=i then tm else tmS k,fun k=>if k=i then hp else hpS k,fun k=>if k=i then x else xS k,fun k=>if k=i then cls else clsS k,by simp,by simp,fun j o1 hj=> ?_,?_⟩
   ·cases j with
    |zero=>
     simp only[List.getElem?_cons_zero,zb]at hj;subst hj;have hn:i+1≠i:=by omega
     refine⟨?_,?_⟩
     ·simp only[Nat.add_zero,zi hn,if_true,h1]
     ·simp only[Nat.add_zero,zi hn,if_true,h2];exact hstep
    |succ j=>
     simp only[List.getElem?_cons_succ]at hj;have:=h3 j o1 hj;rw[show i+(j+1)=i+1+j by omega];have n1:i+1+j≠i:=by omega
     have n2:i+1+j+1≠i:=by omega
     exact this.congr (by simp only[zi n1]) (by simp only[zi n2]) (by simp only[zi n1]) (by simp only[zi n2]) (by simp only[zi n1]) (by simp only[zi n1])
   ·simp only[zc6];have n1:i+(l.length+1)≠i:=by omega
    simp only[zi n1];rw[show i+(l.length+1)=i+1+l.length by omega];exact h4
  have hop:AI2 all tm o->F4 P R cf true o.op (16*(c+i)) (Ax tm) hp (fun x hp1 cls=>drawn true (eOK all i||He cf all tm hp i) cls (BZ P R cf all true l (i+1) ⟨put tm o.dst x,hp1,c⟩ K))->
    ∃tmS hpS xS clsS,tmS i=tm/\hpS i=hp/\(∀(j:Nat)(o1:Oper),(o::l)[j]? =some o1->Trace P R cf all c tmS hpS xS clsS (i+j) o1)/\K ⟨tmS (i+(o::l).length),hpS (i+(o::l).length),c⟩:=by
   intro hw h;obtain⟨k,x,hp',cls,h1,h2,_⟩:=XC (Rk:=fun _=>R) (fun _ _ _ _ _ _ _ _ h=>h) (fun _ _ _ _ _ h=>⟨0,h⟩) h;refine join x hp' cls (Oy h1).1 (.inl ⟨hw,h2 k (za8 _) _ ⟨rfl,rfl,rfl⟩,fun hc=> ?_⟩)
   subst hc;exact(Bool.or_eq_true _ _).mp h1.1
  unfold BZ at h
  split at h
  ·rename_i hg;exact hop (fun j want hj=>by rw[hg]at hj;cases hj) h
  ·rename_i j want hg;obtain⟨y,hy,h⟩:=Aa h;obtain⟨t,hyt,h'⟩:=Aa h
   clear h
   simp only[zb4]at hy;obtain⟨d,hjd,hyd⟩:=hy;subst hyd;cases t with
   |true=>
    simp only[if_true]at h';exact hop (fun j' want' hj'=>by rw[hg]at hj';cases hj';exact⟨d,hjd,hyt⟩) h'
   |false=>
    simp only[zb8,if_false]at h';exact join (.tup []) hp .T h' (.inr ⟨⟨j,want,d,hg,hjd,hyt⟩,rfl,rfl⟩)
def lw(all:List Oper)(xS:Nat->V)(tm0:Tm)(D:Nat->Prop)[DecidablePred D]:Nat->Tm
 |0=>tm0
 |n+1=>if D n then(match all[n]? with|some o=>put (lw all xS tm0 D n) o.dst (xS n)|none=>lw all xS tm0 D n)else lw all xS tm0 D n
section
variable {all:List Oper} {xS:Nat->V} {tm0:Tm}
theorem Lm{D D':Nat->Prop}[DecidablePred D][DecidablePred D']{d:Nat}:∀(n:Nat),(∀(j:Nat)(o:Oper),j<n->all[j]? =some o->o.dst=some d->(D j↔D' j))->lw all xS tm0 D n d=lw all xS tm0 D' n d
 |0,_=>rfl
 |n+1,h=>by
  have ih:=Lm (D:=D) (D':=D') (d:=d) n fun j o hj=>h j o (by omega)
  have hput:∀(D:Nat->Prop)[DecidablePred D](o:Oper),o.dst≠some d->put (lw all xS tm0 D n) o.dst (xS n) d=lw all xS tm0 D n d:=by
   intro D _ o ho;rcases L5 (tm:=lw all xS tm0 D n) (dst:=o.dst) (x:=xS n) (t:=d)with h1|⟨h1,_⟩
   ·exact h1
   ·exact absurd h1 ho
  have hsame:∀(D:Nat->Prop)[DecidablePred D],(∀o,all[n]? =some o->o.dst≠some d)->lw all xS tm0 D (n+1) d=lw all xS tm0 D n d:=by
   intro D _ hno;simp only[lw]
   split
   ·cases ho:all[n]? with
    |none=>rfl
    |some o=>exact hput D o (hno o ho)
   ·rfl
  by_cases hex:∃o,all[n]? =some o/\o.dst=some d
  ·obtain⟨o,ho,hd⟩:=hex;have hiff:=h n o (by omega) ho hd;simp only[lw,ho,hd];by_cases hD:D n
   ·rw[zw hD,zw (hiff.1 hD)];simp[put,upd]
   ·rw[zi hD,zi (fun hh=>hD (hiff.2 hh))];exact ih
  ·have hno:∀o,all[n]? =some o->o.dst≠some d:=fun o ho hd=>hex ⟨o,ho,hd⟩
   rw[hsame D hno,hsame D' hno];exact ih
theorem YU{tmS:Nat->Tm}(h0:tmS 0=tm0)(hs:∀(j:Nat) (o:Oper),all[j]? =some o->tmS (j+1)=put (tmS j) o.dst (xS j)):∀n,n<=all.length->tmS n=lw all xS tm0 (fun _=>True) n
 |0,_=>h0
 |n+1,hn=>by
  have ih:=YU h0 hs n (by omega);have ho:all[n]? =some (all[n]'(by omega)):=za1 (by omega);rw[hs n _ ho,ih];simp only[lw,if_true,ho]
theorem As7{i:Nat}:∀n,i<=n->lw all xS tm0 (fun j=>j<i) n=lw all xS tm0 (fun _=>True) i
 |0,h=>by
  have:i=0:=by omega
  subst this;rfl
 |n+1,h=>by
  by_cases hi:i=n+1
  ·subst hi
   funext d
   exact Lm (n+1) fun j o hj _ _=>⟨fun _=>trivial,fun _=>hj⟩
  ·rw[<-As7 n (by omega)];simp only[lw];rw[zi (by omega)]
theorem AK9{D D':Nat->Prop}[DecidablePred D][DecidablePred D']{i:Nat}{o:Oper}(ho:all[i]? =some o)(hD:∀j,D' j↔D j\/j=i)(hno:∀(j:Nat) (o':Oper) (d:Nat),i<j->D j->all[j]? =some o'->o.dst=some d->o'.dst≠some d):
  ∀n,i<n->lw all xS tm0 D' n=put (lw all xS tm0 D n) o.dst (xS i):=by
 intro n hn
 funext d
 by_cases hd:o.dst=some d
 ·have hval:put (lw all xS tm0 D n) o.dst (xS i) d=xS i:=by rw[hd];simp[put,upd]
  rw[hval]
  induction n with
  |zero=>omega
  |succ n ih=>
   simp only[lw];by_cases hin:i=n
   ·subst hin;rw[zw ((hD i).2 (.inr rfl)),ho];simp only[hd];simp[put,upd]
   ·have ih':=ih (by omega) (by rw[hd];simp[put,upd])
    split
    ·rename_i hDn;have hDn':D n:=((hD n).1 hDn).resolve_right fun h=>hin h.symm
     cases hon:all[n]? with
     |none=>exact ih'
     |some o'=>
      simp only[];rcases L5 (tm:=lw all xS tm0 D' n) (dst:=o'.dst) (x:=xS n) (t:=d)with h1|⟨h1,_⟩
      ·rw[h1];exact ih'
      ·exact absurd h1 (hno n o' d (by omega) hDn' hon hd)
    ·exact ih'
 ·rcases L5 (tm:=lw all xS tm0 D n) (dst:=o.dst) (x:=xS i) (t:=d)with h1|⟨h1,_⟩
  ·rw[h1];refine Lm n fun j o' hj hoj hdj=> ?_
   rw[hD j];refine⟨fun h=>h.resolve_right fun he=> ?_,.inl⟩
   subst he;rw[ho]at hoj;cases hoj
   exact hd hdj
  ·exact absurd h1 hd
end
theorem Uw{α:Type}{p p':α->Bool}:∀(l:List α),(∀x∈l,p' x=true->p x=true)->(∃x∈l,p x=true/\p' x=false)->(l.filter p').length<(l.filter p).length
 |[],_,⟨x,hx,_⟩=>by simp at hx
 |a::l,h,⟨x,hx,h1,h2⟩=>by
  have hle:∀(l:List α),(∀x∈l,p' x=true->p x=true)->(l.filter p').length<=(l.filter p).length:=by
   intro l
   induction l with
   |nil=>intro _;simp
   |cons b l ih=>
    intro hb;have:=ih fun y hy=>hb y (by simp[hy])
    simp only[List.filter_cons];cases hp':p' b with
    |true=>rw[hb b (by simp) hp'];simp;omega
    |false=>cases p b<;>simp<;>omega
  simp only[List.filter_cons];simp only[zc9]at hx;rcases hx with rfl|hx
  ·have:=hle l fun y hy=>h y (by simp[hy])
   rw[h1,h2];simp;omega
  ·have:=Uw l (fun y hy=>h y (by simp[hy])) ⟨x,hx,h1,h2⟩;cases hp':p' a with
   |true=>rw[h a (by simp) hp'];simp;omega
   |false=>cases p a<;>simp<;>omega
end
section
open Go
variable {P:Program} {R:Rel} {cf:Cfg} {ρ:Operand->V} {hp hF h h2:Hp} {b:Nat} {K:BP}
def isW(op:Op):Bool:= !isT op&& !isR op
def EN(b:Nat)(hF h h2:Hp):Prop:=∀id,h2 id=if id<b then h id else match h id with|some k=>some k|none=>hF id
theorem EN.some{i:Nat}{k:Blk}(h0:EN b hF h h2):EN b hF (upd h i (some k)) (upd h2 i (some k)):=by
 intro id;simp only[upd];by_cases hi:id=i
 ·rw[zw hi,zw hi]
  split<;>rfl
 ·rw[zi hi,zi hi];exact h0 id
theorem EN.low{i:Nat}{x:Option Blk}(h0:EN b hF h h2)(hi:i<b):EN b hF (upd h i x) (upd h2 i x):=by
 intro id;simp only[upd];by_cases he:id=i
 ·rw[zw he,zw he,zw (by omega)]
 ·rw[zi he,zi he];exact h0 id
theorem EN.kill:∀{l:List Nat}{h h2:Hp},EN b hF h h2->(∀i∈l,i<b)->EN b hF (Ev.kill h l) (Ev.kill h2 l)
 |[],_,_,h0,_=>h0
 |i::l,h,h2,h0,hl=>by
  have:=(EN.kill (l:=l) h0 (fun j hj=>hl j (by simp[hj]))).low (x:=none) (hl i (by simp))
  first|exact this|(simp only[Ev.kill];exact EN.kill (h0.low (hl i (by simp))) (fun j hj=>hl j (by simp[hj])))
theorem EN.freeze:∀{l:List Nat}{h h2:Hp},EN b hF h h2->(∀i∈l,i<b)->EN b hF (Ev.freeze h l) (Ev.freeze h2 l)
 |[],_,_,h0,_=>h0
 |i::l,h,h2,h0,hl=>by
  have hi:=hl i (by simp);have he:h2 i=h i:=by have:=h0 i;rwa[zw hi]at this
  simp only[Ev.freeze,he];exact EN.freeze (h0.low hi) fun j hj=>hl j (by simp[hj])
theorem EN.setAt:∀{l:List Nat}{ks:List Blk}{h h2:Hp},EN b hF h h2->EN b hF (Ev.setAt h l ks) (Ev.setAt h2 l ks)
 |[],ks,_,_,h0=>by cases ks<;>exact h0
 |i::l,[],_,_,h0=>h0
 |i::l,k::ks,_,_,h0=>by simp only[Ev.setAt];exact EN.setAt h0.some
theorem EN.inst:∀{ks:List Blk}{n:Nat}{h h2:Hp},EN b hF h h2->EN b hF (Ev.inst h n ks) (Ev.inst h2 n ks)
 |[],_,_,_,h0=>h0
 |k::ks,n,_,_,h0=>by simp only[Ev.inst];exact EN.inst h0.some
theorem EN.start(h1:∀id,b<=id->hp id=none)(h2:∀id,id<b->hF id=hp id):EN b hF hp hF:=by
 intro id;by_cases hi:id<b
 ·rw[zw hi,h2 id hi]
 ·rw[zi hi,h1 id (by omega)]
def Dj(n:Nat)(h:Hp):Prop:=∀id,n<=id->h id=none
theorem Dj.low{n i:Nat}{k:Blk}(h0:Dj n h)(hi:i<n):Dj n (upd h i (some k)):=by
 intro id hid;simp only[upd];rw[zi (by omega)];exact h0 id hid
theorem Dj.gone{n i:Nat}(h0:Dj n h):Dj n (upd h i none):=by
 intro id hid;simp only[upd]
 split
 ·rfl
 ·exact h0 id hid
theorem Dj.kill{n:Nat}:∀{l:List Nat}{h:Hp},Dj n h->Dj n (Ev.kill h l)
 |[],_,h0=>h0
 |i::l,h,h0=>by first|exact(Dj.kill (l:=l) h0).gone|(simp only[Ev.kill];exact Dj.kill h0.gone)
theorem Dj.freeze{n:Nat}:∀{l:List Nat}{h:Hp},Dj n h->Dj n (Ev.freeze h l)
 |[],_,h0=>h0
 |i::l,h,h0=>by
  simp only[Ev.freeze];refine Dj.freeze fun id hid=> ?_
  simp only[upd]
  split
  ·rename_i he;rw[<-he,h0 id hid];rfl
  ·exact h0 id hid
theorem Dj.setAt{n:Nat}:∀{l:List Nat}{ks:List Blk}{h:Hp},Dj n h->(∀i∈l,i<n)->Dj n (Ev.setAt h l ks)
 |[],ks,_,h0,_=>by cases ks<;>exact h0
 |i::l,[],_,h0,_=>h0
 |i::l,k::ks,_,h0,hl=>by simp only[Ev.setAt];exact Dj.setAt (h0.low (hl i (by simp))) fun j hj=>hl j (by simp[hj])
theorem Dj.inst{n:Nat}:∀{ks:List Blk}{m:Nat}{h:Hp},Dj n h->m+ks.length<=n->Dj n (Ev.inst h m ks)
 |[],_,_,h0,_=>h0
 |k::ks,m,_,h0,hm=>by
  simp only[zc6]at hm;simp only[Ev.inst];exact Dj.inst (h0.low (by omega)) (by omega)
theorem Dj.mono{n m:Nat}(h0:Dj n h)(hm:n<=m):Dj m h:=fun id hid=>h0 id (by omega)
section
variable (hs:∀id k,hp id=some k->hF id=some k)
include hs
theorem Tz{x:V}{z:V×List Nat×Bool}(h:AD hp x=some z):AD hF x=some z/\∀i∈z.2.1,∃k,hp i=some k:=by
 cases x with
 |ar id lo n=>
  simp only[AD]at h⊢
  cases hk:hp id with
  |none=>rw[hk]at h;cases h
  |some k=>
   rw[hk]at h;rw[hs id k hk];refine⟨h,fun i hi=> ?_⟩
   simp only at h
   split at h
   ·cases h;simp at hi;subst hi;exact⟨k,hk⟩
   ·cases h;simp at hi
   ·cases h
 |v x=>simp only[AD,zb]at h⊢;subst h;exact⟨rfl,by simp⟩
 |em=>simp only[AD,zb]at h⊢;subst h;exact⟨rfl,by simp⟩
 |er e=>simp only[AD]at h;cases h
 |im rows=>simp only[AD,zb]at h⊢;subst h;exact⟨rfl,by simp⟩
 |_=>simp[AD]at h
theorem H0:∀{l:List V}{z:List V×List Nat×Bool},AN hp l=some z->AN hF l=some z/\∀i∈z.2.1,∃k,hp i=some k
 |[],z,h=>by simp only[AN,zb]at h⊢;subst h;exact⟨rfl,by simp⟩
 |x::l,z,h=>by
  simp only[AN]at h⊢
  split at h
  ·rename_i y a d ys as ds h1 h2;cases h
   obtain⟨q1,q2⟩:=Tz hs h1;obtain⟨q3,q4⟩:=H0 h2;simp only[q1,q3];refine⟨trivial,fun i hi=> ?_⟩
   simp only[zb5]at hi;exact hi.elim (q2 i) (q4 i)
  ·cases h
theorem K8{size:Nat}:∀{l:List (Nat×Operand)}{n:Nat}{z:List (List V)×List Nat×Bool},AW hp ρ size n l=some z->AW hF ρ size n l=some z/\∀i∈z.2.1,∃k,hp i=some k
 |[],n,z,h=>by simp only[AW,zb]at h⊢;subst h;exact⟨rfl,by simp⟩
 |(k,x)::l,n,z,h=>by
  simp only[AW]at h⊢
  split at h
  ·rename_i hc;rw[zw hc]
   split at h
   ·rename_i y a d ys as ds h1 h2;cases h
    obtain⟨q1,q2⟩:=H0 hs h1;obtain⟨q3,q4⟩:=K8 h2;simp only[q1,q3];refine⟨trivial,fun i hi=> ?_⟩
    simp only[zb5]at hi;exact hi.elim (q2 i) (q4 i)
   ·cases h
  ·cases h
theorem XS{d:TyD}{x:V}{K:List (List V)->List Nat->Bool->Prop}(h:Bp d x hp K):∃rows kills deep,K rows kills deep/\(∀i∈kills,∃k,hp i=some k)/\∀K':List (List V)->List Nat->Bool->Prop,K' rows kills deep->Bp d x hF K':=by
 unfold Bp at h
 split at h
 ·exact⟨_,_,_,h,by simp,fun K' h'=>h'⟩
 ·exact⟨_,_,_,h,by simp,fun K' h'=>h'⟩
 ·exact⟨_,_,_,h,by simp,fun K' h'=>h'⟩
 ·rename_i id lo n
  split at h
  ·rename_i k hk;have hk':=hs id k hk
   split at h
   ·exact h.elim
   ·rename_i hkk;exact⟨_,_,_,h,by simp,fun K' h'=>by simp only[Bp,hk',hkk];exact h'⟩
   ·rename_i hkk
    split at h
    ·rename_i hz;exact⟨_,_,_,h.2,by simp,fun K' h'=>by simp only[Bp,hk',hkk,hz,if_true];exact⟨h.1,h'⟩⟩
    ·rename_i hz;exact⟨_,_,_,h,fun i hi=>by simp at hi;subst hi;exact⟨k,hk⟩,fun K' h'=>by simp only[Bp,hk',hkk];rw[zi hz];exact h'⟩
  ·exact h.elim
 ·exact h.elim
theorem UQ{x y:V}(h:JF hp x=some y):JF hF x=some y/\∀i∈C1 x,∃k,hp i=some k:=by
 cases x with
 |ar id lo n=>
  simp only[JF]at h⊢
  cases hk:hp id with
  |none=>rw[hk]at h;cases h
  |some k=>
   rw[hk]at h;rw[hs id k hk];exact⟨h,fun i hi=>by simp[C1]at hi;subst hi;exact⟨k,hk⟩⟩
 |cl g caps=>cases caps<;>exact⟨h,by simp[C1]⟩
 |_=>exact⟨h,by simp[C1]⟩
theorem OQ:∀{l r:List V},JG hp l=some r->JG hF l=some r/\∀i∈l.flatMap C1,∃k,hp i=some k
 |[],r,h=>⟨h,by simp⟩
 |x::l,r,h=>by
  simp only[JG]at h⊢
  split at h
  ·rename_i y s h1 h2;obtain⟨q1,q2⟩:=UQ hs h1;obtain⟨q3,q4⟩:=OQ h2;simp only[q1,q3];refine⟨h,fun i hi=> ?_⟩
   simp only[zb2,zb5]at hi;exact hi.elim (q2 i) (q4 i)
  ·cases h
theorem Ah6{x y:V}(h:F7 hp x=some y):F7 hF x=some y/\∀i∈JW x,∃k,hp i=some k:=by
 cases x with
 |agg cs=>
  simp only[F7]at h⊢
  split at h
  ·rename_i r hr;obtain⟨q1,q2⟩:=OQ hs hr;rw[q1];exact⟨h,q2⟩
  ·cases h
 |cl g caps=>
  simp only[F7]at h⊢
  split at h
  ·rename_i r hr;obtain⟨q1,q2⟩:=OQ hs hr;rw[q1];exact⟨h,q2⟩
  ·cases h
 |_=>simp only[F7]at h⊢;exact UQ hs h
theorem US:∀{fs:List Bool}{l r:List V},EC hp fs l=some r->EC hF fs l=some r/\∀i∈Dp fs l,∃k,hp i=some k
 |_,[],r,h=>⟨h,by simp[Dp]⟩
 |fs,x::l,r,h=>by
  simp only[EC]at h⊢
  split at h
  ·rename_i y s h1 h2;obtain⟨q3,q4⟩:=US h2;have hq:(if fs.headD false=true then(if EG x=true then some x else none)else F7 hF x)=some y/\∀i∈(if fs.headD false=true then []else JW x),∃k,hp i=some k:=by
    split at h1
    ·rename_i hf;rw[zw hf,zw hf];exact⟨h1,by simp⟩
    ·rename_i hf;rw[zi hf,zi hf];exact Ah6 hs h1
   rw[hq.1,q3];refine⟨h,fun i hi=> ?_⟩
   simp only[Dp,zb5]at hi;exact hi.elim (hq.2 i) (q4 i)
  ·cases h
theorem Ou{S:List Nat}(hS:∀i∈S,∃k,hp i=some k/\∀j∈Ck k,j∈S):∀(n:Nat)(l acc o:List Nat),(∀i∈l,i∈S)->Ec hp n l acc=some o->Ec hF n l acc=some o
 |0,_,_,_,_,h=>by simp[Ec]at h
 |n+1,[],acc,o,_,h=>by simpa[Ec]using h
 |n+1,i::l,acc,o,hl,h=>by
  simp only[Ec]at h⊢
  split at h
  ·rename_i hc;rw[zw hc];exact Ou hS n l acc o (fun j hj=>hl j (by simp[hj])) h
  ·rename_i hc;rw[zi hc];obtain⟨k,hk,hr⟩:=hS i (hl i (by simp));rw[hk]at h;rw[hs i k hk];simp only at h⊢
   refine Ou hS n _ _ o (fun j hj=> ?_) h
   rcases zb5.1 hj with hj|hj
   ·exact hl j (by simp[hj])
   ·exact hr j hj
theorem Yx{rs o:List Nat}(h:DA hp rs=some o):DA hF rs=some o/\∀i∈o,∃k,hp i=some k:=by
 obtain⟨h1,h2⟩:=PU h;unfold OY at h2;simp only[za2,za6]at h2;have hS:∀i∈o,∃k,hp i=some k/\∀j∈Ck k,j∈o:=by
  intro i hi;have:=h2.2 i hi;cases hk:hp i with
  |none=>rw[hk]at this;cases this
  |some k=>
   rw[hk]at this;refine⟨k,rfl,fun j hj=> ?_⟩
   have:=(za6.1 this) j hj;simpa using this
 have h3:=Ou hs hS 64 rs [] o (fun i hi=>by simpa using h2.1 i hi) h1;refine⟨?_,fun i hi=>⟨_,(hS i hi).choose_spec.1⟩⟩
 unfold DA;rw[h3];simp only;rw[zw];unfold OY;simp only[za2,za6];refine⟨h2.1,fun i hi=> ?_⟩
 obtain⟨k,hk,hr⟩:=hS i hi;rw[hs i k hk];exact za6.2 fun j hj=>by simpa using hr j hj
theorem Yr{o:List Nat}(h:∀i∈o,∃k,hp i=some k):AF hF o=AF hp o:=by
 unfold AF;refine List.map_congr_left fun i hi=> ?_
 obtain⟨k,hk⟩:=h i hi;rw[hk,hs i k hk]
end
def Am0(P:Program)(R:Rel)(cf:Cfg)(op:Op)(b:Nat)(ρ:Operand->V)(hF:Hp)(K:BP):Prop:=
 ∃x hp1 cls,K x hp1 cls/\Dj (b+16) hp1/\∃hp2,EN b hF hp1 hp2/\∀K':BP,K' x hp2 cls->Bi P R cf op b ρ hF K'
section
variable (hn:∀id,b<=id->hp id=none) (hl:∀id,id<b->hF id=hp id)
include hn hl
theorem Ya{g:FuncId}{args:List V}(h:Dr R cf g args hp b K):
  ∃x hp1 cls,K x hp1 cls/\Dj (b+16) hp1/\∃hp2,EN b hF hp1 hp2/\∀K':BP,K' x hp2 cls->Dr R cf g args hF b K':=by
 have hlt:∀id k,hp id=some k->id<b:=fun id k hk=>by
  rcases zd3 id b with h|h
  ·exact h
  ·rw[hn id h]at hk;cases hk
 have hs:∀id k,hp id=some k->hF id=some k:=fun id k hk=>by rw[hl id (hlt id k hk)];exact hk
 have ho:=EN.start hn hl;have hu:Dj (b+16) hp:=fun id hid=>hn id (by omega)
 unfold Dr at h;cases ha:EC hp (cf.byref g) args with
 |none=>rw[ha]at h;exact h.elim
 |some args'=>
  rw[ha]at h;obtain⟨ha2,q2⟩:=US hs ha;have hlent:∀i∈Dp (cf.byref g) args,i<b:=fun i hi=>by obtain⟨k,hk⟩:=q2 i hi;exact hlt i k hk
  generalize hle:Dp (cf.byref g) args=lent at h hlent;cases hc:DA hp (args'.flatMap Af)with
  |none=>simp only[hc]at h
  |some order=>
   obtain⟨hc2,hko⟩:=Yx hs hc;cases order with
   |nil=>
    simp only[hc]at h;unfold Iq GR at h;obtain⟨r,blks',hr,hlen,hid,h⟩:=h;have hcall:∀hp1:Hp,BV hp1 [] 0 b blks'=inst hp1 b (blks'.map (Ee (BA [] 0 blks'.length b))):=by intro hp1;cases blks'<;>rfl
    by_cases hif:(lent.isEmpty||(Jc r&&blks'.all Dq))=true
    ·rw[zw hif,hcall]at h;refine⟨_,_,_,h,hu.inst (by simp;omega),_,ho.inst,fun K' h'=> ?_⟩
     unfold Dr;rw[ha2];simp only[hc2,hle];unfold Iq GR;refine⟨r,blks',hr,hlen,hid,?_⟩
     rw[zw hif,hcall];exact h'
    ·rw[zi hif,hcall]at h;refine⟨_,_,_,h,hu.freeze.inst (by simp;omega),_,(ho.freeze hlent).inst,fun K' h'=> ?_⟩
     unfold Dr;rw[ha2];simp only[hc2,hle];unfold Iq GR;refine⟨r,blks',hr,hlen,hid,?_⟩
     rw[zi hif,hcall];exact h'
   |cons i l=>
    simp only[hc]at h;generalize ho2:i::l=order at h hko hc2;unfold Ky GR at h;obtain⟨g1,g2,g3,r,blks,hr,g4,g5,h⟩:=h;have hob:∀i∈order,i<b:=fun i hi=>by obtain⟨k,hk⟩:=hko i hi;exact hlt i k hk
    have hbl:AF hF order=AF hp order:=Yr hs hko;have e1:EN b hF (if(lent.isEmpty||(Jc r&&blks.all Dq))=true then hp else freeze hp lent) (if(lent.isEmpty||(Jc r&&blks.all Dq))=true then hF else freeze hF lent):=by
     split
     ·exact ho
     ·exact ho.freeze hlent
    have e2:Dj (b+16) (if(lent.isEmpty||(Jc r&&blks.all Dq))=true then hp else freeze hp lent):=by
     split
     ·exact hu
     ·exact hu.freeze
    refine⟨_,_,_,h,?_,_,((e1.kill hob).setAt).inst,fun K' h'=> ?_⟩
    ·unfold BV;refine((e2.kill).setAt fun i hi=> ?_).inst (by simp;omega)
     have:=hob i (List.mem_of_mem_take hi);omega
    ·unfold Dr;rw[ha2];simp only[hc2,hle];rw[<-ho2];simp only[ho2];unfold Ky GR;refine⟨g1,g2,by rw[hbl];exact g3,r,blks,by rw[hbl];exact hr,g4,g5,?_⟩
     exact h'
theorem Ti{op:Op}(hW:isW op=true)(h:Bi P R cf op b ρ hp K):Am0 P R cf op b ρ hF K:=by
 have hlt:∀id k,hp id=some k->id<b:=fun id k hk=>by
  rcases zd3 id b with h|h
  ·exact h
  ·rw[hn id h]at hk;cases hk
 have hs:∀id k,hp id=some k->hF id=some k:=fun id k hk=>by rw[hl id (hlt id k hk)];exact hk
 have ho:=EN.start hn hl;have hu:Dj (b+16) hp:=fun id hid=>hn id (by omega)
 have hex:∀{i:Nat},(∃k,hp i=some k)->i<b:=fun⟨k,hk⟩=>hlt _ k hk
 have hform:∀{op:Op},(∀hp K,Bi P R cf op b ρ hp K=match Aq P op ρ with|some x=>K x hp .T|none=>Bl (A4 P op ρ hp b) fun z=>z.2.length<=16/\K z.1 (inst hp b z.2) .M)->
   A4 P op ρ hF b=A4 P op ρ hp b->Bi P R cf op b ρ hp K->Am0 P R cf op b ρ hF K:=by
  intro op h1 h2 h;rw[h1]at h;cases hx:Aq P op ρ with
  |some x=>
   rw[hx]at h;exact⟨x,hp,.T,h,hu,hF,ho,fun K' h'=>by rw[h1,hx];exact h'⟩
  |none=>
   rw[hx]at h;simp only at h;obtain⟨z,hz,hlen,hK⟩:=Aa h;exact⟨_,_,_,hK,hu.inst (by omega),_,ho.inst,fun K' h'=>by rw[h1,hx,h2,hz];exact⟨hlen,h'⟩⟩
 cases op with
 |store t a x=>
  have h:B0 P t (ρ a) (ρ x) hp K:=h;unfold B0 at h
  split at h
  ·rename_i d id r c hd hra
   split at h
   ·rename_i k hk;have hk':=hs id k hk
    split at h
    ·rename_i row hrow
     split at h
     ·rename_i hlen
      split at h
      ·rename_i hkk
       split at h
       ·rename_i hok
        split at h
        ·rename_i row' hrow';exact⟨_,_,_,h,hu.low (by have:=hlt id k hk;omega),_,ho.some,fun K' h'=>by simp only[Bi,B0,hd,hra,hk',hrow,hlen,hkk,hok,hrow',if_true];simpa only[hkk]using h'⟩
        ·exact h.elim
       ·exact h.elim
      ·rename_i hkk
       split at h
       ·rename_i cs kills deep hcl;obtain⟨q1,q2⟩:=H0 hs hcl
        split at h
        ·rename_i hnd
         split at h
         ·rename_i row' hrow';exact⟨_,_,_,h,(hu.kill).low (by have:=hlt id k hk;omega),_,(ho.kill fun i hi=>hex (q2 i hi)).some,fun K' h'=>by simp only[Bi,B0,hd,hra,hk',hrow,hlen,hkk,q1,hnd,hrow',if_true];simpa only[hkk]using h'⟩
         ·exact h.elim
        ·exact h.elim
       ·exact h.elim
      ·exact h.elim
     ·exact h.elim
    ·exact h.elim
   ·exact h.elim
  ·exact h.elim
 |buildSlice t len parts=>
  have h:Ap P t len parts.toList ρ hp b K:=h;unfold Ap at h;obtain⟨e,he,h⟩:=Aa h;obtain⟨d,hd,h⟩:=Aa h;cases len with
  |zero=>exact⟨_,_,_,h.2,hu,_,ho,fun K' h'=>by simp only[Bi,Ap,he,hd,Aj];exact⟨h.1,h'⟩⟩
  |succ len=>
   obtain⟨z,hz,h1,h2,h3,h⟩:=Aa h;obtain⟨q1,q2⟩:=K8 hs hz;exact⟨_,_,_,h,(hu.kill).low (by omega),_,(ho.kill fun i hi=>hex (q2 i hi)).some,fun K' h'=>by simp only[Bi,Ap,he,hd,Aj,q1];exact⟨h1,h2,h3,h'⟩⟩
 |call c=>
  obtain⟨callee,args,tys⟩:=c;cases callee with
  |value f=>
   simp only[Bi]at h
   split at h
   ·rename_i g caps hf;obtain⟨x,hp1,cls,q1,q2,hp2,q3,q4⟩:=Ya hn hl h;exact⟨x,hp1,cls,q1,q2,hp2,q3,fun K' h'=>by simp only[Bi,hf];exact q4 K' h'⟩
   ·exact h.elim
  |invoke r m=>exact hform (fun _ _=>rfl) rfl h
  |builtin bb=>
   cases bb with
   |append=>
    simp only[Bi]at h
    split at h
    ·rename_i s x hargs;unfold Cb at h
     split at h
     ·rename_i t t' hty;obtain⟨e,he,h⟩:=Aa h;obtain⟨d,hd,h⟩:=Aa h;obtain⟨ht,h⟩:=h;obtain⟨rows,kills,deep,h,q1,q2⟩:=XS hs h
      split at h
      ·rename_i hsv;obtain⟨h1,h2,h3,h4,h⟩:=h;exact⟨_,_,_,h,(hu.kill).low (by omega),_,(ho.kill fun i hi=>hex (q1 i hi)).some,fun K' h'=>by
        simp only[Bi,hargs,Cb,hty,he,hd,Aj];refine⟨ht,q2 _ ?_⟩
        simp only[hsv];exact⟨h1,h2,h3,h4,h'⟩⟩
      ·rename_i id lo n hsv;obtain⟨k,hk,h⟩:=Aa h;obtain⟨h1,h2,h3,h4,h5,h6,h7,h8,h⟩:=h;exact⟨_,_,_,h,(hu.kill).low (by omega),_,(ho.kill fun i hi=>by
         rcases zc9.1 hi with rfl|hi
         ·exact hlt _ k hk
         ·exact hex (q1 i hi)).some,fun K' h'=>by
        simp only[Bi,hargs,Cb,hty,he,hd,Aj];refine⟨ht,q2 _ ?_⟩
        simp only[hsv,hs id k hk,Aj];exact⟨h1,h2,h3,h4,h5,h6,h7,h8,h'⟩⟩
      ·exact h.elim
     ·exact h.elim
    ·exact h.elim
   |_=>exact hform (fun _ _=>rfl) rfl h
 |_=>first|exact hform (fun _ _=>rfl) rfl h|(simp[isW,isR]at hW;done)
end
theorem Al6{op:Op}(hn:Dj b hp)(h:Bi P R cf op b ρ hp K):∃x hp1 cls,K x hp1 cls/\Dj (b+16) hp1:=by
 cases hT:isT op with
 |true=>obtain⟨x,h1,_⟩:=Tk hT h;exact⟨x,hp,.T,h1,hn.mono (by omega)⟩
 |false=>cases hR:isR op with
  |true=>obtain⟨x,cls,h1,_⟩:=Tj hR h;exact⟨x,hp,cls,h1,hn.mono (by omega)⟩
  |false=>
   obtain⟨x,hp1,cls,q1,q2,_⟩:=Ti (hF:=hp) hn (fun _ _=>rfl) (by simp[isW,hT,hR]) h;exact⟨x,hp1,cls,q1,q2⟩
theorem Tw{x:V}{z:V×List Nat×Bool}(h:AD hp x=some z):∀i∈z.2.1,i∈Ae x:=by
 cases x with
 |ar id lo n=>
  simp only[AD]at h;intro i hi
  split at h
  ·split at h
   ·cases h;simpa[Ae]using hi
   ·cases h;simp at hi
   ·cases h
  ·cases h
 |v x=>simp only[AD,zb]at h;subst h;simp
 |em=>simp only[AD,zb]at h;subst h;simp
 |er e=>simp only[AD]at h;cases h
 |im rows=>simp only[AD,zb]at h;subst h;simp
 |_=>simp[AD]at h
theorem HY:∀{l:List V}{z:List V×List Nat×Bool},AN hp l=some z->∀i∈z.2.1,i∈l.flatMap Ae
 |[],z,h=>by simp only[AN,zb]at h;subst h;simp
 |x::l,z,h=>by
  simp only[AN]at h;intro i hi
  split at h
  ·rename_i y a d ys as ds h1 h2;cases h
   simp only[zb5,zb2]at hi⊢
   exact hi.imp (Tw h1 i) (HY h2 i)
  ·cases h
theorem GU:∀(l:List Nat)(h:Hp)(i:Nat),i ∉ l->Ev.kill h l i=h i
 |[],_,_,_=>rfl
 |j::l,h,i,hi=>by
  simp only[zc9,not_or]at hi
  first
  |(simp only[Ev.kill,upd];rw[zi hi.1];exact GU l h i hi.2)
  |(simp only[Ev.kill];rw[GU l _ i hi.2];simp only[upd];rw[zi hi.1])
theorem Wr{t:TypeId}{a x:V}(h:B0 P t a x hp K):∃y hp1 cls,K y hp1 cls/\∀i,i ∉ Ah a->i ∉ Ah x->hp1 i=hp i:=by
 unfold B0 at h
 split at h
 ·rename_i d id r c hd;have hid:∀i,i ∉ Ah (V.rf id r c)->i≠id:=fun i hi he=>hi (by rw[he];simp[Ah,Af,Ae])
  split at h
  ·rename_i k hk
   split at h
   ·rename_i row hrow
    split at h
    ·rename_i hlen
     split at h
     ·split at h
      ·split at h
       ·exact⟨_,_,_,h,fun i h1 h2=>by simp only[upd];rw[zi (hid i h1)]⟩
       ·exact h.elim
      ·exact h.elim
     ·split at h
      ·rename_i cs kills deep hcl
       split at h
       ·split at h
        ·refine⟨_,_,_,h,fun i h1 h2=> ?_⟩
         simp only[upd];rw[zi (hid i h1)];refine GU _ _ _ fun hi=>h2 ?_
         have:=HY hcl i hi;exact Ke this
        ·exact h.elim
       ·exact h.elim
      ·exact h.elim
     ·exact h.elim
    ·exact h.elim
   ·exact h.elim
  ·exact h.elim
 ·exact h.elim
theorem N2:∀(ids:List Nat)(ks:List Blk)(hp:Hp)(i:Nat),i ∉ ids->setAt hp ids ks i=hp i
 |[],ks,_,_,_=>by cases ks<;>rfl
 |j::ids,[],_,_,_=>rfl
 |j::ids,k::ks,hp,i,hi=>by
  simp only[zc9,not_or]at hi;simp only[setAt];rw[N2 ids ks _ i hi.2];simp only[upd];rw[zi hi.1]
theorem I7:∀(l:List Nat)(hp:Hp)(i:Nat),i ∉ l->freeze hp l i=hp i
 |[],_,_,_=>rfl
 |j::l,hp,i,hi=>by
  simp only[zc9,not_or]at hi;simp only[freeze];rw[I7 l _ i hi.2];simp only[upd];rw[zi hi.1]
theorem K7{size:Nat}:∀{l:List (Nat×Operand)}{n:Nat}{z:List (List V)×List Nat×Bool},AW hp ρ size n l=some z->∀i∈z.2.1,i∈l.flatMap fun p=>Ah (ρ p.2)
 |[],n,z,h,i,hi=>by
  simp only[AW]at h;cases h
  simp at hi
 |(k,x)::l,n,z,h,i,hi=>by
  simp only[AW]at h;rw[zb2]
  split at h
  ·split at h
   ·rename_i cs a d ys as ds g1 g2;cases h
    rcases zb5.1 hi with hi|hi
    ·exact List.mem_append_left _ (Ke (HY g1 i hi))
    ·exact List.mem_append_right _ (K7 g2 i hi)
   ·cases h
  ·cases h
theorem Al4{op:Op}{ids:List Nat}(ht:Hz cf op ρ hp=some ids)(h:Bi P R cf op b ρ hp K):∃x hp1 cls,K x hp1 cls/\∀i,i ∉ ids->¬(b<=i/\i<b+16)->hp1 i=hp i:=by
 unfold Hz at ht
 split at ht
 ·rename_i t a x;cases ht
  obtain⟨y,hp1,cls,q1,q2⟩:=Wr (show B0 P t (ρ a) (ρ x) hp K from h);exact⟨y,hp1,cls,q1,fun i hi _=>q2 i (fun hh=>hi (List.mem_append_left _ hh)) (fun hh=>hi (List.mem_append_right _ hh))⟩
 ·rename_i f args tys
  split at ht
  case h_2=>cases ht
  rename_i g caps hf;simp only[Bi,hf]at h;unfold Dr at h;cases ha:EC hp (cf.byref g) (args.toList.map ρ++caps)with
  |none=>rw[ha]at h;exact h.elim
  |some args'=>
   rw[ha]at h ht;simp only at ht h;cases hc:DA hp (args'.flatMap Af)with
   |none=>simp only[hc]at h
   |some order=>
    rw[hc]at ht;simp only at ht;cases ht
    generalize Dp (cf.byref g) (args.toList.map ρ++caps)=lent at h;have key:∀(hp1:Hp)(ord:List Nat)(e:Nat)(blks:List Blk),(∀i∈ord,i∈order)->(∀i,i ∉ order++lent->hp1 i=hp i)->blks.length<=e+16->∀i,i ∉ order++lent->¬(b<=i/\i<b+16)->BV hp1 ord e b blks i=hp i:=by
     intro hp1 ord e blks ho h1 hlen i hi hb;unfold BV;rw[MH _ _ _ _ (by simp;omega),N2 _ _ _ _ (fun hh=>hi (List.mem_append_left _ (ho i (List.mem_of_mem_take hh)))),GU _ _ _ (fun hh=>hi (List.mem_append_left _ (ho i hh)))];exact h1 i hi
    cases order with
    |nil=>
     simp only[hc]at h;unfold Iq GR at h;obtain⟨r,blks',hr,hlen,hid,h⟩:=h
     split at h
     ·exact⟨_,_,_,h,key hp [] 0 blks' (fun i hi=>by simp at hi) (fun _ _=>rfl) (by omega)⟩
     ·exact⟨_,_,_,h,key _ [] 0 blks' (fun i hi=>by simp at hi) (fun i hi=>I7 _ _ _ fun hh=>hi (List.mem_append_right _ hh)) (by omega)⟩
    |cons j l=>
     simp only[hc]at h;unfold Ky GR at h;obtain⟨g1,g2,g3,r,blks,hr,g4,g5,h⟩:=h;refine⟨_,_,_,h,key _ (j::l) _ blks (fun i hi=>hi) (fun i hi=> ?_) (by omega)⟩
     split
     ·rfl
     ·exact I7 _ _ _ fun hh=>hi (List.mem_append_right _ hh)
 ·rename_i t n parts;cases ht
  have h:Ap P t (n+1) parts.toList ρ hp b K:=h;unfold Ap at h;obtain⟨e,he,h⟩:=Aa h;obtain⟨d,hd,h⟩:=Aa h;obtain⟨z,hz,h1,h2,h3,h4⟩:=Aa h;refine⟨_,_,_,h4,fun i hi hb=> ?_⟩
  simp only[upd];rw[zi (by omega),GU _ _ _ fun hh=>hi (K7 hz i hh)]
 ·cases ht
end
section
open Go
variable {P:Program} {J:F3} {w w' w0:World} {E E' E0:Env} {hp hp' hp0:Hp} {G G' G0 U A W F S:Nat->Prop} {B B':Nat->Prop} {ρ:Operand->V} {ρr:Operand->Value}
variable {R:Rel} {cf:Cfg}
abbrev Dn(listed:Array Bool)(i:Nat):Prop:=listed.getD i false=true
def BD(c:Nat)(D:Nat->Prop)(id:Nat):Prop:=id<16*c\/∃j,D j/\16*(c+j)<=id/\id<16*(c+j)+16
theorem J3{all:List Oper}(hf:J2 all=true){i j:Nat}{a b:Oper}(hij:j<i)(ha:all[i]? =some a)(hb:all[j]? =some b)(hn:D7 all i j=false):
  (∀d,a.dst=some d->d ∉ P7 all b/\b.dst≠some d)/\(∀d,b.dst=some d->d ∉ P7 all a/\a.dst≠some d):=by
 have hi:i<all.length:=(za3.1 ha).1;unfold J2 at hf;have h1:=za6.1 hf i (by simpa using hi);have h2:=za6.1 h1 j (by simpa using hij);simp only[hn,Bool.false_or,ha,hb,za2]at h2;refine⟨fun d hd=> ?_,fun d hd=> ?_⟩
 ·have:=h2.1;rw[hd]at this;simpa using this
 ·have:=h2.2;rw[hd]at this;simpa using this
theorem Rw{all:List Oper}{i j:Nat}:D7 all i j=D7 all j i:=by unfold D7;exact Bool.or_comm _ _
theorem HW{all:List Oper}{i j:Nat}(h:D7 all i j=true):Iu all i j=true\/Iu all j i=true:=by
 unfold D7 at h;simpa using h
theorem Xz{all:List Oper}(hf:J2 all=true){i j:Nat}{a b:Oper}(hij:i≠j)(ha:all[i]? =some a)(hb:all[j]? =some b){d:Nat}(hd:b.dst=some d)(hn:d∈P7 all a):Iu all i j=true\/Iu all j i=true:=by
 cases h:D7 all i j with
 |true=>exact HW h
 |false=>
  exfalso
  rcases Nat.lt_or_gt_of_ne hij with hlt|hlt
  ·exact((J3 hf hlt hb ha (by rw[Rw];exact h)).1 d hd).1 hn
  ·exact((J3 hf hlt ha hb h).2 d hd).1 hn
theorem Af3{all:List Oper}(hf:J2 all=true){i j:Nat}{a b:Oper}(hij:i≠j)(ha:all[i]? =some a)(hb:all[j]? =some b){d:Nat}(hd:b.dst=some d)(hn:a.dst=some d):Iu all i j=true\/Iu all j i=true:=by
 cases h:D7 all i j with
 |true=>exact HW h
 |false=>
  exfalso
  rcases Nat.lt_or_gt_of_ne hij with hlt|hlt
  ·exact((J3 hf hlt hb ha (by rw[Rw];exact h)).1 d hd).2 hn
  ·exact((J3 hf hlt ha hb h).2 d hd).2 hn
def isC(all:List Oper)(o:Oper):Bool:=isW o.op&& !FR all o
theorem K5{all:List Oper}(hc:IT all=true){i j:Nat}{a b:Oper}(hij:j<i)(ha:all[i]? =some a)(hb:all[j]? =some b)(h1:isC all a=true)(h2:isW b.op=true):D7 all i j=true:=by
 have hi:i<all.length:=(za3.1 ha).1;unfold IT at hc;have g1:=za6.1 hc i (by simpa using hi);have g2:=za6.1 g1 j (by simpa using hij);simp only[ha,hb]at g2;unfold isC isW at h1;unfold isW at h2;cases q1:isT a.op<;>cases q2:isR a.op<;>cases q3:isT b.op<;>cases q4:isR b.op<;>cases q5:FR all a<;>simp_all
theorem ZX{all:List Oper}{o:Oper}(h:isC all o=true):isW o.op=true:=by unfold isC at h;simp only[za2]at h;exact h.1
theorem OM{all:List Oper}{o:Oper}(h:FR all o=true):isW o.op=true/\isC all o=false/\o.guard=none/\((∃t,o.op=.alloc t)\/∃t n ps,o.op=.buildSlice t (n+1) ps/\∀i,all[i]? =some o->eOK all i=false):=by
 have h0:=h;unfold FR at h;simp only[za2]at h;have hg:o.guard=none:=by simpa using h.2
 cases ho:o.op<;>rw[ho]at h<;>first|(simp at h;done)|skip
 ·rename_i t;exact⟨rfl,by unfold isC;rw[h0];simp,hg,.inl ⟨t,rfl⟩⟩
 ·rename_i t n ps;have h1:=h.1;simp only[za2]at h1;obtain⟨hn,hall⟩:=h1;cases n with
  |zero=>simp at hn
  |succ n=>
   refine⟨rfl,by unfold isC;rw[h0];simp,hg,.inr ⟨t,n,ps,rfl,fun i hi=> ?_⟩⟩
   have hil:i<all.length:=(za3.1 hi).1;have:=za6.1 hall i (by simpa using hil);simp only[hi,bne_self_eq_false,Bool.false_or,za2,zf0]at this;exact this.1
theorem YO{all:List Oper}{o:Oper}(h:isW o.op=true):isC all o=true\/FR all o=true:=by
 unfold isC;cases ha:FR all o<;>simp[h]
theorem PS{all:List Oper}(hc:IT all=true){i j:Nat}{a b:Oper}(hij:i≠j)(ha:all[i]? =some a)(hb:all[j]? =some b)(h1:isC all a=true)(h2:isC all b=true):Iu all i j=true\/Iu all j i=true:=by
 rcases Nat.lt_or_gt_of_ne hij with hlt|hlt
 ·exact(HW (K5 hc hlt hb ha h2 (ZX h1))).symm
 ·exact HW (K5 hc hlt ha hb h1 (ZX h2))
theorem AB3{all:List Oper}{i j:Nat}{a:Oper}(he:eOK all i=true)(hij:j≠i)(ha:all[j]? =some a)(hT:isT a.op=false):Iu all i j=true\/Iu all j i=true:=by
 have hj:j<all.length:=(za3.1 ha).1;unfold eOK at he;have:=za6.1 he j (by simpa using hj);simp only[ha,hT,Bool.or_false,Bool.or_eq_true,beq_iff_eq]at this;exact HW (this.resolve_left hij)
theorem Jv{hp hp':Hp}:∀{cs:List V}{z:List V×List Nat×Bool},cs.all Qy=true->AN hp cs=some z->AN hp' cs=some z
 |[],_,_,h=>h
 |x::l,z,ha,h=>by
  simp only[zc1,za2]at ha;have hx:AD hp' x=AD hp x:=by
   cases x with
   |v a=>rfl
   |em=>rfl
   |im a=>rfl
   |_=>cases ha.1
  simp only[AN]at h⊢
  rw[hx]
  split at h
  ·rename_i y a d ys as ds e1 e2;rw[e1,Jv ha.2 e2];exact h
  ·cases h
theorem Jw{hp hp':Hp}{ρ:Operand->V}{size:Nat}:∀(parts:List (Nat×Operand))(n:Nat){z:List (List V)×List Nat×Bool},I2 ρ parts=true->AW hp ρ size n parts=some z->AW hp' ρ size n parts=some z
 |[],_,_,_,h=>h
 |(k,x)::l,n,z,ha,h=>by
  unfold I2 at ha;simp only[zc1,za2]at ha;simp only[AW]at h⊢
  split at h
  ·rename_i hc;rw[zw hc]
   split at h
   ·rename_i row a d rows as ds e1 e2;rw[Jv ha.1 e1,Jw l (n+1) (by unfold I2;exact ha.2) e2];exact h
   ·cases h
  ·cases h
section
variable {all:List Oper} {c:Nat} {tmS:Nat->Tm} {hpS:Nat->Hp} {xS:Nat->V} {clsS:Nat->Cls}
theorem Mb{i:Nat}{o:Oper}(h:Trace P R cf all c tmS hpS xS clsS i o):isW o.op=false->hpS (i+1)=hpS i:=by
 intro hw;rcases h.step with⟨hwt,hop,he⟩|⟨_,_,h2⟩
 ·cases hr:isR o.op with
  |true=>
   simp only[F4,hr,Bool.and_true]at hop;obtain⟨x,cls,⟨_,h1,_⟩,_⟩:=Tj hr hop;exact h1.symm
  |false=>
   simp only[F4,hr,Bool.and_false]at hop;cases ht:isT o.op with
   |true=>
    obtain⟨x,⟨_,h1,_⟩,_⟩:=Tk ht hop;exact h1.symm
   |false=>unfold isW at hw;rw[ht,hr]at hw;cases hw
 ·exact h2
theorem Tc{i:Nat}{o:Oper}(h:Trace P R cf all c tmS hpS xS clsS i o)(ho:all[i]? =some o)(ha:FR all o=true):∃k,hpS (i+1)=upd (hpS i) (16*(c+i)) (some k)/\
  ∀(hp:Hp)(K:BP),K (xS i) (upd hp (16*(c+i)) (some k)) .M->Bi P R cf o.op (16*(c+i)) (Ax (tmS i)) hp K:=by
 obtain⟨hw,_,hg,hk⟩:=OM ha;rcases h.step with⟨_,hop,hE⟩|⟨⟨j,want,d,hg',_⟩,_⟩
 ·rcases hk with⟨t,ht⟩|⟨t,n,ps,ht,hne⟩
  ·rw[ht]at hop⊢
   have hop:Bi P R cf (.alloc t) (16*(c+i)) (Ax (tmS i)) (hpS i) (fun x hp cls=>x=xS i/\hp=hpS (i+1)/\cls=clsS i):=hop;have hop:Bl (A4 P (.alloc t) (Ax (tmS i)) (hpS i) (16*(c+i))) fun z=>z.2.length<=16/\(z.1=xS i/\inst (hpS i) (16*(c+i)) z.2=hpS (i+1)/\Cls.M=clsS i):=hop
   obtain⟨z,hz,_,h1,h2,_⟩:=Aa hop;simp only[A4]at hz
   split at hz
   ·rename_i d hd;cases hz
    refine⟨_,h2.symm,fun hp K hK=> ?_⟩
    show Bl (A4 P (.alloc t) (Ax (tmS i)) hp (16*(c+i))) fun z=>z.2.length<=16/\K z.1 (inst hp (16*(c+i)) z.2) .M
    simp only[A4,hd,Aj];refine⟨by simp,?_⟩
    rw[<-h1]at hK;exact hK
   ·cases hz
  ·have hcls:clsS i≠ .E:=by
    intro hcE;rcases hE hcE with h1|h1
    ·rw[hne i ho]at h1;cases h1
    ·unfold He at h1;rw[ho]at h1;simp only[ha,Bool.not_true,Bool.false_and]at h1;cases h1
   rw[ht]at hop⊢
   have hop:Ap P t (n+1) ps.toList (Ax (tmS i)) (hpS i) (16*(c+i)) (fun x hp cls=>x=xS i/\hp=hpS (i+1)/\cls=clsS i):=hop;unfold Ap at hop;obtain⟨e,he,hop⟩:=Aa hop;obtain⟨d,hd,hop⟩:=Aa hop;obtain⟨z,hz,h1,h2,h3,h4,h5,h6⟩:=Aa hop;have hM:z.2.1=[]/\I2 (Ax (tmS i)) ps.toList=true:=by
    rw[<-h6]at hcls;unfold An7 at hcls
    split at hcls
    ·rename_i g1 g2;exact⟨g1,g2⟩
    ·exact absurd rfl hcls
   rw[hM.1]at h5;refine⟨_,h5.symm,fun hp K hK=> ?_⟩
   show Ap P t (n+1) ps.toList (Ax (tmS i)) hp (16*(c+i)) K;simp only[Ap,he,hd,Aj];rw[Jw ps.toList 0 hM.2 hz];simp only[Aj];refine⟨h1,h2,h3,?_⟩
   rw[hM.1,hM.2,h4];exact hK
 ·rw[hg]at hg';cases hg'
theorem Zi{i:Nat}{o:Oper}(h:Trace P R cf all c tmS hpS xS clsS i o)(ho:all[i]? =some o){id:Nat}(hr:¬(16*(c+i)<=id/\id<16*(c+i)+16))(hE:eOK all i=true->False)
  (hF:He cf all (tmS i) (hpS i) i=true->∀ids,Hz cf o.op (Ax (tmS i)) (hpS i)=some ids->id ∉ ids):hpS (i+1) id=hpS i id:=by
 cases hw:isW o.op with
 |false=>rw[Mb h hw]
 |true=>
  rcases h.step with⟨hwt,hop,he⟩|⟨_,_,h2⟩
  ·have hR:isR o.op=false:=by unfold isW at hw;simp only[za2,zf0]at hw;exact hw.2
   simp only[F4,hR,Bool.and_false]at hop;obtain⟨x,hp',cls,⟨_,h1,h2⟩,h3⟩:=AF5 hop;subst h1;by_cases hc:cls=.E
   ·rcases he (h2▸hc)with he|he
    ·exact(hE he).elim
    ·have hnot:=hF he;unfold He at he;rw[ho]at he;simp only[za2]at he
     replace he:=he.2
     cases ht:Hz cf o.op (Ax (tmS i)) (hpS i)with
     |none=>rw[ht]at he;cases he
     |some ids=>
      obtain⟨y,hp1,cls1,⟨_,q1,_⟩,q2⟩:=Al4 ht hop;rw[<-q1];exact q2 id (hnot ids ht) hr
   ·exact h3 hc id hr
  ·rw[h2]
theorem Zj{i:Nat}{o:Oper}(h:Trace P R cf all c tmS hpS xS clsS i o)(hu:Dj (16*(c+i)) (hpS i)):Dj (16*(c+(i+1))) (hpS (i+1)):=by
 cases hw:isW o.op with
 |false=>rw[Mb h hw];exact hu.mono (by omega)
 |true=>
  rcases h.step with⟨hwt,hop,he⟩|⟨_,_,h2⟩
  ·have hR:isR o.op=false:=by unfold isW at hw;simp only[za2,zf0]at hw;exact hw.2
   simp only[F4,hR,Bool.and_false]at hop;obtain⟨x,hp1,cls,⟨_,h1,_⟩,h3⟩:=Al6 hu hop;subst h1;exact h3.mono (by omega)
  ·rw[h2];exact hu.mono (by omega)
theorem Lh{p:Nat}{id:Nat}:∀q,p<=q->q<=all.length->(∀(j:Nat)(o:Oper),p<=j->j<q->all[j]? =some o->hpS (j+1) id=hpS j id)->hpS q id=hpS p id:=by
 intro q hpq
 induction hpq with
 |refl=>intro _ _;rfl
 | @step q hpq ih=>
  intro hq hno;have ho:all[q]? =some (all[q]'(by omega)):=za1 (by omega);rw[hno q _ hpq (by omega) ho];exact ih (by omega) fun j o h1 h2=>hno j o h1 (by omega)
theorem AF2(ht:∀(i:Nat) (o:Oper),all[i]? =some o->Trace P R cf all c tmS hpS xS clsS i o){p d:Nat}:∀q,p<=q->q<=all.length->(∀(j:Nat)(o:Oper),p<=j->j<q->all[j]? =some o->o.dst≠some d)->tmS q d=tmS p d:=by
 intro q hpq
 induction hpq with
 |refl=>intro _ _;rfl
 | @step q hpq ih=>
  intro hq hno;have ho:all[q]? =some (all[q]'(by omega)):=za1 (by omega);rw[(ht q _ ho).tm];rcases L5 (tm:=tmS q) (dst:=(all[q]'(by omega)).dst) (x:=xS q) (t:=d)with h1|⟨h1,_⟩
  ·rw[h1];exact ih (by omega) fun j o h1 h2=>hno j o h1 (by omega)
  ·exact absurd h1 (hno q _ hpq (by omega) ho)
end
def Om(all:List Oper)(c id:Nat):Option Nat:=
 if 16*c<=id/\id%16=0 then(match all[id/16-c]? with|some o=>if FR all o=true then some (id/16-c)else none|none=>none)else none
theorem Ep{all:List Oper}{c id j:Nat}:Om all c id=some j↔id=16*(c+j)/\∃o,all[j]? =some o/\FR all o=true:=by
 unfold Om;constructor
 ·intro h
  split at h
  ·rename_i hc
   split at h
   ·rename_i o ho
    split at h
    ·rename_i ha;cases h
     exact⟨by omega,o,ho,ha⟩
    ·cases h
   ·cases h
  ·cases h
 ·rintro⟨rfl,o,ho,ha⟩;have:16*(c+j)/16-c=j:=by omega
  rw[zw ⟨by omega,by omega⟩,this,ho];simp only;rw[zw ha]
def hpD(all:List Oper)(c:Nat)(hpS:Nat->Hp)(m:Nat)(D:Nat->Prop)[DecidablePred D]:Hp:=fun id=>
 match Om all c id with
 |some j=>if m<=j/\D j then hpS (j+1) id else hpS m id
 |none=>hpS m id
theorem OG{all:List Oper}{c:Nat}{hpS:Nat->Hp}{m:Nat}{D:Nat->Prop}[DecidablePred D]{id j:Nat}(h:Om all c id=some j)(hm:m<=j)(hD:D j):hpD all c hpS m D id=hpS (j+1) id:=by
 unfold hpD;rw[h];simp only;rw[zw ⟨hm,hD⟩]
theorem EE{all:List Oper}{c:Nat}{hpS:Nat->Hp}{m:Nat}{D:Nat->Prop}[DecidablePred D]{id:Nat}(h:∀j,Om all c id=some j->m<=j->¬D j):hpD all c hpS m D id=hpS m id:=by
 unfold hpD;cases ha:Om all c id with
 |none=>rfl
 |some j=>
  simp only;rw[zi fun hh=>h j ha hh.1 hh.2]
structure DI (w0:World) (U A:Nat->Prop) (E0:Env) (G0:Nat->Prop) (hp0:Hp) (e nt c:Nat) (all:List Oper) (tm0:Tm) (hpS:Nat->Hp) (xS:Nat->V) (listed:Array Bool) (a:Act) (w:World):Prop where
 size:listed.size=all.length
 shut:Az8 all (Dn listed)
 ex:∃m,m<=all.length/\(∀(j:Nat)(o:Oper),all[j]? =some o->isC all o=true->(Dn listed j↔j<m))/\(∀(j:Nat)(o:Oper),all[j]? =some o->FR all o=true->j<m->Dn listed j)/\
  SB w0 U A E0 G0 hp0 e nt (BD c (Dn listed)) (lw all xS tm0 (Dn listed) all.length) (hpD all c hpS m (Dn listed)) a w
theorem YD{listed:Array Bool}{i:Nat}(hi:i<listed.size)(j:Nat):Dn (listed.setIfInBounds i true) j↔Dn listed j\/j=i:=by
 unfold Dn;simp only[zb7,Array.getElem?_setIfInBounds];by_cases h:i=j
 ·subst h;simp[hi]
 ·rw[zi h];exact⟨.inl,fun hh=>hh.resolve_right fun he=>h he.symm⟩
theorem DI.step{all:List Oper}{c e nt:Nat}{tm0:Tm}{tmS:Nat->Tm}{hpS:Nat->Hp}{xS:Nat->V}{clsS:Nat->Cls}{ops:Array Oper}{Q:Exit->Act->World->Prop}{listed:Array Bool}{a:Act}{i:Nat}{next:Act->World->Prop}
  (hR:RSpec P J U w0 R) (hall:all=ops.toList) (hd:∀o∈all,∀d,o.dst=some d->d<nt) (hf:J2 all=true) (hb:K1 all=true) (hch:IT all=true)
  (hup:∀j,j<=all.length->Dj (16*(c+j)) (hpS j)) (h0:tmS 0=tm0) (ht:∀(i:Nat)(o:Oper),all[i]? =some o->Trace P R cf all c tmS hpS xS clsS i o)
  (hI:DI w0 U A E0 G0 hp0 e nt c all tm0 hpS xS listed a w) (hr:i∈Region.ready .any ops listed)
  (hn:∀a' w',DI w0 U A E0 G0 hp0 e nt c all tm0 hpS xS (listed.setIfInBounds i true) a' w'->next a' w'):wpOp P ops Q i next a w:=by
 obtain⟨hun,o,ho,hedge⟩:=mem_ready.1 hr;have hoL:all[i]? =some o:=by rw[hall];simpa using ho
 have hlt:i<all.length:=(za3.1 hoL).1;have hnD:¬Dn listed i:=by
  unfold Dn;rw[zb7]at hun⊢
  cases hh:listed[i]? with
  |none=>rw[hh]at hun;simp at hun
  |some b=>rw[hh]at hun;simp at hun;subst hun;simp
 have hready:∀e∈o.after.toList,Region.binds .any e=true->Dn listed e.on:=fun e he hbd=>hedge e (by simpa using he) hbd
 have hset:=YD (listed:=listed) (i:=i) (by rw[hI.size];exact hlt);have hT:=ht i o hoL;obtain⟨m,hm,hW,hA,hsb⟩:=hI.ex;have hslot:∀d∈P7 all o,lw all xS tm0 (Dn listed) all.length d=tmS i d:=by
  intro d hdn;rw[YU h0 (fun j o hj=>(ht j o hj).tm) i (by omega),<-As7 (i:=i) all.length (by omega)];refine Lm all.length fun j o' hj hoj hdj=> ?_
  by_cases hji:j=i
  ·subst hji;exact⟨fun h=>absurd h hnD,fun h=>absurd h (by omega)⟩
  rcases Xz hf (fun hh=>hji hh.symm) hoL hoj hdj hdn with hbef|hbef
  ·exact⟨fun _=>K2 hb i j hbef,fun _=>Js hI.shut hoL hready hbef⟩
  ·exact⟨fun hD=>absurd (Np hI.shut j i hbef hD) hnD,fun hh=>by have:=K2 hb j i hbef;omega⟩
 have hop:∀y∈o.op.operands,Ax (tmS i) y=Ax (lw all xS tm0 (Dn listed) all.length) y:=by
  intro y hy;cases y with
  |tmp d=>
   exact(hslot d (List.mem_append_left _ (List.mem_filterMap.2 ⟨.tmp d,by simpa using hy,rfl⟩))).symm
  |_=>rfl
 have hadd:lw all xS tm0 (Dn (listed.setIfInBounds i true)) all.length=put (lw all xS tm0 (Dn listed) all.length) o.dst (xS i):=by
  refine AK9 hoL hset (fun j o' d hij hDj hoj hdo hdj=> ?_) all.length hlt
  rcases Af3 hf (by omega) hoL hoj hdj hdo with hbef|hbef
  ·have:=K2 hb i j hbef;omega
  ·exact hnD (Np hI.shut j i hbef hDj)
 have hnew:∀j,j<16->¬BD c (Dn listed) (16*(c+i)+j):=by
  rintro j hj (h|⟨j',hD,h1,h2⟩)
  ·omega
  ·have:j'=i:=by omega
   subst this;exact hnD hD
 have hmore:∀id,Tp (BD c (Dn listed)) (16*(c+i)) id->BD c (Dn (listed.setIfInBounds i true)) id:=by
  rintro id ((h|⟨j,hD,h1,h2⟩)|⟨h1,h2⟩)
  ·exact .inl h
  ·exact .inr ⟨j,(hset j).2 (.inl hD),h1,h2⟩
  ·exact .inr ⟨i,(hset i).2 (.inr rfl),h1,h2⟩
 have hshut:Az8 all (Dn (listed.setIfInBounds i true)):=by
  intro j o' hj hoj e he hbd;rcases(hset j).1 hj with h|h
  ·exact(hset _).2 (.inl (hI.shut j o' h hoj e he hbd))
  ·subst h;rw[hoL]at hoj;cases hoj
   exact(hset _).2 (.inl (hready e he hbd))
 have hsize:(listed.setIfInBounds i true).size=all.length:=by simpa using hI.size
 have hD':∀j,j≠i->(Dn (listed.setIfInBounds i true) j↔Dn listed j):=fun j hj=>by
  rw[hset j];exact⟨fun h=>h.resolve_right hj,.inl⟩
 have hmi:isW o.op=true->m<=i:=by
  intro hw;rcases zd3 i m with h|h
  ·rcases YO hw with h1|h1
   ·exact absurd ((hW i o hoL h1).2 h) hnD
   ·exact absurd (hA i o hoL h1 h) hnD
  ·exact h
 have hno:isC all o=true->∀(j:Nat)(o':Oper),m<=j->j<i->all[j]? =some o'->isC all o'=false:=by
  intro hC j o' h1 h2 hoj;cases hw':isC all o' with
  |false=>rfl
  |true=>
   exfalso
   rcases PS hch (by omega:i≠j) hoL hoj hC hw' with hbef|hbef
   ·have:=(hW j o' hoj hw').1 (Js hI.shut hoL hready hbef);omega
   ·have:=K2 hb j i hbef;omega
 have halD:isC all o=true->∀(j:Nat)(o':Oper),j<i->all[j]? =some o'->FR all o'=true->Dn listed j:=by
  intro hC j o' h2 hoj hal;rcases HW (K5 hch h2 hoL hoj hC (OM hal).1)with hbef|hbef
  ·exact Js hI.shut hoL hready hbef
  ·have:=K2 hb j i hbef;omega
 have hquiet:∀(j:Nat)(o':Oper)(id:Nat),all[j]? =some o'->isC all o'=false->id≠16*(c+j)->hpS (j+1) id=hpS j id:=by
  intro j o' id hoj hC hne;cases hw:isW o'.op with
  |false=>rw[Mb (ht j o' hoj) hw]
  |true=>
   rcases YO hw with h1|h1
   ·rw[hC]at h1;cases h1
   ·obtain⟨k,hk,_⟩:=Tc (ht j o' hoj) hoj h1;rw[hk];simp only[upd];rw[zi hne]
 have hne_al:∀(id j:Nat)(o':Oper),Om all c id=none->all[j]? =some o'->FR all o'=true->id≠16*(c+j):=by
  intro id j o' h1 h2 h3 he;rw[Ep.2 ⟨he,o',h2,h3⟩]at h1;cases h1
 have hsame:isC all o=true->∀id,id<16*(c+i)->hpD all c hpS m (Dn listed) id=hpS i id:=by
  intro hC id hid;have hmi':=hmi (ZX hC);cases ha:Om all c id with
  |some j=>
   obtain⟨rfl,o',hoj,hal⟩:=Ep.1 ha;have hji:j<i:=by omega
   rcases zd3 j m with hjm|hjm
   ·rw[EE fun j' hj' hm'=>(by rw[ha]at hj';cases hj';omega)];exact(Lh (all:=all) (hpS:=hpS) i hmi' (by omega) fun k ok h1 h2 hok=>hquiet k ok _ hok (hno hC k ok h1 h2 hok) (by omega)).symm
   ·rw[OG ha hjm (halD hC j o' hji hoj hal)];exact(Lh (all:=all) (hpS:=hpS) i (by omega) (by omega) fun k ok h1 h2 hok=>hquiet k ok _ hok (hno hC k ok (by omega) h2 hok) (by omega)).symm
  |none=>
   rw[EE fun j' hj'=>(by rw[ha]at hj';cases hj')];refine(Lh (all:=all) (hpS:=hpS) i hmi' (by omega) fun k ok h1 h2 hok=> ?_).symm
   cases hal:FR all ok with
   |true=>exact hquiet k ok _ hok (hno hC k ok h1 h2 hok) (hne_al id k ok ha hok hal)
   |false=>
    have hCk:=hno hC k ok h1 h2 hok;have hwk:isW ok.op=false:=by
     unfold isC at hCk;rw[hal]at hCk;simpa using hCk
    rw[Mb (ht k ok hok) hwk]
 have hdoneN:∀(a':Act)(w':World),isC all o=false->FR all o=false->
   SB w0 U A E0 G0 hp0 e nt (BD c (Dn (listed.setIfInBounds i true))) (put (lw all xS tm0 (Dn listed) all.length) o.dst (xS i)) (hpD all c hpS m (Dn listed)) a' w'->
   DI w0 U A E0 G0 hp0 e nt c all tm0 hpS xS (listed.setIfInBounds i true) a' w':=by
  intro a' w' hC hal hs;refine⟨hsize,hshut,m,hm,fun j o' hoj hw'=> ?_,fun j o' hoj hal' hj=> ?_,?_⟩
  ·rw[hD' j (fun he=>by subst he;rw[hoL]at hoj;cases hoj;rw[hC]at hw';cases hw')];exact hW j o' hoj hw'
  ·exact(hset j).2 (.inl (hA j o' hoj hal' hj))
  ·rw[hadd];have:hpD all c hpS m (Dn (listed.setIfInBounds i true))=hpD all c hpS m (Dn listed):=by
    funext id
    cases ha:Om all c id with
    |none=>rw[EE fun j' hj'=>(by rw[ha]at hj';cases hj'),EE fun j' hj'=>(by rw[ha]at hj';cases hj')]
    |some j=>
     obtain⟨_,o',hoj,hal'⟩:=Ep.1 ha;have hji:j≠i:=fun he=>by subst he;rw[hoL]at hoj;cases hoj;rw[hal]at hal';cases hal'
     unfold hpD;rw[ha];simp only[hD' j hji]
   rw[this];exact hs
 have hdoneA:∀(k:Blk)(a':Act)(w':World),FR all o=true->hpS (i+1)=upd (hpS i) (16*(c+i)) (some k)->
   SB w0 U A E0 G0 hp0 e nt (BD c (Dn (listed.setIfInBounds i true))) (put (lw all xS tm0 (Dn listed) all.length) o.dst (xS i)) (upd (hpD all c hpS m (Dn listed)) (16*(c+i)) (some k)) a' w'->
   DI w0 U A E0 G0 hp0 e nt c all tm0 hpS xS (listed.setIfInBounds i true) a' w':=by
  intro k a' w' hal hk hs;obtain⟨hw,hC,_⟩:=OM hal;refine⟨hsize,hshut,m,hm,fun j o' hoj hw'=> ?_,fun j o' hoj hal' hj=> ?_,?_⟩
  ·rw[hD' j (fun he=>by subst he;rw[hoL]at hoj;cases hoj;rw[hC]at hw';cases hw')];exact hW j o' hoj hw'
  ·exact(hset j).2 (.inl (hA j o' hoj hal' hj))
  ·rw[hadd];have:hpD all c hpS m (Dn (listed.setIfInBounds i true))=upd (hpD all c hpS m (Dn listed)) (16*(c+i)) (some k):=by
    funext id
    simp only[upd];by_cases hid:id=16*(c+i)
    ·rw[zw hid,OG (Ep.2 ⟨hid,o,hoL,hal⟩) (hmi hw) ((hset i).2 (.inr rfl)),hk,hid];simp[upd]
    ·rw[zi hid];cases ha:Om all c id with
     |none=>rw[EE fun j' hj'=>(by rw[ha]at hj';cases hj'),EE fun j' hj'=>(by rw[ha]at hj';cases hj')]
     |some j=>
      obtain⟨he,o',hoj,hal'⟩:=Ep.1 ha;have hji:j≠i:=fun h=>hid (h▸he)
      unfold hpD;rw[ha];simp only[hD' j hji]
   rw[this];exact hs
 have hdoneC:∀(hp2:Hp)(a':Act)(w':World),isC all o=true->EN (16*(c+i)) (hpD all c hpS m (Dn listed)) (hpS (i+1)) hp2->
   SB w0 U A E0 G0 hp0 e nt (BD c (Dn (listed.setIfInBounds i true))) (put (lw all xS tm0 (Dn listed) all.length) o.dst (xS i)) hp2 a' w'->
   DI w0 U A E0 G0 hp0 e nt c all tm0 hpS xS (listed.setIfInBounds i true) a' w':=by
  intro hp2 a' w' hC hov hs;have hmi':=hmi (ZX hC);have hal:FR all o=false:=by
   unfold isC at hC;simp only[za2,zf0]at hC;exact hC.2
  refine⟨hsize,hshut,i+1,by omega,fun j o' hoj hw'=> ?_,fun j o' hoj hal' hj=> ?_,?_⟩
  ·rw[hset j];constructor
   ·rintro(h|h)
    ·have:=(hW j o' hoj hw').1 h;omega
    ·omega
   ·intro h;by_cases hji:j=i
    ·exact .inr hji
    ·left
     rcases PS hch (fun hh=>hji hh.symm:i≠j) hoL hoj hC hw' with hbef|hbef
     ·exact Js hI.shut hoL hready hbef
     ·have:=K2 hb j i hbef;omega
  ·by_cases hji:j=i
   ·exact(hset j).2 (.inr hji)
   ·exact(hset j).2 (.inl (halD hC j o' (by omega) hoj hal'))
  ·rw[hadd];have:hpD all c hpS (i+1) (Dn (listed.setIfInBounds i true))=hp2:=by
    funext id
    rw[hov id];cases ha:Om all c id with
    |none=>
     rw[EE fun j' hj'=>(by rw[ha]at hj';cases hj')]
     split
     ·rfl
     ·rename_i hid;cases hk:hpS (i+1) id with
      |some k=>rfl
      |none=>
       simp only;rw[EE fun j' hj'=>(by rw[ha]at hj';cases hj')];exact(hup m hm id (by omega)).symm
    |some j=>
     obtain⟨rfl,o',hoj,hal'⟩:=Ep.1 ha;have hji:j≠i:=fun he=>by subst he;rw[hoL]at hoj;cases hoj;rw[hal]at hal';cases hal'
     rcases zd3 j i with hlt'|hge
     ·rw[EE fun j' hj' hm'=>(by rw[ha]at hj';cases hj';omega),zw (by omega)]
     ·rw[zi (by omega),hup (i+1) (by omega) (16*(c+j)) (by omega)];simp only;by_cases hDj:Dn listed j
      ·rw[OG ha (by omega) ((hset j).2 (.inl hDj)),OG ha (by omega) hDj]
      ·rw[EE fun j' hj' _=>(by rw[ha]at hj';cases hj';rw[hD' _ hji];exact hDj),EE fun j' hj' _=>(by rw[ha]at hj';cases hj';exact hDj)];rw[hup (i+1) (by omega) _ (by omega),hup m hm _ (by omega)]
   rw[this];exact hs
 have hdst:∀d,o.dst=some d->d<nt:=hd o (za5 hoL);have hguard:∀j want d,o.guard=some (j,want)->(all[j]?).bind (·.dst)=some d->lw all xS tm0 (Dn listed) all.length d=tmS i d:=by
  intro j want d hg hjd;refine hslot d (List.mem_append_right _ ?_)
  simp only[hg,hjd,Option.toList_some,List.mem_singleton]
 unfold wpOp;simp only[ho];rcases hT.step with⟨hwant,hopat,hE⟩|⟨⟨j,want,d,hg,hjd,htm⟩,hx,hhp⟩
 ·have hwd:Region.wanted o (yielded ops a.tmps)=true:=by
   cases hg:o.guard with
   |none=>simp[Region.wanted,hg]
   |some jw=>
    obtain⟨j,want⟩:=jw;obtain⟨d,hjd,htm⟩:=hwant j want hg;exact hsb.wanted (ops:=ops) hg (by rw[hall]at hjd;simpa using hjd) (by rw[hguard j want d hg hjd];exact htm)
  rw[zw hwd]
  left
  have hK:∃hpA:Hp,Bi P R cf o.op (16*(c+i)) (Ax (tmS i)) (hpD all c hpS m (Dn listed)) (fun x hp _=>x=xS i/\hp=hpA)/\
    ∀(a':Act)(w':World),SB w0 U A E0 G0 hp0 e nt (BD c (Dn (listed.setIfInBounds i true))) (put (lw all xS tm0 (Dn listed) all.length) o.dst (xS i)) hpA a' w'->DI w0 U A E0 G0 hp0 e nt c all tm0 hpS xS (listed.setIfInBounds i true) a' w':=by
   cases hrr:isR o.op with
   |true=>
    have hnw:isW o.op=false:=by unfold isW;rw[hrr];simp
    have hnC:isC all o=false:=by unfold isC;rw[hnw];rfl
    have hnA:FR all o=false:=by
     cases hal:FR all o with
     |false=>rfl
     |true=>rw[(OM hal).1]at hnw;cases hnw
    simp only[F4,hrr,Bool.and_true]at hopat;obtain⟨x,cls,⟨hx,_,_⟩,hk⟩:=Tj hrr hopat;refine⟨hpD all c hpS m (Dn listed),hk _ (fun y hy id hid k hkk=> ?_) _ _ ⟨hx,rfl⟩,fun a' w'=>hdoneN a' w' hnC hnA⟩
    simp only[AC7]at hkk
    split at hkk
    ·rename_i hlow;have hBD:BD c (Dn listed) id:=by
      obtain⟨E,G,_,_,_,h4,_⟩:=hsb.env;rw[hop y hy]at hid;exact UV h4 y id hid
     have hnT:isT o.op=false:=by
      cases hop':o.op<;>rw[hop']at hrr<;>first|rfl|(simp[isR]at hrr;done)
     have hlv:∀(j:Nat)(oj:Oper),all[j]? =some oj->isC all oj=true->(j<i/\¬Dn listed j)\/(i<j/\Dn listed j)->¬(16*(c+j)<=id/\id<16*(c+j)+16)->hpS (j+1) id=hpS j id:=by
      intro j oj hoj hC hcase hrange;have hno2:¬(Iu all j i=true\/Iu all i j=true):=by
       rintro(hbef|hbef)
       ·have:=K2 hb j i hbef;rcases hcase with⟨h1,_⟩|⟨_,h2⟩
        ·omega
        ·exact hnD (Np hI.shut j i hbef h2)
       ·have:=K2 hb i j hbef;rcases hcase with⟨_,h1⟩|⟨h2,_⟩
        ·exact h1 (Js hI.shut hoL hready hbef)
        ·omega
      refine Zi (ht j oj hoj) hoj hrange (fun he=>hno2 (AB3 he (by omega:i≠j) hoL hnT)) fun he ids hids=> ?_
      unfold He at he;rw[hoj]at he;simp only[hids,za2]at he
      replace he:=he.2
      have h1:=za6.1 he i (by simpa using hlt);simp only[hoL,hnT,hrr,Bool.false_or,ze4,Bool.or_eq_true,beq_iff_eq,za2,decide_eq_true_eq]at h1;rcases h1 with(h1|h1)|⟨⟨h1,h2⟩,h3⟩
      ·omega
      ·exact absurd (HW h1) hno2
      ·have hjl:j<all.length:=(za3.1 hoj).1;have hsame:Ax (tmS j) y=Ax (tmS i) y:=by
        cases y with
        |tmp d=>
         refine AF2 ht j (by omega) (by omega) fun p op hp1 hp2 hop2 hd2=> ?_
         unfold Ar7 at h2;have:=za6.1 h2 p (by simpa using hp2);have hdn:d∈P7 all o:=List.mem_append_left _ (List.mem_filterMap.2 ⟨.tmp d,by simpa using hy,rfl⟩);simp[hop2,hd2,hdn]at this;omega
        |_=>rfl
       have hin:id∈Z6 (tmS j) o.op:=zb0.2 ⟨y,by simpa using hy,by rw[hsame];exact hid⟩;have:=za6.1 h3 id hin;simpa using this
     have hgo:∀p q,p<=q->q<=all.length->(∀j oj,p<=j->j<q->all[j]? =some oj->isC all oj=true->((j<i/\¬Dn listed j)\/(i<j/\Dn listed j))/\¬(16*(c+j)<=id/\id<16*(c+j)+16))->(∀j oj,p<=j->j<q->all[j]? =some oj->FR all oj=true->id≠16*(c+j))->hpS q id=hpS p id:=by
      intro p q hpq hq h1 h2;refine Lh (all:=all) (hpS:=hpS) q hpq hq fun j oj hj1 hj2 hoj=> ?_
      cases hC:isC all oj with
      |true=>exact hlv j oj hoj hC (h1 j oj hj1 hj2 hoj hC).1 (h1 j oj hj1 hj2 hoj hC).2
      |false=>
       cases hal:FR all oj with
       |true=>exact hquiet j oj id hoj hC (h2 j oj hj1 hj2 hoj hal)
       |false=>
        have hwk:isW oj.op=false:=by
         unfold isC at hC;rw[hal]at hC;simpa using hC
        rw[Mb (ht j oj hoj) hwk]
     have hnDC:∀(j:Nat)(oj:Oper),m<=j->all[j]? =some oj->isC all oj=true->¬Dn listed j:=fun j oj h1 h2 h3 hD=>by have:=(hW j oj h2 h3).1 hD;omega
     have hrng:∀(j:Nat)(oj:Oper),m<=j->all[j]? =some oj->isC all oj=true->¬(16*(c+j)<=id/\id<16*(c+j)+16):=by
      rintro j oj h1 h2 h3 ⟨g1,g2⟩;rcases hBD with h|⟨j',hD,g3,g4⟩
      ·omega
      ·have:j'=j:=by omega
       subst this;exact hnDC j' oj h1 h2 h3 hD
     have hik:∀(k:Nat)(ok:Oper),i<=k->all[k]? =some ok->isC all ok=true->i<k:=fun k ok h1 hok hC=>by
      rcases zd3 i k with h|h
      ·exact h
      ·have:k=i:=by omega
       subst this;rw[hoL]at hok;cases hok
       rw[hnC]at hC;cases hC
     cases ha:Om all c id with
     |some j=>
      obtain⟨hide,o',hoj,hal⟩:=Ep.1 ha;have hji:j<i:=by omega
      have hDj:Dn listed j:=by
       rcases hBD with h|⟨j',hD,g3,g4⟩
       ·omega
       ·have:j'=j:=by omega
        exact this▸hD
      rcases zd3 j m with hjm|hjm
      ·rw[EE fun j' hj' hm'=>(by rw[ha]at hj';cases hj';omega)];rcases zd3 m i with hmi|hmi
       ·rw[<-hgo m i (by omega) (by omega) (fun k ok h1 h2 hok hC=>⟨.inl ⟨h2,hnDC k ok h1 hok hC⟩,hrng k ok h1 hok hC⟩) (fun k ok h1 h2 hok _=>by omega)];exact hkk
       ·rw[hgo i m hmi hm (fun k ok h1 h2 hok hC=>⟨.inr ⟨hik k ok h1 hok hC,(hW k ok hok hC).2 h2⟩,by have:=hik k ok h1 hok hC;omega⟩) (fun k ok h1 h2 hok _=>by omega)];exact hkk
      ·rw[OG ha hjm hDj];rw[<-hgo (j+1) i (by omega) (by omega) (fun k ok h1 h2 hok hC=>⟨.inl ⟨h2,hnDC k ok (by omega) hok hC⟩,hrng k ok (by omega) hok hC⟩) (fun k ok h1 h2 hok _=>by omega)];exact hkk
     |none=>
      rw[EE fun j' hj'=>(by rw[ha]at hj';cases hj')];rcases zd3 m i with hmi|hmi
      ·rw[<-hgo m i (by omega) (by omega) (fun k ok h1 h2 hok hC=>⟨.inl ⟨h2,hnDC k ok h1 hok hC⟩,hrng k ok h1 hok hC⟩) (fun k ok h1 h2 hok hal=>hne_al id k ok ha hok hal)];exact hkk
      ·rw[hgo i m hmi hm (fun k ok h1 h2 hok hC=>⟨.inr ⟨hik k ok h1 hok hC,(hW k ok hok hC).2 h2⟩,by have:=hik k ok h1 hok hC;omega⟩) (fun k ok h1 h2 hok hal=>hne_al id k ok ha hok hal)];exact hkk
    ·cases hkk
   |false=>
    simp only[F4,hrr,Bool.and_false]at hopat;cases htt:isT o.op with
    |true=>
     have hnw:isW o.op=false:=by unfold isW;rw[htt];rfl
     have hnC:isC all o=false:=by unfold isC;rw[hnw];rfl
     have hnA:FR all o=false:=by
      cases hal:FR all o with
      |false=>rfl
      |true=>rw[(OM hal).1]at hnw;cases hnw
     obtain⟨x,⟨hx,_,_⟩,hk⟩:=Tk htt hopat;exact⟨hpD all c hpS m (Dn listed),hk _ _ _ ⟨hx,rfl⟩,fun a' w'=>hdoneN a' w' hnC hnA⟩
    |false=>
     have hw:isW o.op=true:=by unfold isW;rw[htt,hrr];rfl
     rcases YO hw with hC|hal
     ·obtain⟨x,hp1,cls,⟨hx,hh1,_⟩,_,hp2,hov,hk⟩:=Ti (hF:=hpD all c hpS m (Dn listed)) (hup i (by omega)) (hsame hC) hw hopat;subst hh1;exact⟨hp2,hk _ ⟨hx,rfl⟩,fun a' w'=>hdoneC hp2 a' w' hC hov⟩
     ·obtain⟨k,hk1,hk2⟩:=Tc hT hoL hal;exact⟨_,hk2 _ _ ⟨rfl,rfl⟩,fun a' w'=>hdoneA k a' w' hal hk1⟩
  obtain⟨hpA,hK,hfin⟩:=hK;rw[Zm hop]at hK;obtain⟨x,hp',cls,⟨hx,hhp⟩,hs⟩:=hsb.step hR hnew hdst hK;subst hx;subst hhp;exact hs next Q fun a' w' hsb'=>hn a' w' (hfin a' w' (hsb'.mono hmore))
 ·have hwd:=hsb.wanted (ops:=ops) (t:=false) hg (by rw[hall]at hjd;simpa using hjd) (by rw[hguard j want d hg hjd];exact htm);rw[hwd];simp only[zb8,if_false];have hnA:FR all o=false:=by
   cases hal:FR all o with
   |false=>rfl
   |true=>rw[(OM hal).2.2.1]at hg;cases hg
  refine hn _ _ ?_
  cases hC:isC all o with
  |false=>
   refine hdoneN _ _ hC hnA ?_
   rw[hx];exact(hsb.put hdst (fun E G _=>O5) rfl).mono fun id h=>hmore id (.inl h)
  |true=>
   refine hdoneC (hpD all c hpS m (Dn listed)) _ _ hC (EN.start (fun id hid=> ?_) (fun id hid=> ?_)) ?_
   ·rw[hhp];exact hup i (by omega) id hid
   ·rw[hhp];exact hsame hC id hid
   ·rw[hx];exact(hsb.put hdst (fun E G _=>O5) rfl).mono fun id h=>hmore id (.inl h)
theorem Ye{all:List Oper}{c e nt:Nat}{tm0:Tm}{tmS:Nat->Tm}{hpS:Nat->Hp}{xS:Nat->V}{clsS:Nat->Cls}{ops:Array Oper}{Q:Exit->Act->World->Prop}
  (hR:RSpec P J U w0 R) (hall:all=ops.toList) (hd:∀o∈all,∀d,o.dst=some d->d<nt) (hf:J2 all=true) (hb:K1 all=true) (hch:IT all=true)
  (hup:∀j,j<=all.length->Dj (16*(c+j)) (hpS j)) (h0:tmS 0=tm0) (ht:∀(i:Nat)(o:Oper),all[i]? =some o->Trace P R cf all c tmS hpS xS clsS i o)
  (hQ:∀a w,SB w0 U A E0 G0 hp0 e nt (fun id=>id<16*(c+all.length)) (tmS all.length) (hpS all.length) a w->Q .normal a w):
  ∀(fuel:Nat)(listed:Array Bool)(a:Act)(w:World),((List.range all.length).filter fun i=> !listed.getD i false).length<=fuel->DI w0 U A E0 G0 hp0 e nt c all tm0 hpS xS listed a w->wpAny P .any ops Q fuel listed a w:=by
 have hsz:ops.size=all.length:=by rw[hall];simp
 have hend:∀(listed:Array Bool)(a:Act)(w:World),DI w0 U A E0 G0 hp0 e nt c all tm0 hpS xS listed a w->Region.ready .any ops listed=[]->Q .normal a w:=by
  intro listed a w hI hr;have hD:∀i,i<all.length->Dn listed i:=by
   intro i
   induction i using Nat.strongRecOn with
   |_ i ih=>
    intro hi;by_cases hDi:Dn listed i
    ·exact hDi
    ·exfalso
     obtain⟨o,ho⟩:∃o,all[i]? =some o:=⟨_,za1 hi⟩;have:i∈Region.ready .any ops listed:=by
      refine mem_ready.2 ⟨?_,o,by rw[hall]at ho;simpa using ho,fun e he hbd=> ?_⟩
      ·have hil:i<listed.size:=by rw[hI.size];exact hi
       have hDi:¬listed.getD i false=true:=hDi;rw[zb7,Array.getElem?_eq_getElem hil]at hDi⊢
       simpa using hDi
      ·have hlt:e.on<i:=by
        unfold K1 at hb;have h1:=za6.1 hb i (by simpa using hi);simp only[ho,za2]at h1;have h2:=h1.1;rw[Array.all_eq_true_iff_forall_mem]at h2;have h3:=h2 e he;simp only[hbd,Bool.not_true,Bool.or_false,decide_eq_true_eq]at h3;exact h3
       exact ih e.on hlt (by omega)
     rw[hr]at this;simp at this
  obtain⟨m,hm,hW,hA,hsb⟩:=hI.ex;have hnC:∀(j:Nat)(o:Oper),m<=j->j<all.length->all[j]? =some o->isC all o=false:=fun j o h1 h2 hoj=>by
   cases hC:isC all o with
   |false=>rfl
   |true=>have:=(hW j o hoj hC).1 (hD j h2);omega
  have hq:∀(id p:Nat),m<=p->p<=all.length->(∀(j:Nat)(o:Oper),p<=j->all[j]? =some o->FR all o=true->id≠16*(c+j))->hpS all.length id=hpS p id:=by
   intro id p hp1 hp2 hne;refine Lh (all:=all) (hpS:=hpS) all.length hp2 (za8 _) fun j o h1 h2 hoj=> ?_
   cases hal:FR all o with
   |true=>
    obtain⟨k,hk,_⟩:=Tc (ht j o hoj) hoj hal;rw[hk];simp only[upd];rw[zi (hne j o h1 hoj hal)]
   |false=>
    have hC:=hnC j o (by omega) h2 hoj;have hwk:isW o.op=false:=by
     unfold isC at hC;rw[hal]at hC;simpa using hC
    rw[Mb (ht j o hoj) hwk]
  have hhp:hpS all.length=hpD all c hpS m (Dn listed):=by
   funext id
   cases ha:Om all c id with
   |some j=>
    obtain⟨rfl,o',hoj,hal⟩:=Ep.1 ha;have hjl:j<all.length:=(za3.1 hoj).1;rcases zd3 j m with hjm|hjm
    ·rw[EE fun j' hj' hm'=>(by rw[ha]at hj';cases hj';omega)];exact hq _ m (za8 _) hm fun k ok h1 _ _=>by omega
    ·rw[OG ha hjm (hD j hjl)];exact hq _ (j+1) (by omega) (by omega) fun k ok h1 _ _=>by omega
   |none=>
    rw[EE fun j' hj'=>(by rw[ha]at hj';cases hj')];exact hq _ m (za8 _) hm fun k ok h1 hok hal he=>by rw[Ep.2 ⟨he,ok,hok,hal⟩]at ha;cases ha
  have htm:lw all xS tm0 (Dn listed) all.length=tmS all.length:=by
   rw[YU h0 (fun j o hj=>(ht j o hj).tm) all.length (za8 _)]
   funext d
   exact Lm all.length fun j o hj _ _=>⟨fun _=>trivial,fun _=>hD j hj⟩
  refine hQ a w ?_
  rw[<-htm,hhp];refine hsb.mono fun id h=> ?_
  rcases h with h|⟨j,hDj,h1,h2⟩
  ·show id<_;omega
  ·have:j<all.length:=by
    have hDj:listed.getD j false=true:=hDj;rw[zb7]at hDj;rcases zd3 j listed.size with h|h
    ·rw[hI.size]at h;exact h
    ·rw[Array.getElem?_eq_none h]at hDj;simp at hDj
   show id<_;omega
 intro fuel
 induction fuel with
 |zero=>
  intro listed a w hfuel hI;have hnone:Region.ready .any ops listed=[]:=by
   cases hrr:Region.ready .any ops listed with
   |nil=>rfl
   |cons i l=>
    exfalso
    have hi:i∈Region.ready .any ops listed:=by rw[hrr];simp
    obtain⟨hun,o,ho,_⟩:=mem_ready.1 hi;have hlt:i<all.length:=by rw[<-hsz];exact(Array.getElem?_eq_some_iff.1 ho).1
    have hil:i<listed.size:=by rw[hI.size];exact hlt
    have:i∈(List.range all.length).filter fun i=> !listed.getD i false:=by
     refine List.mem_filter.2 ⟨by simpa using hlt,?_⟩
     rw[zb7,Array.getElem?_eq_getElem hil]at hun⊢
     simpa using hun
    rw[zb3 (Nat.le_zero.1 hfuel)]at this;simp at this
  exact⟨hnone,hend listed a w hI hnone⟩
 |succ fuel ih=>
  intro listed a w hfuel hI;refine⟨fun hnone=>hend listed a w hI hnone,fun i hi=> ?_⟩
  refine DI.step hR hall hd hf hb hch hup h0 ht hI hi fun a' w' hI'=>ih _ a' w' ?_ hI'
  obtain⟨hun,o,ho,_⟩:=mem_ready.1 hi;have hlt:i<all.length:=by rw[<-hsz];exact(Array.getElem?_eq_some_iff.1 ho).1
  have hil:i<listed.size:=by rw[hI.size];exact hlt
  have:=Uw (p:=fun j=> !listed.getD j false) (p':=fun j=> !(listed.setIfInBounds i true).getD j false) (List.range all.length) (fun j _ hj=>by
   have h1:=YD hil j;unfold Dn at h1;cases hh:listed.getD j false with
   |false=>rfl
   |true=>rw[h1.2 (.inl hh)]at hj;simp at hj) ⟨i,by simpa using hlt,by
    rw[zb7,Array.getElem?_eq_getElem hil]at hun⊢
    simpa using hun,by
    have h1:=(YD hil i).2 (.inr rfl);unfold Dn at h1;rw[h1];rfl⟩
  omega
theorem W2(hR:RSpec P J U w0 R){e nt:Nat}{ops:Array Oper}{Q:Exit->Act->World->Prop}{st:St}{K:St->Prop}{a:Act}
  (hd:∀o∈ops.toList,∀d,o.dst=some d->d<nt) (hf:J2 ops.toList=true) (hb:K1 ops.toList=true) (hch:IT ops.toList=true) (h:BZ P R cf ops.toList true ops.toList 0 st fun s=>K {s with c:=s.c+ops.size})
  (hs:SS w0 U A E0 G0 hp0 e nt st a w)
  (hQ:∀st' a' w',K st'->SS w0 U A E0 G0 hp0 e nt st' a' w'->Q .normal a' w'):wpAny P .any ops Q ops.size (Array.replicate ops.size false) a {w with drawn:=w.drawn+1}:=by
 obtain⟨tm,hp,c⟩:=st;obtain⟨tmS,hpS,xS,clsS,h1,h2,h3,h4⟩:=X0 ops.toList 0 tm hp h;simp only[ze6]at h3 h4;have hdr:SS w0 U A E0 G0 hp0 e nt ⟨tm,hp,c⟩ a {w with drawn:=w.drawn+1}:=by
  obtain⟨E,G,g1,g2,g3,g4,g5⟩:=hs.env;have hfr:Fr0 w {w with drawn:=w.drawn+1}:=.mk' rfl rfl rfl (za8 _) (fun b hb _=>rfl) (fun b _ _ _ h _=>h.elim);obtain⟨q1,q2⟩:=g1.grow (B:=fun id=>id<16*c) (G':=G) hfr GJ.none (fun _ h=>h.elim) (fun b hb=>hb) (fun b hb=>.inl hb);exact⟨hs.size,hs.defers,hs.low,E,G,q1,g2,fun t=>q2.v2 _ _ (g4 t) (g3 t),g4,g5.trans q2 hs.low⟩
 have hup:∀j,j<=ops.toList.length->Dj (16*(c+j)) (hpS j):=by
  intro j
  induction j with
  |zero=>
   intro _ id hid;rw[h2];obtain⟨E,G,g1,g2,_⟩:=hs.env;cases hk:hp id with
   |none=>rfl
   |some k=>have:=(g2 id k hk).1;simp only at this;omega
  |succ j ih=>
   intro hj;have ho:ops.toList[j]? =some (ops.toList[j]'(by omega)):=za1 (by omega);exact Zj (h3 j _ ho) (ih (by omega))
 have hnone:∀j,¬Dn (Array.replicate ops.size false) j:=fun j=>by
  unfold Dn;rw[zb7,Array.getElem?_replicate]
  split<;>simp
 refine Ye (all:=ops.toList) (tm0:=tm) hR rfl hd hf hb hch hup h1 h3 (fun a w hsb=>hQ _ a w h4 (by simpa using hsb)) ops.size _ a _ ?_ ⟨by simp,fun i o hi=>absurd hi (hnone i),0,by omega,fun j o _ _=>⟨fun hj=>absurd hj (hnone j),fun hj=>by omega⟩,fun j o _ _ hj=>by omega,?_⟩
 ·refine zd0 (List.length_filter_le _ _) (by simp)
 ·have hlw:lw ops.toList xS tm (Dn (Array.replicate ops.size false)) ops.toList.length=tm:=by
   have:∀n,lw ops.toList xS tm (Dn (Array.replicate ops.size false)) n=tm:=by
    intro n
    induction n with
    |zero=>rfl
    |succ n ih=>simp only[lw];rw[zi (hnone n)];exact ih
   exact this _
  have hh0:hpD ops.toList c hpS 0 (Dn (Array.replicate ops.size false))=hp:=by
   funext id
   rw[EE fun j _ _=>hnone j,h2]
  rw[hlw,hh0];exact hdr.mono fun id h=>.inl h
theorem AD3{n:Nat}(p:Nat->Bool):((List.range n).filter p++(List.range n).filter fun i=> !p i).Perm (List.range n):=List.filter_append_perm p (List.range n)
theorem AF6(π:List Nat)(o:Oper)(a:Act)(w:World)(K:Act->World->Prop)(Q:Exit->Act->World->Prop):(TD π o).wp P a w K Q=o.wp P a w K Q:=by cases o;rfl
theorem Ad8(π:List Nat)(o:Oper)(a:Act)(w:World):(TD π o).asks P a w=o.asks P a w:=by cases o;rfl
end
section
open Go
variable {P:Program} {R:Rel} {J:F3} {U A:Nat->Prop} {w0 w:World} {cf:Cfg} {E0:Env} {G0:Nat->Prop} {hp0:Hp}
theorem Xc{b:Array Bool}{i:Nat}(hi:i<b.size)(j:Nat)(d:Bool):(b.setIfInBounds i true).getD j d=if j=i then true else b.getD j d:=by
 rw[zb7,zb7,Array.getElem?_setIfInBounds];by_cases h:i=j
 ·subst h;simp[hi]
 ·rw[zi h,zi (Ne.symm h)]
section
variable {π:List Nat} {ops:Array Oper} (hp:π.Perm (List.range ops.size))
include hp
theorem Y2{i:Nat}(hi:i<ops.size):π.idxOf i<ops.size:=by
 have hl:π.length=ops.size:=by rw[hp.length_eq,List.length_range]
 rw[<-hl];exact List.idxOf_lt_length_iff.2 (hp.mem_iff.2 (List.mem_range.2 hi))
theorem Au4{i:Nat}(hi:ops.size<=i):π.idxOf i=ops.size:=by
 have hl:π.length=ops.size:=by rw[hp.length_eq,List.length_range]
 rw[<-hl];exact List.idxOf_eq_length fun h=>by have:=List.mem_range.1 (hp.mem_iff.1 h);omega
theorem VY{i:Nat}(hi:i<ops.size):π[π.idxOf i]? =some i:=by
 have h:π.idxOf i<π.length:=List.idxOf_lt_length_iff.2 (hp.mem_iff.2 (List.mem_range.2 hi));rw[za1 h,List.getElem_idxOf]
theorem L4:(Ih π ops.toList).toArray.size=ops.size:=by
 simp[Ih,hp.length_eq]
theorem Ai4{k i:Nat}(h:π[k]? =some i):(Ih π ops.toList).toArray[k]? =(ops[i]?).map (TD π):=by
 have hi:i<ops.size:=List.mem_range.1 (hp.mem_iff.1 (za5 h));simp only[Ih,List.getElem?_toArray,zd5,h,zd1];rw[Array.getElem?_eq_getElem hi];simp[List.getD,hi]
theorem SK{i:Nat}:(Ih π ops.toList).toArray[π.idxOf i]? =(ops[i]?).map (TD π):=by
 by_cases hi:i<ops.size
 ·exact Ai4 hp (VY hp hi)
 ·rw[Au4 hp (by omega),Array.getElem?_eq_none (by rw[L4 hp];omega),Array.getElem?_eq_none (by omega)];rfl
theorem Y0(tmps:Array Value)(j:Nat):yielded (Ih π ops.toList).toArray tmps (π.idxOf j)=yielded ops tmps j:=by
 unfold yielded;rw[SK hp];cases ops[j]? with
 |none=>rfl
 |some o=>rfl
theorem XF(tmps:Array Value)(o:Oper):Region.wanted (TD π o) (yielded (Ih π ops.toList).toArray tmps)=Region.wanted o (yielded ops tmps):=by
 unfold Region.wanted;cases hg:o.guard with
 |none=>simp[TD,hg]
 |some g=>simp only[TD,hg,zd1,Y0 hp]
theorem Zs{Q:Exit->Act->World->Prop}:∀(fuel:Nat)(listed listed':Array Bool)(a:Act)(w:World),listed.size=ops.size->listed'.size=ops.size->(∀i,i<ops.size->∀d,listed'.getD (π.idxOf i) d=listed.getD i d)->
  wpAny P .any (Ih π ops.toList).toArray Q fuel listed' a w->wpAny P .any ops Q fuel listed a w:=by
 have rdy:∀(listed listed':Array Bool),listed.size=ops.size->listed'.size=ops.size->(∀i,i<ops.size->∀d,listed'.getD (π.idxOf i) d=listed.getD i d)->∀i,i<ops.size->(i∈Region.ready .any ops listed↔π.idxOf i∈Region.ready .any (Ih π ops.toList).toArray listed'):=by
  intro listed listed' h1 h2 h3 i hi;unfold Region.ready;simp only[List.mem_filter,List.mem_range,L4 hp,SK hp,h3 i hi,hi,Y2 hp hi,true_and];rw[Array.getElem?_eq_getElem hi];simp only[zd1,Option.getD_some,za2];refine and_congr Iff.rfl ?_
  have:((TD π ops[i]).after.all fun e=> !Region.binds .any e||listed'.getD e.on false)=(ops[i].after.all fun e=> !Region.binds .any e||listed.getD e.on false):=by
   rw[<-Array.all_toList,<-Array.all_toList];show((ops[i].after.toList.map fun e=>({e with on:=π.idxOf e.on}:Edge)).all _)=_;rw[List.all_map]
   congr 1
   funext e
   have hb:Region.binds .any ({e with on:=π.idxOf e.on}:Edge)=Region.binds .any e:=rfl;show(!Region.binds .any ({e with on:=π.idxOf e.on}:Edge)||listed'.getD (π.idxOf e.on) false)=_;rw[hb];by_cases he:e.on<ops.size
   ·rw[h3 _ he]
   ·rw[Au4 hp (by omega),zb7,zb7,Array.getElem?_eq_none (by omega),Array.getElem?_eq_none (by omega)]
  rw[this]
 have BA:∀(listed':Array Bool)(k:Nat),k∈Region.ready .any (Ih π ops.toList).toArray listed'->∃i,i<ops.size/\k=π.idxOf i:=by
  intro listed' k hk;unfold Region.ready at hk;have hk1:k<ops.size:=by
   have:=List.mem_range.1 (List.mem_filter.1 hk).1
   rwa[L4 hp]at this
  have hl:π.length=ops.size:=by rw[hp.length_eq,List.length_range]
  refine⟨π[k]'(by omega),List.mem_range.1 (hp.mem_iff.1 (List.getElem_mem _)),?_⟩
  exact((hp.nodup_iff.2 List.nodup_range).idxOf_getElem k (by omega)).symm
 intro fuel
 induction fuel with
 |zero=>
  intro listed listed' a w h1 h2 h3 h;obtain⟨g1,g2⟩:=h;refine⟨?_,g2⟩
  refine List.eq_nil_iff_forall_not_mem.2 fun i hi=> ?_
  have hin:i<ops.size:=List.mem_range.1 (List.mem_filter.1 hi).1;have:=(rdy listed listed' h1 h2 h3 i hin).1 hi;rw[g1]at this;exact List.not_mem_nil this
 |succ fuel ih=>
  intro listed listed' a w h1 h2 h3 h;obtain⟨g1,g2⟩:=h;refine⟨fun he=>g1 (List.eq_nil_iff_forall_not_mem.2 fun k hk=> ?_),fun i hi=> ?_⟩
  ·obtain⟨i,hin,rfl⟩:=BA listed' k hk;have:=(rdy listed listed' h1 h2 h3 i hin).2 hk;rw[he]at this;exact List.not_mem_nil this
  ·have hin:i<ops.size:=List.mem_range.1 (List.mem_filter.1 hi).1;have h4:=g2 _ ((rdy listed listed' h1 h2 h3 i hin).1 hi);have hK:∀a w,wpAny P .any (Ih π ops.toList).toArray Q fuel (listed'.setIfInBounds (π.idxOf i) true) a w->wpAny P .any ops Q fuel (listed.setIfInBounds i true) a w:=by
    intro a w hh;refine ih _ _ a w (by simp[h1]) (by simp[h2]) (fun j hj d=> ?_) hh
    rw[Xc (by rw[h2];exact Y2 hp hin),Xc (by omega),h3 j hj];by_cases hji:j=i
    ·subst hji;rw[zw rfl,zw rfl]
    ·rw[zi hji,zi];intro he;have e1:=VY hp hj;rw[he,VY hp hin]at e1;exact hji (zy e1).symm
   unfold wpOp at h4⊢
   rw[SK hp,Array.getElem?_eq_getElem hin]at h4;rw[Array.getElem?_eq_getElem hin];simp only[zd1]at h4⊢
   rw[XF hp,Ad8,AF6]at h4
   split
   ·rename_i hw;rw[zw hw]at h4;exact h4.imp (Oper.wp_mono hK) id
   ·rename_i hw;rw[zi hw]at h4;exact hK _ _ h4
end
theorem Ao6{π:List Nat}{o:Oper}:(TD π o).dst=o.dst:=rfl
theorem At9(ops:List Oper):(Ai3 ops).Perm (List.range ops.length):=AD3 (VF ops)
theorem NU(hm:P.follows .mixedOrders=true)(hR:RSpec P J U w0 R){e nt id:Nat}{ops:Array Oper}{Q:Exit->Act->World->Prop}{st:St}{K:St->Prop}{a:Act}
  (hd:∀o∈ops.toList,∀d,o.dst=some d->d<nt) (hf:J2 (TE ops.toList)=true) (hb:K1 (TE ops.toList)=true) (hch:IT (TE ops.toList)=true)
  (h:BZ P R cf (TE ops.toList) true (TE ops.toList) 0 st fun s=>K {s with c:=s.c+ops.size})
  (hs:SS w0 U A E0 G0 hp0 e nt st a w)
  (hQ:∀st' a' w',K st'->SS w0 U A E0 G0 hp0 e nt st' a' w'->Q .normal a' w'):(Code.region id ops true).wp P Q a w:=by
 refine wp_region_any hm ?_
 unfold TE at hf hb hch h;by_cases hl:AG2 ops.toList=true
 ·rw[zw hl]at hf hb hch h;have hp:(Ai3 ops.toList).Perm (List.range ops.size):=by simpa using At9 ops.toList
  have hsz:=L4 hp;have hall:(Ih (Ai3 ops.toList) ops.toList).toArray.toList=Ih (Ai3 ops.toList) ops.toList:=rfl;refine Zs hp ops.size _ (Array.replicate ops.size false) a _ (by simp) (by simp) (fun i hi d=> ?_) ?_
  ·rw[zb7,zb7,Array.getElem?_replicate,Array.getElem?_replicate,zw hi,zw (Y2 hp hi)]
  ·have:=W2 (P:=P) (cf:=cf) hR (ops:=(Ih (Ai3 ops.toList) ops.toList).toArray) (nt:=nt) (Q:=Q) (K:=K) (a:=a) (w:=w) (by
    intro o ho d hd2;obtain⟨i,hi,rfl⟩:=ze0.1 ho;rw[Ao6]at hd2;have hin:i<ops.size:=List.mem_range.1 (hp.mem_iff.1 hi);have e1:ops.toList.getD i default=ops[i]:=by simp[List.getD,hin]
    rw[e1]at hd2;exact hd _ (by simp) d hd2) hf hb hch (by rw[hsz];exact h) hs hQ
   rw[hsz]at this;exact this
 ·rw[zi hl]at hf hb hch h;exact W2 (P:=P) (cf:=cf) hR hd hf hb hch h hs hQ
end
section
open Go
variable {P:Program} {J:F3} {w w' w0:World} {E E' E0:Env} {hp hp' hp0:Hp} {G G' G0 U A W F S:Nat->Prop} {B B':Nat->Prop} {ρ:Operand->V} {ρr:Operand->Value}
def Ay0:Ex->Exit
 |.normal=>.normal
 |.exit id=>.exit id
 |.ret=>.ret
theorem Ir{R:Rel}{cf:Cfg}(hm:P.follows .mixedOrders=true)(hR:RSpec P J U w0 R){g e nt:Nat}:∀(code:Code)(st:St)(Q:Gk)(a:Act)(w:World)(QM:Exit->Act->World->Prop),
  I5 nt code=true->Gy code=true->we P R cf g e code st Q->SS w0 U A E0 G0 hp0 e nt st a w->
  (∀ex st' a' w',Q ex st'->SS w0 U A E0 G0 hp0 e nt st' a' w'->QM (Ay0 ex) a' w')->code.wp P QM a w
 |.skip,st,Q,a,w,QM,_,_,h,hs,hQ=>wp_skip (hQ .normal st a w h hs)
 |.exit id,st,Q,a,w,QM,_,_,h,hs,hQ=>wp_exit (hQ (.exit id) st a w h hs)
 |.ret,st,Q,a,w,QM,_,_,h,hs,hQ=>wp_ret (hQ .ret st a w h hs)
 |.region id ops draw,st,Q,a,w,QM,hd,hdr,h,hs,hQ=>by
  have hd':∀o∈ops.toList,∀d,o.dst=some d->d<nt:=by
   intro o ho d hod;simp only[I5]at hd;have:=za6.1 hd o ho;rw[hod]at this;simpa using this
  unfold we at h;cases draw with
  |false=>exact V3 (K:=fun s=>Q .normal s) hR hd' h hs fun st' a' w' hK hs'=>hQ .normal st' a' w' hK hs'
  |true=>
   simp only[Gy,za2]at hdr;exact NU (K:=fun s=>Q .normal s) hm hR hd' hdr.1.1 hdr.1.2 hdr.2 h hs fun st' a' w' hK hs'=>hQ .normal st' a' w' hK hs'
 |.seq x y,st,Q,a,w,QM,hd,hdr,h,hs,hQ=>by
  simp only[I5,za2]at hd;simp only[Gy,za2]at hdr;unfold we at h;refine wp_seq (Ir hm hR x st _ a w _ hd.1 hdr.1 h hs fun ex st' a' w' hq hs'=> ?_)
  cases ex with
  |normal=>
   obtain⟨s2,hq,hs'⟩:=YV hq hs';exact Ir hm hR y s2 Q a' w' QM hd.2 hdr.2 hq hs' hQ
  |exit id=>exact hQ (.exit id) st' a' w' hq hs'
  |ret=>exact hQ .ret st' a' w' hq hs'
 |.cond c x y,st,Q,a,w,QM,hd,hdr,h,hs,hQ=>by
  simp only[I5,za2]at hd;simp only[Gy,za2]at hdr;unfold we at h;obtain⟨t,ht,h'⟩:=RO h;have hc:a.eval c=.bool t:=by
   obtain⟨E,G,h1,h2,h3,h4,h5⟩:=hs.env;have:=NP h3 c;rw[ht]at this;exact(F0 this).1
  refine wp_cond hc ?_
  cases t with
  |true=>simp only[if_true]at h'⊢;exact Ir hm hR x st Q a w QM hd.1 hdr.1 h' hs hQ
  |false=>simp only[zb8,if_false]at h'⊢;exact Ir hm hR y st Q a w QM hd.2 hdr.2 h' hs hQ
 |.block id c,st,Q,a,w,QM,hd,hdr,h,hs,hQ=>by
  unfold we at h;refine wp_block (Ir hm hR c st _ a w _ hd hdr h hs fun ex st' a' w' hq hs'=> ?_)
  cases ex with
  |normal=>exact hQ .normal st' a' w' hq hs'
  |ret=>exact hQ .ret st' a' w' hq hs'
  |exit j=>
   simp only[Ay0,Exit.inBlock];by_cases hj:j=id
   ·simp only[zw hj]at hq⊢;exact hQ .normal st' a' w' hq hs'
   ·simp only[zi hj]at hq⊢;exact hQ (.exit j) st' a' w' hq hs'
 |.loop c,st,Q,a,w,QM,hd,hdr,h,hs,hQ=>by
  unfold we at h;obtain⟨n,h⟩:=h;refine wp_loop_rounds n ?_
  induction n generalizing st a w with
  |zero=>exact h.elim
  |succ n ih=>
   unfold VM at h;obtain⟨st',h',hs'⟩:=GS h hs;rw[rounds_succ];refine Ir hm hR c st' _ a w _ hd hdr h' hs' fun ex st2 a2 w2 hq hs2=> ?_
   cases ex with
   |normal=>exact ih st2 a2 w2 hs2 hq
   |exit id=>
    obtain⟨s3,hq,hs3⟩:=GS hq hs2;exact hQ (.exit id) s3 a2 w2 hq hs3
   |ret=>
    obtain⟨s3,hq,hs3⟩:=GS hq hs2;exact hQ .ret s3 a2 w2 hq hs3
 |.scope c,_,_,_,_,_,_,_,h,_,_=>by simp[we]at h
 |.label l,_,_,_,_,_,_,_,h,_,_=>by simp[we]at h
 |.goto l,_,_,_,_,_,_,_,h,_,_=>by simp[we]at h
 |.rangeFunc ..,_,_,_,_,_,_,_,h,_,_=>by simp[we]at h
end
section
open Go
variable {P:Program} {J:F3} {w w' w0:World} {E E' E0:Env} {hp hp' hp0:Hp} {G G' G0 U A W F S:Nat->Prop} {B B':Nat->Prop} {ρ:Operand->V} {ρr:Operand->Value}
def XI(tmps:Array Value):ResultVar->Sem Value
 |.tmp t=>pure (tmps.getD t undef)
 |.cell a t=>do loadVar t (<-asAddr (tmps.getD a undef))
theorem Y9(fn:Func)(tmps:Array Value):results fn tmps=(do let vs <-fn.results.mapM (XI tmps);pure (if h:vs.size=1 then vs[0]else .tuple vs):Sem Value):=by
 unfold results
 congr 1
theorem Y8{st:St}{a:Act}{r:ResultVar}{K:V->Prop}(hI:HpInv w0 U A E G st.hp w)(hw:Dz (fun i=>i<16*st.c) st.hp)(hB:∀t,∀id∈Ah (st.tm t),id<16*st.c)(hr:∀t,VR2 w E st.hp G (st.tm t) (a.tmps.getD t undef))(h:Av5 P st r K):
  ∃x y,K x/\(XI a.tmps r).run P w=.ok y w/\VR2 w E st.hp G x y/\∀i∈Ah x,i<16*(st.c+1):=by
 cases r with
 |tmp t=>exact⟨_,_,h,rfl,hr t,fun i hi=>by have:=hB t i hi;omega⟩
 |cell ad t=>
  unfold Av5 at h;simp only at h
  split at h
  ·rename_i x new hx;obtain⟨_,y,h1,h2⟩:=Am1 hI (fun x=>NP hr x) hx;have hids:∀x,∀id∈Ah (Ax st.tm x),id<16*st.c:=fun x id hid=>by
    cases x with
    |tmp t=>exact hB t id hid
    |const c=>simp only[Ax,RY]at hid;simp at hid
    |global g=>simp[Ax,Ah,Af,Ae]at hid
    |func f=>simp[Ax,Ah,Af,Ae]at hid
   have hwf:GP (fun i=>i<16*st.c) (16*st.c) x (inst st.hp (16*st.c) new):=AO1 (P:=P) (op:=.load t (.tmp ad)) (b:=16*st.c) ⟨hI,hw,fun x=>NP hr x,hids,fun j hj=>by omega⟩ hx;refine⟨x,y,h,?_,h2,fun i hi=>by rcases hwf.1 i hi with h|h<;>omega⟩
   unfold Instr.loadAt at h1;have hev:a.eval (.tmp ad)=a.tmps.getD ad undef:=rfl;rw[hev]at h1;show Sem.run P (do loadVar t (<-asAddr (a.tmps.getD ad undef))) w=_;generalize a.tmps.getD ad undef=v at h1⊢
   cases v with
   |pointer p=>
    cases p with
    |some p=>exact h1
    |none=>simp[Instr.sureAddr,Sem.run_bind]at h1
   |_=>simp[Instr.sureAddr,Sem.run_bind]at h1
  ·exact h.elim
theorem Qi{st:St}{a:Act}(hI:HpInv w0 U A E G st.hp w)(hw:Dz (fun i=>i<16*st.c) st.hp)(hB:∀t,∀id∈Ah (st.tm t),id<16*st.c)(hr:∀t,VR2 w E st.hp G (st.tm t) (a.tmps.getD t undef)):∀{l:List ResultVar}{K:List V->Prop},Kx P st l K->
  ∃xs ys,K xs/\(l.mapM (XI a.tmps)).run P w=.ok ys w/\xs.length=ys.length/\(∀(i:Nat)(x:V)(y:Value),xs[i]? =some x->ys[i]? =some y->VR2 w E st.hp G x y)/\∀x∈xs,∀i∈Ah x,i<16*(st.c+1)
 |[],K,h=>⟨[],[],h,by simp,rfl,fun i x y hx=>by simp at hx,fun x hx=>by simp at hx⟩
 |r::l,K,h=>by
  unfold Kx at h;obtain⟨x,y,h1,h2,h3,h3'⟩:=Y8 hI hw hB hr h;obtain⟨xs,ys,h4,h5,h6,h7,h8⟩:=Qi hI hw hB hr h1;refine⟨x::xs,y::ys,h4,?_,by simp[h6],fun i x' y' hx hy=> ?_,fun x' hx'=>by rcases zc9.1 hx' with rfl|h;exact h3';exact h8 x' h⟩
  ·rw[List.mapM_cons];simp only[Sem.run_bind,h2,Result.andThen_ok,h5,Sem.run_pure]
  ·cases i with
   |zero=>simp at hx hy;subst hx;subst hy;exact h3
   |succ i=>exact h7 i x' y' (by simpa using hx) (by simpa using hy)
theorem YY{x:V}{y:Value}(h:EG x=true)(hv:VR2 w E hp G x y):VR1 w E hp G x y:=by
 cases x with
 |tup l=>cases h
 |_=>exact hv
theorem YZ{e nt:Nat}{x r:V}{y:Value}{blks:List Blk}(h:SI hp e x r blks)(hI:HpInv w0 U A E G hp w)(hv:VR2 w E hp G x y)(hx:Ext (fun j=>j<e) E0 G0 hp0 w0 E G hp w):
  ∃E',HpInv w0 U A E' G (lkB blks) w/\VR2 w E' (lkB blks) G r y/\Ext (fun j=>j<e) E0 G0 hp0 w0 E' G (lkB blks) w:=by
 unfold SI at h
 split at h
 ·rename_i order hcl;obtain⟨h1,h2,h3⟩:=h;obtain⟨c1,c2,_,_⟩:=EZ hp 64 _ _ _ hcl (by simp) (fun id hid=>by simp at hid);subst h2;subst h3;exact⟨CQ E order,X2 hI c1 c2,(N9 c2).vr2 (fun b hb=>hb) hv,hx.trans (X1 c1 c2 h1) fun _ h=>h⟩
 ·exact h.elim
theorem ZL{args:List V}:∀(n t:Nat),lk V.any (Nw n args) (n+t)=args.getD t V.any:=by
 induction args with
 |nil=>intro n t;rfl
 |cons x l ih=>
  intro n t;simp only[Nw,lk];cases t with
  |zero=>simp
  |succ t=>
   rw[zi (by omega)];have:=ih (n+1) t;rw[show n+1+t=n+(t+1) by omega]at this;rw[this];simp
theorem W6{fn:Func}{args:List V}{blks:List Blk}{vals:Array Value}(hid:Hg args blks=true)(hn:args.length<=fn.ntmps)(hI:HpInv w (Own E (lkB blks)) A E A (lkB blks) w)(hv:VL (VR1 w E (lkB blks) A) args vals.toList):
  SS w (Own E (lkB blks)) A E A (lkB blks) (args.flatMap Af).eraseDups.length fn.ntmps (R6 args blks) {tmps:=vals++Array.replicate (fn.ntmps-vals.size) undef,defers:=[]} w:=by
 have hlen:vals.size=args.length:=by have:=hv.length;simpa using this
 simp only[Hg,za2,decide_eq_true_eq,beq_iff_eq]at hid;obtain⟨⟨⟨h1,h2⟩,h3⟩,h4⟩:=hid;have hrefs:∀i∈args.flatMap Af,i<16:=fun i hi=>by simpa using za6.1 h1 i hi
 refine⟨by simp;omega,rfl,fun j hj=> ?_,E,A,hI,?_,fun t=> ?_,fun t id hid=> ?_,Ext.refl _ _ _ _ _⟩
 ·have:j∈(args.flatMap Af).eraseDups:=by rw[h4];simp[hj]
  have:=hrefs j (I6.1 this);show j<16*1;omega
 ·intro id k hk;have hk':blks[id]? =some k:=hk;refine⟨?_,fun j hj=> ?_⟩
  ·have:=(za3.1 hk').1;show id<16*1;omega
  ·have:=za6.1 h2 j (zb0.2 ⟨k,za5 hk',hj⟩);simp at this;show j<16*1;omega
 ·have:=ZL (args:=args) 0 t;rw[ze6]at this;show VR2 w E (lkB blks) A (lk V.any (Nw 0 args) t) _;rw[this];cases hx:args[t]? with
  |none=>simp only[List.getD,hx,Option.getD_none];exact Zx
  |some x=>
   obtain⟨y,hy,hr⟩:=hv.get t x hx;have ht:t<vals.size:=by have:=(za3.1 hx).1;omega
   have:(vals++Array.replicate (fn.ntmps-vals.size) undef).getD t undef=y:=by
    rw[zb7,Array.getElem?_append_left ht];have:vals[t]? =some y:=by simpa using hy
    rw[this];rfl
   simp only[List.getD,hx,Option.getD_some];rw[this];exact hr.to2
 ·have:=ZL (args:=args) 0 t;rw[ze6]at this;have hid:id∈Ah (lk V.any (Nw 0 args) t):=hid;rw[this]at hid;cases hx:args[t]? with
  |none=>simp only[List.getD,hx,Option.getD_none]at hid;simp[Ah,Af,Ae]at hid
  |some x=>
   simp only[List.getD,hx,Option.getD_some]at hid;have hmem:=za5 hx;obtain⟨y,hy,hr⟩:=hv.get t x hx;have:id∈Af x:=by
    cases x with
    |tup l=>exact hr.elim
    |_=>exact hid
   have:=hrefs id (zb0.2 ⟨x,hmem,this⟩);show id<16*1;omega
theorem XJ{rts:List (Nat×Mds)}(hI:HpInv w0 U A E G hp w)(h:FV rts hp=true):∃ys:List Value,ys.length=rts.length/\(∀(i:Nat)(x:V)(y:Value),(Cy rts)[i]? =some x->ys[i]? =some y->VR2 w E hp G x y)/\∀x∈Cy rts,∀i∈Ah x,i<16:=by
 induction rts with
 |nil=>exact⟨[],rfl,fun i x y hx=>by simp[Cy]at hx,fun x hx=>by simp[Cy]at hx⟩
 |cons p l ih=>
  simp only[FV,zc1,za2,decide_eq_true_eq]at h;obtain⟨⟨h1,h2⟩,h3⟩:=h;obtain⟨ys,q1,q2,q3⟩:=ih h3
  split at h2
  ·rename_i k hk;have hkk:k.kind=.box:=by simpa using h2
   have hb:=hI.blk p.1 k hk;unfold AU at hb;simp only[hkk]at hb;obtain⟨b,row,cur,e1,_⟩:=hb;refine⟨.pointer (some ⟨b,0,none⟩)::ys,by simp[q1],fun i x y hx hy=> ?_,fun x hx i hi=> ?_⟩
   ·cases i with
    |zero=>
     simp only[Cy,zc2,List.getElem?_cons_zero,zb]at hx hy;subst hx;subst hy;exact⟨b,0,rfl,fun k' hk'=>⟨e1,by simp⟩⟩
    |succ i=>exact q2 i x y (by simpa[Cy]using hx) (by simpa using hy)
   ·simp only[Cy,zc2,zc9]at hx;rcases hx with rfl|hx
    ·simp[Ah,Af,Ae]at hi;omega
    ·exact q3 x hx i hi
  ·cases h2
theorem JK{cf:Cfg}{ext:Rel}(hm:P.follows .mixedOrders=true)(hext:∀g args blks r blks',ext g args blks r blks'->CSpec P J g args blks r blks'):
  ∀k g args blks r blks',SX P cf ext k g args blks r blks'->CSpec P J g args blks r blks'
 |0,g,args,blks,r,blks',h=>hext g args blks r blks' h
 |k+1,g,args,blks,r,blks',h=>by
  rcases h with h|⟨_,fn,c,hfn,hbody,hok,hid,h⟩
  ·exact hext g args blks r blks' h
  ·simp only[Mw,za2,decide_eq_true_eq]at hok;obtain⟨⟨⟨k1,k2⟩,k3⟩,k4⟩:=hok;refine⟨⟨fn,hfn,k1,by simp[hbody]⟩,fun _ w A E vals hJ hI hv=> ?_⟩
   obtain⟨st0,h,hs0⟩:=GS h (W6 hid k4 hI hv);refine calls_of_wp hfn hbody (Ir hm ⟨hJ,JK hm hext k⟩ c _ _ _ w _ k2 k3 h hs0 fun ex st a w' hq hs=> ?_)
   obtain⟨E1,G1,g1,g2,g3,g4,g5⟩:=hs.env;have hfin:(∀id,ex≠ .exit id)->a.defers=[]/\∃v,(results fn a.tmps).run P w'=.ok v w'/\∃y E' G',Ending.returned v=.returned y/\HpInv w (Own E (lkB blks)) A E' G' (lkB blks') w'/\VR2 w' E' (lkB blks') G' r y/\AF9 args blks blks' E E':=by
    intro hex;refine⟨hs.defers,?_⟩
    have hq':FV (cf.rts g) st.hp=true/\Kx P st fn.results.toList fun xs=>Bl (Ie ((cf.rts g).map (·.2)++cf.res g) (Cy (cf.rts g)++xs) st.hp (st.c+1)) fun z=>VW z.2.1 (args.flatMap Af).eraseDups.length r blks' (z.1.drop (cf.rts g).length):=by
     cases ex with
     |exit id=>exact absurd rfl (hex id)
     |normal=>exact hq
     |ret=>exact hq
    obtain⟨hroot,hq'⟩:=hq';obtain⟨xs0,ys,q1,q2,q3,q4,q5⟩:=Qi g1 g2 g4 g3 hq';unfold Bl at q1
    split at q1
    case h_2=>exact q1.elim
    rename_i z hz;obtain⟨xs1,hp1,c1⟩:=z;simp only at q1;obtain⟨ry,r1,r2,r3⟩:=XJ g1 hroot;obtain⟨E3,G3,s1,s2,s3',s4'⟩:=Qa (ys:=ry++ys) g1 (g2.mono fun i (hi:i<16*st.c)=>(by omega:i<16*(st.c+1))) (by simp[r1,q3,Cy]) (fun i x y hx hy=>by
     by_cases hi:i<(Cy (cf.rts g)).length
     ·rw[zd6 hi]at hx;rw[zd6 (by rw[r1];simpa[Cy]using hi)]at hy;exact r2 i x y hx hy
     ·rw[List.getElem?_append_right (by omega)]at hx;rw[List.getElem?_append_right (by rw[r1];simpa[Cy]using hi)]at hy;rw[show ry.length=(Cy (cf.rts g)).length by rw[r1];simp[Cy]]at hy;exact q4 _ x y hx hy) (fun x hx i hi=>by
     rcases zb5.1 hx with hx|hx
     ·have:=r3 x hx i hi;omega
     ·exact q5 x hx i hi) hz
    generalize hxs:xs1.drop (cf.rts g).length=xs at q1;have s3:xs.length=ys.length:=by rw[<-hxs,List.length_drop,s3',ze5,r1];omega
    have s4:∀(i:Nat)(x:V)(y:Value),xs[i]? =some x->ys[i]? =some y->VR2 w' E3 hp1 G3 x y:=fun i x y hx hy=>by
     refine s4' ((cf.rts g).length+i) x y ?_ ?_
     ·rw[<-hxs,zd2]at hx;exact hx
     ·rw[List.getElem?_append_right (by omega),show(cf.rts g).length+i-ry.length=i by omega];exact hy
    have hrun:(results fn a.tmps).run P w'=.ok (if h:ys.toArray.size=1 then ys.toArray[0]else .tuple ys.toArray) w':=by
     rw[Y9];have:fn.results.mapM (XI a.tmps)=(do let l <-fn.results.toList.mapM (XI a.tmps);pure l.toArray:Sem (Array Value)):=by
      rw[Array.mapM_eq_mapM_toList,map_eq_pure_bind]
     rw[this];simp only[Sem.run_bind,q2,Result.andThen_ok,Sem.run_pure]
    have hval:∃x y,SI hp1 (args.flatMap Af).eraseDups.length x r blks'/\VR2 w' E3 hp1 G3 x y/\(results fn a.tmps).run P w'=.ok y w':=by
     match xs,ys,q1,s3,s4,hrun with
     |[x],[y],q1,_,s4,hrun=>exact⟨x,y,q1,s4 0 x y rfl rfl,by simpa using hrun⟩
     |[],[],q1,_,s4,hrun=>exact⟨.tup [],.tuple #[],q1.2,⟨#[],rfl,trivial⟩,by simpa using hrun⟩
     |x1::x2::xs,y1::y2::ys,q1,s3,s4,hrun=>
      refine⟨.tup (x1::x2::xs),.tuple (y1::y2::ys).toArray,q1.2,⟨_,rfl,VL.of_get (by simpa using s3.symm) fun j x y hx hy=> ?_⟩,by simpa using hrun⟩
      exact YY (za6.1 q1.1 x (za5 hx)) (s4 j x y hx (by simpa using hy))
     |[],_::_,_,s3,_,_=>simp at s3
     |_::_,[],_,s3,_,_=>simp at s3
     |[_],_::_::_,_,s3,_,_=>simp at s3
     |_::_::_,[_],_,s3,_,_=>simp at s3
    obtain⟨x,y,p1,p2,p3⟩:=hval;obtain⟨E2,r1,r2,r3⟩:=YZ (nt:=0) p1 s1 p2 (g5.trans s2 fun j hj=>(by have:j<16*st.c:=hs.low j hj;omega));refine⟨y,p3,y,E2,G3,rfl,r1,r2,fun j hj k' hk'=> ?_⟩
    have hj':j<(args.flatMap Af).eraseDups.length:=by
     simp only[Hg,za2,decide_eq_true_eq,beq_iff_eq]at hid;have h5:j∈(args.flatMap Af).eraseDups:=I6.2 hj;rw[hid.2]at h5;simpa using h5
    exact Ap6 hI r3 hj' hk'
   cases ex with
   |exit id=>exact hq.elim
   |normal=>exact hfin (fun id h=>by cases h)
   |ret=>exact hfin (fun id h=>by cases h)
end
section
open Go
variable {P:Program} {w:World}
inductive Sh where
 |int (k:IntKind)
 |str
 |bool
 |sl (bytes:Nat) (e:Sh)
 |pair (a b:Sh)
def Sh.size:Sh->Nat
 |.pair a b=>a.size+b.size
 |_=>1
def DV:Sh->List V->Prop
 |.int k,xs=>∃n,xs=[.v (.int k n)]/\(Lit.int k n).wf=true
 |.str,xs=>∃s:ByteArray,xs=[.v (.string s)]/\s.size<=Ad
 |.bool,xs=>∃b,xs=[.v (.bool b)]
 |.sl bytes e,xs=>∃rows,xs=[.im rows]/\(∀r∈rows,DV e r)/\rows.length*bytes<=Ad
 |.pair a b,xs=>∃l r,xs=l++r/\DV a l/\DV b r
mutual
inductive Fits (P:Program):TypeId->Sh->Prop
 |int {t:TypeId} {k:IntKind}:P.underlying t=some (.int k)->Fits P t (.int k)
 |str {t:TypeId}:P.underlying t=some .string->Fits P t .str
 |bool {t:TypeId}:P.underlying t=some .bool->Fits P t .bool
 |sl {t e:TypeId} {n:Nat} {s:Sh}:P.underlying t=some (.slice e)->P.cellsOf e=s.size->P.bytesOf e=n->Fits P e s->Fits P t (.sl n s)
 |st {t:TypeId} {fs:Array Field} {a b:Sh}:P.underlying t=some (.struct fs)->P.cellsOf t=(Sh.pair a b).size->FitsF P 0 fs.toList (.pair a b)->Fits P t (.pair a b)
inductive FitsF (P:Program):Nat->List Field->Sh->Prop
 |one {o:Nat} {f:Field} {s:Sh}:f.offset=o->P.cellsOf f.type=s.size->Fits P f.type s->FitsF P o [f] s
 |cons {o:Nat} {f g:Field} {l:List Field} {a b:Sh}:f.offset=o->P.cellsOf f.type=a.size->Fits P f.type a->FitsF P (o+a.size) (g::l) b->FitsF P o (f::g::l) (.pair a b)
end
theorem Sh.pos:∀s:Sh,0<s.size
 |.pair a b=>by have:=a.pos;simp only[Sh.size];omega
 |.int _|.str|.bool|.sl _ _=>by simp[Sh.size]
abbrev WE(w:World)(xs:List V)(cs:List Value):Prop:=VL (Rep w (fun b=>b<w.heap.size)) xs cs
theorem Ai5{len:Nat}{R:Nat->List V->Prop}(h:∀i,i<len->∃row,R i row):∃rows:List (List V),rows.length=len/\∀i row,rows[i]? =some row->R i row:=by
 refine⟨(List.range len).map fun i=>if h':i<len then Classical.choose (h i h')else [],by simp,fun i row hi=> ?_⟩
 simp only[zd5,zb4]at hi;obtain⟨j,hj,hr⟩:=hi;have hlt:i<len:=by have:=(za3.1 hj).1;simpa using this
 have:j=i:=by have:=za3.1 hj;simpa using this.2.symm
 subst this;rw[dif_pos hlt]at hr;subst hr;exact Classical.choose_spec (h j hlt)
theorem Qm{H:Type}{e:TypeId}:∀{elems:List (DataW H)}{i:Nat}{d:DataW H},elems[i]? =some d->∀n∈d.weights P e,n∈DataW.weightsAll P e elems
 |[],i,d,h,_,_=>by simp at h
 |x::l,0,d,h,n,hn=>by simp at h;subst h;simp[DataW.weightsAll,hn]
 |x::l,i+1,d,h,n,hn=>by
  have:=Qm (elems:=l) (by simpa using h) n hn;simp[DataW.weightsAll,this]
theorem Mf{H:Type}{enc:TypeId×Value->H}:∀(fuel:Nat)(t:TypeId)(sh:Sh)(cs:List Value)(x:DataW H×List MemPlace),Fits P t sh->DataW.trod enc P w 0 (fun _=>true) true fuel t cs=some x->
  (∀n∈x.1.weights P t,n<=reachBytes)->∃xs,DV sh xs/\xs.length=sh.size/\WE w xs cs
 |0,t,sh,cs,x,_,h,_=>by simp[DataW.trod]at h
 |fuel+1,t,sh,cs,x,hf,h,hw=>by
  cases hf with
  |int ht=>
   obtain⟨n,rfl,rfl,hn⟩:=DataW.trod_int ht h;exact⟨_,⟨n,rfl,hn⟩,rfl,.v _ rfl,trivial⟩
  |str ht=>
   obtain⟨s,rfl,rfl,hn⟩:=DataW.trod_string ht h;refine⟨_,⟨s,rfl,?_⟩,rfl,.v _ rfl,trivial⟩
   have:=hw s.data.toList.length (by simp[DataW.weights]);simpa[reachBytes,Ad]using this
  |bool ht=>
   obtain⟨b,rfl,rfl⟩:=DataW.trod_bool ht h;exact⟨_,⟨b,rfl⟩,rfl,.v _ rfl,trivial⟩
  | @sl _ e n s ht hc hb hfe=>
   rcases DataW.trod_slice ht h with⟨rfl,rfl⟩|⟨a,len,cap,elems,rest,n',hn',rfl,rfl,_,hl,hm,hlen,hel,_,_⟩
   ·exact⟨[.im []],⟨[],rfl,by simp,by simp⟩,rfl,.im0 none 0,trivial⟩
   ·cases hn'
    have hwt:len*n<=Ad:=by
     have:=hw ((elems.length+rest.length)*P.bytesOf e) (by simp[DataW.weights,ht]);rw[hb]at this;have h2:len*n<=(elems.length+rest.length)*n:=zd4 _ (by omega);unfold reachBytes at this;unfold Ad;omega
    have hrow:∀i,i<len->∃row,DV s row/\row.length=s.size/\∃cs',w.cells? 0 (a.add (i*s.size)) s.size=some cs'/\WE w row cs':=by
     intro i hi;have h1:=hel i hi;rw[hc]at h1;have hei:elems[i]? =some (elems[i]'(by omega)):=za1 (by omega);rw[hei]at h1;cases hcs:w.cells? 0 (a.add (i*s.size)) s.size with
     |none=>rw[hcs]at h1;cases h1
     |some cs'=>
      rw[hcs,za0]at h1;obtain⟨row,q1,q2,q3⟩:=Mf fuel e s cs' _ hfe h1 fun m hm=>hw m (by
       simp only[DataW.weights,ht,zc9,zb5];exact .inr (.inl (Qm (i:=i) (d:=(elems[i]'(by omega)).1) (by simp[hei]) m hm)))
      exact⟨row,q1,q2,cs',rfl,q3⟩
    obtain⟨rows,hrl,hrows⟩:=Ai5 hrow;refine⟨[.im rows],⟨rows,rfl,fun r hr=> ?_,by rw[hrl];exact hwt⟩,rfl,?_,trivial⟩
    ·obtain⟨i,hi⟩:=ze3 hr;exact(hrows i r hi).1
    ·rw[<-hrl];by_cases h0:rows=[]
     ·subst h0;exact .im0 (some a) cap
     ·have hpos:0<rows.length:=List.length_pos_iff.2 h0;have hcell:∀(i j:Nat)(row:List V),rows[i]? =some row->j<s.size->∃y,w.cell? (a.add (i*s.size+j))=some y/\∀x,row[j]? =some x->Rep w (fun b=>b<w.heap.size) x y:=by
       intro i j row hi hj;obtain⟨_,q2,cs',q3,q4⟩:=hrows i row hi;obtain⟨_,r1,r2⟩:=World.cells?_some q3;have h1:=r2 j hj;have hx:row[j]? =some (row[j]'(by omega)):=za1 (by omega);obtain⟨y,hy,hrep⟩:=q4.get j _ hx;rw[hy]at h1;refine⟨y,?_,fun x hx'=>by rw[hx]at hx';cases hx';exact hrep⟩
       rw[<-h1,Addr.add_add]
      obtain⟨y0,hy0,_⟩:=hcell 0 0 _ (za1 hpos) s.pos;have hspot:a.spot=none/\a.block<w.heap.size:=by
       have h1:w.cell? a=some y0:=by simpa[Addr.add]using hy0
       unfold World.cell? at h1
       split at h1
       ·rename_i c t' fz hh
        split at h1
        ·cases h1
        ·rename_i hs;exact⟨by simpa using hs,(Array.getElem?_eq_some_iff.1 hh).1⟩
       ·cases h1
      obtain⟨bb,off,sp⟩:=a;obtain⟨hsp,hbb⟩:=hspot;simp only at hsp hbb;subst hsp;have hadd:∀m,Addr.add ⟨bb,off,none⟩ m=⟨bb,off+m,none⟩:=fun m=>by unfold Addr.add;split<;>simp_all
      refine .im bb off cap s.size rows (fun i j=>(w.cell? ⟨bb,off+i*s.size+j,none⟩).getD undef) hbb s.pos (by omega) hm (fun i row hi=>(hrows i row hi).2.1) (fun i j row x hi hx=> ?_) (fun i j row x hi hx=> ?_)
      ·have hj:j<s.size:=by rw[<-(hrows i row hi).2.1];exact(za3.1 hx).1
       obtain⟨y,hy,_⟩:=hcell i j row hi hj;rw[hadd,<-Nat.add_assoc]at hy;rw[hy];rfl
      ·have hj:j<s.size:=by rw[<-(hrows i row hi).2.1];exact(za3.1 hx).1
       obtain⟨y,hy,hrep⟩:=hcell i j row hi hj;rw[hadd,<-Nat.add_assoc]at hy;rw[hy];exact hrep x hx
  | @st _ fs a b ht hc hff=>
   obtain⟨parts,n',hn',rfl,hcs,hpl,hpart⟩:=DataW.trod_struct ht h;cases hn'
   have key:∀(l:List Field)(o:Nat)(s:Sh)(ps:List (DataW H×List MemPlace)),FitsF P o l s->ps.length=l.length->(∀(i:Nat)(f:Field),l[i]? =some f->DataW.trod enc P w 0 (fun _=>true) true fuel f.type ((cs.drop f.offset).take (P.cellsOf f.type))=ps[i]?)->
     (∀n∈DataW.weightsEach P (l.map (·.type)) (ps.map (·.1)),n<=reachBytes)->o+s.size<=cs.length->∃xs,DV s xs/\xs.length=s.size/\WE w xs ((cs.drop o).take s.size):=by
    intro l
    induction l with
    |nil=>intro o s ps hf;cases hf
    |cons f l ih=>
     intro o s ps hf hlen hp hwt hle;cases ps with
     |nil=>simp at hlen
     |cons p ps=>
      cases hf with
      |one h1 h2 h3=>
       have:=hp 0 f rfl;rw[h1,h2]at this;exact Mf fuel f.type s _ p h3 (by simpa using this) fun m hm=>hwt m (by simp[DataW.weightsEach,hm])
      | @cons _ _ g l' a b h1 h2 h3 h4=>
       have h5:=hp 0 f rfl;rw[h1,h2]at h5;simp only[Sh.size]at hle;obtain⟨xs,q1,q2,q3⟩:=Mf fuel f.type a _ p h3 (by simpa using h5) fun m hm=>hwt m (by simp[DataW.weightsEach,hm])
       obtain⟨ys,q4,q5,q6⟩:=ih (o+a.size) b ps h4 (by simpa using hlen) (fun i f' hi=>by simpa using hp (i+1) f' (by simpa using hi)) (fun m hm=>hwt m (by
        simp only[zc2,DataW.weightsEach,zb5];exact .inr hm)) (by omega)
       refine⟨xs++ys,⟨xs,ys,rfl,q1,q4⟩,by simp[Sh.size,q2,q5],?_⟩
       have:(cs.drop o).take (Sh.pair a b).size=(cs.drop o).take a.size++(cs.drop (o+a.size)).take b.size:=by
        simp only[Sh.size];rw[List.take_add,List.drop_drop]
       rw[this];exact VL.append q3 q6
   obtain⟨xs,q1,q2,q3⟩:=key fs.toList 0 (.pair a b) parts hff (by simpa using hpl) (fun i f hi=>hpart i f (by simpa using hi)) (fun m hm=>hw m (by simp only[DataW.weights,ht];exact hm)) (by omega);refine⟨xs,q1,q2,?_⟩
   rw[ze7,<-hc,<-hcs,zf1]at q3;exact q3
end
section
open Go Go.RowKit
variable {P:Program} {J:F3} {w:World}
theorem Vf{xs:List V}{cs:List Value}(h:WE w xs cs):xs.flatMap Af=[]:=by
 rw[List.flatMap_eq_nil_iff];intro x hx;obtain⟨i,hi⟩:=ze3 hx;obtain⟨y,_,hr⟩:=h.get i x hi;cases hr<;>rfl
theorem XY{xs:List V}{cs:List Value}(h:WE w xs cs):Hg xs []=true:=by
 unfold Hg;rw[Vf h];rfl
theorem Ah4{cf:Cfg}{ext:Rel}(hm:P.follows .mixedOrders=true)(hext:∀g args blks r blks',ext g args blks r blks'->CSpec P J g args blks r blks')(hJ:∀x∈J,w.heap[x.1]? =some x.2){g:FuncId}{xs:List V}{vals:Array Value}
  (hv:WE w xs vals.toList) (h:GN P cf ext g xs [] (.v (.bool true)) []):Calls P g vals w fun e w'=>e=.returned (.bool true)/\Below w.heap.size w w':=by
 obtain⟨k,h⟩:=h;have hs:=JK hm hext k g xs [] _ [] h;have hno:∀E b,¬Own E (lkB []) b:=fun E b ⟨id,k,hk,_⟩=>by simp[lkB]at hk
 have hI:HpInv w (Own ⟨fun _=>none,fun _ _=>False⟩ (lkB [])) (fun b=>b<w.heap.size) ⟨fun _=>none,fun _ _=>False⟩ (fun b=>b<w.heap.size) (lkB []) w:=
  ⟨Fr.refl _ w,fun b hb=>⟨hb,.inl hb⟩,fun b _=>hno _ b,fun b h=>absurd h (hno _ b),fun id k id' k' hk=>by simp[lkB]at hk,fun id k b hk=>by simp[lkB]at hk,fun id k hk=>by simp[lkB]at hk⟩
 refine(hs.calls (XY hv) w _ _ vals (fun x hx=>⟨hJ x hx,hno _ _⟩) hI (hv.mono fun x _ y hx=>by
  cases hx with
  |v _ hs=>exact .v _ hs
  |em a=>exact .em a
  |er0=>exact .er0
  |er1 t x=>exact .er1 t x
  |im0 a cap=>exact .im0 a cap
  |im b off cap size rows f h1 h2 h3 h4 h5 h6 h7=>exact .im b off cap size rows f h1 h2 h3 h4 h5 h6 h7)).mono ?_
 rintro e w' ⟨y,E',G',rfl,hI',hy,_⟩;have hyt:y=.bool true:=(F0 hy).1;subst hyt;exact⟨rfl,hI'.fr.os,hI'.fr.tape,hI'.fr.output,hI'.fr.size,fun b hb=>hI'.fr.block b hb (hno _ b)⟩
end
section
open Go
def PR{α:Type}(x:Option α)(F:α->Prop):Prop:=match x with|some y=>F y|none=>False
@[simp] theorem AI8{α:Type}(y:α)(F:α->Prop):PR (some y) F=F y:=(rfl)
@[simp] theorem AI7{α:Type}(F:α->Prop):PR none F=False:=(rfl)
@[simp] theorem AI6{α β:Type}(x:Option α)(f:α->Option β)(F:β->Prop):PR (x.bind f) F=PR x fun a=>PR (f a) F:=by cases x<;>rfl
@[simp] theorem AN7{α:Type}(c:Prop)[Decidable c](a b:Option α)(F:α->Prop):PR (if c then a else b) F=if c then PR a F else PR b F:=by split<;>rfl
def F8{σ ρ:Type}(body:σ->Option (σ⊕ρ)):Nat->σ->Option ρ
 |0,_=>none
 |n+1,s=>(body s).bind (Sum.elim (F8 body n) some)
theorem MN{σ ρ:Type}{body:σ->Option (σ⊕ρ)}:∀{n:Nat}{s:σ}{r:ρ},F8 body n s=some r->∀m,n<=m->F8 body m s=some r
 |0,_,_,h,_,_=>by simp[F8]at h
 |n+1,s,r,h,m,hm=>by
  cases m with
  |zero=>omega
  |succ m=>
   simp only[F8]at h⊢
   cases hb:body s with
   |none=>rw[hb]at h;simp at h
   |some x=>
    rw[hb]at h;simp only[za0]at h⊢
    cases x with
    |inl s'=>exact MN h m (by omega)
    |inr r'=>exact h
open Classical in
def Ag {σ ρ : Type} (body : σ -> Option (σ ⊕ ρ)) (s : σ) : Option ρ :=
 if h : ∃ n, (F8 body n s).isSome then F8 body (Classical.choose h) s else none
theorem SD{σ ρ:Type}{body:σ->Option (σ⊕ρ)}{s:σ}{n:Nat}{r:ρ}(h:F8 body n s=some r):Ag body s=some r:=by
 have he:∃n,(F8 body n s).isSome:=⟨n,by rw[h];rfl⟩;unfold Ag;rw[dif_pos he];obtain⟨r',hr⟩:=Option.isSome_iff_exists.1 (Classical.choose_spec he);have h1:=MN h (max n (Classical.choose he)) (Nat.le_max_left _ _);have h2:=MN hr (max n (Classical.choose he)) (Nat.le_max_right _ _);rw[h1]at h2;rw[hr,h2]
theorem Kb{σ ρ:Type}{body:σ->Option (σ⊕ρ)}{s:σ}{r:ρ}(h:Ag body s=some r):∃n,F8 body n s=some r:=by
 unfold Ag at h
 split at h
 ·rename_i he;exact⟨_,h⟩
 ·cases h
theorem Xu{σ ρ:Type}(body:σ->Option (σ⊕ρ))(s:σ):Ag body s=(body s).bind (Sum.elim (Ag body) some):=by
 cases hb:body s with
 |none=>
  cases hm:Ag body s with
  |none=>rfl
  |some r=>
   obtain⟨n,hn⟩:=Kb hm;cases n with
   |zero=>simp[F8]at hn
   |succ n=>simp[F8,hb]at hn
 |some x=>
  cases x with
  |inr r=>exact SD (n:=1) (by simp[F8,hb])
  |inl s'=>
   show Ag body s=Ag body s';cases hm:Ag body s' with
   |some r=>
    obtain⟨n,hn⟩:=Kb hm;exact SD (n:=n+1) (by simp[F8,hb,hn])
   |none=>
    cases hm2:Ag body s with
    |none=>rfl
    |some r=>
     obtain⟨n,hn⟩:=Kb hm2;cases n with
     |zero=>simp[F8]at hn
     |succ n=>
      simp only[F8,hb,za0,Sum.elim_inl]at hn;rw[SD hn]at hm;cases hm
end
end Go.Proofs.YtnohbihcoikkbaaGreat.Ev
