/- Whatever comes in, the law of this claim answers true, and nothing that was handed in changes. -/
import Derived.Test.YtiijheppiboglaaGreatDoorKE
import Derived.KernelRfl
import Derived.Lib.Strings
import Derived.Test.YtiijheppiboglaaGreatDoorRows
import Derived.Test.YtiijheppiboglaaGreatDoorCards
import Derived.Test.YtiijheppiboglaaGreatDoorTie
import Derived.WalkKit
import Derived.ProofKit
import Derived.OpenShut
import Derived.ShutString
import Derived.ChangeOld
import Derived.Below
import Derived.SizedLaws
import Derived.SevenTiedAt
import Derived.LaidMore
import Derived.Lay
import Derived.Stop.Joined
import Derived.Test.YtiijheppiboglaaGreatDoorChecked
set_option maxHeartbeats 2000000
open Option renaming bind_some → za0, map_eq_some_iff → zb5, map_some → zd2, getD_some → zf5
open List renaming getElem?_eq_getElem → za1, getElem?_eq_some_iff → za3, mem_of_getElem? → za4, all_eq_true → za5, drop_eq_getElem_cons → zb0, mem_flatMap → zb1, eq_nil_of_length_eq_zero → zb2, flatMap_cons → zb4, mem_append → zb6, getD_eq_getElem?_getD → zb7, map_cons → zb8, length_cons → zb9, getElem?_take → zc0, take_of_length_le → zc4, mem_cons → zc7, all_cons → zc8, drop_eq_nil_of_le → zc9, getElem?_map → zd0, length_pos_iff → zd1, getElem?_drop → zd3, length_append → zd4, mem_map → zd5, length_map → zd7, getElem?_append_left → ze3, getElem?_append → ze6, getElem?_replicate → ze7, append_nil → ze8, drop_zero → zf0, mem_singleton → zf2, length_nil → zf3
open Bool renaming and_eq_true → za2, false_eq_true → zc3, true_and → ze1, not_eq_true' → zf4, false_and → zf8, not_true → zg0
open Nat renaming eq_of_beq_eq_true → za6, le_refl → za7, lt_or_ge → zd6, mul_le_mul_right → zd8, lt_of_lt_of_le → zd9, zero_add → ze4, le_trans → ze5, add_mul → zf6
open Sum renaming elim_inr → za8
open Int renaming mul_le_mul_of_nonneg_right → za9, mul_le_mul_of_nonneg_left → zb3, toNat_natCast → zc2, tdiv_eq_ediv_of_nonneg → zc5, tmod_eq_emod_of_nonneg → zc6, mul_add → ze0, le_of_lt → ze2, natAbs_natCast → ze9, mul_nonneg → zf1, natCast_mul → zf7, mul_comm → zf9, mul_assoc → zg1
open Array renaming getD_eq_getD_getElem? → zc1
open Go.IntKind renaming wrap → zi, i64 → zj, u64 → zk
open Option.some renaming inj → zv, injEq → zx
noncomputable section
set_option linter.unusedVariables false
set_option linter.unusedSimpArgs false
set_option linter.unusedSectionVars false
namespace Go.Proofs.YtiijheppiboglaaGreatDoor.Ev
section
open Go
theorem Px{j:Nat}{a b X Y:Int}(ha:0<=a/\a<B j)(hb:0<=b/\b<B j)(h:a+B j*X=b+B j*Y):X=Y:=by
 rcases Int.lt_trichotomy X Y with g|g|g
 ·exfalso
  have:=zb3 (show X+1<=Y by omega) (ze2 (FZ j));rw[ze0]at this;omega
 ·exact g
 ·exfalso
  have:=zb3 (show Y+1<=X by omega) (ze2 (FZ j));rw[ze0]at this;omega
theorem UG(l:List Int)(n k:Nat):dg (l.drop n) k=dg l (n+k):=by unfold dg;simp[zb7,zd3]
theorem CC(l:List Int)(k:Nat):val (l.drop k)=dg l k+65536*val (l.drop (k+1)):=by
 rcases zd6 k l.length with h|h
 ·rw[zb0 h,FE (za1 h)];rfl
 ·rw[zc9 h,zc9 (by omega),Ih h];simp[val]
theorem WE{l:List Int}(h:∀i,i<l.length->0<=dg l i/\dg l i<65536):LB l:=fun x hx=>by
 obtain⟨i,hi,rfl⟩:=List.getElem_of_mem hx;have:=h i hi
 rwa[FE (za1 hi)]at this
theorem A3M{l:List Int}{k i:Nat}(h:i<k):dg (l.take k) i=dg l i:=by unfold dg;simp[zb7,zc0,h]
theorem AK1{l:List Int}{k:Nat}(h:∀i,i<k->0<=dg l i/\dg l i<65536):LB (l.take k):=WE fun i hi=>by
 rw[List.length_take]at hi;rw[A3M (by omega)];exact h i (by omega)
theorem NP:∀{l:List Int},(∀i,dg l i=0)->val l=0
 |[],_=>rfl
 |x::l,h=>by
  have h0:=h 0;have h1:val l=0:=NP fun i=>h (i+1)
  simp only[val,h1];unfold dg at h0;simp at h0;omega
theorem CJ{l:List Int}(h:LB l)(k:Nat):0<=val (l.take k)/\val (l.take k)<B k:=by
 refine⟨AP (h.take k),?_⟩
 have:=Nd (h.take k);have:=JI (show(l.take k).length<=k by rw[List.length_take];omega);omega
theorem AM1{l:List Int}(h:LB l){n k:Nat}(hv:val l<B n)(hk:n<=k):dg l k=0/\val (l.drop k)=0:=by
 have h1:=BY l k;have h2:=AP (h.take k);have h3:=AP (h.drop k);have h4:=JI hk;have h5:val (l.drop k)=0:=by
  rcases Int.lt_or_le 0 (val (l.drop k))with g|g
  ·have:=zb3 (show 1<=val (l.drop k) by omega) (ze2 (FZ k));omega
  ·omega
 have h6:=CC l k;have h7:=A7 h k;have h8:=AP (h.drop (k+1));exact⟨by omega,h5⟩
structure Place (u v:List Int) (j m:Nat):Prop where
 lu:LB u
 lv:LB v
 hv:v.length=m+2
 top:1<=dg v (m+1)
 len:j+m+2<u.length
 less:val (u.drop (j+1))<val v
section
variable {u v:List Int} {j m:Nat} (H:Place u v j m)
include H
theorem Place.pos:0<val v:=by
 have h1:=BY v (m+1);have h2:=AP (H.lv.take (m+1));have h3:=CC v (m+1);have h4:=AP (H.lv.drop (m+1+1));have h5:=H.top;have h6:=zb3 (show 1<=val (v.drop (m+1)) by omega) (ze2 (FZ (m+1)));have h7:=FZ (m+1);omega
theorem Place.lt:val v<B (m+2):=by have:=Nd H.lv;rwa[H.hv]at this
theorem Place.high{k:Nat}(hk:j+m+3<=k):dg u k=0/\val (u.drop k)=0:=by
 have h1:=AM1 (H.lu.drop (j+1)) (n:=m+2) (k:=k-(j+1)) (by have:=H.less;have:=H.lt;omega) (by omega);rw[UG,List.drop_drop,show j+1+(k-(j+1))=k by omega]at h1;exact h1
theorem Place.rest:0<=val (u.drop j)/\val (u.drop j)<65536*val v:=by
 refine⟨AP (H.lu.drop j),?_⟩
 have h1:=CC u j;have h2:=A7 H.lu j;have h3:=H.less;omega
theorem Place.quot:0<=val (u.drop j)/val v/\val (u.drop j)/val v<65536:=by
 obtain⟨h1,h2⟩:=H.rest;have h3:=H.pos;exact⟨Int.ediv_nonneg h1 (by omega),Int.ediv_lt_of_lt_mul h3 h2⟩
theorem Place.mod:0<=val (u.drop j)-val (u.drop j)/val v*val v/\val (u.drop j)-val (u.drop j)/val v*val v<val v:=by
 have h1:=Int.emod_add_mul_ediv (val (u.drop j)) (val v);have h2:=Int.emod_nonneg (val (u.drop j)) (show val v≠0 by have:=H.pos;omega);have h3:=Int.emod_lt_of_pos (val (u.drop j)) H.pos;rw[zf9]at h1;omega
theorem Place.guess:Guess (B m) (dg v (m+1)) (dg v m) (val (v.take m)) (dg u (j+m+2)*65536+dg u (j+m+1)) (dg u (j+m)) (val ((u.drop j).take m)) (val v) (val (u.drop j)) (val (u.drop j)/val v):=by
 have d1:=A7 H.lu (j+m+1);have d2:=A7 H.lu (j+m+2);have hm:=H.mod;have hq:=H.quot;refine⟨FZ m,H.top,(A7 H.lv _).2,A7 H.lv _,CJ H.lv m,A7 H.lu _,CJ (H.lu.drop j) m,?_,?_,by omega,by omega,hq.1,hq.2,H.pos⟩
 ·rw[BY v m,CC v m,CC v (m+1),zc9 (show v.length<=m+1+1 by rw[H.hv];omega)];simp only[val]
  grind
 ·rw[BY (u.drop j) m,List.drop_drop,CC u (j+m),CC u (j+m+1),CC u (j+m+1+1),(H.high (k:=j+m+1+1+1) (by omega)).2,show j+m+1+1=j+m+2 by omega]
  grind
theorem Place.after{u4:List Int}(hl:u4.length=u.length)(hg:∀i,i<j+m+2->0<=dg u4 i/\dg u4 i<65536)(hh:∀i,j+m+2<i->dg u4 i=dg u i){x:Int}(hv:val u4=val u-B j*(x*val v)):
  val (u4.drop j)=val (u.drop j)-x*val v/\∃X,0<=X/\X<B (m+2)/\val (u.drop j)-x*val v=X+B (m+2)*dg u4 (j+m+2):=by
 have e1:val (u4.drop j)=val (u.drop j)-x*val v:=by
  have h1:=BY u4 j;have h2:=BY u j;have h3:=CJ H.lu j;have h4:LB (u4.take j):=AK1 fun i hi=>hg i (by omega)
  have h5:=CJ h4 j;rw[List.take_take,Nat.min_self]at h5;refine Px (j:=j) h5 h3 ?_
  rw[Int.mul_sub];omega
 refine⟨e1,val ((u4.drop j).take (m+2)),?_⟩
 have h4:LB ((u4.drop j).take (m+2)):=AK1 fun i hi=>by rw[UG];exact hg _ (by omega)
 have h5:=CJ h4 (m+2);rw[List.take_take,Nat.min_self]at h5;refine⟨h5.1,h5.2,?_⟩
 rw[<-e1,BY (u4.drop j) (m+2),List.drop_drop,CC u4 (j+(m+2)),NP (l:=u4.drop (j+(m+2)+1)) fun i=>by rw[UG,hh _ (by omega)];exact(H.high (by omega)).1];rw[show j+(m+2)=j+m+2 by omega,Int.mul_zero,Int.add_zero]
theorem Place.done{u4:List Int}(hl:u4.length=u.length)(hg:∀i,i<j+m+2->0<=dg u4 i/\dg u4 i<65536)(hh:∀i,j+m+2<i->dg u4 i=dg u i){x:Int}(hv:val u4=val u-B j*(x*val v))
  (hx:0<=val (u.drop j)-x*val v/\val (u.drop j)-x*val v<val v):dg u4 (j+m+2)=0/\LB u4/\val (u4.drop j)<val v:=by
 obtain⟨h1,X,h2,h3,h4⟩:=H.after hl hg hh hv;have h0:dg u4 (j+m+2)=0:=by
  have:=H.lt;exact(Px (j:=m+2) (a:=val (u.drop j)-x*val v) (b:=X) (X:=0) (by omega) (by omega) (by rw[h4];simp)).symm
 refine⟨h0,WE fun i hi=> ?_,by omega⟩
 rcases Nat.lt_trichotomy i (j+m+2)with g|g|g
 ·exact hg i g
 ·rw[g,h0];omega
 ·rw[hh i g];exact A7 H.lu i
theorem Place.one{q:Int}(h1:val (u.drop j)/val v<=q)(h2:q*val v<val (u.drop j)+val v):q=val (u.drop j)/val v\/q=val (u.drop j)/val v+1:=by
 have hm:=H.mod;have hp:=H.pos;rcases Int.lt_or_le (val (u.drop j)/val v+1) q with g|g
 ·exfalso
  have:=za9 (show val (u.drop j)/val v+2<=q by omega) (ze2 hp);rw[Int.add_mul]at this;omega
 ·omega
end
end
section
open Go
theorem Place.start{u v:List Int}{j m:Nat}(H:Place u v j m):val (u.drop j)/val v<=(dg u (j+m+2)*65536+dg u (j+m+1))/dg v (m+1):=by
 have G:=H.guess;have hu2:=G.hu2;have hur:=G.hur;have hP:=G.hP;have hv2:=G.hv2;have hvr:=G.hvr;have h1:dg u (j+m)*B m<=65535*B m:=za9 (by omega) (by omega);have h2:0<=dg v m*B m:=zf1 hv2.1 (by omega);exact Ao0 (P':=65536*B m) (vt:=dg v m*B m+val (v.take m)) (ut:=dg u (j+m)*B m+val ((u.drop j).take m)) (v:=val v) (U:=val (u.drop j)) (by omega) G.hv1 (by omega) (by omega) (by rw[G.hV];grind) (by rw[G.hU];grind) G.hQ G.hQ0
set_option maxHeartbeats 1000000 in
theorem A3E {u v out : List Int} {by_ : Int} {j m : Nat} (H : Place u v j m) (hl : u.length <= 1000000) (hj : j < out.length) :
  ∃ u', CU u v out ((m + 2 : Nat) : Int) by_ (j : Int) = some (.inl (u', (v, (out.set j (val (u.drop j) / val v), (((m + 2 : Nat) : Int), (by_, (j : Int) - 1)))))) /\
   u'.length = u.length /\ LB u' /\ val u' = val u - B j * (val (u.drop j) / val v * val v) /\ val (u'.drop j) < val v := by
 have hlen := H.len;have hvl := H.hv;have d1 := A7 H.lu (j + m + 1);have d2 := A7 H.lu (j + m + 2);have dv := A7 H.lv (m + 1);have htop := H.top;have G := H.guess;have hQ := H.quot;have hmod := H.mod;have hst := H.start;have hk : ∀ l : List Int, l.length = u.length -> A1 (zi zj ((j : Int) + ((m + 2 : Nat) : Int))) l.length = some (j + m + 2) := fun l h => by
  rw [h, Ae (by omega) (by omega), show (j : Int) + ((m + 2 : Nat) : Int) = ((j + m + 2 : Nat) : Int) by omega];exact A0 (by omega)
 have hk1 : A1 (zi zj (zi zj ((j : Int) + ((m + 2 : Nat) : Int)) - 1)) u.length = some (j + m + 1) := by
  rw [Ae (n := (j : Int) + ((m + 2 : Nat) : Int)) (by omega) (by omega), Ae (by omega) (by omega), show (j : Int) + ((m + 2 : Nat) : Int) - 1 = ((j + m + 1 : Nat) : Int) by omega];exact A0 (by omega)
 have hk2 : A1 (zi zj (((m + 2 : Nat) : Int) - 1)) v.length = some (m + 1) := by
  rw [Ae (by omega) (by omega), show ((m + 2 : Nat) : Int) - 1 = ((m + 1 : Nat) : Int) by omega];exact A0 (by omega)
 have hj0 : ∀ l : List Int, l.length = out.length -> A1 (j : Int) l.length = some j := fun l h => by rw [h]; exact A0 hj
 have hge : decide ((j : Int) >= 0) = true := zp (by omega);have hz : (dg v (m + 1) == 0) = false := beq_eq_false_iff_ne.2 (by omega);have w1 := Ae (n := dg u (j + m + 2) * 65536) (by omega) (by omega);have w2 := Ae (n := dg u (j + m + 2) * 65536 + dg u (j + m + 1)) (by omega) (by omega);have htop0 : 0 <= dg u (j + m + 2) * 65536 + dg u (j + m + 1) := by omega
 have e1 := Int.emod_add_mul_ediv (dg u (j + m + 2) * 65536 + dg u (j + m + 1)) (dg v (m + 1));have e2 := Int.emod_nonneg (dg u (j + m + 2) * 65536 + dg u (j + m + 1)) (show dg v (m + 1) ≠ 0 by omega);have e3 : (dg u (j + m + 2) * 65536 + dg u (j + m + 1)) / dg v (m + 1) <= dg u (j + m + 2) * 65536 + dg u (j + m + 1) := Int.ediv_le_self _ htop0;have w3 := Ae (n := (dg u (j + m + 2) * 65536 + dg u (j + m + 1)) / dg v (m + 1)) (by omega) (by omega)
 obtain ⟨q, hg1, hg2, hg3, hg4⟩ := A3H (out := out) (by_ := by_) (u := u) (v := v) (j := j) (m := m) G rfl (by omega) (by omega) hvl rfl rfl (by omega) rfl (q0 := (dg u (j + m + 2) * 65536 + dg u (j + m + 1)) / dg v (m + 1)) (r0 := (dg u (j + m + 2) * 65536 + dg u (j + m + 1)) % dg v (m + 1)) (by rw [zf9]; omega) e2 hst (by omega);obtain ⟨u1, c, ht1, O⟩ := A45 (out := out) (by_ := by_) (n := ((m + 2 : Nat) : Int)) (j := j) H.lu H.lv (q := q) ⟨by omega, hg3⟩ (by rw [hvl]) (by omega) hl;have ol := O.len;have oc0 := O.c0;have oc1 := O.c1
 have ohi : dg u1 (j + m + 2) = dg u (j + m + 2) := O.hi _ (by omega);have ov := O.v;rw [zc4 (za7 _), hvl, show j + (m + 2) = j + m + 2 by omega] at ov;have gu1 : AX u1 (j + m + 2) = some (dg u (j + m + 2)) := by unfold AX; rw [Al (by omega), ohi]
 have w4 := Ae (n := dg u (j + m + 2) - c) (by omega) (by omega);have w5 := Ae (n := (j : Int) - 1) (by omega) (by omega);have hset : val (u1.set (j + m + 2) (dg u (j + m + 2) - c)) = val u - B j * (q * val v) := by
  rw [FA (Al (show j + m + 2 < u1.length by omega)), ohi, show dg u (j + m + 2) - c - dg u (j + m + 2) = -c by omega, Int.mul_neg];omega
 have hsl : (u1.set (j + m + 2) (dg u (j + m + 2) - c)).length = u.length := by rw [List.length_set]; exact ol
 have hsg : ∀ i, i < j + m + 2 -> 0 <= dg (u1.set (j + m + 2) (dg u (j + m + 2) - c)) i /\ dg (u1.set (j + m + 2) (dg u (j + m + 2) - c)) i < 65536 := fun i hi => by rw [BX (by omega)]; exact A7 O.lb i
 have hsh : ∀ i, j + m + 2 < i -> dg (u1.set (j + m + 2) (dg u (j + m + 2) - c)) i = dg u i := fun i hi => by rw [BX (by omega)]; exact O.hi i (by omega)
 have hsd : dg (u1.set (j + m + 2) (dg u (j + m + 2) - c)) (j + m + 2) = dg u (j + m + 2) - c := by rw [Aw6 (by omega), zr rfl]
 have gs : AX (u1.set (j + m + 2) (dg u (j + m + 2) - c)) (j + m + 2) = some (dg u (j + m + 2) - c) := by unfold AX; rw [Al (by omega), hsd]
 have gout : AX out j = some (dg out j) := Al hj;have gu0 : AX u (j + m + 2) = some (dg u (j + m + 2)) := Al (by omega);have gu00 : AX u (j + m + 1) = some (dg u (j + m + 1)) := Al (by omega);have gv0 : AX v (m + 1) = some (dg v (m + 1)) := Al (by omega);rcases H.one hg2 hg4 with hq | hq
 ·obtain ⟨f1, f2, f3⟩ := H.done hsl hsg hsh hset (by rw [hq]; exact hmod);rw [hsd] at f1;rw [f1] at hset hsl hsg hsh hsd gs w4 f2 f3;refine ⟨_, ?_, hsl, f2, by rw [hset, hq], f3⟩
  unfold CU;rw [hge];simp only [cond_true, cond_false, za0, hk u rfl, gu0, hk1, gu00, hk2, gv0, hz, w1, w2, zc5 htop0, zc6 htop0, w3];rw [hg1];simp only [za0];rw [ht1];simp only [za0, hk u1 ol, gu1, f1, w4, hk _ hsl, gs, show decide ((0 : Int) < 0) = false from rfl, cond_false, hj0 out rfl, gout, w5, hq]
 ·obtain ⟨f1, X, f2, f3, f4⟩ := H.after hsl hsg hsh hset;rw [hsd] at f4;have hneg : dg u (j + m + 2) - c = -1 := by
   have hlt := H.lt;have hqv : q * val v = val (u.drop j) / val v * val v + val v := by rw [hq, Int.add_mul, Int.one_mul]
   have := Px (j := m + 2) (a := val (u.drop j) - q * val v + B (m + 2)) (b := X) (X := -1) (Y := dg u (j + m + 2) - c) (by omega) (by omega) (by rw [f4, Int.mul_neg, Int.mul_one]; omega);exact this.symm
  rw [hneg] at hset hsl hsg hsh hsd gs w4;obtain ⟨u3, c3, hb1, K⟩ := A48 (out := out) (by_ := by_) (n := ((m + 2 : Nat) : Int)) (q := val (u.drop j) / val v) (u0 := u1.set (j + m + 2) (-1)) (v := v) (j := j) (by rw [hvl]; exact hsg) H.lv (by rw [hvl]) (by omega) (by omega);have kl : u3.length = u.length := K.len.trans hsl;have kc0 := K.c0;have kc1 := K.c1;have khi : dg u3 (j + m + 2) = -1 := by rw [K.hi _ (by omega), hsd]
  have kv := K.v;rw [zc4 (za7 _), hvl, show j + (m + 2) = j + m + 2 by omega, hset] at kv;have hset' : val (u3.set (j + m + 2) (-1 + c3)) = val u - B j * (val (u.drop j) / val v * val v) := by
   rw [FA (Al (show j + m + 2 < u3.length by omega)), khi, show -1 + c3 - -1 = c3 by omega];have : B j * (q * val v) = B j * (val (u.drop j) / val v * val v) + B j * val v := by rw [hq, Int.add_mul, Int.one_mul, ze0]
   omega
  obtain ⟨f1, f2, f3⟩ := H.done (u4 := u3.set (j + m + 2) (-1 + c3)) (by rw [List.length_set]; exact kl) (fun i hi => by rw [BX (by omega)]; exact K.lb i (by omega)) (fun i hi => by rw [BX (by omega), K.hi i (by omega)]; exact hsh i hi) hset' hmod;refine ⟨_, ?_, by rw [List.length_set]; exact kl, f2, hset', f3⟩
  have gu3 : AX u3 (j + m + 2) = some (-1) := by unfold AX; rw [Al (by omega), khi]
  have w6 := Ae (n := -1 + c3) (by omega) (by omega);have w7 : zi zj (q - 1) = val (u.drop j) / val v := by rw [Ae (by omega) (by omega)]; omega
  unfold CU;rw [hge];simp only [cond_true, cond_false, za0, hk u rfl, gu0, hk1, gu00, hk2, gv0, hz, w1, w2, zc5 htop0, zc6 htop0, w3];rw [hg1];simp only [za0];rw [ht1];simp only [za0, hk u1 ol, gu1, hneg, w4, hk _ hsl, gs, show decide ((-1 : Int) < 0) = true from rfl, cond_true, w7];rw [hb1];simp only [za0, hk u3 kl, gu3, hj0 out rfl, gout, w5, w6]
end
section
open Go
structure Places (u0 v:List Int) (m n:Nat) (u out:List Int):Prop where
 len:u.length=u0.length
 lu:LB u
 le:n+(m+2)<=u0.length
 less:val (u.drop n)<val v
 lo:LB out
 olen:out.length+(m+2)=u0.length
 zero:∀i,i<n->dg out i=0
 v:val u+val v*val out=val u0
theorem Places.place{u0 v u out:List Int}{m n:Nat}(h:Places u0 v m (n+1) u out)(hv:LB v)(hvl:v.length=m+2)(ht:1<=dg v (m+1)):Place u v n m:=
 ⟨h.lu,hv,hvl,ht,by have:=h.le;have:=h.len;omega,h.less⟩
theorem Places.next{u0 v u out u':List Int}{m n:Nat}(h:Places u0 v m (n+1) u out)(H:Place u v n m)(h1:u'.length=u.length)(h2:LB u')(h3:val u'=val u-B n*(val (u.drop n)/val v*val v))(h4:val (u'.drop n)<val v):
  Places u0 v m n u' (out.set n (val (u.drop n)/val v)):=by
 have hle:=h.le;have hol:=h.olen;refine⟨h1.trans h.len,h2,by omega,h4,h.lo.set H.quot,by rw[List.length_set];exact hol,fun i hi=>by rw[BX (by omega)];exact h.zero i (by omega),?_⟩
 have hz:=h.zero n (by omega);rw[FA (Al (show n<out.length by omega)),hz,h3,Int.sub_zero,ze0];have:=h.v;have e:val v*(B n*(val (u.drop n)/val v))=B n*(val (u.drop n)/val v*val v):=by grind
 omega
theorem A0B{u0 v:List Int}{m:Nat}{by_:Int}(hv:LB v)(hvl:v.length=m+2)(ht:1<=dg v (m+1))(hl:u0.length<=1000000){n:Nat}{out:List Int}(h:Places u0 v m n u0 out):
  ∃u out',Ad (fun(s:((List Int)×((List Int)×((List Int)×(Int×(Int×Int))))))=>CU s.1 s.2.1 s.2.2.1 s.2.2.2.1 s.2.2.2.2.1 s.2.2.2.2.2) (u0,(v,(out,(((m+2:Nat):Int),(by_,(n:Int)-1)))))=some (u,(out',(((m+2:Nat):Int),by_)))/\Places u0 v m 0 u out':=by
 obtain⟨⟨u,out'⟩,h1,h2⟩:=KX (body:=fun(s:((List Int)×((List Int)×((List Int)×(Int×(Int×Int))))))=>CU s.1 s.2.1 s.2.2.1 s.2.2.2.1 s.2.2.2.2.1 s.2.2.2.2.2)
  (st:=fun n (b:List Int×List Int)=>(b.1,(v,(b.2,(((m+2:Nat):Int),(by_,(n:Int)-1)))))) (fin:=fun b=>(b.1,(b.2,(((m+2:Nat):Int),by_)))) (I:=fun n b=>Places u0 v m n b.1 b.2)
  (by
   rintro n ⟨u,out⟩ hI;simp only at hI;have H:=hI.place hv hvl ht;have hle:=hI.le;have hol:=hI.olen;have hul:=hI.len;obtain⟨u',g1,g2,g3,g4,g5⟩:=A3E (out:=out) (by_:=by_) H (by omega) (by omega);refine⟨(u',out.set n (val (u.drop n)/val v)),?_,hI.next H g2 g3 g4 g5⟩
   simp only;rw[show((n+1:Nat):Int)-1=(n:Int) by omega,g1])
  (by
   rintro⟨u,out⟩ _;unfold CU
   dsimp only
   rw[zq (by omega)];rfl) n (u0,out) h
 exact⟨u,out',h1,h2⟩
theorem Places.start{u0 v:List Int}{m n:Nat}(hu:LB u0)(hv:LB v)(hvl:v.length=m+2)(ht:1<=dg v (m+1))(hn:u0.length=n+(m+2))(h0:dg u0 (n+(m+1))=0):Places u0 v m n u0 (List.replicate n 0):=by
 refine⟨rfl,hu,by omega,?_,LB.zeros n,by simp;omega,fun i hi=>by unfold dg;rw[zb7,ze7];split<;>rfl,by rw[EX];omega⟩
 have h1:=BY (u0.drop n) (m+1);have h2:=CJ (hu.drop n) (m+1);rw[List.drop_drop,CC u0 (n+(m+1)),h0,zc9 (show u0.length<=n+(m+1)+1 by omega)]at h1;simp only[val]at h1;have h3:=BY v (m+1);have h4:=AP (hv.take (m+1));have h5:=CC v (m+1);have h6:=AP (hv.drop (m+1+1));have h7:=zb3 (show 1<=val (v.drop (m+1)) by omega) (ze2 (FZ (m+1)));omega
theorem Places.end{u0 v u out:List Int}{m:Nat}(h:Places u0 v m 0 u out)(hv:LB v):val out=val u0/val v/\val u=val u0%val v:=by
 have h1:=h.less;rw[zf0]at h1;exact R9 (by rw[zf9];have:=h.v;omega) (AP h.lu) h1
theorem UN{n:Nat}(h:n≠0):1<=dg (lim n) ((lim n).length-1)/\dg (lim n) ((lim n).length-1)<65536/\B ((lim n).length-1)*dg (lim n) ((lim n).length-1)<=n/\(n:Int)<B ((lim n).length-1)*(dg (lim n) ((lim n).length-1)+1):=by
 have hne:(lim n).length≠0:=fun hh=>h (It.1 (zb2 hh))
 have h1:=BY (lim n) ((lim n).length-1);have h2:=CJ (AE n) ((lim n).length-1);rw[CC,zc9 (show(lim n).length<=(lim n).length-1+1 by omega),Ar]at h1;simp only[val,Int.mul_zero,Int.add_zero]at h1;have h3:=A7 (AE n) ((lim n).length-1);refine⟨?_,h3.2,by omega,by rw[ze0];omega⟩
 rcases Int.lt_or_le 0 (dg (lim n) ((lim n).length-1))with g|g
 ·omega
 ·exfalso
  have g0:dg (lim n) ((lim n).length-1)=0:=by omega
  refine RG n _ (List.getLast?_eq_getElem? .. ▸Al (show(lim n).length-1<(lim n).length by omega)) g0
end
section
open Go
theorem LN{l:List Int}{n:Int}{i:Nat}(hn:n=(i:Int))(h:i<l.length):AI l n=some (dg l i):=by rw[hn,Ah];exact Al h
theorem AP8{n m:Int}{a b k:Nat}(hn:n=(a:Int))(hm:m=(b:Int))(h1:a<=b)(h2:b<=k):Kr n m k=some (a,b):=by
 subst hn hm;unfold Kr;simp[h1,h2]
theorem AI1{b:Nat}(h:(lim b).length=1):(lim b)=[(b:Int)]/\b<65536/\b≠0:=by
 match hl:lim b with
 |[]=>rw[hl]at h;simp at h
 |[x]=>
  have hv:=Ar b;have hb:=AE b;rw[hl]at hv hb;have h0:=hb.head;simp only[val]at hv;have:b≠0:=fun h0=>by rw[h0,Cc]at hl;simp at hl
  exact⟨by congr 1;omega,by omega,this⟩
 |x::y::l=>rw[hl]at h;simp at h
theorem W7{a b c:Nat}(hc:0<c):a*c/(b*c)=a/b/\a*c%(b*c)=a%b*c:=⟨Nat.mul_div_mul_right _ _ hc,Nat.mul_mod_mul_right _ _ _⟩
theorem A5N{t by_:Int}(h1:1<=t)(h2:t<65536)(hb:by_=65536/(t+1)):1<=by_/\by_<=32768/\by_*(t+1)<=65536:=by
 have e1:=Int.emod_add_mul_ediv 65536 (t+1);have e2:=Int.emod_nonneg 65536 (show t+1≠0 by omega);have e3:=Int.emod_lt_of_pos 65536 (show 0<t+1 by omega);rw[<-hb]at e1;have e4:1<=by_:=by
  rw[hb];exact(Int.le_ediv_iff_mul_le (by omega)).2 (by omega)
 have e5:by_*2<=by_*(t+1):=zb3 (by omega) (by omega);rw[zf9]at e1;exact⟨e4,by omega,by omega⟩
set_option maxHeartbeats 1000000 in
theorem Vg {a b : Nat} (hb0 : b ≠ 0) (ha : (lim a).length <= 90000) (hb : (lim b).length <= 90000) : Gl (lim a) (lim b) = some (lim (a / b), lim (a % b)) := by
 unfold Gl;rw [Gq (by unfold Ax; omega) (by unfold Ax; omega)];simp only [za0];by_cases hab : a < b
 ·rw [DP (by omega)];simp only [show decide ((-1 : Int) < 0) = true from rfl, cond_true];rw [Nat.div_eq_of_lt hab, Nat.mod_eq_of_lt hab, Cc]
 have hc : decide (CQ (a : Int) b < 0) = false := by
  rcases BT (a : Int) b with ⟨h, g⟩ | ⟨h, _⟩ | ⟨h, _⟩
  ·omega
  ·rw [h]; rfl
  ·rw [h]; rfl
 simp only [hc, cond_false];have hbl : (lim b).length ≠ 0 := fun h => hb0 (It.1 (zb2 h))
 by_cases h1 : (lim b).length = 1
 ·obtain ⟨e1, e2, e3⟩ := AI1 h1;rw [e1];simp only [List.length_singleton, show (((1 : Nat) : Int) == 1) = true from rfl, cond_true];rw [show AI [(b : Int)] 0 = some (b : Int) from rfl];simp only [za0];rw [Wr (by omega) (by omega)];simp only [za0, zc2];rw [Yp (by unfold Ax; simp)];have hm := Nat.mod_lt a (show b > 0 by omega);simp only [za0, Cj (LB.cons (show (0 : Int) <= ((a % b : Nat) : Int) /\ ((a % b : Nat) : Int) < 65536 by omega) LB.nil), val]
  congr 3
 have hn1 : ((((lim b).length : Nat) : Int) == 1) = false := beq_eq_false_iff_ne.2 (by omega);obtain ⟨m, hm⟩ : ∃ m, (lim b).length = m + 2 := ⟨(lim b).length - 2, by omega⟩;obtain ⟨t1, t2, t3, t4⟩ := UN hb0;rw [hm, show m + 2 - 1 = m + 1 by omega] at t1 t2 t3 t4;have hg := LN (l := lim b) (n := zi zj (((lim b).length : Int) - 1)) (i := m + 1) (by rw [Ae (by omega) (by omega)]; omega) (by omega);generalize ht : dg (lim b) (m + 1) = t at *
 have wt : zi zj (t + 1) = t + 1 := Ae (by omega) (by omega);have hz : (t + 1 == 0) = false := beq_eq_false_iff_ne.2 (by omega);obtain ⟨s1, s2, s3⟩ := A5N t1 t2 rfl;have hby : zi zj (Int.tdiv 65536 (t + 1)) = 65536 / (t + 1) := by rw [zc5 (by omega)]; exact Ae (by omega) (by omega)
 generalize hby2 : 65536 / (t + 1) = by_ at *
 obtain ⟨c, rfl⟩ : ∃ c : Nat, by_ = (c : Int) := ⟨by_.toNat, by omega⟩;have hb40 : (lim a).length <= 90000 := ha;have hBa : (a : Int) < B (lim a).length := An.1 (za7 _);have hBb : (b : Int) < B (lim b).length := An.1 (za7 _);have hB1 : B 1 = 65536 := rfl;have fitc : ∀ k, 1 <= k -> (((c : Int)).natAbs : Int) < B k := fun k hk => by
  have := JI hk;omega
 have hk1 : 1 <= (lim a).length := by
  rcases Nat.eq_zero_or_pos (lim a).length with h | h
  ·have := It.1 (zb2 h); omega
  ·exact h
 obtain ⟨ra, hra, era⟩ := DF (x := (a : Int)) (y := (c : Int)) (k := (lim a).length) (by omega) (by rw [ze9]; exact hBa) (fitc _ hk1);obtain ⟨rb, hrb, erb⟩ := DF (x := (b : Int)) (y := (c : Int)) (k := (lim b).length) (by omega) (by rw [ze9]; exact hBb) (fitc _ (by omega));have bn : ∀ n : Nat, big (n : Int) = (false, lim n) := fun n => by unfold big; rw [zq (by omega), ze9]
 have ra1 : ra.1 = lim (a * c) := by rw [show (a : Int) * c = ((a * c : Nat) : Int) by simp, bn] at era; exact (Prod.ext_iff.1 era).2
 have rb1 : rb.1 = lim (b * c) := by rw [show (b : Int) * c = ((b * c : Nat) : Int) by simp, bn] at erb; exact (Prod.ext_iff.1 erb).2
 rw [bn, bn] at hra hrb;have mkb : ∀ n : Nat, (lim n).length <= 90000 -> Bg false (lim n) = some (lim n, false) := fun n hn => by
  rw [HI (AE n) (by unfold Ax; omega), Ar]; simp
 simp only [hn1, cond_false, hg, za0, wt, hz, hby, mkb a ha, mkb b hb, UW (n := (c : Int)) (by omega) (by omega), bn, hra, hrb, ra1, rb1];have hc0 : 0 < c := by omega
 have la : (lim a).length <= (lim (a * c)).length := by
  rw [An];have h1 : ((a * c : Nat) : Int) < B (lim (a * c)).length := An.1 (za7 _);have : a * 1 <= a * c := Nat.mul_le_mul_left _ (by omega);omega
 have la2 : (lim (a * c)).length <= (lim a).length + 1 := by
  rw [An];rw [show ((a * c : Nat) : Int) = (a : Int) * c by simp];have e1 : (a : Int) * c <= a * 65536 := zb3 (by omega) (by omega);simp only [B];omega
 have lb : (lim (b * c)).length = m + 2 := by
  apply Nat.le_antisymm
  ·rw [An];rw [show ((b * c : Nat) : Int) = (b : Int) * c by simp];have e1 : (b : Int) * c < B (m + 1) * (t + 1) * c := Int.mul_lt_mul_of_pos_right t4 (by omega);have e2 : B (m + 1) * ((c : Int) * (t + 1)) <= B (m + 1) * 65536 := zb3 s3 (ze2 (FZ _));have e3 : B (m + 1) * (t + 1) * c = B (m + 1) * ((c : Int) * (t + 1)) := by rw [zg1, zf9 (t + 1)]
   have e4 : B (m + 2) = B (m + 1) * 65536 := by simp only [B]; omega
   omega
  ·rw [<- hm, An];have h1 : ((b * c : Nat) : Int) < B (lim (b * c)).length := An.1 (za7 _);have : b * 1 <= b * c := Nat.mul_le_mul_left _ (by omega);omega
 have happ : C3 8 1 (lim (a * c)) [0] = some (lim (a * c) ++ [0]) := Au5 (by omega);have hle : (lim b).length <= (lim a).length := by
  rw [An]; omega
 simp only [happ, za0];rw [Aj (r := (lim (a * c) ++ [0], (lim (b * c), (((lim b).length : Int), (c : Int))))) (by
  unfold Np
  dsimp only
  rw [Ae (by omega) (by omega), zq (by simp; omega)];rfl)]
 simp only [za0];have hlu : (lim (a * c) ++ [(0 : Int)]).length = ((lim (a * c)).length - (m + 1)) + (m + 2) := by simp; omega
 have wl : zi zj (((lim (a * c) ++ [(0 : Int)]).length : Int) - ((lim b).length : Int)) = (((lim (a * c)).length - (m + 1) : Nat) : Int) := by
  rw [Ae (by omega) (by omega)]; omega
 generalize hn : (lim (a * c)).length - (m + 1) = n at *
 rw [wl, HZ (by unfold Ab; omega) (by unfold Ab; omega)];simp only [za0];have hval0 : val (lim (a * c) ++ [(0 : Int)]) = ((a * c : Nat) : Int) := by rw [KU, Ar]; omega
 have hlb0 : LB (lim (a * c) ++ [(0 : Int)]) := (AE _).append (LB.cons (by omega) LB.nil);have hbc0 : b * c ≠ 0 := Nat.mul_ne_zero hb0 (by omega);have htop := (UN hbc0).1;rw [lb, show m + 2 - 1 = m + 1 by omega] at htop;obtain ⟨u, out, hp, P⟩ := A0B (by_ := (c : Int)) (AE (b * c)) lb htop (by omega) (Places.start hlb0 (AE _) lb htop hlu (by
  unfold dg;rw [zb7, List.getElem?_append_right (by omega), show n + (m + 1) - (lim (a * c)).length = 0 by omega];rfl))
 rw [show ((lim b).length : Int) = ((m + 2 : Nat) : Int) by omega, Ae (by omega) (by omega), hp];simp only [za0];obtain ⟨p1, p2⟩ := P.end (AE _);rw [hval0, Ar] at p1 p2;obtain ⟨q1, q2⟩ := W7 (a := a) (b := b) hc0;have p1' : val out = ((a / b : Nat) : Int) := by rw [p1, <- q1]; simp
 have p2' : val u = ((a % b * c : Nat) : Int) := by rw [p2, <- q2]; simp
 have hul := P.len;have hol := P.olen;rw [AP8 (a := 0) (b := m + 2) (by rfl) rfl (by omega) (by omega)];simp only [za0, zf0, Nat.sub_zero, ze4];have hless := P.less;rw [zf0, Ar] at hless;have hbc : ((b * c : Nat) : Int) < B (m + 2) := by rw [<- lb]; exact An.1 (za7 _)
 have hvt : val (u.take (m + 2)) = val u := by
  have h1 := BY u (m + 2);have h2 := (AM1 P.lu (n := m + 2) (k := m + 2) (by omega) (za7 _)).2;rw [h2] at h1;omega
 rw [Yp (by unfold Ax; rw [List.length_take]; omega)];simp only [za0];rw [Cj (P.lu.take _), hvt, p2', zc2, Wr (by omega) (by
  have : (lim (a % b * c)).length <= m + 2 := by
   rw [An];have := Nat.mul_lt_mul_of_pos_right (Nat.mod_lt a (show b > 0 by omega)) hc0;omega
  omega)]
 simp only [za0];rw [Yp (by unfold Ax; omega)];simp only [za0];rw [Cj P.lo, p1', zc2, zc2, Nat.mul_div_cancel _ hc0]
end
section
open Go
theorem Ak0(v:List Int)(k:Nat):dg (v++[0]) k=dg v k:=by
 unfold dg;simp only[zb7];rcases zd6 k v.length with h|h
 ·rw[ze3 h]
 ·rw[List.getElem?_append_right h,List.getElem?_eq_none h];rcases Nat.eq_zero_or_pos (k-v.length)with g|g
  ·rw[g];rfl
  ·rw[List.getElem?_eq_none (by simp;omega)]
theorem ZD(v:List Int):val (v++[0])=val v:=by rw[KU];omega
theorem Aq1{v:List Int}(h:LB v):LB (v++[0]):=h.append (LB.cons (by omega) LB.nil)
theorem A44{u0 v:List Int}{q:Int}{j:Nat}(hu:LB u0)(hv:LB v)(hq:0<=q/\q<65536)(hlen:j+v.length<u0.length)(hl:u0.length<=1000000):
  ∃u c,LS u0 v (j:Int) q=some (u,c)/\Off u0 u j (v.length+1) c q (v++[0]):=by
 obtain⟨⟨u,c⟩,h1,h2⟩:=Eo (body:=fun(s:((List Int)×((List Int)×(Int×(Int×(Int×Int))))))=>IC s.1 s.2.1 s.2.2.1 s.2.2.2.1 s.2.2.2.2.1 s.2.2.2.2.2)
  (st:=fun k (b:List Int×Int)=>(b.1,(v,((j:Int),(q,(b.2,(k:Int))))))) (fin:=fun b=>(b.1,b.2)) (I:=fun k b=>Off u0 b.1 j k b.2 q (v++[0])) (e:=v.length+1)
  (by
   rintro k ⟨u,c⟩ hk hI;simp only at hI;have hul:=hI.len;have hp:j+k<u.length:=by omega
   have du:=A7 hI.lb (j+k);have dv:=A7 hv k;have c0:=hI.c0;have c1:=hI.c1;have m0:0<=q*dg v k:=zf1 hq.1 dv.1;have m1:q*dg v k<=65535*65535:=Int.le_trans (zb3 (show dg v k<=65535 by omega) hq.1) (za9 (show q<=65535 by omega) (by omega));have hnx:=hI.next (Aq1 hv) hq hp rfl;rw[Ak0]at hnx;refine⟨(u.set (j+k) (dg u (j+k)-q*dg v k-c+(if dg u (j+k)-q*dg v k-c<0 then(-(dg u (j+k)-q*dg v k-c)+65536-1)/65536 else 0)*65536),if dg u (j+k)-q*dg v k-c<0 then(-(dg u (j+k)-q*dg v k-c)+65536-1)/65536 else 0),?_,hnx⟩
   unfold IC AX
   dsimp only
   have i1:A1 ((j:Int)+(k:Int)) u.length=some (j+k):=by rw[show(j:Int)+(k:Int)=((j+k:Nat):Int) by omega];exact A0 hp
   have hw1:=AJ (show k<4611686018427387904 by omega);have hjk:=Ae (n:=(j:Int)+(k:Int)) (by omega) (by omega);rw[zp (by omega),hjk];simp only[cond_true,i1,za0,Al hp,KM];rw[Ae (n:=q*dg v k) (by omega) (by omega),Ae (n:=dg u (j+k)-q*dg v k) (by omega) (by omega),Ae (n:=dg u (j+k)-q*dg v k-c) (by omega) (by omega)];have hxb: -4294967296<=dg u (j+k)-q*dg v k-c/\dg u (j+k)-q*dg v k-c<65536:=by omega
   generalize dg u (j+k)-q*dg v k-c=x at*
   by_cases hx:x<0
   ·rw[zp hx,zr hx,Ae (n:=0-x) (by omega) (by omega),Ae (n:=0-x+65536) (by omega) (by omega),Ae (n:=0-x+65536-1) (by omega) (by omega),zc5 (by omega),show 0-x+65536-1= -x+65536-1 by omega];rw[Ae (n:=(-x+65536-1)/65536) (by omega) (by omega),Ae (n:=(-x+65536-1)/65536*65536) (by omega) (by omega),Ae (n:=x+(-x+65536-1)/65536*65536) (by omega) (by omega)];simp only[cond_true,za0,za8,hjk,i1,Al hp,hw1]
   ·rw[zq hx,zw hx];simp only[cond_false,za0,za8,hjk,i1,Al hp,hw1,Int.zero_mul,Int.add_zero])
  (by
   rintro⟨u,c⟩ _;unfold IC
   dsimp only
   rw[zq (by omega)];rfl) 0 (u0,0) (by omega) (Off.start hu j q (v++[0]))
 refine⟨u,c,?_,h2⟩
 unfold LS
 dsimp only at h1
 rw[show((0:Nat):Int)=0 from rfl]at h1;rw[h1];rfl
theorem A4G{u0 v:List Int}{j:Nat}(hu:LB u0)(hv:LB v)(hlen:j+v.length<u0.length)(hl:u0.length<=1000000):
  ∃u c,Lr u0 v (j:Int)=some u/\Back u0 u j (v.length+1) c (v++[0]):=by
 obtain⟨⟨u,c⟩,h1,h2⟩:=Eo (body:=fun(s:((List Int)×((List Int)×(Int×(Int×Int)))))=>Iw s.1 s.2.1 s.2.2.1 s.2.2.2.1 s.2.2.2.2)
  (st:=fun k (b:List Int×Int)=>(b.1,(v,((j:Int),(b.2,(k:Int)))))) (fin:=fun b=>b.1) (I:=fun k b=>Back u0 b.1 j k b.2 (v++[0])) (e:=v.length+1)
  (by
   rintro k ⟨u,c⟩ hk hI;simp only at hI;have hul:=hI.len;have hp:j+k<u.length:=by omega
   have du:=hI.lb (j+k) (by simp;omega);have dv:=A7 hv k;have c0:=hI.c0;have c1:=hI.c1;have hnx:=hI.next (Aq1 hv) (by simp;omega) hp;rw[Ak0]at hnx;refine⟨⟨_,_⟩,?_,hnx⟩
   unfold Iw AX
   dsimp only
   have i1:A1 ((j:Int)+(k:Int)) u.length=some (j+k):=by rw[show(j:Int)+(k:Int)=((j+k:Nat):Int) by omega];exact A0 hp
   have hw1:=AJ (show k<4611686018427387904 by omega);have hjk:=Ae (n:=(j:Int)+(k:Int)) (by omega) (by omega);rw[zp (by omega),hjk];simp only[cond_true,i1,za0,Al hp,KM];rw[Ae (n:=dg u (j+k)+dg v k) (by omega) (by omega),Ae (n:=dg u (j+k)+dg v k+c) (by omega) (by omega),zc6 (by omega),zc5 (by omega),Ae (n:=(dg u (j+k)+dg v k+c)/65536) (by omega) (by omega),hw1])
  (by
   rintro⟨u,c⟩ _;unfold Iw
   dsimp only
   rw[zq (by omega)];rfl) 0 (u0,0) (by omega) ⟨rfl,fun i _=>A7 hu i,fun _ _=>rfl,by simp only;omega,by simp only;omega,by simp[val]⟩
 refine⟨u,c,?_,h2⟩
 unfold Lr
 dsimp only at h1
 rw[show((0:Nat):Int)=0 from rfl]at h1;rw[h1];rfl
theorem A2W{u v:List Int}{j m:Nat}(H:Place u v j m)(hl:u.length<=1000000):
  ∃q,Kd u v (j:Int)=some q/\val (u.drop j)/val v<=q/\q<65536/\q*val v<val (u.drop j)+val v:=by
 have G:=H.guess;have hv:=H.hv;have hlen:=H.len;have hrest:=H.rest;have hst:=H.start;have d1:=A7 H.lu (j+m+1);have d2:=A7 H.lu (j+m+2);have hu:j+m<u.length:=by omega
 have htop65:dg u (j+m+2)*65536+dg u (j+m+1)<65536*(dg v (m+1)+1):=by
  have hP:=G.hP;have hU:=G.hU;have hV:=G.hV;have hv2:=G.hv2;have hvr:=G.hvr;have hu2:=G.hu2;have hur:=G.hur;rcases Int.lt_or_le (dg u (j+m+2)*65536+dg u (j+m+1)) (65536*(dg v (m+1)+1))with h|h
  ·exact h
  ·exfalso
   generalize dg u (j+m+2)*65536+dg u (j+m+1)=top at*
   generalize dg v (m+1)=v1 at*
   generalize dg v m=v2 at*
   generalize dg u (j+m)=u2 at*
   generalize val (v.take m)=vr at*
   generalize val ((u.drop j).take m)=ur at*
   have e1:=za9 (show 65536*(v1+1)*65536<=top*65536+u2 by omega) (ze2 hP);have e2:=za9 (show v1*65536+v2+1<=(v1+1)*65536 by omega) (ze2 hP);rw[Int.add_mul,Int.one_mul]at e2;have e3:65536*(v1+1)*65536*B m=65536*((v1+1)*65536*B m):=by grind
   omega
 have hv1:=G.hv1;have hv1':=G.hv1';have htop0:0<=dg u (j+m+2)*65536+dg u (j+m+1):=by omega
 have e1:=Int.emod_add_mul_ediv (dg u (j+m+2)*65536+dg u (j+m+1)) (dg v (m+1));have e2:=Int.emod_nonneg (dg u (j+m+2)*65536+dg u (j+m+1)) (show dg v (m+1)≠0 by omega);have e3:(dg u (j+m+2)*65536+dg u (j+m+1))/dg v (m+1)<=dg u (j+m+2)*65536+dg u (j+m+1):=Int.ediv_le_self _ htop0;have e4:=Int.ediv_nonneg htop0 (show 0<=dg v (m+1) by omega);have w1:=Ae (n:=dg u (j+m+2)*65536) (by omega) (by omega);have w2:=Ae (n:=dg u (j+m+2)*65536+dg u (j+m+1)) (by omega) (by omega);have w3:=Ae (n:=(dg u (j+m+2)*65536+dg u (j+m+1))/dg v (m+1)) (by omega) (by omega)
 have g1:AI u (zi zj ((j:Int)+(v.length:Int)))=some (dg u (j+m+2)):=LN (by rw[Ae (by omega) (by omega)];omega) (by omega);have g2:AI u (zi zj (zi zj ((j:Int)+(v.length:Int))-1))=some (dg u (j+m+1)):=LN (by rw[Ae (n:=(j:Int)+(v.length:Int)) (by omega) (by omega),Ae (by omega) (by omega)];omega) (by omega);have g3:AI v (zi zj ((v.length:Int)-1))=some (dg v (m+1)):=LN (by rw[Ae (by omega) (by omega)];omega) (by omega);have g4:AI v (zi zj ((v.length:Int)-2))=some (dg v m):=LN (by rw[Ae (by omega) (by omega)];omega) (by omega)
 have g5:AI u (zi zj (zi zj ((j:Int)+(v.length:Int))-2))=some (dg u (j+m)):=LN (by rw[Ae (n:=(j:Int)+(v.length:Int)) (by omega) (by omega),Ae (by omega) (by omega)];omega) (by omega);have hz:(dg v (m+1)==0)=false:=beq_eq_false_iff_ne.2 (by omega);obtain⟨r,h1,h2⟩:=HN (f:=fun(s:((List Int)×((List Int)×(Int×(Int×(Int×Int))))))=>D7 s.1 s.2.1 s.2.2.1 s.2.2.2.1 s.2.2.2.2.1 s.2.2.2.2.2)
  (I:=fun s=>∃q r:Int,s=(u,(v,((j:Int),((v.length:Int),(q,r)))))/\q*dg v (m+1)+r=dg u (j+m+2)*65536+dg u (j+m+1)/\0<=r/\val (u.drop j)/val v<=q/\q<4294967296)
  (R:=fun q=>val (u.drop j)/val v<=q/\q<65536/\q*val v<val (u.drop j)+val v) (fun s=>s.2.2.2.2.1.toNat) (by
   rintro s ⟨q,r,rfl,f1,f2,f3,f4⟩;simp only;have hQ0:=G.hQ0;have hQ1:=G.hQ1;have hv2:=G.hv2;have hu2:=G.hu2;have htop:=G.htop;have hqv:0<=q*dg v (m+1):=zf1 (by omega) (by omega);have hqv2:0<=q*dg v m:=zf1 (by omega) hv2.1;have hqv2':q*dg v m<=4294967296*65536:=Int.le_trans (zb3 (show dg v m<=65536 by omega) (by omega)) (za9 (show q<=4294967296 by omega) (by omega));have w5:=Ae (n:=q*dg v m) (by omega) (by omega);have w6:=Ae (n:=r*65536) (by omega) (by omega);have w7:=Ae (n:=r*65536+dg u (j+m)) (by omega) (by omega);have w8:=Ae (n:=q-1) (by omega) (by omega)
   have w9:=Ae (n:=r+dg v (m+1)) (by omega) (by omega);have less:∀(hgo:val (u.drop j)/val v<=q-1),∃q' r':Int,(u,(v,((j:Int),((v.length:Int),(q-1,r+dg v (m+1))))))=(u,(v,((j:Int),((v.length:Int),(q',r')))))/\q'*dg v (m+1)+r'=dg u (j+m+2)*65536+dg u (j+m+1)/\0<=r'/\val (u.drop j)/val v<=q'/\q'<4294967296:=by
    intro hgo;exact⟨q-1,r+dg v (m+1),rfl,by rw[Int.sub_mul];omega,by omega,hgo,by omega⟩
   by_cases c2:r<65536
   ·by_cases c1:q>=65536
    ·refine .inl ⟨(u,(v,((j:Int),((v.length:Int),(q-1,r+dg v (m+1)))))),?_,less (by omega),by simp only;omega⟩
     unfold D7;rw[zp c2,zp c1];simp only[cond_true,za0,Sum.elim_inl,za8,g3,w8,w9]
    ·by_cases c3:q*dg v m>r*65536+dg u (j+m)
     ·have hlt:=Xt G.hP G.hv1 G.hv2 G.hvr G.hu2 G.hur G.hV G.hU f1 (by omega) c3;have hne:val (u.drop j)/val v<=q-1:=by
       rcases Int.lt_or_le (q-1) (val (u.drop j)/val v)with h|h
       ·have:q=val (u.drop j)/val v:=by omega
        have:=G.hQ;subst q;omega
       ·exact h
      refine .inl ⟨(u,(v,((j:Int),((v.length:Int),(q-1,r+dg v (m+1)))))),?_,less hne,by simp only;omega⟩
      unfold D7;rw[zp c2,zq c1];simp only[cond_true,cond_false,za0,g4,g5,w5,w6,w7,zp c3,za8,g3,w8,w9]
     ·refine .inr ⟨q,?_,f3,by omega,YZ G.hP G.hv1 G.hv2 G.hvr G.hu2 G.hur G.hV G.hU f1 (by omega) (by omega) (by omega)⟩
      unfold D7;rw[zp c2,zq c1];simp only[cond_true,cond_false,za0,g4,g5,w5,w6,w7,zq c3,Sum.elim_inl]
   ·have hq65:q<65536:=by
     rcases Int.lt_or_le q 65536 with h|h
     ·exact h
     ·exfalso
      have:=za9 h (show 0<=dg v (m+1) by omega);omega
    have hle:=WK G.hP G.hv1 G.hv2 G.hvr G.hu2 G.hur G.hV G.hU f1 (by omega) hq65 (by omega);have hV0:=G.hV0;refine .inr ⟨q,?_,f3,hq65,by omega⟩
    unfold D7;rw[zq c2];rfl) (u,(v,((j:Int),((v.length:Int),((dg u (j+m+2)*65536+dg u (j+m+1))/dg v (m+1),(dg u (j+m+2)*65536+dg u (j+m+1))%dg v (m+1)))))) ⟨_,_,rfl,by rw[zf9];omega,e2,hst,by omega⟩
 refine⟨r,?_,h2⟩
 unfold Kd;simp only[g1,g2,g3,za0,hz,cond_false,w1,w2,zc5 htop0,zc6 htop0,w3];rw[h1];rfl
theorem Place.part{u v u':List Int}{j m:Nat}(H:Place u v j m)(h1:u'.length=u.length)(h2:LB u')(h3:∀i,j+m+3<=i->dg u' i=dg u i){W e:Int}(h4:val u'=val u-B j*W+B (j+m+3)*e):
  val (u'.drop j)=val (u.drop j)-W+B (m+3)*e/\0<=val (u'.drop j)/\val (u'.drop j)<B (m+3):=by
 have hz:val (u'.drop (j+(m+3)))=0:=NP fun i=>by rw[UG,h3 _ (by omega)];exact(H.high (by omega)).1
 have p1:=BY (u'.drop j) (m+3);rw[List.drop_drop,hz]at p1;have p2:=CJ (h2.drop j) (m+3);have p3:=BY u' j;have p4:=BY u j;have p5:=CJ h2 j;have p6:=CJ H.lu j;refine⟨?_,by omega,by omega⟩
 refine Px p5 p6 ?_
 have e1:B (j+m+3)*e=B j*(B (m+3)*e):=by rw[show j+m+3=j+(m+3) by omega,Qd];grind
 rw[ze0,Int.mul_sub];omega
set_option maxHeartbeats 1000000 in
theorem A2E {u v out : List Int} {bits : Int} {j m : Nat} (H : Place u v j m) (hl : u.length <= 1000000) (hj : j < out.length) :
  ∃ u', Cg u v out bits (j : Int) = some (.inl (u', (v, (out.set j (val (u.drop j) / val v), (bits, (j : Int) - 1))))) /\
   u'.length = u.length /\ LB u' /\ val u' = val u - B j * (val (u.drop j) / val v * val v) /\ val (u'.drop j) < val v := by
 have hlen := H.len;have hvl := H.hv;have hQ := H.quot;have hmod := H.mod;have hlt := H.lt;have hpos := H.pos;have hB3 : B (m + 3) = 65536 * B (m + 2) := rfl;obtain ⟨q, hg1, hg2, hg3, hg4⟩ := A2W H hl;obtain ⟨u1, c, ht1, O⟩ := A44 (j := j) (q := q) H.lu H.lv ⟨by omega, hg3⟩ (by omega) hl;have ov := O.v;have ol := O.len;have oc0 := O.c0;rw [zc4 (by simp), ZD, hvl, show j + (m + 2 + 1) = j + m + 3 by omega] at ov;have oh := O.hi;rw [hvl, show j + (m + 2 + 1) = j + m + 3 by omega] at oh;obtain ⟨p1, p2, p3⟩ := H.part ol O.lb oh (W := q * val v) (e := c) (by omega)
 have hge : decide ((j : Int) >= 0) = true := zp (by omega);have w5 := Ae (n := (j : Int) - 1) (by omega) (by omega);have hj0 : A1 (j : Int) out.length = some j := A0 hj;have gout : AX out j = some (dg out j) := Al hj;have hBp := FZ (m + 3);rcases H.one hg2 hg4 with hq | hq
 ·have hc : c = 0 := by
   rw [hq] at p1;have := Px (j := m + 3) (a := val (u1.drop j)) (b := val (u.drop j) - val (u.drop j) / val v * val v) (X := 0) (Y := c) ⟨p2, p3⟩ (by omega) (by omega);exact this.symm
  subst hc;refine ⟨u1, ?_, ol, O.lb, by rw [hq] at ov; omega, by rw [hq] at p1; omega⟩
  unfold Cg;simp only [hge, cond_true, hg1, ht1, za0, ol, decide_true, show decide ((0 : Int) > 0) = false from rfl, cond_false, hj0, gout, w5];rw [hq]
 ·have hqv : q * val v = val (u.drop j) / val v * val v + val v := by rw [hq, Int.add_mul, Int.one_mul]
  have hc : c = 1 := by
   have := Px (j := m + 3) (a := val (u1.drop j)) (b := val (u.drop j) - q * val v + B (m + 3)) (X := 1) (Y := c) ⟨p2, p3⟩ (by omega) (by omega);exact this.symm
  subst hc;obtain ⟨u2, c2, hb1, K⟩ := A4G (u0 := u1) (v := v) (j := j) O.lb H.lv (by omega) (by omega);have kl := K.len;have kh := K.hi;have kv := K.v;rw [zc4 (by simp), ZD, hvl, show j + (m + 2 + 1) = j + m + 3 by omega] at kv;rw [hvl, show j + (m + 2 + 1) = j + m + 3 by omega] at kh;have klb : LB u2 := WE fun i hi => by
   rcases zd6 i (j + m + 3) with g | g
   ·exact K.lb i (by simp; omega)
   ·rw [kh i g]; exact A7 O.lb i
  have e1 : B j * (q * val v) = B j * (val (u.drop j) / val v * val v) + B j * val v := by rw [hqv, ze0]
  have hall : val u2 = val u - B j * (val (u.drop j) / val v * val v) + B (j + m + 3) * (1 - c2) := by
   rw [Int.mul_sub]; omega
  obtain ⟨k1, k2, k3⟩ := H.part (kl.trans ol) klb (fun i hi => (kh i hi).trans (oh i hi)) hall;have hc2 : c2 = 1 := by
   have := Px (j := m + 3) (a := val (u2.drop j)) (b := val (u.drop j) - val (u.drop j) / val v * val v) (X := 0) (Y := 1 - c2) ⟨k2, k3⟩ (by omega) (by omega);omega
  subst hc2;refine ⟨u2, ?_, kl.trans ol, klb, by omega, by omega⟩
  have w7 : zi zj (q - 1) = val (u.drop j) / val v := by rw [Ae (by omega) (by omega)]; omega
  unfold Cg;simp only [hge, cond_true, hg1, ht1, za0, ol, decide_true, show decide ((1 : Int) > 0) = true from rfl, hb1, kl, hj0, gout, w5, w7]
end
section
open Go
theorem AG8{s o t:Nat}(ho:o<2^s)(h:2^s*t+o<4611686018427387904):orI .i64 (o:Int) ((2^s*t:Nat):Int)=((o+2^s*t:Nat):Int):=by
 unfold orI;rw[BitVec.ofInt_natCast,BitVec.ofInt_natCast,BitVec.toNat_or,BitVec.toNat_ofNat,BitVec.toNat_ofNat];have h64:IntKind.bits .i64=64:=rfl;rw[h64,Nat.mod_eq_of_lt (by omega),Nat.mod_eq_of_lt (by omega),Nat.or_comm,<-Nat.two_pow_add_eq_or_of_lt ho,Ae (by omega) (by omega)];omega
theorem W8{x:Int}{s:Nat}(hs:s<=63)(h0: -9223372036854775808<=x*2^s)(h1:x*2^s<=9223372036854775807):SO .i64 x (zi zk (s:Int))=x*2^s:=by
 unfold SO;rw[YJ (by omega) (by omega),show min ((s:Int).toNat) (IntKind.bits .i64)=s by simp[IntKind.bits];omega,Ae h0 h1]
theorem A1q{x:Int}{s:Nat}(hs:s<=63):AY8 .i64 x (zi zk (s:Int))=x/2^s:=by
 unfold AY8;rw[YJ (by omega) (by omega),show min ((s:Int).toNat) (IntKind.bits .i64)=s by simp[IntKind.bits];omega];exact Int.fdiv_eq_ediv_of_nonneg _ (ze2 (Int.pow_pos (by decide)))
theorem N0{s:Nat}(hs:s<=16):∃S T:Nat,S=2^s/\T=2^(16-s)/\S*T=65536/\1<=S/\1<=T/\S<=65536:=by
 refine⟨2^s,2^(16-s),rfl,rfl,?_,Nat.one_le_two_pow,Nat.one_le_two_pow,?_⟩
 ·rw[<-Nat.pow_add,show s+(16-s)=16 by omega]
 ·exact Nat.pow_le_pow_right (by decide) hs
theorem V7{S T x:Int}(hST:S*T=65536)(hS:1<=S)(hT:1<=T)(hx:0<=x/\x<65536):
  x*S%65536=S*(x%T)/\x*S/65536=x/T/\0<=x/T/\x/T<S/\0<=x%T/\x%T<T/\S*(x%T)+65536*(x/T)=x*S/\S*(x%T)+S<=65536:=by
 have e1:=Int.emod_add_mul_ediv x T;have e2:=Int.emod_nonneg x (show T≠0 by omega);have e3:=Int.emod_lt_of_pos x (show 0<T by omega);have e4:=Int.ediv_nonneg hx.1 (show 0<=T by omega);have e5:x/T<S:=Int.ediv_lt_of_lt_mul (by omega) (by rw[hST];exact hx.2);have e6:x*S=S*(x%T)+65536*(x/T):=by
  have h2:S*(x%T+T*(x/T))=S*(x%T)+(S*T)*(x/T):=by rw[ze0,zg1]
  rw[e1,hST]at h2;rw[<-h2,zf9]
 have e7:S*(x%T)+S<=65536:=by
  have h2:=zb3 (show x%T+1<=T by omega) (show 0<=S by omega);rw[ze0,hST]at h2;omega
 have e8:0<=S*(x%T):=zf1 (by omega) e2;rw[e6];refine⟨?_,?_,e4,e5,e2,e3,rfl,e7⟩<;>omega
theorem Av3{S T x y R:Int}(hST:S*T=65536)(hS:1<=S)(hT:1<=T)(hx:0<=x/\x<65536):(x+65536*(y+65536*R))/S=(x+65536*y)/S%65536+65536*((y+65536*R)/S):=by
 have e1:x+65536*(y+65536*R)=(x+65536*y)+S*(T*65536*R):=by
  have:S*(T*65536*R)=(S*T)*(65536*R):=by grind
  rw[this,hST];omega
 have e2:(x+65536*(y+65536*R))/S=(x+65536*y)/S+T*65536*R:=by rw[e1,Int.add_mul_ediv_left _ _ (by omega)]
 have e3:(x+65536*(y+65536*R))/S%65536=(x+65536*y)/S%65536:=by
  rw[e2,show T*65536*R=65536*(T*R) by grind,Int.add_mul_emod_self_left]
 have e4:(x+65536*(y+65536*R))/S/65536=(y+65536*R)/S:=by
  rw[Int.ediv_ediv_of_nonneg (by omega),zf9 S,<-Int.ediv_ediv_of_nonneg (by decide)]
  congr 1
  omega
 have e5:=Int.emod_add_mul_ediv ((x+65536*(y+65536*R))/S) 65536;rw[e3,e4]at e5;omega
structure Up (l out:List Int) (s i:Nat):Prop where
 lb:LB out
 len:out.length=l.length+1
 c:dg out i<2^s
 z:∀k,i<k->dg out k=0
 v:val out=val (l.take i)*2^s
theorem Up.next{l out:List Int}{s i:Nat}(h:Up l out s i)(hl:LB l)(hs:s<=15)(hi:i<l.length):
  Up l ((out.set i (dg out i+dg l i*2^s%65536)).set (i+1) (dg l i*2^s/65536)) s (i+1):=by
 obtain⟨S,T,eS,eT,hST,hS,hT,hS2⟩:=N0 (show s<=16 by omega);have hSi:((S:Nat):Int)=2^s:=by rw[eS];simp
 have hc:=h.c;rw[<-hSi]at hc⊢
 have hx:=A7 hl i;obtain⟨d1,d2,d3,d4,d5,d6,d7,d8⟩:=V7 (S:=(S:Int)) (T:=(T:Int)) (by rw[<-zf7,hST];rfl) (by omega) (by omega) hx;have ho:=A7 h.lb i;have hol:=h.len;have hv:=h.v;rw[<-hSi]at hv;have m0:0<=(S:Int)*(dg l i%T):=zf1 (by omega) d5;rw[d1,d2];have hz:=h.z (i+1) (by omega);refine⟨?_,by simp[hol],?_,fun k hk=> ?_,?_⟩
 ·refine(h.lb.set ⟨by omega,by omega⟩).set ⟨d3,by omega⟩
 ·rw[Aw6 (by simp;omega),zr rfl,<-hSi];exact d4
 ·rw[BX (by omega),BX (by omega)];exact h.z k (by omega)
 ·rw[FA (Al (by simp;omega)),BX (by omega),hz,FA (Al (show i<out.length by omega)),hv,AY,<-hSi];have e1:B (i+1)*(dg l i/T-0)=B i*(65536*(dg l i/T)):=by simp only[B];grind
  have e2:(val (l.take i)+B i*dg l i)*S=val (l.take i)*S+B i*(dg l i*S):=by grind
  rw[e1,e2,<-d7,ze0];have e3:B i*(dg out i+S*(dg l i%T)-dg out i)=B i*(S*(dg l i%T)):=by congr 1;omega
  omega
theorem A0Y{l:List Int}{s:Nat}(hl:LB l)(hs:s<=15)(hn:l.length<=1000000):∃out,NM l (s:Int)=some out/\LB out/\out.length=l.length+1/\val out=val l*2^s:=by
 obtain⟨out,h1,h2⟩:=Eo (body:=fun(s:((List Int)×(Int×((List Int)×(Int×Int)))))=>Mv s.1 s.2.1 s.2.2.1 s.2.2.2.1 s.2.2.2.2)
  (st:=fun k (b:List Int)=>(b,((s:Int),(l,((l.length:Int),(k:Int)))))) (fin:=fun b=>b) (I:=fun k b=>Up l b s k) (e:=l.length)
  (by
   rintro k out hk hI;refine⟨_,?_,hI.next hl hs hk⟩
   obtain⟨S,T,eS,eT,hST,hS,hT,hS2⟩:=N0 (show s<=16 by omega);have hSi:((S:Nat):Int)=2^s:=by rw[eS];simp
   have hx:=A7 hl k;have ho:=A7 hI.lb k;have hol:=hI.len;have hc:=hI.c;rw[<-hSi]at hc⊢
   obtain⟨d1,d2,d3,d4,d5,d6,d7,d8⟩:=V7 (S:=(S:Int)) (T:=(T:Int)) (by rw[<-zf7,hST];rfl) (by omega) (by omega) hx;have hxS:0<=dg l k*(S:Int)/\dg l k*(S:Int)<=65536*65536:=⟨zf1 hx.1 (by omega),Int.le_trans (zb3 (show(S:Int)<=65536 by omega) hx.1) (za9 (by omega) (by decide))⟩;have hsh:SO .i64 (dg l k) (zi zk (s:Int))=dg l k*S:=by rw[hSi];exact W8 (by omega) (by rw[<-hSi];omega) (by rw[<-hSi];omega)
   have hor:orI .i64 (dg out k) (dg l k*S%65536)=dg out k+dg l k*S%65536:=by
    obtain⟨o,eo⟩:∃o:Nat,dg out k=(o:Int):=⟨(dg out k).toNat,by omega⟩;obtain⟨t,et⟩:∃t:Nat,dg l k%T=(t:Int):=⟨(dg l k%T).toNat,by omega⟩;rw[d1,et,eo,<-zf7,eS,AG8 (by rw[<-eS];omega) (by
     rw[<-eS];have:((S*t:Nat):Int)<=65536:=by rw[zf7,<-et];omega
     omega)]
    simp
   have hu:zi zk (s:Int)=(s:Int):=YJ (by omega) (by omega);unfold Mv AX
   dsimp only
   rw[zp (by omega),AJ (by omega)];have i1:A1 (k:Int) out.length=some k:=A0 (by omega);have hd:decide (zi zk (s:Int)<0)=false:=by rw[hu];exact zq (by omega)
   simp only[cond_true,Ah,Al hk,za0,hd,cond_false,i1,Al (show k<out.length by omega),hsh,zc6 hxS.1,zc5 hxS.1,hor,List.length_set];rw[A0 (by omega)];simp only[za0];rw[Al (by simp;omega)];simp only[za0];rw[Ae (n:=dg l k*S/65536) (by omega) (by omega)])
  (by
   rintro out _;unfold Mv
   dsimp only
   rw[zq (Int.lt_irrefl _)];rfl) 0 (List.replicate (l.length+1) 0) (by omega) ⟨LB.zeros _,by simp,by
    rw[show dg (List.replicate (l.length+1) (0:Int)) 0=0 from rfl];exact Int.pow_pos (by decide),fun k _=>by unfold dg;rw[zb7,ze7];split<;>rfl,by simp[EX,val]⟩
 have hv:=h2.v;rw[List.take_length]at hv;refine⟨out,?_,h2.lb,h2.len,hv⟩
 unfold NM;rw[AJ (by omega),HZ (by unfold Ab;omega) (by unfold Ab;omega)];simp only[za0];rw[show((0:Nat):Int)=0 from rfl]at h1;rw[h1];rfl
theorem A00{l:List Int}{s:Nat}(hl:LB l)(hs:s<=15)(hn:l.length<=1000000):Lw l (s:Int)=some (lim (val l/2^s).toNat):=by
 obtain⟨S,T,eS,eT,hST,hS,hT,hS2⟩:=N0 (show s<=16 by omega);have hSi:((S:Nat):Int)=2^s:=by rw[eS];simp
 have hSTi:(S:Int)*T=65536:=by rw[<-zf7,hST];rfl
 obtain⟨out,h1,h2⟩:=Eo (body:=fun(s:((List Int)×((List Int)×(Int×(Int×Int)))))=>II s.1 s.2.1 s.2.2.1 s.2.2.2.1 s.2.2.2.2)
  (st:=fun k (b:List Int)=>(b,(l,((s:Int),((l.length:Int),(k:Int)))))) (fin:=fun b=>b)
  (I:=fun k b=>LB b/\b.length=l.length/\(∀i,k<=i->dg b i=0)/\val b+B k*(val (l.drop k)/S)=val l/S) (e:=l.length)
  (by
   rintro k out hk ⟨g1,g2,g3,g4⟩;have hx:=A7 hl k;have hy:=A7 hl (k+1);have hm0:0<=(dg l k+65536*dg l (k+1))/(S:Int)%65536/\(dg l k+65536*dg l (k+1))/(S:Int)%65536<65536:=by omega
   refine⟨out.set k ((dg l k+65536*dg l (k+1))/(S:Int)%65536),?_,g1.set hm0,by simp[g2],fun i hi=>by rw[BX (by omega)];exact g3 i (by omega),?_⟩
   ·have hor:orI .i64 (dg l k) (SO .i64 (dg l (k+1)) 16)=dg l k+65536*dg l (k+1):=by
     obtain⟨o,eo⟩:∃o:Nat,dg l k=(o:Int):=⟨(dg l k).toNat,by omega⟩;obtain⟨t,et⟩:∃t:Nat,dg l (k+1)=(t:Int):=⟨(dg l (k+1)).toNat,by omega⟩;have h16:SO .i64 (dg l (k+1)) 16=((2^16*t:Nat):Int):=by
      have:=W8 (x:=dg l (k+1)) (s:=16) (by omega) (by omega) (by omega);rw[show zi zk ((16:Nat):Int)=16 by decide]at this;rw[this,et];omega
     rw[h16,eo,AG8 (by omega) (by omega),et];omega
    have hu:zi zk (s:Int)=(s:Int):=YJ (by omega) (by omega);unfold II AX
    dsimp only
    rw[zp (by omega),AJ (by omega)];have i1:A1 (k:Int) out.length=some k:=A0 (by omega);have hd:decide (zi zk (s:Int)<0)=false:=by rw[hu];exact zq (by omega)
    have hsr:AY8 .i64 (dg l k+65536*dg l (k+1)) (zi zk (s:Int))=(dg l k+65536*dg l (k+1))/(S:Int):=by rw[A1q (by omega),hSi]
    have hq0:0<=(dg l k+65536*dg l (k+1))/(S:Int):=Int.ediv_nonneg (by omega) (by omega);simp only[cond_true,Ah,Al hk,za0,KM,hd,cond_false,i1,Al (show k<out.length by omega),hor,hsr,zc6 hq0]
   ·rw[FA (Al (show k<out.length by omega)),g3 k (za7 _),Int.sub_zero];rw[CC l k,CC l (k+1),Av3 hSTi (by omega) (by omega) hx,<-CC l (k+1),ze0]at g4;have e:B (k+1)*(val (l.drop (k+1))/S)=B k*(65536*(val (l.drop (k+1))/S)):=by simp only[B];grind
    omega)
  (by
   rintro out _;unfold II
   dsimp only
   rw[zq (Int.lt_irrefl _)];rfl) 0 (List.replicate l.length 0) (by omega) ⟨LB.zeros _,by simp,fun i _=>by unfold dg;rw[zb7,ze7];split<;>rfl,by rw[EX,zf0];simp[B]⟩
 obtain⟨g1,g2,g3,g4⟩:=h2;rw[List.drop_length,show val []=0 from rfl,Int.zero_ediv,Int.mul_zero,Int.add_zero]at g4;unfold Lw;rw[HZ (by unfold Ab;omega) (by unfold Ab;omega)];simp only[za0];rw[show((0:Nat):Int)=0 from rfl]at h1;rw[h1];simp only[za0];rw[Gx (by unfold Ax;omega)];simp only[za0];rw[Cj g1,g4,hSi]
theorem A5d{a b:List Int}{t:Int}{m:Nat}(hm:b.length=m+1)(hml:m<=1000000)(ht:dg b m=t)(h1:1<=t)(h2:t<65536):
  ∃s:Nat,s<=15/\t*2^s<65536/\Ad (fun(s:((List Int)×((List Int)×Int)))=>Dx s.1 s.2.1 s.2.2) (a,(b,0))=some (a,(b,(s:Int))):=by
 have bound:∀s:Nat,t*2^s<65536->s<=15:=fun s h=>by
  have h3:(2:Int)^s<2^16:=by
   have h4:(1:Int)*2^s<=t*2^s:=za9 h1 (ze2 (Int.pow_pos (by decide)));have h5:(2:Int)^16=65536:=by decide
   omega
  have h5:((2^s:Nat):Int)<((2^16:Nat):Int):=by simpa using h3
  have h6:2^s<2^16:=by omega
  have:=(Nat.pow_lt_pow_iff_right (show 1<2 by decide)).1 h6;omega
 obtain⟨r,g1,s,rfl,g2⟩:=HN (f:=fun(s:((List Int)×((List Int)×Int)))=>Dx s.1 s.2.1 s.2.2)
  (I:=fun x=>∃s:Nat,x=(a,(b,(s:Int)))/\t*2^s<65536) (R:=fun x=>∃s:Nat,x=(a,(b,(s:Int)))/\t*2^s<65536) (fun x=>100-x.2.2.toNat) (by
   rintro x ⟨s,rfl,hs⟩;have hb:=bound s hs;have p0:(0:Int)<2^s:=Int.pow_pos (by decide);have p1:0<=t*2^s:=zf1 (by omega) (by omega);have hsh:SO .i64 t (zi zk (s:Int))=t*2^s:=W8 (by omega) (by omega) (by omega);have hu:zi zk (s:Int)=(s:Int):=YJ (by omega) (by omega);have hd:decide (zi zk (s:Int)<0)=false:=by rw[hu];exact zq (by omega)
   have hg:AI b (zi zj ((b.length:Int)-1))=some t:=by rw[<-ht];exact LN (by rw[Ae (by omega) (by omega)];omega) (by omega)
   simp only;by_cases hc:t*2^s<32768
   ·refine .inl ⟨(a,(b,((s+1:Nat):Int))),?_,⟨s+1,rfl,by rw[Int.pow_succ,<-zg1];omega⟩,by simp only;omega⟩
    unfold Dx;simp only[hg,za0,hd,cond_false,hsh,zp hc,cond_true];rw[AJ (by omega)]
   ·refine .inr ⟨(a,(b,(s:Int))),?_,s,rfl,hs⟩
    unfold Dx;simp only[hg,za0,hd,cond_false,hsh,zq hc]) (a,(b,0)) ⟨0,rfl,by simp;omega⟩
 exact⟨s,bound s g2,g2,g1⟩
theorem A2i{u0 v:List Int}{m:Nat}{bits:Int}(hv:LB v)(hvl:v.length=m+2)(ht:1<=dg v (m+1))(hl:u0.length<=1000000){n:Nat}{out:List Int}(h:Places u0 v m n u0 out):
  ∃u out',Ad (fun(s:((List Int)×((List Int)×((List Int)×(Int×Int)))))=>Cg s.1 s.2.1 s.2.2.1 s.2.2.2.1 s.2.2.2.2) (u0,(v,(out,(bits,(n:Int)-1))))=some (u,(out',bits))/\Places u0 v m 0 u out':=by
 obtain⟨⟨u,out'⟩,h1,h2⟩:=KX (body:=fun(s:((List Int)×((List Int)×((List Int)×(Int×Int)))))=>Cg s.1 s.2.1 s.2.2.1 s.2.2.2.1 s.2.2.2.2)
  (st:=fun n (b:List Int×List Int)=>(b.1,(v,(b.2,(bits,(n:Int)-1))))) (fin:=fun b=>(b.1,(b.2,bits))) (I:=fun n b=>Places u0 v m n b.1 b.2)
  (by
   rintro n ⟨u,out⟩ hI;simp only at hI;have H:=hI.place hv hvl ht;have hle:=hI.le;have hol:=hI.olen;have hul:=hI.len;obtain⟨u',g1,g2,g3,g4,g5⟩:=A2E (out:=out) (bits:=bits) H (by omega) (by omega);refine⟨(u',out.set n (val (u.drop n)/val v)),?_,hI.next H g2 g3 g4 g5⟩
   simp only;rw[show((n+1:Nat):Int)-1=(n:Int) by omega,g1])
  (by
   rintro⟨u,out⟩ _;unfold Cg
   dsimp only
   rw[zq (by omega)];rfl) n (u0,out) h
 exact⟨u,out',h1,h2⟩
theorem Places.start2{u0 v:List Int}{m n:Nat}(hu:LB u0)(hn:u0.length=n+(m+2))(h0:val (u0.drop n)<val v):Places u0 v m n u0 (List.replicate n 0):=
 ⟨rfl,hu,by omega,h0,LB.zeros n,by simp;omega,fun i hi=>by unfold dg;rw[zb7,ze7];split<;>rfl,by rw[EX];omega⟩
set_option maxHeartbeats 1000000 in
theorem QE {a b : Nat} (hb0 : b ≠ 0) (ha : (lim a).length <= 90000) (hb : (lim b).length <= 90000) : EK (lim a) (lim b) = some (lim (a / b), lim (a % b)) := by
 unfold EK;rw [Gx (by unfold Ax; omega)];simp only [za0];rw [Ns (RG a), Oe (by unfold Ax; omega) (by unfold Ax; omega)];simp only [za0];by_cases hab : a < b
 ·rw [DP (by omega)];simp only [show decide ((-1 : Int) < 0) = true from rfl, cond_true];rw [Nat.div_eq_of_lt hab, Nat.mod_eq_of_lt hab, Cc]
 have hc : decide (CQ (a : Int) b < 0) = false := by
  rcases BT (a : Int) b with ⟨h, g⟩ | ⟨h, _⟩ | ⟨h, _⟩
  ·omega
  ·rw [h]; rfl
  ·rw [h]; rfl
 simp only [hc, cond_false];have hbl : (lim b).length ≠ 0 := fun h => hb0 (It.1 (zb2 h))
 by_cases h1 : (lim b).length = 1
 ·obtain ⟨e1, e2, e3⟩ := AI1 h1;rw [e1];simp only [List.length_singleton, show (((1 : Nat) : Int) == 1) = true from rfl, cond_true];rw [show AI [(b : Int)] 0 = some (b : Int) from rfl];simp only [za0];rw [AX6 (by omega) (by omega)];simp only [za0, zc2]
 have hn1 : ((((lim b).length : Nat) : Int) == 1) = false := beq_eq_false_iff_ne.2 (by omega);obtain ⟨m, hm⟩ : ∃ m, (lim b).length = m + 2 := ⟨(lim b).length - 2, by omega⟩;obtain ⟨t1, t2, t3, t4⟩ := UN hb0;rw [hm, show m + 2 - 1 = m + 1 by omega] at t1 t2 t3 t4;generalize ht : dg (lim b) (m + 1) = t at *
 obtain ⟨s, hs1, hs2, hs3⟩ := A5d (a := lim a) (b := lim b) (m := m + 1) (by omega) (by omega) ht t1 t2;obtain ⟨S, T, eS, eT, hST, hS, hT, hS2⟩ := N0 (show s <= 16 by omega);have hSi : ((S : Nat) : Int) = 2 ^ s := by rw [eS]; simp
 obtain ⟨u, hu1, hu2, hu3, hu4⟩ := A0Y (AE a) hs1 (by omega);obtain ⟨v, hv1, hv2, hv3, hv4⟩ := A0Y (AE b) hs1 (by omega);rw [Ar, <- hSi, <- zf7] at hu4 hv4;simp only [hn1, cond_false, hs3, za0, hu1, hv1];rw [Gx (by unfold Ax; omega)];simp only [za0];rw [Cj hv2, hv4, zc2];have hBa : (a : Int) < B (lim a).length := An.1 (za7 _);have lb : (lim (b * S)).length = m + 2 := by
  apply Nat.le_antisymm
  ·rw [An];rw [show ((b * S : Nat) : Int) = (b : Int) * S by simp];rw [<- hSi] at hs2;have e1 : (b : Int) * S < B (m + 1) * (t + 1) * S := Int.mul_lt_mul_of_pos_right t4 (by omega);have hts : (t + 1) * (S : Int) <= 65536 := by
    obtain ⟨d1, d2, d3, d4, d5, d6, d7, d8⟩ := V7 (S := (S : Int)) (T := (T : Int)) (by rw [<- zf7, hST]; rfl) (by omega) (by omega) (show 0 <= t /\ t < 65536 by omega);have d9 : t * S % 65536 = t * S := Int.emod_eq_of_lt (zf1 (by omega) (by omega)) hs2;rw [Int.add_mul, Int.one_mul, <- d9, d1];exact d8
   have e2 : B (m + 1) * ((t + 1) * (S : Int)) <= B (m + 1) * 65536 := zb3 hts (ze2 (FZ _));have e3 : B (m + 1) * (t + 1) * S = B (m + 1) * ((t + 1) * (S : Int)) := zg1 ..
   have e4 : B (m + 2) = B (m + 1) * 65536 := by simp only [B]; omega
   omega
  ·rw [<- hm, An];have h1 : ((b * S : Nat) : Int) < B (lim (b * S)).length := An.1 (za7 _);have : b * 1 <= b * S := Nat.mul_le_mul_left _ (by omega);omega
 have hle : (lim b).length <= (lim a).length := by rw [An]; omega
 have hbS0 : b * S ≠ 0 := Nat.mul_ne_zero hb0 (by omega);have htop := (UN hbS0).1;rw [lb, show m + 2 - 1 = m + 1 by omega] at htop;generalize hn : (lim a).length - (lim b).length + 1 = n at *
 have w0 : zi zj (((lim a).length : Int) - ((lim b).length : Int)) = (n : Int) - 1 := by rw [Ae (by omega) (by omega)]; omega
 rw [w0, Ae (n := (n : Int) - 1 + 1) (by omega) (by omega), show (n : Int) - 1 + 1 = (n : Int) by omega, HZ (by unfold Ab; omega) (by unfold Ab; omega)];simp only [za0];have hless : val (u.drop n) < val (lim (b * S)) := by
  rw [Ar];have h1 := BY u n;have h2 := AP (hu2.take n);rw [hu4] at h1;have h3 : B n * val (u.drop n) <= ((a * S : Nat) : Int) := by omega
  have h4 : ((a * S : Nat) : Int) < B (lim a).length * S := by rw [zf7]; exact Int.mul_lt_mul_of_pos_right hBa (by omega)
  have h5 : (lim a).length = n + (m + 1) := by omega
  rw [h5, Qd] at h4;have h6 : B (m + 1) * S <= ((b * S : Nat) : Int) := by
   rw [zf7];have : B (m + 1) * 1 <= B (m + 1) * t := zb3 t1 (ze2 (FZ _));exact za9 (by omega) (by omega)
  have h7 : B n * (val (u.drop n)) < B n * (B (m + 1) * S) := by rw [<- zg1]; omega
  have h8 := Int.lt_of_mul_lt_mul_left h7 (ze2 (FZ n));omega
 obtain ⟨u', out, hp, P⟩ := A2i (bits := (s : Int)) (AE (b * S)) lb htop (by omega) (Places.start2 (n := n) hu2 (by omega) hless);rw [hp];simp only [za0];obtain ⟨p1, p2⟩ := P.end (AE _);rw [hu4, Ar] at p1 p2;obtain ⟨q1, q2⟩ := W7 (a := a) (b := b) (c := S) (by omega);have p1' : val out = ((a / b : Nat) : Int) := by rw [p1, <- q1]; simp
 have p2' : val u' = ((a % b * S : Nat) : Int) := by rw [p2, <- q2]; simp
 have hul := P.len;have hol := P.olen;rw [Gx (by unfold Ax; omega)];simp only [za0];rw [Gx (by unfold Ax; omega)];simp only [za0];rw [Cj P.lo, Cj P.lu, p1', p2', zc2, zc2, A00 (AE _) hs1 (by
  have : (lim (a % b * S)).length <= m + 2 := by
   rw [<- lb, An];have h1 : ((b * S : Nat) : Int) < B (lim (b * S)).length := An.1 (za7 _);have := Nat.mul_lt_mul_of_pos_right (Nat.mod_lt a (show b > 0 by omega)) (show S > 0 by omega);omega
  omega), Ar]
 simp only [za0];rw [<- hSi, zf7, Int.mul_ediv_cancel _ (by omega), zc2]
end
section
open Go
theorem GQ(n:Nat):big (n:Int)=(false,lim n):=by unfold big;rw[zq (by omega),ze9]
theorem Ac0(n:Nat):big (-(n:Int))=(decide (n≠0),lim n):=by unfold big;congr 1;exact decide_eq_decide.2 (by omega);congr 1;omega
theorem Ag7(x y:Int):((!(decide (x<0)==decide (y<0)))&&decide (x.natAbs/y.natAbs≠0),lim (x.natAbs/y.natAbs))=big (x.tdiv y):=by
 rcases Int.lt_or_le x 0 with hx|hx
 ·obtain⟨a,rfl⟩:∃a:Nat,x= -(a:Int):=⟨x.natAbs,by omega⟩;rcases Int.lt_or_le y 0 with hy|hy
  ·obtain⟨b,rfl⟩:∃b:Nat,y= -(b:Int):=⟨y.natAbs,by omega⟩;rw[Int.neg_tdiv,Int.tdiv_neg,Int.neg_neg,<-Int.ofNat_tdiv,GQ,zp hx,zp hy,Int.natAbs_neg,Int.natAbs_neg];rfl
  ·obtain⟨b,rfl⟩:∃b:Nat,y=(b:Int):=⟨y.natAbs,by omega⟩;rw[Int.neg_tdiv,<-Int.ofNat_tdiv,Ac0,zp hx,zq (show ¬(b:Int)<0 by omega),Int.natAbs_neg];rfl
 ·obtain⟨a,rfl⟩:∃a:Nat,x=(a:Int):=⟨x.natAbs,by omega⟩;rcases Int.lt_or_le y 0 with hy|hy
  ·obtain⟨b,rfl⟩:∃b:Nat,y= -(b:Int):=⟨y.natAbs,by omega⟩;rw[Int.tdiv_neg,<-Int.ofNat_tdiv,Ac0,zq (show ¬(a:Int)<0 by omega),zp hy,Int.natAbs_neg];rfl
  ·obtain⟨b,rfl⟩:∃b:Nat,y=(b:Int):=⟨y.natAbs,by omega⟩;rw[<-Int.ofNat_tdiv,GQ,zq (show ¬(a:Int)<0 by omega),zq (show ¬(b:Int)<0 by omega)];rfl
theorem Ao2(x y:Int):(decide (x<0)&&decide (x.natAbs%y.natAbs≠0),lim (x.natAbs%y.natAbs))=big (x.tmod y):=by
 have hy:x.tmod y=x.tmod (y.natAbs:Int):=by
  rcases Int.natAbs_eq y with h|h
  ·rw[<-h]
  ·rw[h,Int.tmod_neg,Int.natAbs_neg,ze9]
 rw[hy];rcases Int.lt_or_le x 0 with hx|hx
 ·obtain⟨a,rfl⟩:∃a:Nat,x= -(a:Int):=⟨x.natAbs,by omega⟩;rw[Int.neg_tmod,<-Int.ofNat_tmod,Ac0,zp hx,Int.natAbs_neg];rfl
 ·obtain⟨a,rfl⟩:∃a:Nat,x=(a:Int):=⟨x.natAbs,by omega⟩;rw[<-Int.ofNat_tmod,GQ,zq (show ¬(a:Int)<0 by omega)];rfl
theorem I4{a b:Nat}(h:a<=b):(lim a).length<=(lim b).length:=An.2 (Int.lt_of_le_of_lt (by omega) (An.1 (za7 (lim b).length)))
section
variable {x y:Int} {k:Nat}
theorem Ll(hk:k<=90000)(hx:(x.natAbs:Int)<B k)(hy:(y.natAbs:Int)<B k)(h0:y≠0):F9 (big x) (big y)=some (big (x.tdiv y),big (x.tmod y)):=by
 have lx:=ze5 (An.2 hx) hk;have ly:=ze5 (An.2 hy) hk;have l1:=I4 (Nat.div_le_self x.natAbs y.natAbs);have l2:=I4 (Nat.mod_le x.natAbs y.natAbs);unfold F9;rw[show(big x).2=lim x.natAbs from rfl,show(big y).2=lim y.natAbs from rfl,Vg (by omega) lx ly];simp only[za0];rw[HI (AE _) (by unfold Ax;omega),HI (AE _) (by unfold Ax;omega),Ar,Ar,zc2,zc2];simp only[za0];rw[show(big x).1=decide (x<0)from rfl,show(big y).1=decide (y<0)from rfl,Ag7,Ao2]
theorem Z5(hk:k<=90000)(hx:(x.natAbs:Int)<B k)(hy:(y.natAbs:Int)<B k)(h0:y≠0):IR (big x) (big y)=some (big (x.tdiv y),big (x.tmod y)):=by
 have lx:=ze5 (An.2 hx) hk;have ly:=ze5 (An.2 hy) hk;have l1:=I4 (Nat.div_le_self x.natAbs y.natAbs);have l2:=I4 (Nat.mod_le x.natAbs y.natAbs);unfold IR;rw[show(big x).2=lim x.natAbs from rfl,show(big y).2=lim y.natAbs from rfl,QE (by omega) lx ly];simp only[za0];rw[Fm (AE _) (by unfold Ax;omega),Fm (AE _) (by unfold Ax;omega),Ar,Ar,zc2,zc2];simp only[za0];rw[show(big x).1=decide (x<0)from rfl,show(big y).1=decide (y<0)from rfl,Ag7,Ao2]
end
theorem TO{b:Nat}(h:b≠0):decide ((((lim b).length:Nat):Int)>0)=true:=by rw[NI,KC];simp[h]
theorem AF2(s:Bool×List Int):∀(n a b:Nat),b<n->(lim a).length<=90000->(lim b).length<=90000->
  Ad (fun(s:((Bool×(List Int))×((List Int)×(List Int))))=>HD s.1 s.2.1 s.2.2) (s,(lim a,lim b))=some (s,lim (Nat.gcd a b)):=by
 intro n
 induction n with
 |zero=>intro a b h;omega
 |succ n ih=>
  intro a b h ha hb;by_cases h0:b=0
  ·subst h0;rw[Nat.gcd_zero_right];refine Aj ?_
   unfold HD;rw[Cc];rfl
  ·have hm:=Nat.mod_lt a (show b>0 by omega);rw[AM (s':=(s,(lim b,lim (a%b))))]
   ·rw[ih b (a%b) (by omega) hb (ze5 (I4 (Nat.mod_le _ _)) ha),Nat.gcd_comm b,<-Nat.gcd_rec,Nat.gcd_comm b]
   ·unfold HD
    dsimp only
    rw[TO h0,Vg h0 ha hb];rfl
theorem AE7:∀(n a b:Nat),b<n->(lim a).length<=90000->(lim b).length<=90000->
  Ad (fun(s:((List Int)×(List Int)))=>Km s.1 s.2) (lim a,lim b)=some (lim (Nat.gcd a b)):=by
 intro n
 induction n with
 |zero=>intro a b h;omega
 |succ n ih=>
  intro a b h ha hb;by_cases h0:b=0
  ·subst h0;rw[Nat.gcd_zero_right];refine Aj ?_
   unfold Km;rw[Cc];rfl
  ·have hm:=Nat.mod_lt a (show b>0 by omega);rw[AM (s':=(lim b,lim (a%b)))]
   ·rw[ih b (a%b) (by omega) hb (ze5 (I4 (Nat.mod_le _ _)) ha),Nat.gcd_comm b,<-Nat.gcd_rec,Nat.gcd_comm b]
   ·unfold Km
    dsimp only
    rw[TO h0,QE h0 ha hb];rfl
theorem AG6{a b:Nat}(ha:(lim a).length<=90000)(hb:(lim b).length<=90000):(lim (Nat.gcd a b)).length<=90000:=by
 by_cases h:a=0
 ·subst h;rw[Nat.gcd_zero_left];exact hb
 ·exact ze5 (I4 (Nat.gcd_le_left b (by omega))) ha
section
variable {x y:Int} {k:Nat}
theorem Zn(hk:k<=90000)(hx:(x.natAbs:Int)<B k)(hy:(y.natAbs:Int)<B k):HV (big x) (big y)=some (big (Int.gcd x y:Nat)):=by
 have lx:=ze5 (An.2 hx) hk;have ly:=ze5 (An.2 hy) hk;have lg:=AG6 lx ly;unfold HV;rw[show(big x).2=lim x.natAbs from rfl,show(big y).2=lim y.natAbs from rfl,AF2 _ _ _ _ (Nat.lt_succ_self _) lx ly];simp only[za0];rw[HI (AE _) (by unfold Ax;omega),Ar,zc2,GQ];rfl
theorem AJ5(hk:k<=90000)(hx:(x.natAbs:Int)<B k)(hy:(y.natAbs:Int)<B k):KG (big x).2 (big y).2=some (lim (Int.gcd x y)):=by
 have lx:=ze5 (An.2 hx) hk;have ly:=ze5 (An.2 hy) hk;have lg:=AG6 lx ly;unfold KG;rw[show(big x).2=lim x.natAbs from rfl,show(big y).2=lim y.natAbs from rfl,AE7 _ _ _ (Nat.lt_succ_self _) lx ly];simp only[za0];rw[Gx (by unfold Ax;omega)];simp only[za0];rw[Ns (RG _)];rfl
end
theorem Rb{l:List Int}(neg:Bool)(hl:LB l)(hv:val l<=4611686018427387904)(hn:l.length<=1000):
  Ad (fun(s:((Bool×(List Int))×(Int×Int)))=>EV s.1 s.2.1 s.2.2) ((neg,l),(0,(l.length:Int)-1))=some ((neg,l),val l):=by
 obtain⟨n,h1,h2⟩:=KX (body:=fun(s:((Bool×(List Int))×(Int×Int)))=>EV s.1 s.2.1 s.2.2)
  (st:=fun k (b:Int)=>((neg,l),(b,(k:Int)-1))) (fin:=fun b=>((neg,l),b)) (I:=fun k b=>k<=l.length/\b=val (l.drop k))
  (by
   rintro k b ⟨hk,rfl⟩;have hkl:k<l.length:=by omega
   have hx:=A7 hl k;have e1:=CC l k;have e2:=AP (hl.drop (k+1));have e3:=BY l k;have e4:=AP (hl.take k);have e5:val (l.drop k)<=B k*val (l.drop k):=by
    have:=za9 (show 1<=B k by have:=FZ k;omega) (AP (hl.drop k));omega
   refine⟨val (l.drop k),?_,by omega,rfl⟩
   unfold EV
   dsimp only
   rw[zp (by omega),show((k+1:Nat):Int)-1=(k:Int) by omega,Ah,Al hkl];simp only[cond_true,za0];rw[Ae (n:=val (l.drop (k+1))*65536) (by omega) (by omega),Ae (n:=val (l.drop (k+1))*65536+dg l k) (by omega) (by omega),Ae (n:=(k:Int)-1) (by omega) (by omega),e1,show val (l.drop (k+1))*65536+dg l k=dg l k+65536*val (l.drop (k+1)) by omega])
  (by
   rintro b _;unfold EV;rfl) l.length 0 ⟨za7 _,by rw[List.drop_length];rfl⟩
 rw[zf0]at h2;rw[<-h2.2];exact h1
theorem Ad7{l:List Int}(neg:Bool)(hl:LB l)(hv:val l<=4611686018427387904)(hn:l.length<=1000):
  Ad (fun(s:((Bool×(List Int))×(Int×Int)))=>Ki s.1 s.2.1 s.2.2) ((neg,l),(0,(l.length:Int)-1))=some ((neg,l),val l):=by
 have:(fun(s:((Bool×(List Int))×(Int×Int)))=>Ki s.1 s.2.1 s.2.2)=fun(s:((Bool×(List Int))×(Int×Int)))=>EV s.1 s.2.1 s.2.2:=by
  funext s;unfold Ki EV;rfl
 rw[this];exact Rb neg hl hv hn
def Pd(z:Int):Int×Bool:=if z.natAbs<=4611686018427387904 then(z,true)else(0,false)
theorem AM0(T:Nat):(big (T:Int)).2=lim T:=by rw[GQ]
theorem Ai2{z:Int}{T:Nat}(hT:T=4611686018427387904):Pd z=if z.natAbs<=T then(z,true)else(0,false):=by rw[hT];rfl
theorem A1U{z:Int}{T:Nat}(hT:T=4611686018427387904)(hz:(z.natAbs:Int)<B 40):IQ (big z)=some (Pd z):=by
 have lz:=An.2 hz;have hB4:B 4=18446744073709551616:=rfl;rw[Ai2 hT];unfold IQ;rw[show(4611686018427387904:Int)=(T:Int) by omega];rw[Su (by unfold big Ax;dsimp only;omega),IS hz,UW (by omega) (by omega)];simp only[za0,zg0,cond_false];rw[show(big z).2=lim z.natAbs from rfl,AM0,Gq (by unfold Ax;omega) (by unfold Ax;have:= @Aq6 T (by omega);omega)];simp only[za0];by_cases h:z.natAbs<=T
 ·have hc:decide (CQ (z.natAbs:Int) (T:Int)>0)=false:=by
   rcases BT (z.natAbs:Int) (T:Int)with⟨g,_⟩|⟨g,_⟩|⟨g,_⟩
   ·rw[g];rfl
   ·omega
   ·rw[g];rfl
  rw[hc,zr h,Ae (by omega) (by omega),show big z=(decide (z<0),lim z.natAbs)from rfl];simp only[cond_false];rw[Rb _ (AE _) (by rw[Ar];omega) (by omega),Ar];simp only[za0];by_cases hn:z<0
  ·rw[zp hn,Ae (by omega) (by omega)];simp only[cond_true];rw[show(0:Int)-(z.natAbs:Int)=z by omega]
  ·rw[zq hn];simp only[cond_false];rw[show(z.natAbs:Int)=z by omega]
 ·have hc:decide (CQ (z.natAbs:Int) (T:Int)>0)=true:=by rw[FC (by omega)];rfl
  rw[hc,zw h];rfl
theorem A1K{z:Int}{T:Nat}(hT:T=4611686018427387904)(hz:(z.natAbs:Int)<B 40):KY (big z)=some (Pd z):=by
 have lz:=An.2 hz;have hB4:B 4=18446744073709551616:=rfl;rw[Ai2 hT];unfold KY;rw[show(4611686018427387904:Int)=(T:Int) by omega];rw[RY (by unfold big Ax;dsimp only;omega),IS hz,Qa (by omega) (by omega)];simp only[za0,zg0,cond_false];rw[show(big z).2=lim z.natAbs from rfl,AM0];by_cases h4:(lim z.natAbs).length>4
 ·rw[zp (by omega)];have:¬z.natAbs<=T:=fun h=>by
   have:= @Aq6 z.natAbs (by omega);omega
  rw[zw this];rfl
 rw[zq (by omega),Oe (by unfold Ax;omega) (by unfold Ax;have:= @Aq6 T (by omega);omega)];simp only[za0,cond_false];by_cases h:z.natAbs<=T
 ·have hc:decide (CQ (z.natAbs:Int) (T:Int)>0)=false:=by
   rcases BT (z.natAbs:Int) (T:Int)with⟨g,_⟩|⟨g,_⟩|⟨g,_⟩
   ·rw[g];rfl
   ·omega
   ·rw[g];rfl
  rw[hc,zr h,Ae (by omega) (by omega),show big z=(decide (z<0),lim z.natAbs)from rfl];simp only[cond_false];rw[Ad7 _ (AE _) (by rw[Ar];omega) (by omega),Ar];simp only[za0];by_cases hn:z<0
  ·rw[zp hn,Ae (by omega) (by omega)];simp only[cond_true];rw[show(0:Int)-(z.natAbs:Int)=z by omega]
  ·rw[zq hn];simp only[cond_false];rw[show(z.natAbs:Int)=z by omega]
 ·have hc:decide (CQ (z.natAbs:Int) (T:Int)>0)=true:=by rw[FC (by omega)];rfl
  rw[hc,zw h];rfl
theorem A3u{z:Int}(hz:(z.natAbs:Int)<B 40):IQ (big z)=some (Pd z):=A1U rfl hz
theorem A2N{z:Int}(hz:(z.natAbs:Int)<B 40):KY (big z)=some (Pd z):=A1K rfl hz
end
section
open Go
section
variable {x y:Int} (hx:(x.natAbs:Int)<B 40) (hy:(y.natAbs:Int)<B 40)
include hx hy
end
section
variable {a b:Bool×List Int} (ha:Ax a.2) (hb:Ax b.2) (h:(F3 a&&F3 b)=false)
include ha hb h
end
end
section
open Go
end
section
open Go
def rq(q:Rat):(Bool×List Int)×(Bool×List Int):=(big q.num,big (q.den:Int))
theorem A0O{p q:Rat}(h:rq p=rq q):p=q:=by
 have h1:=AG1 (congrArg Prod.fst h);have h2:=AG1 (congrArg Prod.snd h);exact Rat.ext h1 (by exact_mod_cast h2)
theorem Lq{x y:Int}(hy:y≠0):x.tdiv (if y<0 then-((Int.gcd x y:Nat):Int)else(Int.gcd x y:Nat))=(Rat.divInt x y).num/\y.tdiv (if y<0 then-((Int.gcd x y:Nat):Int)else(Int.gcd x y:Nat))=((Rat.divInt x y).den:Int):=by
 have d1:((Int.gcd x y:Nat):Int)∣x:=Int.gcd_dvd_left ..
 have d2:((Int.gcd x y:Nat):Int)∣y:=Int.gcd_dvd_right ..
 rw[Rat.num_divInt,Rat.den_divInt,zw hy,Int.gcd_comm y x];generalize Int.gcd x y=n at*
 obtain⟨a,rfl⟩:=d1;obtain⟨b,rfl⟩:=d2;have hn:n≠0:=by rintro rfl;simp at hy
 have hn':(n:Int)≠0:=by omega
 have hb:b≠0:=by rintro rfl;simp at hy
 have hsg:((n:Int)*b<0)↔b<0:=by
  constructor
  ·intro h;rcases Int.lt_or_le b 0 with g|g
   ·exact g
   ·exact absurd (zf1 (show(0:Int)<=(n:Int) by omega) g) (by omega)
  ·intro h;exact Int.mul_neg_of_pos_of_neg (by omega) h
 rw[Int.natAbs_mul,ze9,Nat.mul_div_cancel_left _ (by omega)];by_cases h:b<0
 ·rw[zr (hsg.2 h),Int.sign_eq_neg_one_of_neg (hsg.2 h),Int.tdiv_neg,Int.tdiv_neg,Int.mul_tdiv_cancel_left _ hn',Int.mul_tdiv_cancel_left _ hn',
   show(-1:Int)*((n:Int)*a)=(n:Int)*(-a) by rw[Int.mul_neg,Int.neg_mul,Int.one_mul],Int.mul_ediv_cancel_left _ hn']
  exact⟨rfl,by omega⟩
 ·have h':¬(n:Int)*b<0:=fun g=>h (hsg.1 g)
  have hp:0<(n:Int)*b:=by omega
  rw[zw h',Int.sign_eq_one_of_pos hp,Int.mul_tdiv_cancel_left _ hn',Int.mul_tdiv_cancel_left _ hn',Int.one_mul,Int.mul_ediv_cancel_left _ hn'];exact⟨rfl,by omega⟩
def Sz(k:Nat)(q:Rat):Prop:=(q.num.natAbs:Int)<B k/\(q.den:Int)<B k
instance (k:Nat) (q:Rat):Decidable (Sz k q):=by unfold Sz;infer_instance
theorem Sz.mono{k m:Nat}{q:Rat}(h:Sz k q)(hkm:k<=m):Sz m q:=by
 have:=JI hkm;unfold Sz at*
 omega
theorem OH(x g:Int):(x.tdiv g).natAbs<=x.natAbs:=by rw[Int.natAbs_tdiv];exact Nat.div_le_self _ _
theorem Sj{x y:Int}{k:Nat}(hx:(x.natAbs:Int)<B k)(hy:(y.natAbs:Int)<B k)(h0:y≠0):Sz k (Rat.divInt x y):=by
 obtain⟨h1,h2⟩:=Lq (x:=x) h0;have a1:=OH x (if y<0 then-((Int.gcd x y:Nat):Int)else(Int.gcd x y:Nat));have a2:=OH y (if y<0 then-((Int.gcd x y:Nat):Int)else(Int.gcd x y:Nat));rw[h1]at a1;rw[h2]at a2;unfold Sz;omega
theorem A0C(p q:Rat):p+q=Rat.divInt (p.num*q.den+q.num*p.den) ((p.den:Int)*(q.den:Int)):=by
 rw[Rat.add_def',<-Rat.divInt_ofNat,zf7]
theorem A1f(p q:Rat):p*q=Rat.divInt (p.num*q.num) ((p.den:Int)*(q.den:Int)):=by
 rw[Rat.mul_def',<-Rat.divInt_ofNat,zf7]
theorem A0g(p q:Rat):p/q=Rat.divInt (p.num*q.den) ((p.den:Int)*q.num):=by
 rw[Rat.div_def,Rat.inv_def]
 conv=>lhs;lhs;rw[<-Rat.num_divInt_den p]
 rw[Rat.divInt_mul_divInt]
theorem Ie{x y:Int}{k m:Nat}(hx:(x.natAbs:Int)<B k)(hy:(y.natAbs:Int)<B m):((x*y).natAbs:Int)<B (k+m):=by
 rw[Int.natAbs_mul];exact A6f hx hy
theorem A6b{x y:Int}{k:Nat}(hx:(x.natAbs:Int)<B k)(hy:(y.natAbs:Int)<B k):((x+y).natAbs:Int)<B (k+1):=by
 have h1:B (k+1)=65536*B k:=by rw[Qd,zf9];rfl
 have:=FZ k;omega
theorem Co{n:Nat}{k:Nat}(h:(n:Int)<B k):(((n:Int)).natAbs:Int)<B k:=by rw[ze9];exact h
theorem A21{x:Int}{k:Nat}(h:(x.natAbs:Int)<B k):((-x).natAbs:Int)<B k:=by rw[Int.natAbs_neg];exact h
theorem upB{x:Int}{k m:Nat}(h:(x.natAbs:Int)<B k)(hkm:k<=m):(x.natAbs:Int)<B m:=Int.lt_of_lt_of_le h (JI hkm)
section
variable {p q:Rat} {k m:Nat} (hp:Sz k p) (hq:Sz m q)
include hp hq
theorem Js:Sz (k+m) (p*q):=by
 rw[A1f];exact Sj (Ie hp.1 hq.1) (Ie (Co hp.2) (Co hq.2)) (by have:=p.den_nz;have:=q.den_nz;intro h;rcases Int.mul_eq_zero.1 h with h|h<;>omega)
theorem Sg:((p.num*(q.den:Int)+q.num*(p.den:Int)).natAbs:Int)<B (k+m+1):=
 A6b (Ie hp.1 (Co hq.2)) (by rw[Nat.add_comm];exact Ie hq.1 (Co hp.2))
theorem PF:Sz (k+m+1) (p+q):=by
 rw[A0C];exact Sj (Sg hp hq) (upB (Ie (Co hp.2) (Co hq.2)) (by omega)) (by have:=p.den_nz;have:=q.den_nz;intro h;rcases Int.mul_eq_zero.1 h with h|h<;>omega)
theorem Ae9(h0:q≠0):Sz (k+m) (p/q):=by
 rw[A0g];exact Sj (Ie hp.1 (Co hq.2)) (Ie (Co hp.2) hq.1) (by
  have:=p.den_nz;have hn:q.num≠0:=fun h=>h0 (Rat.num_eq_zero.1 h)
  intro h;rcases Int.mul_eq_zero.1 h with h|h<;>omega)
end
theorem AB2{p:Rat}{k:Nat}(hp:Sz k p):Sz k (-p):=⟨A21 hp.1,hp.2⟩
theorem I8{p q:Rat}{k m:Nat}(hp:Sz k p)(hq:Sz m q):Sz (k+m+1) (p-q):=by rw[Rat.sub_eq_add_neg];exact PF hp (AB2 hq)
theorem B1:B 1=65536:=rfl
theorem Ab3{z:Int}{k:Nat}(h:(z.natAbs:Int)<B k)(hk:1<=k):Sz k (z:Rat):=⟨h,by
 rw[Rat.den_intCast];have:=JI hk;rw[B1]at this;omega⟩
def QJ(p q:Rat):Int:=if p<q then-1 else if q<p then 1 else 0
theorem AH5(p q:Rat):CQ (p.num*(q.den:Int)) (q.num*(p.den:Int))=QJ p q:=by
 unfold CQ QJ;simp only[Rat.lt_iff]
theorem AJ4{p q:Rat}:QJ p q<0↔p<q:=by
 unfold QJ;split
 ·simp[*]
 ·split<;>simp[*]
theorem Ka{p q:Rat}:0<QJ p q↔q<p:=by
 unfold QJ;split
 ·rename_i h;simp;exact Rat.not_lt.2 (Rat.le_of_lt h)
 ·split<;>simp[*]
theorem TG{x d:Int}(hd:0<d):(if x.tmod d<0 then x.tdiv d-1 else x.tdiv d)=x/d:=by
 have h1:=Int.mul_tdiv_add_tmod x d;have h2:=Int.natAbs_tmod x d;have h3:(x.tmod d).natAbs<d.natAbs:=by rw[h2];exact Nat.mod_lt _ (by omega)
 have h4:x=(if x.tmod d<0 then x.tmod d+d else x.tmod d)+d*(if x.tmod d<0 then x.tdiv d-1 else x.tdiv d):=by
  split
  ·rw[Int.mul_sub];omega
  ·omega
 conv=>rhs;rw[h4]
 rw[Int.add_mul_ediv_left _ _ (by omega),Int.ediv_eq_zero_of_lt (by split<;>omega) (by split<;>omega),Int.zero_add]
def Ca(a:(Bool×List Int)×(Bool×List Int)):Bool:=F3 a.1&&F3 a.2&&((!a.2.1&& !a.2.2.isEmpty)&&decide (Nat.gcd (val a.1.2).toNat (val a.2.2).toNat=1))
theorem K0{a:(Bool×List Int)×(Bool×List Int)}:Ca a=true↔∃q:Rat,Sz 40 q/\a=rq q:=by
 unfold Ca;constructor
 ·intro h;simp only[za2,decide_eq_true_eq]at h;obtain⟨⟨h1,h2⟩,⟨h3,h4⟩,h5⟩:=h;obtain⟨x,hx,e1⟩:=Hk.1 h1;obtain⟨y,hy,e2⟩:=Hk.1 h2;rw[e2]at h3 h4 h5;rw[e1]at h5;unfold big at h3 h4 h5;simp only[Ar,zc2]at h5;simp only[zf4,decide_eq_false_iff_not]at h3;simp only[zf4]at h4;have h6:y≠0:=by
   rintro rfl;rw[show(0:Int).natAbs=0 from rfl,Cc]at h4;simp at h4
  refine⟨⟨x,y.natAbs,by omega,h5⟩,⟨hx,by show((y.natAbs:Nat):Int)<B 40;exact hy⟩,?_⟩
  unfold rq;rw[<-e1];refine Prod.ext rfl ?_
  rw[e2];show big y=big ((y.natAbs:Nat):Int)
  congr 1
  omega
 ·rintro⟨q,h,rfl⟩;unfold rq;have hd:=q.den_nz;have hb:=IS h.1;have hb2:=IS (Co h.2);simp only[hb,hb2,ze1];unfold big;simp only[Ar,zc2,ze9,za2,decide_eq_true_eq,zf4,decide_eq_false_iff_not];refine⟨⟨by omega,?_⟩,q.reduced⟩
  have:=KC q.den;rw[zp hd]at this;simpa using this
theorem Rf{q:Rat}(h:Sz 40 q):Ca (rq q)=true:=K0.2 ⟨q,h,rfl⟩
end
section
open Go
abbrev RF:=Bool×(List Int×(Bool×List Int))
def rqF(q:Rat):RF:=((big q.num).1,((big q.num).2,((big (q.den:Int)).1,(big (q.den:Int)).2)))
def zF:RF:=(false,([],(false,[])))
theorem UD(q:Rat):((rqF q).1,(rqF q).2.1)=big q.num:=(rfl)
theorem XW(q:Rat):((rqF q).2.2.1,(rqF q).2.2.2)=big (q.den:Int):=(rfl)
theorem OT(q:Rat):(rqF q).2.2=big (q.den:Int):=(rfl)
theorem AU(a:RF):(a.1,(a.2.1,(a.2.2.1,a.2.2.2)))=a:=(rfl)
theorem AM2{x y:Int}{k:Nat}(hy:(y.natAbs:Int)<B k)(h0:y≠0):(((Int.gcd x y:Nat):Int).natAbs:Int)<B k:=by
 rw[ze9];have:Int.gcd x y<=y.natAbs:=Nat.le_of_dvd (by omega) (Nat.gcd_dvd_right ..);omega
theorem AZ9{x y:Int}(h0:y≠0):((Int.gcd x y:Nat):Int)≠0:=by
 have:0<Int.gcd x y:=Nat.gcd_pos_of_pos_right _ (by omega);omega
theorem Hc{x:Int}{k:Nat}(hk:k<=1000000)(h:(x.natAbs:Int)<B k):Ax (big x).2:=by
 have:=An.2 h;unfold big Ax;dsimp only;omega
theorem N4(x:Int)(s:Bool):(lim (val (big x).2).toNat,s&&decide ((val (big x).2).toNat≠0))=(lim x.natAbs,s&&decide (x≠0)):=by
 unfold big;simp only[Ar,zc2]
 congr 2
 exact decide_eq_decide.2 (by omega)
theorem Rx{x:Int}{k:Nat}(hk:k<=1000000)(h:(x.natAbs:Int)<B k):F4 (big x)=some (big (-x)):=by
 unfold F4;rw[HI (show LB (big x).2 from AE _) (Hc hk h),N4];simp only[za0]
 congr 1
 unfold big;simp only;refine Prod.ext ?_ (by simp)
 simp only;by_cases h0:x<0
 ·rw[zp h0];simp;omega
 ·rw[zq h0];simp only[Bool.not_false,ze1];exact decide_eq_decide.2 (by omega)
theorem US{x:Int}{k:Nat}(hk:k<=1000000)(h:(x.natAbs:Int)<B k):Hl (big x)=some (big (-x)):=by
 unfold Hl;rw[Fm (show LB (big x).2 from AE _) (Hc hk h),N4];simp only[za0]
 congr 1
 unfold big;simp only;refine Prod.ext ?_ (by simp)
 simp only;by_cases h0:x<0
 ·rw[zp h0];simp;omega
 ·rw[zq h0];simp only[Bool.not_false,ze1];exact decide_eq_decide.2 (by omega)
theorem AM7{x:Int}{k:Nat}(hk:k<=1000000)(h:(x.natAbs:Int)<B k):Bg (big x).1 (big x).2=some ((big x).2,(big x).1):=by
 rw[HI (show LB (big x).2 from AE _) (Hc hk h),N4]
 congr 1
 unfold big;simp only;refine Prod.ext rfl ?_
 simp only;by_cases h0:x<0
 ·rw[zp h0];simp;omega
 ·rw[zq h0];rfl
theorem UX{n:Nat}{k:Nat}(hk:k<=1000000)(h:(n:Int)<B k):Bg false (big (n:Int)).2=some ((big (n:Int)).2,(big (n:Int)).1):=by
 have:=AM7 (x:=(n:Int)) hk (Co h)
 rwa[show(big (n:Int)).1=false by rw[GQ]]at this⊢
theorem Ye{x:Int}{k:Nat}(hk:k<=1000000)(h:(x.natAbs:Int)<B k):Bq (big x).1 (big x).2=some ((big x).2,(big x).1):=by
 rw[Fm (show LB (big x).2 from AE _) (Hc hk h),N4]
 congr 1
 unfold big;simp only;refine Prod.ext rfl ?_
 simp only;by_cases h0:x<0
 ·rw[zp h0];simp;omega
 ·rw[zq h0];rfl
theorem Zi{n:Nat}{k:Nat}(hk:k<=1000000)(h:(n:Int)<B k):Bq false (big (n:Int)).2=some ((big (n:Int)).2,(big (n:Int)).1):=by
 have:=Ye (x:=(n:Int)) hk (Co h)
 rwa[show(big (n:Int)).1=false by rw[GQ]]at this⊢
theorem Ae6{x y:Int}{k:Nat}(hk:k<=90000)(hx:(x.natAbs:Int)<B k)(hy:(y.natAbs:Int)<B k)(h0:y≠0):IT (big x) (big y)=some (rqF (Rat.divInt x y)):=by
 obtain⟨p1,p2⟩:=Lq (x:=x) h0;have hg:=AM2 (x:=x) hy h0;have hg0:=AZ9 (x:=x) h0;unfold IT;simp only[AT,Zn hk hx hy,za0];rw[show(big y).1=decide (y<0)from rfl];by_cases hn:y<0
 ·rw[zr hn]at p1 p2;rw[zp hn];simp only[cond_true,Rx (show k<=1000000 by omega) hg,za0,za8,Ll hk hx (A21 hg) (by omega),Ll hk hy (A21 hg) (by omega),p1,p2];rfl
 ·rw[zw hn]at p1 p2;rw[zq hn];simp only[cond_false,za0,za8,Ll hk hx hg hg0,Ll hk hy hg hg0,p1,p2];rfl
theorem VS(q:Rat):(q.den:Int)≠0:=by have:=q.den_nz;omega
theorem Mh(p q:Rat):(p.den:Int)*(q.den:Int)≠0:=fun h=>by rcases Int.mul_eq_zero.1 h with h|h<;>exact VS _ h
theorem Ax9{x y:Int}{k:Nat}(hk:k<=1000000)(hx:(x.natAbs:Int)<B k)(hy:(y.natAbs:Int)<B k):IF (big x) (big y)=some (CQ x y):=by
 have lx:=F7 hx hk;have ly:=F7 hy hk;have e1:=Oe (a:=x.natAbs) (b:=y.natAbs) (by unfold Ax;omega) (by unfold Ax;omega);have e2:=Oe (a:=y.natAbs) (b:=x.natAbs) (by unfold Ax;omega) (by unfold Ax;omega);unfold IF;rw[show(big x).1=decide (x<0)from rfl,show(big y).1=decide (y<0)from rfl,show(big x).2=lim x.natAbs from rfl,show(big y).2=lim y.natAbs from rfl,e1,e2];by_cases h1:x<0
 ·by_cases h2:y<0
  ·rw[zp h1,zp h2];simp only[cond_true,cond_false,zg0,za0]
   congr 1
   rcases BT x y with⟨e,h⟩|⟨e,h⟩|⟨e,h⟩
   ·rw[e];exact DP (by omega)
   ·rw[e];exact FC (by omega)
   ·rw[e,h];exact Oi _
  ·rw[zp h1,zq h2,DP (show x<y by omega)];rfl
 ·by_cases h2:y<0
  ·rw[zq h1,zp h2,FC (show y<x by omega)];rfl
  ·rw[zq h1,zq h2];simp only[cond_true,cond_false,Bool.not_false,za0]
   congr 1
   rcases BT x y with⟨e,h⟩|⟨e,h⟩|⟨e,h⟩
   ·rw[e];exact DP (by omega)
   ·rw[e];exact FC (by omega)
   ·rw[e,h];exact Oi _
section
variable {p q:Rat} {k:Nat} (hk:k<=20000) (hp:Sz k p) (hq:Sz k q)
include hk hp hq
theorem IX:CM (rqF p) (rqF q)=some (rqF (p+q)):=by
 obtain⟨r1,a1,b1⟩:=DF (k:=k) (by omega) hp.1 (Co hq.2);obtain⟨r2,a2,b2⟩:=DF (k:=k) (by omega) hq.1 (Co hp.2);obtain⟨r3,a3,b3⟩:=DF (k:=k) (by omega) (Co hp.2) (Co hq.2);unfold CM;simp only[UD,XW,OT,a1,a2,a3,b1,b2,b3,za0];rw[Zp (k:=k+k) (by omega) (Ie hp.1 (Co hq.2)) (Ie hq.1 (Co hp.2))];simp only[za0,AT];rw[Ae6 (k:=k+k+1) (by omega) (Sg hp hq) (upB (Ie (Co hp.2) (Co hq.2)) (by omega)) (Mh p q),<-A0C];rfl
theorem Hi:Ct (rqF p) (rqF q)=some (rqF (p*q)):=by
 obtain⟨r1,a1,b1⟩:=DF (k:=k) (by omega) hp.1 hq.1;obtain⟨r3,a3,b3⟩:=DF (k:=k) (by omega) (Co hp.2) (Co hq.2);unfold Ct;simp only[UD,XW,OT,a1,a3,b1,b3,za0];rw[Ae6 (k:=k+k) (by omega) (Ie hp.1 hq.1) (Ie (Co hp.2) (Co hq.2)) (Mh p q),<-A1f];rfl
theorem Sx(h0:q≠0):FX (rqF p) (rqF q)=some (rqF (p/q)):=by
 obtain⟨r1,a1,b1⟩:=DF (k:=k) (by omega) hp.1 (Co hq.2);obtain⟨r3,a3,b3⟩:=DF (k:=k) (by omega) (Co hp.2) hq.1;unfold FX;simp only[UD,XW,OT,a1,a3,b1,b3,za0];rw[Ae6 (k:=k+k) (by omega) (Ie hp.1 (Co hq.2)) (Ie (Co hp.2) hq.1) (by
  intro h;rcases Int.mul_eq_zero.1 h with h|h
  ·exact VS _ h
  ·exact h0 (Rat.num_eq_zero.1 h)),<-A0g]
 rfl
theorem Z8:Gp (rqF p) (rqF q)=some (QJ p q):=by
 obtain⟨r1,a1,b1⟩:=DF (k:=k) (by omega) hp.1 (Co hq.2);obtain⟨r2,a2,b2⟩:=DF (k:=k) (by omega) hq.1 (Co hp.2);unfold Gp;simp only[UD,XW,OT,a1,a2,b1,b2,za0];rw[Ra (k:=k+k) (by omega) (Ie hp.1 (Co hq.2)) (Ie hq.1 (Co hp.2)),AH5];rfl
theorem Es:Dj (rqF p) (rqF q)=some (decide (p<q)):=by
 unfold Dj;simp only[AU,Z8 hk hp hq,za0]
 congr 1
 exact decide_eq_decide.2 AJ4
theorem Me:Hm (rqF p) (rqF q)=some (QJ p q):=by
 unfold Hm;simp only[UD,XW,OT,Ix (k:=k) (by omega) hp.1 (Co hq.2),Ix (k:=k) (by omega) hq.1 (Co hp.2),za0,AT];rw[Ax9 (k:=k+k) (by omega) (Ie hp.1 (Co hq.2)) (Ie hq.1 (Co hp.2)),AH5];rfl
end
theorem AQ6{q:Rat}{k:Nat}(hk:k<=1000000)(hq:Sz k q):J8 (rqF q)=some (rqF (-q)):=by
 unfold J8;simp only[UD,Rx hk hq.1,za0];rw[show(rqF q).2.2.2=(big (q.den:Int)).2 from rfl,UX hk hq.2];rfl
theorem Oo{p q:Rat}{k:Nat}(hk:k<=20000)(hp:Sz k p)(hq:Sz k q):EC (rqF p) (rqF q)=some (rqF (p-q)):=by
 unfold EC;simp only[AU,AQ6 (k:=k) (by omega) hq,za0,IX hk hp (AB2 hq)];rw[Rat.sub_eq_add_neg]
theorem Az9:DE (1:Int)=some (big 1):=UW (by omega) (by omega)
theorem Al1:D6 (1:Int)=some (big 1):=Qa (by omega) (by omega)
theorem Hx{n:Int}(h1: -9223372036854775808<=n)(h2:n<=9223372036854775807):A8 n=some (rqF (n:Rat)):=by
 unfold A8;simp only[UW h1 h2,Az9,za0];rfl
theorem OD{n:Int}(h1: -9223372036854775808<=n)(h2:n<=9223372036854775807):Cw n=some (rqF (n:Rat)):=by
 unfold Cw;simp only[Qa h1 h2,Al1,za0];rfl
theorem Aq7{k:Nat}(hk:1<=k):(((1:Int).natAbs:Nat):Int)<B k:=by
 have:=JI hk;rw[B1]at this;omega
theorem Ag2{q:Rat}{k:Nat}(hk:k<=80000)(h1:1<=k)(hq:Sz k q):Fp (rqF q)=some (big q.floor):=by
 have hd:=q.den_pos;have hf:=TG (x:=q.num) (d:=(q.den:Int)) (by omega);rw[<-Rat.floor_def]at hf;have ht:=upB (m:=k+1) (k:=k) (x:=q.num.tdiv (q.den:Int)) (by have:=OH q.num (q.den:Int);have:=hq.1;omega) (by omega);unfold Fp Hr;simp only[UD,XW,OT,Ll (k:=k) (by omega) hq.1 (Co hq.2) (VS q),za0,AT,Z2];by_cases h:q.num.tmod (q.den:Int)<0
 ·rw[zr h]at hf;rw[DP h];simp only[show decide ((-1:Int)<0)=true from rfl,cond_true,Az9,za0,AT];unfold MZ;simp only[AT,Rx (k:=k+1) (by omega) (Aq7 (by omega)),za0];rw[Zp (k:=k+1) (by omega) ht (by simpa using Aq7 (k:=k+1) (by omega)),<-hf];simp only[za0,AT,Int.sub_eq_add_neg]
 ·rw[zw h]at hf;have:decide (CQ (q.num.tmod (q.den:Int)) 0<0)=false:=zq (by rcases BT (q.num.tmod (q.den:Int)) 0 with⟨e,g⟩|⟨e,g⟩|⟨e,g⟩<;>omega);rw[this,<-hf];rfl
def BrF(a:RF):Prop:=Ax a.2.1/\Ax a.2.2.2
def toQ(a:RF):(Bool×List Int)×(Bool×List Int):=((a.1,a.2.1),(a.2.2.1,a.2.2.2))
theorem At5{q:Rat}{k:Nat}(hk:k<=1000000)(h:Sz k q):BrF (rqF q):=⟨Hc hk h.1,Hc hk (Co h.2)⟩
theorem A3z{y:Int}:(!(big y).1&& !(big y).2.isEmpty)=decide (0<y):=by
 unfold big;simp only;have:=KC y.natAbs;rw[this];by_cases h:0<y
 ·rw[zp h,zq (by omega),zp (by omega)];rfl
 ·rw[zq h];by_cases h0:y=0
  ·subst h0;rfl
  ·rw[zp (show y<0 by omega)];rfl
theorem YI{x y:Int}(hx:(x.natAbs:Int)<B 40)(hy:(y.natAbs:Int)<B 40):Ca (big x,big y)=(decide (0<y)&&decide (Int.gcd x y=1)):=by
 unfold Ca;simp only[IS hx,IS hy,ze1,A3z];unfold big;simp only[Ar,zc2];rfl
theorem V8{g:Nat}:(CQ (g:Int) 1==0)=decide (g=1):=by
 rcases BT (g:Int) 1 with⟨e,h⟩|⟨e,h⟩|⟨e,h⟩
 ·rw[e,zq (by omega)];rfl
 ·rw[e,zq (by omega)];rfl
 ·rw[e,zp (by omega)];rfl
theorem ZY(y:Int):((((big y).2.length:Nat):Int)==(0:Int))=decide (y=0):=by
 rw[Bool.eq_iff_iff];simp only[beq_iff_eq,decide_eq_true_eq];unfold big;constructor
 ·intro h;have:=It.1 (zb2 (show(lim y.natAbs).length=0 by simpa using h));omega
 ·rintro rfl;rw[show(0:Int).natAbs=0 from rfl,Cc];rfl
theorem AP2{a:RF}(h:BrF a):J0 a=some (Ca (toQ a)):=by
 obtain⟨n,nl,d,dl⟩:=a;unfold J0 toQ;simp only;have hl:Jp [(n,nl),(d,dl)]=some (F3 (n,nl)&&F3 (d,dl)):=by
  rw[A1p (by simp) (by intro b hb;simp at hb;rcases hb with rfl|rfl;exact h.1;exact h.2)];simp
 rw[hl];simp only[za0];cases hg:F3 (n,nl)&&F3 (d,dl)with
 |false=>unfold Ca;simp only[hg,zf8,cond_false]
 |true=>
  rw[za2]at hg;obtain⟨x,hx,e1⟩:=Hk.1 hg.1;obtain⟨y,hy,e2⟩:=Hk.1 hg.2;simp only[e1,e2,cond_true,Z2,za0,YI hx hy];rcases BT y 0 with⟨e,g⟩|⟨e,g⟩|⟨e,g⟩
  ·rw[e,zq (show ¬0<y by omega)];rfl
  ·rw[e,zp (show 0<y by omega)];simp only[show decide ((1:Int)>0)=true from rfl,cond_true,Zn (k:=40) (by omega) hx hy,Az9,za0,AT,ze1];rw[Ra (k:=40) (by omega) (AM2 hy (by omega)) (Aq7 (by omega))];simp only[za0,V8]
  ·rw[e,zq (show ¬0<y by omega)];rfl
theorem ZI{a:RF}(h:BrF a):H3 a=some (Ca (toQ a)):=by
 obtain⟨n,nl,d,dl⟩:=a;unfold H3 toQ;simp only;rw[RY h.1];simp only[za0];cases h1:F3 (n,nl)with
 |false=>unfold Ca;simp only[h1,zf8,Bool.not_false,cond_true]
 |true=>
  simp only[zg0,cond_false];rw[RY h.2];simp only[za0];cases h2:F3 (d,dl)with
  |false=>unfold Ca;simp only[h1,h2,Bool.and_false,zf8,Bool.not_false,cond_true]
  |true=>
   obtain⟨x,hx,e1⟩:=Hk.1 h1;obtain⟨y,hy,e2⟩:=Hk.1 h2;have f1:nl=(big x).2:=congrArg Prod.snd e1;have f2:dl=(big y).2:=congrArg Prod.snd e2;have f3:d=(big y).1:=congrArg Prod.fst e2;simp only[zg0,cond_false];rw[e1,e2,YI hx hy,f3,show(big y).1=decide (y<0)from rfl];by_cases hy0:y<0
   ·rw[zp hy0,zq (show ¬0<y by omega)];rfl
   ·rw[zq hy0];simp only[cond_false];rw[f2,ZY];by_cases h0:y=0
    ·rw[zp h0,zq (show ¬0<y by omega)];rfl
    ·rw[zq h0,zp (show 0<y by omega)];simp only[cond_false];rw[f1,AJ5 (k:=40) (by omega) hx hy];simp only[za0];have hl1:([1]:List Int)=lim 1:=by rw[VN (by omega),Cc];rfl
     have hgb:=An.2 (show((Int.gcd x y:Nat):Int)<B 40 by have:=AM2 (x:=x) hy h0;rwa[ze9]at this);rw[hl1,Oe (by unfold Ax;omega) (by rw[<-hl1];unfold Ax;simp)];simp only[za0,V8,ze1];exact congrArg some V8
theorem Yr{l:List ((Bool×List Int)×(Bool×List Int))}(hl:l.length<=1000)(hb:∀a∈l,Ax a.1.2/\Ax a.2.2):F8 l=some (l.all Ca):=by
 unfold F8;obtain⟨h1,h2⟩:=A1d (l:=l) (body:=fun(s:(List ((Bool×(List Int))×(Bool×(List Int))))×(Int×Int))=>Hw s.1 s.2.1 s.2.2)
  (st:=fun k (_:Unit)=>(l,((l.length:Int),(k:Int)))) (step:=fun _ a=>if Ca a then .inr ()else .inl (.inr false)) (fin:=fun _=>.inl ()) (I:=fun _ _=>True)
  (by
   rintro k b a hk _;have hkl:=DY hk;unfold Hw;have ha:=hb a (za4 hk);simp only[zp (show(k:Int)<(l.length:Int) by omega),cond_true,Ah,hk,za0];rw[AP2 (a:=(a.1.1,(a.1.2,(a.2.1,a.2.2)))) ha];simp only[za0,toQ,AT];cases hg:Ca a with
   |true=>left;exact⟨(),by simp,by simp only[zg0,cond_false];rw[Ae (by omega) (by omega)];rfl,trivial⟩
   |false=>right;exact⟨.inr false,by simp,by simp only[Bool.not_false,cond_true]⟩)
  (by
   rintro b _;unfold Hw;simp) () trivial
 rw[show((0:Nat):Int)=0 from rfl]at h1;rw[h1];have key:∀(m:List ((Bool×List Int)×(Bool×List Int))),S5 (ρ:=Unit⊕Bool) (fun(_:Unit) a=>if Ca a then .inr ()else .inl (.inr false)) () m=if m.all Ca then .inr ()else .inl (.inr false):=by
  intro m
  induction m with
  |nil=>rfl
  |cons a m ih=>
   unfold S5;rw[zc8];cases hg:Ca a with
   |true=>simp only[if_true,ze1];exact ih
   |false=>simp
 rw[key];cases l.all Ca<;>rfl
def O0(q:Rat):RF×Bool:=if Sz 40 q then(rqF q,true)else(zF,false)
theorem AN1{q:Rat}{n:Nat}:B5 (rqF q) (n:Int)=some (decide (Sz n q)):=by
 unfold B5;have e1:((((rqF q).2.1.length:Nat):Int)<=(n:Int))↔((q.num.natAbs:Int)<B n):=by rw[<-An];exact Int.ofNat_le
 have e2:((((rqF q).2.2.2.length:Nat):Int)<=(n:Int))↔((q.den:Int)<B n):=by
  have:(rqF q).2.2.2=lim q.den:=by show(big (q.den:Int)).2=_;rw[GQ]
  rw[this,<-An];exact Int.ofNat_le
 unfold Sz;by_cases h1:(q.num.natAbs:Int)<B n
 ·rw[zp (e1.2 h1)];simp only[cond_true,decide_eq_decide.2 e2,h1,true_and]
 ·rw[zq (fun h=>h1 (e1.1 h))];simp[h1]
theorem Q8(q:Rat):EP (rqF q)=some (O0 q):=by
 unfold EP O0;simp only[AU];rw[show(40:Int)=((40:Nat):Int)from rfl,AN1];by_cases h:Sz 40 q
 ·simp[h]
 ·simp[h];rfl
end
section
open Go
theorem AL9{x y:Int}{k:Nat}(hk:k<=1000000)(hx:(x.natAbs:Int)<B k)(hy:(y.natAbs:Int)<B k):Le (big x) (big y)=some (big (x+y)):=by
 have lx:=F7 hx hk;have ly:=F7 hy hk;unfold Le big;simp only;by_cases hs:decide (x<0)=decide (y<0)
 ·rw[hs,beq_self_eq_true];obtain⟨r,e1,e2,e3,e4,_⟩:=ZW (AE x.natAbs) (AE y.natAbs) (by omega) (by omega);rw[Ar,Ar]at e3;simp only[cond_true,e1,za0];rw[Fm e2 (by unfold Ax;omega)];simp only[za0];have hv:(val r).toNat=(x+y).natAbs:=by
   by_cases h1:x<0
   ·have:y<0:=by simpa[h1]using hs
    omega
   ·have:¬y<0:=by simpa[h1]using hs
    omega
  rw[hv]
  congr 2
  by_cases h2:y<0
  ·have h1:x<0:=by simpa[h2]using hs
   rw[zp h2,zp (show x+y<0 by omega),zp (show(x+y).natAbs≠0 by omega)];rfl
  ·have h1:¬x<0:=by simpa[h2]using hs
   rw[zq h2,zq (show ¬x+y<0 by omega)];rfl
 ·have hb:(decide (x<0)==decide (y<0))=false:=by simpa using hs
  rw[hb];simp only[cond_false];rw[Oe (by unfold Ax;omega) (by unfold Ax;omega)];simp only[za0];have hxy:(x<0/\¬y<0)\/(¬x<0/\y<0):=by
   by_cases h1:x<0<;>by_cases h2:y<0<;>simp[h1,h2]at hs⊢
  rcases zd6 x.natAbs y.natAbs with hlt|hge
  ·rw[DP (by omega),zq (by omega)];simp only[cond_false];have hl:(lim x.natAbs).length<=(lim y.natAbs).length:=An.2 (by have:=An.1 (za7 (lim y.natAbs).length);omega);rw[Qj (AE _) (AE _) hl (by omega) (by rw[Ar,Ar];omega)];simp only[za0,Ar];have e:((y.natAbs:Int)-(x.natAbs:Int)).toNat=(x+y).natAbs:=by omega
   rw[e,Fm (AE _) (by
    have:(lim (x+y).natAbs).length<=(lim y.natAbs).length:=An.2 (by have:=An.1 (za7 (lim y.natAbs).length);omega);unfold Ax;omega)]
   simp only[za0,Ar,zc2]
   congr 2
   by_cases h2:y<0
   ·rw[zp h2,zp (show x+y<0 by omega),zp (show(x+y).natAbs≠0 by omega)];rfl
   ·rw[zq h2,zq (show ¬x+y<0 by omega)];rfl
  ·have hc:CQ (x.natAbs:Int) (y.natAbs:Int)>=0:=by unfold CQ;rw[zw (by omega)];split<;>omega
   rw[zp hc];simp only[cond_true];have hl:(lim y.natAbs).length<=(lim x.natAbs).length:=An.2 (by have:=An.1 (za7 (lim x.natAbs).length);omega);rw[Qj (AE _) (AE _) hl (by omega) (by rw[Ar,Ar];omega)];simp only[za0,Ar];have e:((x.natAbs:Int)-(y.natAbs:Int)).toNat=(x+y).natAbs:=by omega
   rw[e,Fm (AE _) (by
    have:(lim (x+y).natAbs).length<=(lim x.natAbs).length:=An.2 (by have:=An.1 (za7 (lim x.natAbs).length);omega);unfold Ax;omega)]
   simp only[za0,Ar,zc2]
   congr 2
   by_cases h2:x<0
   ·rw[zp h2];by_cases h3:x+y<0
    ·rw[zp h3,zp (show(x+y).natAbs≠0 by omega)];rfl
    ·rw[zq h3,zq (show ¬(x+y).natAbs≠0 by omega)];rfl
   ·rw[zq h2,zq (show ¬x+y<0 by omega)];rfl
theorem Qo {x y : Int} {k : Nat} (hk : k <= 90000) (hx : (x.natAbs : Int) < B k) (hy : (y.natAbs : Int) < B k) (h0 : y ≠ 0) : FK (big x) (big y) = some (rqF (Rat.divInt x y)) := by
  obtain ⟨p1, p2⟩ := Lq (x := x) h0;have hg := AM2 (x := x) hy h0;have hg0 := AZ9 (x := x) h0;have hl : (lim (Int.gcd x y)).length <= k := An.2 (by rwa [ze9] at hg);unfold FK;rw [AJ5 hk hx hy];simp only [za0];rw [Fm (AE _) (by unfold Ax; omega), Ar, zc2];simp only [za0, zf8];rw [<- GQ];simp only [AT, Z5 hk hx hg hg0, Z5 hk hy hg hg0, za0];have t1 := OH x (Int.gcd x y : Nat);have t2 := OH y (Int.gcd x y : Nat);obtain ⟨c, hc⟩ : ((Int.gcd x y : Nat) : Int) ∣ y := Int.gcd_dvd_right ..
  have e2 : y.tdiv (Int.gcd x y : Nat) = c := by conv => lhs; lhs; rw [hc]
                                                 exact Int.mul_tdiv_cancel_left _ hg0
  have hsg : (y < 0) ↔ c < 0 := by
    have hp : (0 : Int) < (Int.gcd x y : Nat) := by omega
    generalize ((Int.gcd x y : Nat) : Int) = g at *
    constructor
    · intro h
      rcases Int.lt_or_le c 0 with e | e
      · exact e
      · have := zf1 (ze2 hp) e; omega
    · intro h; have := Int.mul_neg_of_pos_of_neg hp h; omega
  rw [show (big (y.tdiv (Int.gcd x y : Nat))).1 = decide (y.tdiv (Int.gcd x y : Nat) < 0) from rfl];by_cases hn : y < 0
  · rw [zr hn, Int.tdiv_neg] at p1 p2
    rw [zp (by rw [e2]; exact hsg.1 hn)];simp only [cond_true];rw [US (show k <= 1000000 by omega) (by omega), US (show k <= 1000000 by omega) (by omega)];simp only [za0, p1, p2];rfl
  · rw [zw hn] at p1 p2
    rw [zq (by rw [e2]; exact fun h => hn (hsg.2 h))];simp only [cond_false, p1, p2];rfl
theorem A2y{q:Rat}{k:Nat}(hk:k<=1000000)(hq:Sz k q):Oj (rqF q)=some (rqF (-q)):=by
 unfold Oj;simp only[UD,US hk hq.1,za0];rfl
section
variable {p q:Rat} {k:Nat} (hk:k<=20000) (hp:Sz k p) (hq:Sz k q)
include hk hp hq
theorem Qe:FT (rqF p) (rqF q)=some (rqF (p+q)):=by
 unfold FT;simp only[UD,XW,OT,Ix (k:=k) (by omega) hp.1 (Co hq.2),Ix (k:=k) (by omega) hq.1 (Co hp.2),Ix (k:=k) (by omega) (Co hp.2) (Co hq.2),za0,AT];rw[AL9 (k:=k+k) (by omega) (Ie hp.1 (Co hq.2)) (Ie hq.1 (Co hp.2))];simp only[za0,AT];rw[Qo (k:=k+k+1) (by omega) (Sg hp hq) (upB (Ie (Co hp.2) (Co hq.2)) (by omega)) (Mh p q),<-A0C];rfl
theorem UL:Hd (rqF p) (rqF q)=some (rqF (p*q)):=by
 unfold Hd;simp only[UD,XW,OT,Ix (k:=k) (by omega) hp.1 hq.1,Ix (k:=k) (by omega) (Co hp.2) (Co hq.2),za0,AT];rw[Qo (k:=k+k) (by omega) (Ie hp.1 hq.1) (Ie (Co hp.2) (Co hq.2)) (Mh p q),<-A1f];rfl
theorem AM3(h0:q≠0):K2 (rqF p) (rqF q)=some (rqF (p/q)):=by
 unfold K2;simp only[UD,XW,OT,Ix (k:=k) (by omega) hp.1 (Co hq.2),Ix (k:=k) (by omega) (Co hp.2) hq.1,za0,AT];rw[Qo (k:=k+k) (by omega) (Ie hp.1 (Co hq.2)) (Ie (Co hp.2) hq.1) (by
  intro h;rcases Int.mul_eq_zero.1 h with h|h
  ·exact VS _ h
  ·exact h0 (Rat.num_eq_zero.1 h)),<-A0g]
 rfl
end
theorem UQ{p q:Rat}{k:Nat}(hk:k<=20000)(hp:Sz k p)(hq:Sz k q):Hh (rqF p) (rqF q)=some (rqF (p-q)):=by
 unfold Hh;simp only[AU,A2y (k:=k) (by omega) hq,za0,Qe hk hp (AB2 hq)];rw[Rat.sub_eq_add_neg]
theorem A3D{x y:Int}{k:Nat}(hk:k<=900000)(hx:(x.natAbs:Int)<B k)(hy:(y.natAbs:Int)<B k):N5 (big x) (big y)=some (big (x-y)):=by
 unfold N5;simp only[AT,US (k:=k) (by omega) hy,za0];rw[AL9 (k:=k) (by omega) hx (A21 hy)];simp only[za0,AT,Int.sub_eq_add_neg]
theorem AU3{q:Rat}{k:Nat}(hk:k<=80000)(h1:1<=k)(hq:Sz k q):JZ (rqF q)=some (big q.floor):=by
 have hd:=q.den_pos;have hf:=TG (x:=q.num) (d:=(q.den:Int)) (by omega);rw[<-Rat.floor_def]at hf;have ht:=upB (m:=k+1) (k:=k) (x:=q.num.tdiv (q.den:Int)) (by have:=OH q.num (q.den:Int);have:=hq.1;omega) (by omega);unfold JZ;simp only[UD,XW,OT,Z5 (k:=k) (by omega) hq.1 (Co hq.2) (VS q),za0,AT];rw[show(big (q.num.tmod (q.den:Int))).1=decide (q.num.tmod (q.den:Int)<0)from rfl];by_cases h:q.num.tmod (q.den:Int)<0
 ·rw[zr h]at hf;rw[zp h];simp only[cond_true,Al1,za0,AT];rw[A3D (k:=k+1) (by omega) ht (Aq7 (by omega)),<-hf];rfl
 ·rw[zw h]at hf;rw[zq h,<-hf];rfl
theorem Qx{q:Rat}{k:Nat}(hk:k<=1000000)(hq:Sz k q):EB (rqF q)=some (O0 q):=by
 unfold EB O0;have e1:((((rqF q).2.1.length:Nat):Int)>40)↔¬((q.num.natAbs:Int)<B 40):=by
  rw[<-An];show((((lim q.num.natAbs).length:Nat):Int)>40)↔_;omega
 have e2:((((rqF q).2.2.2.length:Nat):Int)>40)↔¬((q.den:Int)<B 40):=by
  rw[<-An];have:(rqF q).2.2.2=lim q.den:=by show(big (q.den:Int)).2=_;rw[GQ]
  rw[this];omega
 by_cases h1:(q.num.natAbs:Int)<B 40
 ·rw[zq (fun h=>e1.1 h h1)];by_cases h2:(q.den:Int)<B 40
  ·rw[zq (fun h=>e2.1 h h2),zr ⟨h1,h2⟩];simp only[cond_false];rw[show(rqF q).1=(big q.num).1 from rfl,show(rqF q).2.1=(big q.num).2 from rfl,show(rqF q).2.2.2=(big (q.den:Int)).2 from rfl,Ye (k:=40) (by omega) h1,Zi (k:=40) (by omega) h2];rfl
  ·rw[zp (e2.2 h2),zw (fun h=>h2 h.2)];rfl
 ·rw[zp (e1.2 h1),zw (fun h=>h1 h.1)];rfl
theorem IV{q:Rat}(h:Sz 40 q):O0 q=(rqF q,true):=zr h
theorem Oh{q:Rat}(h:¬Sz 40 q):O0 q=(zF,false):=zw h
section
variable {p q:Rat} (hp:Sz 40 p) (hq:Sz 40 q)
include hp hq
end
section
variable {a b:RF} (ha:BrF a) (hb:BrF b) (h:(Ca (toQ a)&&Ca (toQ b))=false)
include ha hb h
end
end
section
open Go
def ShF(a:RF):Prop:=a.2.1.length<=100/\a.2.2.2.length<=100
theorem ShF.br{a:RF}(h:ShF a):BrF a:=by unfold ShF at h;unfold BrF Ax;omega
end
section
open Go
end
section
open Go
end
section
open Go
abbrev Q2:=Rat×Rat
def crd(b:Bool)(p:Q2):Rat:=if b then p.2 else p.1
def ins(b high:Bool)(s:Rat)(p:Q2):Bool:=if high then decide (s<=crd b p)else decide (crd b p<=s)
def XT(a c:Q2)(t:Rat):Q2:=(a.1+t*(c.1-a.1),a.2+t*(c.2-a.2))
def At8(b:Bool)(s:Rat)(a c:Q2):Q2:=XT a c ((s-crd b a)/(crd b c-crd b a))
def OV(b high:Bool)(s:Rat)(a c:Q2):List Q2:=(if ins b high s a=ins b high s c then []else [At8 b s a c])++(if ins b high s c then [c]else [])
def CZ(b high:Bool)(s:Rat):Q2->List Q2->List Q2
 |_,[]=>[]
 |a,c::l=>OV b high s a c++CZ b high s c l
def KZ(l:List Q2):Q2:=l.getLast?.getD (0,0)
def Fl(b high:Bool)(s:Rat)(l:List Q2):List Q2:=CZ b high s (KZ l) l
def crs(p q:Q2):Rat:=p.1*q.2-q.1*p.2
def chn(f:Q2->Q2->Rat):Q2->List Q2->Rat
 |_,[]=>0
 |a,c::l=>f a c+chn f c l
def Lm(l:List Q2):Rat:=chn crs (KZ l) l
theorem A4W{b:Bool}{s:Rat}{a c:Q2}(h:crd b c≠crd b a):crd b (At8 b s a c)=s:=by
 have hd:crd b c-crd b a≠0:=fun e=>h (by grind)
 have hm:=Rat.div_mul_cancel hd (a:=s-crd b a);unfold At8 XT;cases b with
 |true=>
  unfold crd at*
  simp at*
  rw[hm];grind
 |false=>
  unfold crd at*
  simp at*
  rw[hm];grind
theorem Ay5{b high:Bool}{s:Rat}{a c:Q2}(h:ins b high s a≠ins b high s c):crd b c≠crd b a:=by
 intro e
 apply h
 unfold ins;rw[e]
theorem A0c{b:Bool}{s:Rat}{p:Q2}:ins b false s p=decide (crd b p<=s):=rfl
theorem A0k{b:Bool}{s:Rat}{p:Q2}:ins b true s p=decide (s<=crd b p):=rfl
def Ap0:Q2->List Q2->Q2
 |a,[]=>a
 |_,c::l=>Ap0 c l
theorem Wg(f:Q2->Q2->Rat):∀(a:Q2)(l m:List Q2),chn f a (l++m)=chn f a l+chn f (Ap0 a l) m
 |a,[],m=>by simp[chn,Ap0,Rat.zero_add]
 |a,c::l,m=>by
  rw[List.cons_append,chn,chn,Wg f c l m,Ap0,Rat.add_assoc]
theorem Zk(a:Q2):∀(l:List Q2),l≠[]->Ap0 a l=KZ l
 |[],h=>absurd rfl h
 |[c],_=>rfl
 |c::d::l,_=>by
  rw[Ap0,Zk c (d::l) (by simp)];unfold KZ;rw[List.getLast?_cons_cons]
theorem AQ4{l:List Q2}(h:l≠[]):KZ l∈l:=by
 unfold KZ;cases hl:l.getLast? with
 |none=>exact absurd (List.getLast?_eq_none_iff.1 hl) h
 |some x=>exact List.mem_of_getLast? hl
theorem A2g(f:Q2->Q2->Rat)(a:Q2)(l:List Q2)(c:Q2):chn f a (l++[c])=chn f a l+f (Ap0 a l) c:=by
 rw[Wg];simp only[chn];grind
end
section
open Go
abbrev SF:=Bool×(List Int×(Bool×(List Int×(Bool×(List Int×(Bool×List Int))))))
abbrev RQ:=(Bool×List Int)×(Bool×List Int)
abbrev RPt:=RQ×RQ
def fl(x:RPt):SF:=(x.1.1.1,(x.1.1.2,(x.1.2.1,(x.1.2.2,(x.2.1.1,(x.2.1.2,x.2.2))))))
def un(s:SF):RPt:=(((s.1,s.2.1),(s.2.2.1,s.2.2.2.1)),((s.2.2.2.2.1,s.2.2.2.2.2.1),s.2.2.2.2.2.2))
def fx(x:RPt):RF:=(x.1.1.1,(x.1.1.2,x.1.2))
def fy(x:RPt):RF:=(x.2.1.1,(x.2.1.2,x.2.2))
theorem AW9(x:RPt):(x.1.1.1,(x.1.1.2,(x.1.2.1,(x.1.2.2,(x.2.1.1,(x.2.1.2,x.2.2))))))=fl x:=(rfl)
theorem AB7(s:SF):(((s.1,s.2.1),(s.2.2.1,s.2.2.2.1)),((s.2.2.2.2.1,s.2.2.2.2.2.1),s.2.2.2.2.2.2))=un s:=(rfl)
theorem A3r(x:RPt):(x.1.1.1,(x.1.1.2,x.1.2))=fx x:=(rfl)
theorem A3v(x:RPt):(x.2.1.1,(x.2.1.2,x.2.2))=fy x:=(rfl)
theorem VA(x:RPt):un (fl x)=x:=(rfl)
theorem Pv(x:RPt):((fl x).1,((fl x).2.1,((fl x).2.2.1,(fl x).2.2.2.1)))=fx x:=(rfl)
theorem PD(x:RPt):(fl x).2.2.2.2=fy x:=(rfl)
def rp(p:Q2):RPt:=(rq p.1,rq p.2)
theorem Ii(p:Q2):fx (rp p)=rqF p.1:=(rfl)
theorem Il(p:Q2):fy (rp p)=rqF p.2:=(rfl)
def shQ(n:Nat)(a:RF):Bool:=decide (a.2.1.length<=n)&&decide (a.2.2.2.length<=n)
def FL(x:RPt):Bool:=(Ca x.1&&Ca x.2)&&(shQ 8 (fx x)&&shQ 8 (fy x))
def BrP(x:RPt):Prop:=BrF (fx x)/\BrF (fy x)
def SzP(k:Nat)(p:Q2):Prop:=Sz k p.1/\Sz k p.2
theorem SzP.mono{k m:Nat}{p:Q2}(h:SzP k p)(hkm:k<=m):SzP m p:=⟨h.1.mono hkm,h.2.mono hkm⟩
theorem SU{q:Rat}{n:Nat}(hn:n<=100):shQ n (rqF q)=decide (Sz n q):=by
 unfold shQ;rw[<-Bool.decide_and];refine decide_eq_decide.2 ?_
 unfold Sz;have h1:= @An q.num.natAbs n;have h2:= @An q.den n;have e2:(rqF q).2.2.2=lim q.den:=by show(big (q.den:Int)).2=_;rw[GQ]
 rw[e2,<-h2,<-h1];rfl
theorem Az7(x:RPt):toQ (fx x)=x.1:=(rfl)
theorem Ax7(x:RPt):toQ (fy x)=x.2:=(rfl)
theorem Pf{x:RPt}:FL x=true↔∃p,SzP 8 p/\x=rp p:=by
 constructor
 ·intro h;unfold FL at h;simp only[za2]at h;obtain⟨⟨h1,h2⟩,h3,h4⟩:=h;obtain⟨a,ha,e1⟩:=K0.1 h1;obtain⟨c,hc,e2⟩:=K0.1 h2;have exy:x=(rq a,rq c):=by rw[<-e1,<-e2]
  have ex:fx x=rqF a:=by rw[exy];rfl
  have ey:fy x=rqF c:=by rw[exy];rfl
  rw[ex,SU (by omega)]at h3;rw[ey,SU (by omega)]at h4;exact⟨(a,c),⟨of_decide_eq_true h3,of_decide_eq_true h4⟩,by unfold rp;rw[<-e1,<-e2]⟩
 ·rintro⟨p,hp,rfl⟩;unfold FL;rw[Ii,Il,SU (by omega),SU (by omega),zp hp.1,zp hp.2,Bool.and_true,Bool.and_true,za2];exact⟨Rf (hp.1.mono (by omega)),Rf (hp.2.mono (by omega))⟩
def G4(l:List RPt):Bool:=decide (l.length<=40)&&l.all FL
def SzR(ps:List Q2):Prop:=ps.length<=40/\∀p∈ps,SzP 8 p
theorem AV5{l:List RPt}:G4 l=true↔∃ps:List Q2,SzR ps/\l=ps.map rp:=by
 unfold G4;rw[za2,decide_eq_true_eq];constructor
 ·rintro⟨h1,h2⟩;have key:∀l:List RPt,l.all FL=true->∃ps:List Q2,(∀p∈ps,SzP 8 p)/\l=ps.map rp:=by
   intro l
   induction l with
   |nil=>intro _;exact⟨[],by simp,rfl⟩
   |cons x l ih=>
    intro h;rw[zc8,za2]at h;obtain⟨p,hp,e⟩:=Pf.1 h.1;obtain⟨ps,hps,e2⟩:=ih h.2;refine⟨p::ps,?_,by rw[zb8,<-e,<-e2]⟩
    intro q hq;rcases zc7.1 hq with rfl|hq
    ·exact hp
    ·exact hps q hq
  obtain⟨ps,hps,e⟩:=key l h2;exact⟨ps,⟨by rw[e,zd7]at h1;exact h1,hps⟩,e⟩
 ·rintro⟨ps,⟨h1,h2⟩,rfl⟩;refine⟨by rw[zd7];exact h1,?_⟩
  rw[za5];intro x hx;obtain⟨p,hp,rfl⟩:=zd5.1 hx;exact Pf.2 ⟨p,h2 p hp,rfl⟩
theorem Mw(a:RF)(n:Nat):B5 a (n:Int)=some (shQ n a):=by
 unfold B5 shQ;by_cases h:a.2.1.length<=n
 ·rw[zp (show((a.2.1.length:Nat):Int)<=(n:Int) by omega),cT,zp h,ze1]
  congr 1
  exact decide_eq_decide.2 (by omega)
 ·rw[zq (show ¬((a.2.1.length:Nat):Int)<=(n:Int) by omega),cF,zq h,zf8]
theorem AK2{x:RPt}(h:BrP x):FU (fl x) 8=some (FL x):=by
 have hl:F8 [x.1,x.2]=some (Ca x.1&&Ca x.2):=by
  rw[Yr (by simp) (by
   intro a ha;simp at ha;rcases ha with rfl|rfl
   ·exact h.1
   ·exact h.2)]
  simp
 have e:((((fl x).1,(fl x).2.1),((fl x).2.2.1,(fl x).2.2.2.1)):RQ)=x.1:=rfl;have e':((((fl x).2.2.2.2.1,(fl x).2.2.2.2.2.1),(fl x).2.2.2.2.2.2):RQ)=x.2:=rfl;unfold FU FL;simp only[AT];rw[e,e',hl,obs];have s1:=Mw (fx x) 8;have s2:=Mw (fy x) 8;rw[show((8:Nat):Int)=8 from rfl]at s1 s2;cases hg:Ca x.1&&Ca x.2 with
 |false=>rfl
 |true=>
  rw[cT]
  try simp only[Pv,PD]
  rw[s1,obs,ze1];cases shQ 8 (fx x)with
  |false=>rfl
  |true=>rw[cT,s2,obs,ze1]
theorem CX{l:List RPt}(hl:l.length<=100000)(hb:∀x∈l,BrP x):DX l=some (G4 l):=by
 have hc:Ba l=some (!(l.all FL)):=by
  unfold Ba B8;have key:=Gd (body:=fun(s:((List RPt)×(Int×Int)))=>Aw s.1 s.2.1 s.2.2) (l:=l) (st:=fun k=>(l,(l.length:Int),(k:Int))) (p:=FL) (fin:=.inl ()) (bad:=fun k=>.inr (k:Int))
   (fun k a hk hp=>by
    have:=DY hk;show Aw l (l.length:Int) (k:Int)=_;unfold Aw Gt;simp only[HC hk,cT,Ah,hk,obs,AT];rw[AW9,AK2 (hb a (za4 hk)),obs,hp,obs,nT,cF,AJ (by omega)])
   (fun k a hk hp=>by
    show Aw l (l.length:Int) (k:Int)=_;unfold Aw Gt;simp only[HC hk,cT,Ah,hk,obs,AT];rw[AW9,AK2 (hb a (za4 hk)),obs,hp,obs,nF,cT])
   (by
    show Aw l (l.length:Int) (l.length:Int)=_;unfold Aw;simp only[QH,cF])
  rw[show((0:Nat):Int)=0 from rfl]at key;cases hall:l.all FL with
  |true=>rw[key.1 hall];rfl
  |false=>
   obtain⟨k,_,h⟩:=key.2 hall;rw[h];simp only[za0,za8];have:decide ((k:Int)>=0)=true:=by simp
   rw[this];rfl
 unfold DX G4;by_cases h:l.length<=40
 ·rw[zp (by omega),cT,hc,obs,zp h,Bool.not_not,ze1]
 ·rw[zq (by omega),cF,zq h,zf8]
theorem Ot{a:RF}(h:BrF a):HS a=some (Ca (toQ a)&&shQ 8 a):=by
 unfold HS shQ;simp only[AU,AT];by_cases h1:a.2.1.length<=8
 ·rw[zp (by omega),cT,zp h1,ze1];by_cases h2:a.2.2.2.length<=8
  ·rw[zp (by omega),cT,zp h2,Bool.and_true,ZI h,obs]
  ·rw[zq (by omega),cF,zq h2,Bool.and_false]
 ·rw[zq (by omega),cF,zq h1,zf8,Bool.and_false]
theorem WU{a:RF}(h:BrF a):GK a=some (Ca (toQ a)&&shQ 2 a):=by
 unfold GK shQ;simp only[AU,AT];by_cases h1:a.2.1.length<=2
 ·rw[zp (by omega),cT,zp h1,ze1];by_cases h2:a.2.2.2.length<=2
  ·rw[zp (by omega),cT,zp h2,Bool.and_true,ZI h,obs]
  ·rw[zq (by omega),cF,zq h2,Bool.and_false]
 ·rw[zq (by omega),cF,zq h1,zf8,Bool.and_false]
theorem FO{l:List RPt}(hl:l.length<=100000)(hb:∀x∈l,BrP x):Gk l=some (G4 l):=by
 have key:=Gd (body:=fun(s:((List RPt)×((List RPt)×(Int×Int))))=>Cr s.1 s.2.1 s.2.2.1 s.2.2.2) (l:=l) (st:=fun k=>(l,l,(l.length:Int),(k:Int))) (p:=FL) (fin:=.inl l) (bad:=fun k=>.inr false)
  (fun k a hk hp=>by
   have:=DY hk;have hba:=hb a (za4 hk);unfold FL at hp;simp only[za2]at hp;show Cr l l (l.length:Int) (k:Int)=_;unfold Cr;simp only[HC hk,cT,Ah,hk,obs,AT];rw[A3r,A3v,Ot hba.1,obs,Az7,hp.1.1,hp.2.1,Bool.and_self,nT,cF,Ot hba.2,obs,Ax7,hp.1.2,hp.2.2,Bool.and_self,nT,cF,AJ (by omega)])
  (fun k a hk hp=>by
   have hba:=hb a (za4 hk);show Cr l l (l.length:Int) (k:Int)=_;unfold Cr;simp only[HC hk,cT,Ah,hk,obs,AT];rw[A3r,A3v,Ot hba.1,obs,Az7];cases h1:Ca a.1&&shQ 8 (fx a)with
   |false=>rw[nF,cT]
   |true=>
    have h2:(Ca a.2&&shQ 8 (fy a))=false:=by
     unfold FL at hp;rw[za2]at h1;rw[h1.1,h1.2,ze1,ze1]at hp;exact hp
    rw[nT,cF,Ot hba.2,obs,Ax7,h2,nF,cT])
  (by
   show Cr l l (l.length:Int) (l.length:Int)=_;unfold Cr;simp only[QH,cF])
 rw[show((0:Nat):Int)=0 from rfl]at key;unfold Gk G4;cases hall:l.all FL with
 |true=>
  rw[key.1 hall,obs,sEl,Bool.and_true]
  congr 1
  exact decide_eq_decide.2 (by omega)
 |false=>
  obtain⟨k,_,h⟩:=key.2 hall;rw[h,obs,sEr,Bool.and_false]
end
section
open Go
theorem XL{l:List RPt}{x:RPt}(h:l.length<=100000):C3 128 8 l [x]=some (l++[x]):=Fy (by simp[Ab];omega) (by simp[Ab];omega)
theorem UU(p:Q2)(b:Bool):BK (fl (rp p)) b=some (rqF (crd b p)):=by cases b<;>rfl
theorem Ab4(p:Q2)(b:Bool):Gw (fl (rp p)) b=some (rqF (crd b p)):=by cases b<;>rfl
theorem EQ{k:Nat}{p:Q2}(h:SzP k p)(b:Bool):Sz k (crd b p):=by cases b;exact h.1;exact h.2
theorem Zw:A8 (1:Int)=some (rqF 1):=by rw[Hx (by omega) (by omega)];rfl
section
variable {a c:Q2} {t:Rat} (ha:SzP 8 a) (hc:SzP 8 c) (ht:Sz 34 t)
include ha hc ht
end
section
variable {a c:Q2} {s:Rat} {b:Bool} (ha:SzP 8 a) (hc:SzP 8 c) (hs:Sz 8 s) (hne:crd b c≠crd b a)
include ha hc hs hne
end
theorem AL2{k n:Nat}(hk:k<n)(hn:n<=100000):Int.tmod (zi zj (zi zj ((k:Int)+(n:Int))-1)) (n:Int)=(((k+n-1)%n:Nat):Int):=by
 rw[Ae (n:=(k:Int)+(n:Int)) (by omega) (by omega),Ae (by omega) (by omega),zc6 (by omega)];rw[show(k:Int)+(n:Int)-1=((k+n-1:Nat):Int) by omega];rfl
theorem Yn{k n:Nat}(hk:k<n):(k+1+n-1)%n=k:=by
 rw[show k+1+n-1=k+n by omega,Nat.add_mod_right,Nat.mod_eq_of_lt hk]
theorem HE{ps:List Q2}{k:Nat}{p:Q2}(h:ps[k]? =some p):AI (ps.map rp) (k:Int)=some (rp p):=by
 rw[Ah,zd0,h];rfl
theorem W4(b high:Bool)(s:Rat)(a c:Q2):(OV b high s a c).length<=2:=by
 unfold OV;rw[zd4]
 split<;>split<;>simp
section
variable {ps:List Q2} {s:Rat} (hps:SzR ps) (hs:Sz 8 s) (b high:Bool)
include hps hs
end
end
section
open Go
theorem Ae4{p q:Q2}(h:rp p=rp q):p=q:=by
 unfold rp at h;have h1:=A0O (congrArg Prod.fst h);have h2:=A0O (congrArg Prod.snd h);exact Prod.ext h1 h2
theorem Ze(p:Q2):FL (rp p)=true↔SzP 8 p:=by
 rw[Pf];constructor
 ·rintro⟨q,hq,e⟩;rw[Ae4 e];exact hq
 ·intro h;exact⟨p,h,rfl⟩
theorem G8{m:List Q2}:G4 (m.map rp)=true↔SzR m:=by
 unfold G4 SzR;rw[za2,decide_eq_true_eq,zd7,za5];constructor
 ·rintro⟨h1,h2⟩;exact⟨h1,fun p hp=>(Ze p).1 (h2 _ (List.mem_map_of_mem hp))⟩
 ·rintro⟨h1,h2⟩;refine⟨h1,fun x hx=> ?_⟩
  obtain⟨p,hp,rfl⟩:=zd5.1 hx;exact(Ze p).2 (h2 p hp)
theorem Xu{p:Q2}{k:Nat}(hk:k<=1000000)(h:SzP k p):BrP (rp p):=⟨At5 hk h.1,At5 hk h.2⟩
theorem O8{m:List Q2}{k:Nat}(hk:k<=1000000)(h:∀p∈m,SzP k p):∀x∈m.map rp,BrP x:=by
 intro x hx;obtain⟨p,hp,rfl⟩:=zd5.1 hx;exact Xu hk (h p hp)
theorem Zt{q:Rat}{k:Nat}(hk:k<=1000000)(h:Sz k q):Jt (rqF q)=some (rqF q):=by
 unfold Jt;rw[show(rqF q).1=(big q.num).1 from rfl,show(rqF q).2.1=(big q.num).2 from rfl,show(rqF q).2.2.2=(big (q.den:Int)).2 from rfl,AM7 hk h.1,UX hk h.2];rfl
theorem A1j{p:Q2}(h:SzP 8 p):LW (fl (rp p))=some (fl (rp p)):=by
 unfold LW;simp only[AU,AT,Pv,PD,Ii,Il];rw[Zt (by omega) h.1,obs,Zt (by omega) h.2,obs];rfl
theorem AX5{m:List Q2}(h:SzR m):J2 (m.map rp)=some (m.map rp):=by
 have h40:=h.1;obtain⟨h1,h2⟩:=Yb (l:=m) (body:=fun(s:((List RPt)×((List RPt)×(Int×Int))))=>Dr s.1 s.2.1 s.2.2.1 s.2.2.2)
  (st:=fun k (b:List Q2)=>(b.map rp,(m.map rp,((m.length:Int),(k:Int))))) (step:=fun b p=>b++[p]) (fin:=fun b=>b.map rp) (I:=fun k b=>b.length=k)
  (by
   rintro k b p hk hI;have hkl:=DY hk;have hp:=h.2 p (za4 hk);refine⟨?_,by simp[hI]⟩
   show Dr (b.map rp) (m.map rp) (m.length:Int) (k:Int)=_;unfold Dr;rw[zp (by omega),cT,HE hk,obs];simp only[AT,AW9];rw[A1j hp,obs,AB7,VA,XL (by simp;omega),obs,AJ (by omega)];simp)
  (by
   rintro b _;show Dr (b.map rp) (m.map rp) (m.length:Int) (m.length:Int)=_;unfold Dr;rw[zq (by omega)];rfl) [] rfl
 have e:m.foldl (fun b p=>b++[p]) []=m:=by
  have:∀(l acc:List Q2),l.foldl (fun b p=>b++[p]) acc=acc++l:=by
   intro l
   induction l with
   |nil=>intro acc;simp
   |cons x l ih=>intro acc;rw[List.foldl_cons,ih];simp
  rw[this];rfl
 rw[e]at h1;have h1':Ad (fun(s:((List RPt)×((List RPt)×(Int×Int))))=>Dr s.1 s.2.1 s.2.2.1 s.2.2.2) ((List.nil:List RPt),(m.map rp,((m.length:Int),(0:Int))))=some (m.map rp):=h1;unfold J2;rw[zd7,h1',obs]
theorem AR7{p:Q2}(h:SzP 8 p):J9 (fl (rp p))=some (fl (rp p),true):=by
 unfold J9;simp only[AU,AT,Pv,PD,Ii,Il];rw[Qx (k:=8) (by omega) h.1,obs,Qx (k:=8) (by omega) h.2,obs,IV (h.1.mono (by omega)),IV (h.2.mono (by omega))];rfl
theorem A13{m:List Q2}(h:SzR m):Mk (m.map rp)=some (m.map rp,true):=by
 have h40:=h.1;obtain⟨h1,h2⟩:=Yb (l:=m) (body:=fun(s:((List RPt)×((List RPt)×(Int×Int))))=>DR s.1 s.2.1 s.2.2.1 s.2.2.2)
  (st:=fun k (b:List Q2)=>(b.map rp,(m.map rp,((m.length:Int),(k:Int))))) (step:=fun b p=>b++[p]) (fin:=fun b=>.inl (b.map rp)) (I:=fun k b=>b.length=k)
  (by
   rintro k b p hk hI;have hkl:=DY hk;have hp:=h.2 p (za4 hk);refine⟨?_,by simp[hI]⟩
   show DR (b.map rp) (m.map rp) (m.length:Int) (k:Int)=_;unfold DR;rw[zp (by omega),cT,HE hk,obs];simp only[AT,AW9];rw[AR7 hp,obs];simp only;rw[nT,cF,AB7,VA,XL (by simp;omega),obs,AJ (by omega)];simp)
  (by
   rintro b _;show DR (b.map rp) (m.map rp) (m.length:Int) (m.length:Int)=_;unfold DR;rw[zq (by omega)];rfl) [] rfl
 have e:m.foldl (fun b p=>b++[p]) []=m:=by
  have:∀(l acc:List Q2),l.foldl (fun b p=>b++[p]) acc=acc++l:=by
   intro l
   induction l with
   |nil=>intro acc;simp
   |cons x l ih=>intro acc;rw[List.foldl_cons,ih];simp
  rw[this];rfl
 rw[e]at h1;have h1':Ad (fun(s:((List RPt)×((List RPt)×(Int×Int))))=>DR s.1 s.2.1 s.2.2.1 s.2.2.2) ((List.nil:List RPt),(m.map rp,((m.length:Int),(0:Int))))=some (.inl (m.map rp)):=h1;unfold Mk;rw[zd7,h1',obs,sEl]
def Uw(m:List Q2):List RPt×Bool:=if G4 (m.map rp)=true then(m.map rp,true)else([],false)
theorem XE{m:List Q2}{k:Nat}(hk:k<=1000000)(hl:m.length<=100000)(h:∀p∈m,SzP k p):FB (m.map rp)=some (Uw m):=by
 unfold FB Uw;rw[CX (by simp;omega) (O8 hk h),obs];by_cases hg:G4 (m.map rp)=true
 ·rw[zr hg,hg,nT,cF,AX5 (G8.1 hg),obs]
 ·rw[zw hg,Bool.eq_false_iff.2 hg,nF,cT]
theorem AT0{m:List Q2}{k:Nat}(hk:k<=1000000)(hl:m.length<=100000)(h:∀p∈m,SzP k p):Kh (m.map rp)=some (Uw m):=by
 unfold Kh Uw;rw[FO (by simp;omega) (O8 hk h),obs];by_cases hg:G4 (m.map rp)=true
 ·rw[zr hg,hg,nT,cF,A13 (G8.1 hg)];rfl
 ·rw[zw hg,Bool.eq_false_iff.2 hg,nF,cT]
section
variable {ps:List Q2} {s:Rat} (hps:SzR ps) (hs:Sz 2 s) (b:Bool)
include hps hs
end
section
variable {l:List RPt} {a:RF} (hl:l.length<=1000) (hb:∀x∈l,BrP x) (ha:BrF a) (h:(G4 l&&(Ca (toQ a)&&shQ 2 a))=false) (b:Bool)
include hl hb ha h
end
def A5O(ps:List Q2):Rat:=match ps with|[]=>0|a::m=>chn crs a (m++[a])
theorem Vw(ps:List Q2):A5O ps=Lm ps:=by
 cases ps with
 |nil=>rfl
 |cons a m=>
  have hl2:KZ (a::m)=Ap0 a m:=by rw[<-Zk a (a::m) (by simp)];rfl
  show chn crs a (m++[a])=chn crs (KZ (a::m)) (a::m);rw[A2g,hl2,chn]
  grind
theorem A0o{p q:Q2}(hp:SzP 8 p)(hq:SzP 8 q):Sz 33 (crs p q):=(I8 (Js hp.1 hq.2) (Js hq.1 hp.2)).mono (by omega)
section
variable {ps:List Q2} {f:Q2} (hps:SzR ps) (hf:ps[0]? =some f)
include hps hf
theorem Am3{k:Nat}(hk:k<ps.length):∃d,AI (ps.map rp) (Int.tmod (zi zj ((k:Int)+1)) (ps.length:Int))=some (rp d)/\SzP 8 d/\∃r,ps.drop (k+1)++[f]=d::r/\(k+1<ps.length->r=ps.drop (k+2)++[f])/\(k+1=ps.length->r=[]):=by
 have h40:=hps.1;rw[AJ (by omega),zc6 (by omega)];by_cases h:k+1<ps.length
 ·have e:((k+1:Nat):Int)%(ps.length:Int)=((k+1:Nat):Int):=Int.emod_eq_of_lt (by omega) (by omega);rw[e];have hg:ps[k+1]? =some ps[k+1]:=za1 h;exact⟨ps[k+1],HE hg,hps.2 _ (za4 hg),ps.drop (k+2)++[f],by rw[zb0 h,List.cons_append],fun _=>rfl,fun h'=>by omega⟩
 ·have e:((k+1:Nat):Int)%(ps.length:Int)=((0:Nat):Int):=by rw[show k+1=ps.length by omega];exact Int.emod_self
  rw[e];refine⟨f,HE hf,hps.2 _ (za4 hf),[],?_,fun h'=>absurd h' h,fun _=>rfl⟩
  rw[zc9 (by omega)];rfl
theorem Au0:∀(m k:Nat)(acc:Rat),k+m=ps.length->Sz (34*k+1) acc->
  ∃r,Ad (fun(s:(RF×(RF×((List RPt)×((List RPt)×(Int×Int))))))=>Bn s.1 s.2.1 s.2.2.1 s.2.2.2.1 s.2.2.2.2.1 s.2.2.2.2.2) (zF,(rqF acc,(ps.map rp,(ps.map rp,((ps.length:Int),(k:Int))))))=some (zF,rqF r)/\Sz 1361 r/\
   r=acc+(match ps.drop k with|[]=>0|c::_=>chn crs c (ps.drop (k+1)++[f])):=by
 have h40:=hps.1;intro m
 induction m with
 |zero=>
  intro k acc hk hacc;refine⟨acc,Aj ?_,hacc.mono (by omega),?_⟩
  ·show Bn zF (rqF acc) (ps.map rp) (ps.map rp) (ps.length:Int) (k:Int)=_;unfold Bn;rw[zq (by omega)];rfl
  ·rw[zc9 (show ps.length<=k by omega)];simp only
   grind
 |succ m ih=>
  intro k acc hk hacc;have hlt:k<ps.length:=by omega
  have hd:ps.drop k=ps[k]::ps.drop (k+1):=zb0 hlt;have hg:ps[k]? =some ps[k]:=za1 hlt;generalize ps[k]=c at hd hg;have sc:=hps.2 c (za4 hg);obtain⟨d,hdg,sd,r,hr,hr1,hr2⟩:=Am3 hps hf hlt;have hx:=A0o sc sd;have hsum:Sz (34*(k+1)+1) (acc+crs c d):=(PF hacc hx).mono (by omega);have hgo:Bn zF (rqF acc) (ps.map rp) (ps.map rp) (ps.length:Int) (k:Int)=some (.inl (zF,(rqF (acc+crs c d),(ps.map rp,(ps.map rp,((ps.length:Int),((k+1:Nat):Int))))))):=by
   unfold Bn;have hz:(((ps.length:Nat):Int)==0)=false:=beq_eq_false_iff_ne.2 (by omega);rw[zp (by omega),cT,HE hg,obs,zd7,hz,cF,hdg,obs];simp only[AU,AT,A3r,A3v,Ii,Il];rw[Hi (k:=8) (by omega) sc.1 sd.2,obs,Hi (k:=8) (by omega) sd.1 sc.2,obs]
   try simp only[AU]
   rw[Oo (k:=16) (by omega) ((Js sc.1 sd.2).mono (by omega)) ((Js sd.1 sc.2).mono (by omega)),obs]
   try simp only[AU]
   rw[show c.1*d.2-d.1*c.2=crs c d from rfl,IX (k:=1400) (by omega) (hacc.mono (by omega)) (hx.mono (by omega)),obs,AJ (by omega)]
  obtain⟨q,g1,g2,g3⟩:=ih (k+1) (acc+crs c d) (by omega) hsum;refine⟨q,(AM (f:=fun(s:(RF×(RF×((List RPt)×((List RPt)×(Int×Int))))))=>Bn s.1 s.2.1 s.2.2.1 s.2.2.2.1 s.2.2.2.2.1 s.2.2.2.2.2) (s:=(zF,(rqF acc,(ps.map rp,(ps.map rp,((ps.length:Int),(k:Int))))))) hgo).trans g1,g2,?_⟩
  rw[g3,hd];simp only;rw[hr,chn];by_cases h:k+1<ps.length
  ·rw[hr1 h];have hd2:ps.drop (k+1)=ps[k+1]::ps.drop (k+2):=zb0 h;rw[hd2]at hr⊢
   have:d=ps[k+1]:=by rw[List.cons_append]at hr;exact(List.cons.inj hr).1.symm
   rw[this];simp only
   grind
  ·rw[hr2 (by omega),zc9 (show ps.length<=k+1 by omega)];simp only[chn]
   grind
theorem Au6:∀(m k:Nat)(acc:Rat),k+m=ps.length->Sz (34*k+1) acc->
  ∃r,Ad (fun(s:(RF×(RF×((List RPt)×((List RPt)×(Int×Int))))))=>BA s.1 s.2.1 s.2.2.1 s.2.2.2.1 s.2.2.2.2.1 s.2.2.2.2.2) (zF,(rqF acc,(ps.map rp,(ps.map rp,((ps.length:Int),(k:Int))))))=some (zF,rqF r)/\Sz 1361 r/\
   r=acc+(match ps.drop k with|[]=>0|c::_=>chn crs c (ps.drop (k+1)++[f])):=by
 have h40:=hps.1;intro m
 induction m with
 |zero=>
  intro k acc hk hacc;refine⟨acc,Aj ?_,hacc.mono (by omega),?_⟩
  ·show BA zF (rqF acc) (ps.map rp) (ps.map rp) (ps.length:Int) (k:Int)=_;unfold BA;rw[zq (by omega)];rfl
  ·rw[zc9 (show ps.length<=k by omega)];simp only
   grind
 |succ m ih=>
  intro k acc hk hacc;have hlt:k<ps.length:=by omega
  have hd:ps.drop k=ps[k]::ps.drop (k+1):=zb0 hlt;have hg:ps[k]? =some ps[k]:=za1 hlt;generalize ps[k]=c at hd hg;have sc:=hps.2 c (za4 hg);obtain⟨d,hdg,sd,r,hr,hr1,hr2⟩:=Am3 hps hf hlt;have hx:=A0o sc sd;have hsum:Sz (34*(k+1)+1) (acc+crs c d):=(PF hacc hx).mono (by omega);have hgo:BA zF (rqF acc) (ps.map rp) (ps.map rp) (ps.length:Int) (k:Int)=some (.inl (zF,(rqF (acc+crs c d),(ps.map rp,(ps.map rp,((ps.length:Int),((k+1:Nat):Int))))))):=by
   unfold BA;have hz:(((ps.length:Nat):Int)==0)=false:=beq_eq_false_iff_ne.2 (by omega);rw[zp (by omega),cT,HE hg,obs,zd7,hz,cF,hdg,obs];simp only[AU,AT,A3r,A3v,Ii,Il];rw[UL (k:=8) (by omega) sc.1 sd.2,obs,UL (k:=8) (by omega) sd.1 sc.2,obs]
   try simp only[AU]
   rw[UQ (k:=16) (by omega) ((Js sc.1 sd.2).mono (by omega)) ((Js sd.1 sc.2).mono (by omega)),obs]
   try simp only[AU]
   rw[show c.1*d.2-d.1*c.2=crs c d from rfl,Qe (k:=1400) (by omega) (hacc.mono (by omega)) (hx.mono (by omega)),obs,AJ (by omega)]
  obtain⟨q,g1,g2,g3⟩:=ih (k+1) (acc+crs c d) (by omega) hsum;refine⟨q,(AM (f:=fun(s:(RF×(RF×((List RPt)×((List RPt)×(Int×Int))))))=>BA s.1 s.2.1 s.2.2.1 s.2.2.2.1 s.2.2.2.2.1 s.2.2.2.2.2) (s:=(zF,(rqF acc,(ps.map rp,(ps.map rp,((ps.length:Int),(k:Int))))))) hgo).trans g1,g2,?_⟩
  rw[g3,hd];simp only;rw[hr,chn];by_cases h:k+1<ps.length
  ·rw[hr1 h];have hd2:ps.drop (k+1)=ps[k+1]::ps.drop (k+2):=zb0 h;rw[hd2]at hr⊢
   have:d=ps[k+1]:=by rw[List.cons_append]at hr;exact(List.cons.inj hr).1.symm
   rw[this];simp only
   grind
  ·rw[hr2 (by omega),zc9 (show ps.length<=k+1 by omega)];simp only[chn]
   grind
end
end
section
open Go
theorem X4:A8 (0:Int)=some (rqF 0):=by rw[Hx (by omega) (by omega)];rfl
theorem Yf:A8 (2:Int)=some (rqF 2):=by rw[Hx (by omega) (by omega)];rfl
theorem YV:Cw (0:Int)=some (rqF 0):=by rw[OD (by omega) (by omega)];rfl
theorem AQ2:Cw (2:Int)=some (rqF 2):=by rw[OD (by omega) (by omega)];rfl
theorem S2:Sz 1361 (2:Rat):=by
 have h:(((2:Int)).natAbs:Int)<B 1361:=Int.lt_of_lt_of_le (by rw[B1];decide:(((2:Int)).natAbs:Int)<B 1) (JI (by omega));have:=Ab3 (z:=2) h (by omega);exact this
theorem S0r:Sz 1 (0:Rat):=by
 have h:(((0:Int)).natAbs:Int)<B 1:=by rw[B1];decide
 have:=Ab3 (z:=0) h (by omega);exact this
theorem R8:(2:Rat)≠0:=by decide
theorem Al5{ps:List Q2}(hps:SzR ps):Iz (ps.map rp)=some (rqF (Lm ps/2))/\Sz 2722 (Lm ps/2):=by
 have h40:=hps.1;have key:∃r,Ad (fun(s:(RF×(RF×((List RPt)×((List RPt)×(Int×Int))))))=>Bn s.1 s.2.1 s.2.2.1 s.2.2.2.1 s.2.2.2.2.1 s.2.2.2.2.2) (zF,(rqF 0,(ps.map rp,(ps.map rp,((ps.length:Int),(0:Int))))))=some (zF,rqF r)/\Sz 1361 r/\r=Lm ps:=by
  cases ps with
  |nil=>
   refine⟨0,Aj ?_,S0r.mono (by omega),rfl⟩
   show Bn zF (rqF 0) [] [] 0 0=_;unfold Bn;rfl
  |cons f m=>
   obtain⟨r,h1,h2,h3⟩:=Au0 hps (f:=f) rfl (f::m).length 0 0 (by omega) S0r;refine⟨r,h1,h2,?_⟩
   rw[h3,<-Vw];show(0:Rat)+chn crs f (m++[f])=chn crs f (m++[f])
   grind
 obtain⟨r,h1,h2,h3⟩:=key;rw[h3]at h1 h2;refine⟨?_,(Ae9 h2 S2 R8).mono (by omega)⟩
 have g1:Ad (fun(s:(RF×(RF×((List RPt)×((List RPt)×(Int×Int))))))=>Bn s.1 s.2.1 s.2.2.1 s.2.2.2.1 s.2.2.2.2.1 s.2.2.2.2.2) ((false,([],(false,[]))),(rqF 0,(ps.map rp,(ps.map rp,((ps.length:Int),(0:Int))))))=some (zF,rqF (Lm ps)):=h1;have hh:Dd (rqF (Lm ps))=some (rqF (Lm ps/2)):=by
  unfold Dd;simp only[AU];rw[Yf,obs]
  try simp only[AU]
  rw[Sx (k:=1361) (by omega) h2 S2 R8,obs]
 unfold Iz;rw[X4,obs]
 try simp only[AU]
 rw[zd7,g1,obs]
 try simp only[AU]
 rw[hh,obs]
theorem TY{ps:List Q2}(hps:SzR ps):HJ (ps.map rp)=some (rqF (Lm ps/2))/\Sz 2722 (Lm ps/2):=by
 have h40:=hps.1;have key2:∃r,Ad (fun(s:(RF×(RF×((List RPt)×((List RPt)×(Int×Int))))))=>BA s.1 s.2.1 s.2.2.1 s.2.2.2.1 s.2.2.2.2.1 s.2.2.2.2.2) (zF,(rqF 0,(ps.map rp,(ps.map rp,((ps.length:Int),(0:Int))))))=some (zF,rqF r)/\Sz 1361 r/\r=Lm ps:=by
  cases ps with
  |nil=>
   refine⟨0,Aj ?_,S0r.mono (by omega),rfl⟩
   show BA zF (rqF 0) [] [] 0 0=_;unfold BA;rfl
  |cons f m=>
   obtain⟨r,h1,h2,h3⟩:=Au6 hps (f:=f) rfl (f::m).length 0 0 (by omega) S0r;refine⟨r,h1,h2,?_⟩
   rw[h3,<-Vw];show(0:Rat)+chn crs f (m++[f])=chn crs f (m++[f])
   grind
 obtain⟨r,h1,h2,h3⟩:=key2;rw[h3]at h1 h2;refine⟨?_,(Ae9 h2 S2 R8).mono (by omega)⟩
 have g1:Ad (fun(s:(RF×(RF×((List RPt)×((List RPt)×(Int×Int))))))=>BA s.1 s.2.1 s.2.2.1 s.2.2.2.1 s.2.2.2.2.1 s.2.2.2.2.2) ((false,([],(false,[]))),(rqF 0,(ps.map rp,(ps.map rp,((ps.length:Int),(0:Int))))))=some (zF,rqF (Lm ps)):=h1;unfold HJ;rw[YV,obs]
 try simp only[AU]
 rw[zd7,g1,obs]
 try simp only[AU]
 rw[AQ2,obs]
 try simp only[AU]
 rw[AM3 (k:=1361) (by omega) h2 S2 R8,obs]
theorem AF3{ps:List Q2}(hps:SzR ps):Gy (ps.map rp)=some (O0 (Lm ps/2)):=by
 have hp:=hps.1;unfold Gy;rw[CX (by simp;omega) (O8 (k:=8) (by omega) hps.2),obs,G8.2 hps,nT,cF,(Al5 hps).1,obs];simp only[AU,AT];rw[Q8,obs]
def ShP(x:RPt):Prop:=ShF (fx x)/\ShF (fy x)
theorem ShP.br{x:RPt}(h:ShP x):BrP x:=⟨h.1.br,h.2.br⟩
end
section
open Go
structure Val (E:Q2->Q2->Rat):Prop where
 anti:∀p q,E p q= -(E q p)
 split:∀p q t,0<=t->t<=1->E p (XT p q t)+E (XT p q t) q=E p q
theorem Val.self{E:Q2->Q2->Rat}(h:Val E)(p:Q2):E p p=0:=by
 have:=h.anti p p
 grind
section
variable (E:Q2->Q2->Rat) (b high:Bool) (s:Rat)
end
section
variable {E:Q2->Q2->Rat} (h:Val E) {b high:Bool} {s:Rat}
include h
end
section
variable {E:Q2->Q2->Rat} (h:Val E) {b high:Bool} {s:Rat}
include h
end
end
section
open Go
def Ph(lo hi:Q2)(l:List Q2):List Q2:=Fl true false hi.2 (Fl true true lo.2 (Fl false false hi.1 (Fl false true lo.1 l)))
end
section
open Go
theorem S1K:Sz 1 (1:Rat):=by have:=Ab3 (z:=1) (Aq7 (k:=1) (by omega)) (by omega);exact this
def SzN(K:Nat)(ps:List Q2):Prop:=ps.length<=1000/\∀p∈ps,SzP K p
theorem N6{K:Nat}(hK:K<=2972){p:Q2}{s:Rat}(hp:SzP K p)(hs:Sz K s)(b high:Bool):Ht high b (rqF s) (fl (rp p))=some (high,(b,(rqF s,ins b high s p))):=by
 have hc:=EQ hp b;unfold Ht;simp only[AU,AT];cases high with
 |true=>
  simp only[cT];rw[UU,obs,Es (k:=K) (by omega) hc hs,obs,A0k];have:(!decide (crd b p<s))=decide (s<=crd b p):=by
   rw[Bool.eq_iff_iff];simp[Rat.not_lt]
  rw[this]
 |false=>
  simp only[cF];rw[UU,obs,Es (k:=K) (by omega) hs hc,obs,A0c];have:(!decide (s<crd b p))=decide (crd b p<=s):=by
   rw[Bool.eq_iff_iff];simp[Rat.not_lt]
  rw[this]
section
variable {K:Nat} (hK:K<=2972) {a c:Q2} {t:Rat} (ha:SzP K a) (hc:SzP K c) (ht:Sz (4*K+2) t)
include hK ha hc ht
theorem A42:UO (fl (rp a)) (fl (rp c)) (rqF t)=some (fl (rp (XT a c t))):=by
 have h1:Sz (4*K+4) (1-t):=(I8 S1K ht).mono (by omega);have m1:∀x:Rat,Sz K x->Sz (5*K+4) ((1-t)*x):=fun x hx=>(Js h1 hx).mono (by omega)
 have m2:∀x:Rat,Sz K x->Sz (5*K+4) (t*x):=fun x hx=>(Js ht hx).mono (by omega)
 unfold UO;simp only[AU,AT,Pv,PD,Ii,Il];rw[Zw,obs]
 try simp only[AU]
 rw[Oo (k:=4*K+2) (by omega) (S1K.mono (by omega)) ht,obs]
 try simp only[AU]
 rw[Hi (k:=4*K+4) (by omega) h1 (ha.1.mono (by omega)),obs,Hi (k:=4*K+4) (by omega) (ht.mono (by omega)) (hc.1.mono (by omega)),obs]
 try simp only[AU]
 rw[IX (k:=5*K+4) (by omega) (m1 _ ha.1) (m2 _ hc.1),obs,Hi (k:=4*K+4) (by omega) h1 (ha.2.mono (by omega)),obs,Hi (k:=4*K+4) (by omega) (ht.mono (by omega)) (hc.2.mono (by omega)),obs]
 try simp only[AU]
 rw[IX (k:=5*K+4) (by omega) (m1 _ ha.2) (m2 _ hc.2),obs];unfold XT;rw[show a.1+t*(c.1-a.1)=(1-t)*a.1+t*c.1 by grind,show a.2+t*(c.2-a.2)=(1-t)*a.2+t*c.2 by grind];rfl
theorem A4U:LX (fl (rp a)) (fl (rp c)) (rqF t)=some (fl (rp (XT a c t))):=by
 have key:∀x y:Rat,Sz K x->Sz K y->H8 (rqF x) (rqF y) (rqF t)=some (rqF (x+t*(y-x))):=by
  intro x y hx hy;unfold H8;simp only[AU];rw[UQ (k:=K) (by omega) hy hx,obs]
  try simp only[AU]
  have h1:Sz (4*K+2) (y-x):=(I8 hy hx).mono (by omega);rw[UL (k:=4*K+2) (by omega) ht h1,obs]
  try simp only[AU]
  rw[Qe (k:=6*K+3) (by omega) (hx.mono (by omega)) ((Js ht (I8 hy hx)).mono (by omega)),obs]
 unfold LX;simp only[AU,AT,Pv,PD,Ii,Il];rw[key _ _ ha.1 hc.1,obs,key _ _ ha.2 hc.2,obs];rfl
theorem A2z:SzP (7*K+4) (XT a c t):=by
 have key:∀x y:Rat,Sz K x->Sz K y->Sz (7*K+4) (x+t*(y-x)):=fun x y hx hy=>(PF hx (Js ht (I8 hy hx))).mono (by omega)
 exact⟨key _ _ ha.1 hc.1,key _ _ ha.2 hc.2⟩
end
section
variable {K:Nat} (hK:K<=2972) {a c:Q2} {s:Rat} {b:Bool} (ha:SzP K a) (hc:SzP K c) (hs:Sz K s) (hne:crd b c≠crd b a)
include hK ha hc hs hne
theorem AY6:Sz (4*K+2) ((s-crd b a)/(crd b c-crd b a)):=
 (Ae9 (I8 hs (EQ ha b)) (I8 (EQ hc b) (EQ ha b)) (fun e=>hne (by grind))).mono (by omega)
theorem A2L:SzP (7*K+4) (At8 b s a c):=A2z hK ha hc (AY6 hK ha hc hs hne)
theorem A1c:FX (rqF (s-crd b a)) (rqF (crd b c-crd b a))=some (rqF ((s-crd b a)/(crd b c-crd b a))):=
 Sx (k:=2*K+1) (by omega) ((I8 hs (EQ ha b)).mono (by omega)) ((I8 (EQ hc b) (EQ ha b)).mono (by omega)) (fun e=>hne (by grind))
theorem AS8:Mo (fl (rp a)) (fl (rp c)) b (rqF s)=some (fl (rp (At8 b s a c))):=by
 have hon:=A4W (s:=s) hne;unfold Mo;simp only[AU,AT];rw[Ab4,obs]
 try simp only[AU]
 rw[UQ (k:=K) (by omega) hs (EQ ha b),obs,Ab4,obs]
 try simp only[AU]
 rw[UQ (k:=K) (by omega) (EQ hc b) (EQ ha b),obs]
 try simp only[AU]
 rw[AM3 (k:=2*K+1) (by omega) ((I8 hs (EQ ha b)).mono (by omega)) ((I8 (EQ hc b) (EQ ha b)).mono (by omega)) (fun e=>hne (by grind)),obs]
 try simp only[AU]
 rw[A4U hK ha hc (AY6 hK ha hc hs hne),obs,show XT a c ((s-crd b a)/(crd b c-crd b a))=At8 b s a c from rfl];generalize At8 b s a c=m at hon;cases b with
 |true=>
  rw[cT];have:m.2=s:=hon;rw[<-this];rfl
 |false=>
  rw[cF];have:m.1=s:=hon;rw[<-this];rfl
end
theorem AI9{K:Nat}(hK:K<=2972){p:Q2}{s:Rat}(hp:SzP K p)(hs:Sz K s)(b high:Bool):∃v,H7 (fl (rp p)) b (rqF s) high=some v/\decide (v<=0)=ins b high s p:=by
 have hc:=EQ hp b;unfold H7;simp only[AU,AT];rw[Ab4,obs]
 try simp only[AU]
 rw[Me (k:=K) (by omega) hc hs,obs];have h1:= @AJ4 (crd b p) s;have h2:= @Ka (crd b p) s;have hb: -1<=QJ (crd b p) s/\QJ (crd b p) s<=1:=by unfold QJ;split<;>(try split)<;>omega
 cases high with
 |true=>
  refine⟨_,rfl,?_⟩
  rw[Ae (by omega) (by omega),A0k];refine decide_eq_decide.2 ?_
  rw[<-Rat.not_lt,<-h1];omega
 |false=>
  refine⟨_,rfl,?_⟩
  rw[A0c];refine decide_eq_decide.2 ?_
  rw[<-Rat.not_lt,<-h2];omega
section
variable {K:Nat} (hK:K<=2972) {ps:List Q2} {s:Rat} (hps:SzN K ps) (hs:Sz K s) (b high:Bool)
include hK hps hs
theorem Aa2:∀(m k:Nat)(a:Q2)(out:List Q2),k+m=ps.length->(k<ps.length->ps[(k+ps.length-1)%ps.length]? =some a)->out.length<=2*k->
  Ad (fun(s:(Bool×(RF×(Bool×((List (RQ×RQ))×((List (RQ×RQ))×((List (RQ×RQ))×(Int×Int))))))))=>Eu s.1 s.2.1 s.2.2.1 s.2.2.2.1 s.2.2.2.2.1 s.2.2.2.2.2.1 s.2.2.2.2.2.2.1 s.2.2.2.2.2.2.2)
   (b,(rqF s,(high,(out.map rp,(ps.map rp,(ps.map rp,((ps.length:Int),(k:Int))))))))=some ((out++CZ b high s a (ps.drop k)).map rp):=by
 intro m
 induction m with
 |zero=>
  intro k a out hk _ _;refine Aj ?_
  show Eu b (rqF s) high (out.map rp) (ps.map rp) (ps.map rp) (ps.length:Int) (k:Int)=_;unfold Eu;rw[zq (by omega),zc9 (by omega),CZ,ze8];rfl
 |succ m ih=>
  intro k a out hk ha hout;have h40:=hps.1;have hlt:k<ps.length:=by omega
  have ha:=ha hlt;have hd:ps.drop k=ps[k]::ps.drop (k+1):=zb0 hlt;have hg:ps[k]? =some ps[k]:=za1 hlt;generalize ps[k]=c at hd hg;have sa:=hps.2 a (za4 ha);have sc:=hps.2 c (za4 hg);have hgo:Eu b (rqF s) high (out.map rp) (ps.map rp) (ps.map rp) (ps.length:Int) (k:Int)=some (.inl (b,(rqF s,(high,((out++OV b high s a c).map rp,(ps.map rp,(ps.map rp,((ps.length:Int),((k+1:Nat):Int))))))))):=by
   unfold Eu;have hz:(((ps.length:Nat):Int)==0)=false:=beq_eq_false_iff_ne.2 (by omega);rw[zp (by omega),cT,HE hg,obs,zd7,hz,cF,AL2 hlt (by omega),HE ha,obs];simp only[AU,AT,AW9];rw[N6 hK sa hs,obs];simp only;rw[N6 hK sc hs,obs];simp only;unfold OV;have ol:(out.map rp).length<=100000:=by rw[zd7];omega
   by_cases hne:ins b high s a=ins b high s c
   ·rw[show(ins b high s a==ins b high s c)=true from beq_iff_eq.2 hne,nT,cF,obs,sEr,zr hne];simp only[AU,AT];rw[N6 hK sc hs,obs];simp only;cases hi:ins b high s c with
    |true=>
     rw[cT,AB7,VA,XL ol,obs,AJ (by omega)];simp
    |false=>
     rw[cF,AJ (by omega)];simp
   ·have hcut:=Ay5 hne;rw[show(ins b high s a==ins b high s c)=false from beq_eq_false_iff_ne.2 hne,nF,cT,UU,obs]
    try simp only[AU]
    rw[Oo (k:=K) (by omega) hs (EQ sa b),obs,UU,obs,obs]
    try simp only[AU]
    rw[Oo (k:=K) (by omega) (EQ sc b) (EQ sa b),obs]
    try simp only[AU]
    rw[A1c hK sa sc hs hcut,obs]
    try simp only[AU]
    rw[A42 hK sa sc (AY6 hK sa sc hs hcut),obs,show XT a c ((s-crd b a)/(crd b c-crd b a))=At8 b s a c from rfl,AB7,VA,XL ol,obs,obs,sEr,zw hne];simp only[AU,AT];rw[N6 hK sc hs,obs];simp only;cases hi:ins b high s c with
    |true=>
     rw[cT,AB7,VA,XL (by simp;omega),obs,AJ (by omega)];simp
    |false=>
     rw[cF,AJ (by omega)];simp
  refine(AM (f:=fun(s:(Bool×(RF×(Bool×((List (RQ×RQ))×((List (RQ×RQ))×((List (RQ×RQ))×(Int×Int))))))))=>Eu s.1 s.2.1 s.2.2.1 s.2.2.2.1 s.2.2.2.2.1 s.2.2.2.2.2.1 s.2.2.2.2.2.2.1 s.2.2.2.2.2.2.2)
   (s:=(b,(rqF s,(high,(out.map rp,(ps.map rp,(ps.map rp,((ps.length:Int),(k:Int))))))))) hgo).trans ?_
  have hst:=W4 b high s a c;rw[ih (k+1) c (out++OV b high s a c) (by omega) (fun h=>by rw[Yn hlt];exact hg) (by rw[zd4];omega),hd,CZ,List.append_assoc]
theorem Ad0:∀(m k:Nat)(a:Q2)(out:List Q2),k+m=ps.length->(k<ps.length->ps[(k+ps.length-1)%ps.length]? =some a)->out.length<=2*k->
  Ad (fun(s:(RF×((List (RQ×RQ))×((List (RQ×RQ))×(Bool×(Bool×((List (RQ×RQ))×(Int×Int))))))))=>CL s.1 s.2.1 s.2.2.1 s.2.2.2.1 s.2.2.2.2.1 s.2.2.2.2.2.1 s.2.2.2.2.2.2.1 s.2.2.2.2.2.2.2)
   (rqF s,(out.map rp,(ps.map rp,(b,(high,(ps.map rp,((ps.length:Int),(k:Int))))))))=some ((out++CZ b high s a (ps.drop k)).map rp):=by
 intro m
 induction m with
 |zero=>
  intro k a out hk _ _;refine Aj ?_
  show CL (rqF s) (out.map rp) (ps.map rp) b high (ps.map rp) (ps.length:Int) (k:Int)=_;unfold CL;rw[zq (by omega),zc9 (by omega),CZ,ze8];rfl
 |succ m ih=>
  intro k a out hk ha hout;have h40:=hps.1;have hlt:k<ps.length:=by omega
  have ha:=ha hlt;have hd:ps.drop k=ps[k]::ps.drop (k+1):=zb0 hlt;have hg:ps[k]? =some ps[k]:=za1 hlt;generalize ps[k]=c at hd hg;have sa:=hps.2 a (za4 ha);have sc:=hps.2 c (za4 hg);have hgo:CL (rqF s) (out.map rp) (ps.map rp) b high (ps.map rp) (ps.length:Int) (k:Int)=some (.inl (rqF s,((out++OV b high s a c).map rp,(ps.map rp,(b,(high,(ps.map rp,((ps.length:Int),((k+1:Nat):Int))))))))):=by
   unfold CL;have hz:(((ps.length:Nat):Int)==0)=false:=beq_eq_false_iff_ne.2 (by omega);obtain⟨v,v1,v2⟩:=AI9 hK sa hs b high;obtain⟨w,w1,w2⟩:=AI9 hK sc hs b high;rw[zp (by omega),cT,HE hg,obs,zd7,hz,cF,AL2 hlt (by omega),HE ha,obs];simp only[AU,AT,AW9];rw[v1,obs,w1,obs,v2,w2];unfold OV;have ol:(out.map rp).length<=100000:=by rw[zd7];omega
   by_cases hne:ins b high s a=ins b high s c
   ·rw[show(ins b high s a==ins b high s c)=true from beq_iff_eq.2 hne,nT,cF,zr hne];cases hi:ins b high s c with
    |true=>
     rw[cT,XL ol,obs,AJ (by omega)];simp
    |false=>
     rw[cF,AJ (by omega)];simp
   ·have hcut:=Ay5 hne;rw[show(ins b high s a==ins b high s c)=false from beq_eq_false_iff_ne.2 hne,nF,cT,AS8 hK sa sc hs hcut,obs,AB7,VA,XL ol,obs,zw hne];cases hi:ins b high s c with
    |true=>
     rw[cT,XL (by simp;omega),obs,AJ (by omega)];simp
    |false=>
     rw[cF,AJ (by omega)];simp
  refine(AM (f:=fun(s:(RF×((List (RQ×RQ))×((List (RQ×RQ))×(Bool×(Bool×((List (RQ×RQ))×(Int×Int))))))))=>CL s.1 s.2.1 s.2.2.1 s.2.2.2.1 s.2.2.2.2.1 s.2.2.2.2.2.1 s.2.2.2.2.2.2.1 s.2.2.2.2.2.2.2)
   (s:=(rqF s,(out.map rp,(ps.map rp,(b,(high,(ps.map rp,((ps.length:Int),(k:Int))))))))) hgo).trans ?_
  have hst:=W4 b high s a c;rw[ih (k+1) c (out++OV b high s a c) (by omega) (fun h=>by rw[Yn hlt];exact hg) (by rw[zd4];omega),hd,CZ,List.append_assoc]
theorem Aj5(h:0<ps.length):ps[(0+ps.length-1)%ps.length]? =some (KZ ps):=by
 rw[ze4,Nat.mod_eq_of_lt (by omega),<-List.getLast?_eq_getElem?];unfold KZ;cases hl:ps.getLast? with
 |none=>rw[List.getLast?_eq_none_iff.1 hl]at h;simp at h
 |some x=>rfl
theorem UZ:JR (ps.map rp) b high (rqF s)=some ((Fl b high s ps).map rp):=by
 have h:=Aa2 hK hps hs b high ps.length 0 (KZ ps) [] (by omega) (fun h=>Aj5 hK hps hs h) (by simp);rw[zf0,List.nil_append]at h;have h':Ad (fun(s:(Bool×(RF×(Bool×((List (RQ×RQ))×((List (RQ×RQ))×((List (RQ×RQ))×(Int×Int))))))))=>Eu s.1 s.2.1 s.2.2.1 s.2.2.2.1 s.2.2.2.2.1 s.2.2.2.2.2.1 s.2.2.2.2.2.2.1 s.2.2.2.2.2.2.2)
   (b,(rqF s,(high,((List.nil:List RPt),(ps.map rp,(ps.map rp,((ps.length:Int),(0:Int))))))))=_:=h
 unfold JR;simp only[AU,AT];rw[zd7,h',obs];rfl
theorem LR:EJ (ps.map rp) b (rqF s) high=some ((Fl b high s ps).map rp):=by
 have h:=Ad0 hK hps hs b high ps.length 0 (KZ ps) [] (by omega) (fun h=>Aj5 hK hps hs h) (by simp);rw[zf0,List.nil_append]at h;have h':Ad (fun(s:(RF×((List (RQ×RQ))×((List (RQ×RQ))×(Bool×(Bool×((List (RQ×RQ))×(Int×Int))))))))=>CL s.1 s.2.1 s.2.2.1 s.2.2.2.1 s.2.2.2.2.1 s.2.2.2.2.2.1 s.2.2.2.2.2.2.1 s.2.2.2.2.2.2.2)
   (rqF s,((List.nil:List RPt),(ps.map rp,(b,(high,(ps.map rp,((ps.length:Int),(0:Int))))))))=_:=h
 unfold EJ;simp only[AU,AT];rw[zd7,h',obs];rfl
theorem P6:(Fl b high s ps).length<=2*ps.length/\∀p∈Fl b high s ps,SzP (7*K+4) p:=by
 have h40:=hps.1;have h2:=hps.2;have key:∀(l:List Q2)(a:Q2),SzP K a->(∀p∈l,SzP K p)->(CZ b high s a l).length<=2*l.length/\∀p∈CZ b high s a l,SzP (7*K+4) p:=by
  intro l
  induction l with
  |nil=>intro a _ _;exact⟨by simp[CZ],fun p hp=>by simp[CZ]at hp⟩
  |cons c l ih=>
   intro a ha hl;have hc:=hl c (by simp);obtain⟨i1,i2⟩:=ih c hc (fun p hp=>hl p (List.mem_cons_of_mem _ hp));have hst:=W4 b high s a c;rw[CZ];refine⟨by rw[zd4,zb9];omega,fun p hp=> ?_⟩
   rcases zb6.1 hp with hp|hp
   ·unfold OV at hp;rcases zb6.1 hp with hp|hp
    ·by_cases e:ins b high s a=ins b high s c
     ·rw[zr e]at hp;cases hp
     ·rw[zw e]at hp;rw[zf2.1 hp];exact A2L hK ha hc hs (Ay5 e)
    ·by_cases e:ins b high s c=true
     ·rw[zr e]at hp;rw[zf2.1 hp];exact hc.mono (by omega)
     ·rw[zw e]at hp;cases hp
   ·exact i2 p hp
 by_cases hn:ps=[]
 ·unfold Fl;rw[hn];exact⟨by simp[CZ],fun p hp=>by simp[CZ]at hp⟩
 ·obtain⟨k1,k2⟩:=key ps (KZ ps) (h2 _ (AQ4 hn)) h2;exact⟨k1,k2⟩
end
end
section
open Go
theorem An4(p:Q2):((fl (rp p)).1,((fl (rp p)).2.1,((fl (rp p)).2.2.1,((fl (rp p)).2.2.2.1,rqF p.2))))=fl (rp p):=(rfl)
section
variable {ps:List Q2} {lo hi:Q2} (hps:SzR ps) (hlo:SzP 2 lo) (hhi:SzP 2 hi)
include hps hlo hhi
theorem N3:SzN 8 ps/\SzN 60 (Fl false true lo.1 ps)/\SzN 424 (Fl false false hi.1 (Fl false true lo.1 ps))/\SzN 2972 (Fl true true lo.2 (Fl false false hi.1 (Fl false true lo.1 ps)))/\
  ((Ph lo hi ps).length<=640/\∀p∈Ph lo hi ps,SzP 20808 p):=by
 have h40:=hps.1;have s0:SzN 8 ps:=⟨by omega,hps.2⟩;obtain⟨l1,z1⟩:=P6 (K:=8) (by omega) s0 (hlo.1.mono (by omega)) false true;have s1:SzN 60 (Fl false true lo.1 ps):=⟨by omega,fun p hp=>(z1 p hp).mono (by omega)⟩;obtain⟨l2,z2⟩:=P6 (K:=60) (by omega) s1 (hhi.1.mono (by omega)) false false;have s2:SzN 424 (Fl false false hi.1 (Fl false true lo.1 ps)):=⟨by omega,fun p hp=>(z2 p hp).mono (by omega)⟩;obtain⟨l3,z3⟩:=P6 (K:=424) (by omega) s2 (hlo.2.mono (by omega)) true true
 have s3:SzN 2972 (Fl true true lo.2 (Fl false false hi.1 (Fl false true lo.1 ps))):=⟨by omega,fun p hp=>(z3 p hp).mono (by omega)⟩;obtain⟨l4,z4⟩:=P6 (K:=2972) (by omega) s3 (hhi.2.mono (by omega)) true false;refine⟨s0,s1,s2,s3,?_,fun p hp=>(z4 p hp).mono (by omega)⟩
 unfold Ph;omega
theorem AS5:JY (ps.map rp) (fl (rp lo)) (fl (rp hi))=some ((Ph lo hi ps).map rp):=by
 obtain⟨s0,s1,s2,s3,_⟩:=N3 hps hlo hhi;unfold JY;simp only[AU,AT,Pv,PD,Ii,Il,An4];rw[UZ (K:=8) (by omega) s0 (hlo.1.mono (by omega)),obs,UZ (K:=60) (by omega) s1 (hhi.1.mono (by omega)),obs,UZ (K:=424) (by omega) s2 (hlo.2.mono (by omega)),obs,UZ (K:=2972) (by omega) s3 (hhi.2.mono (by omega)),obs];rfl
theorem A0b:Mf (ps.map rp) (fl (rp lo)) (fl (rp hi))=some ((Ph lo hi ps).map rp):=by
 obtain⟨s0,s1,s2,s3,_⟩:=N3 hps hlo hhi;unfold Mf;simp only[AU,AT,Pv,PD,Ii,Il,An4];rw[LR (K:=8) (by omega) s0 (hlo.1.mono (by omega)),obs,LR (K:=60) (by omega) s1 (hhi.1.mono (by omega)),obs,LR (K:=424) (by omega) s2 (hlo.2.mono (by omega)),obs,LR (K:=2972) (by omega) s3 (hhi.2.mono (by omega)),obs];rfl
end
def Q0(x:RPt):Bool:=(Ca x.1&&Ca x.2)&&(shQ 2 (fx x)&&shQ 2 (fy x))
theorem I0{x:RPt}:Q0 x=true↔∃p,SzP 2 p/\x=rp p:=by
 constructor
 ·intro h;unfold Q0 at h;simp only[za2]at h;obtain⟨⟨h1,h2⟩,h3,h4⟩:=h;obtain⟨a,ha,e1⟩:=K0.1 h1;obtain⟨c,hc,e2⟩:=K0.1 h2;have exy:x=(rq a,rq c):=by rw[<-e1,<-e2]
  have ex:fx x=rqF a:=by rw[exy];rfl
  have ey:fy x=rqF c:=by rw[exy];rfl
  rw[ex,SU (by omega)]at h3;rw[ey,SU (by omega)]at h4;exact⟨(a,c),⟨of_decide_eq_true h3,of_decide_eq_true h4⟩,by unfold rp;rw[<-e1,<-e2]⟩
 ·rintro⟨p,hp,rfl⟩;unfold Q0;rw[Ii,Il,SU (by omega),SU (by omega),zp hp.1,zp hp.2,Bool.and_true,Bool.and_true,za2];exact⟨Rf (hp.1.mono (by omega)),Rf (hp.2.mono (by omega))⟩
theorem GL{x:RPt}(h:BrP x):FU (fl x) 2=some (Q0 x):=by
 have hl:F8 [x.1,x.2]=some (Ca x.1&&Ca x.2):=by
  rw[Yr (by simp) (by
   intro a ha;simp at ha;rcases ha with rfl|rfl
   ·exact h.1
   ·exact h.2)]
  simp
 have e:((((fl x).1,(fl x).2.1),((fl x).2.2.1,(fl x).2.2.2.1)):RQ)=x.1:=rfl;have e':((((fl x).2.2.2.2.1,(fl x).2.2.2.2.2.1),(fl x).2.2.2.2.2.2):RQ)=x.2:=rfl;unfold FU Q0;simp only[AT];rw[e,e',hl,obs];have s1:=Mw (fx x) 2;have s2:=Mw (fy x) 2;rw[show((2:Nat):Int)=2 from rfl]at s1 s2;cases hg:Ca x.1&&Ca x.2 with
 |false=>rfl
 |true=>
  rw[cT]
  try simp only[Pv,PD]
  rw[s1,obs,ze1];cases shQ 2 (fx x)with
  |false=>rfl
  |true=>rw[cT,s2,obs,ze1]
theorem Ir{x:RPt}(h:BrP x):KK (fl x)=some (Q0 x):=by
 unfold KK Q0;simp only[AT,Pv,PD];rw[WU h.1,obs,Az7];cases h1:Ca x.1 with
 |false=>rw[zf8,cF,zf8,zf8]
 |true=>
  cases h2:shQ 2 (fx x)with
  |false=>rw[Bool.and_false,cF,zf8,Bool.and_false]
  |true=>rw[Bool.and_true,cT,WU h.2,obs,Ax7,ze1,ze1]
section
variable {ps:List Q2} {lo hi:Q2} (hps:SzR ps) (hlo:SzP 2 lo) (hhi:SzP 2 hi) (hx:lo.1<=hi.1) (hy:lo.2<=hi.2)
include hps hlo hhi hx hy
theorem AR4:B6 (ps.map rp) (fl (rp lo)) (fl (rp hi))=some (Uw (Ph lo hi ps)):=by
 have hp:=hps.1;obtain⟨_,_,_,_,c1,c2⟩:=N3 hps hlo hhi;unfold B6;simp only[AU,AT,Pv,PD,Ii,Il,An4];rw[CX (by simp;omega) (O8 (k:=8) (by omega) hps.2),obs,G8.2 hps,nT,cF,GL (Xu (k:=2) (by omega) hlo),obs,I0.2 ⟨lo,hlo,rfl⟩,nT,cF,GL (Xu (k:=2) (by omega) hhi),obs,I0.2 ⟨hi,hhi,rfl⟩,nT,cF,
  Es (k:=2) (by omega) hhi.1 hlo.1,obs,zq (Rat.not_lt.2 hx),cF,Es (k:=2) (by omega) hhi.2 hlo.2,obs,zq (Rat.not_lt.2 hy),cF,AS5 hps hlo hhi,obs,XE (k:=20808) (by omega) (by omega) c2,obs]
theorem AT5:B0 (ps.map rp) (fl (rp lo)) (fl (rp hi))=some (Uw (Ph lo hi ps)):=by
 have hp:=hps.1;obtain⟨_,_,_,_,c1,c2⟩:=N3 hps hlo hhi;have nx:¬QJ lo.1 hi.1>0:=fun h=>Rat.not_lt.2 hx (Ka.1 h)
 have ny:¬QJ lo.2 hi.2>0:=fun h=>Rat.not_lt.2 hy (Ka.1 h)
 unfold B0;simp only[AU,AT,Pv,PD,Ii,Il,An4];rw[FO (by simp;omega) (O8 (k:=8) (by omega) hps.2),obs,G8.2 hps,nT,cF,Ir (Xu (k:=2) (by omega) hlo),obs,I0.2 ⟨lo,hlo,rfl⟩,nT,cF,Ir (Xu (k:=2) (by omega) hhi),obs,I0.2 ⟨hi,hhi,rfl⟩,nT,cF,
  Me (k:=2) (by omega) hlo.1 hhi.1,obs,zq nx,cF,Me (k:=2) (by omega) hlo.2 hhi.2,obs,zq ny,cF,A0b hps hlo hhi,obs,AT0 (k:=20808) (by omega) (by omega) c2,obs]
end
theorem A2l{m:List Q2}(h:(Uw m).2=true):SzR m/\Uw m=(m.map rp,true):=by
 unfold Uw at h⊢
 by_cases hg:G4 (m.map rp)=true
 ·rw[zr hg];exact⟨G8.1 hg,rfl⟩
 ·rw[zw hg]at h;cases h
theorem AT3{m:List Q2}(h:(Uw m).2=false):(Uw m).1=[]:=by
 unfold Uw at h⊢
 by_cases hg:G4 (m.map rp)=true
 ·rw[zr hg]at h;cases h
 ·rw[zw hg]
theorem Az4{l:List RPt}{a c:RPt}(hl:l.length<=1000)(hb:∀x∈l,BrP x)(ha:BrP a)(hc:BrP c):∃f,B6 l (fl a) (fl c)=some f/\B0 l (fl a) (fl c)=some f/\(f.2=false->f.1=[])/\
  (f.2=true->∃ps lo hi,SzR ps/\SzP 2 lo/\SzP 2 hi/\lo.1<=hi.1/\lo.2<=hi.2/\l=ps.map rp/\a=rp lo/\c=rp hi/\SzR (Ph lo hi ps)/\f=((Ph lo hi ps).map rp,true)):=by
 have bad:B6 l (fl a) (fl c)=some ([],false)->B0 l (fl a) (fl c)=some ([],false)->∃f,B6 l (fl a) (fl c)=some f/\B0 l (fl a) (fl c)=some f/\(f.2=false->f.1=[])/\
  (f.2=true->∃ps lo hi,SzR ps/\SzP 2 lo/\SzP 2 hi/\lo.1<=hi.1/\lo.2<=hi.2/\l=ps.map rp/\a=rp lo/\c=rp hi/\SzR (Ph lo hi ps)/\f=((Ph lo hi ps).map rp,true)):=
  fun h1 h2=>⟨_,h1,h2,fun _=>rfl,fun h=>by cases h⟩
 cases hg:G4 l with
 |false=>
  refine bad ?_ ?_
  ·unfold B6;rw[CX (by omega) hb,obs,hg,nF,cT]
  ·unfold B0;rw[FO (by omega) hb,obs,hg,nF,cT]
 |true=>
  cases g1:Q0 a with
  |false=>
   refine bad ?_ ?_
   ·unfold B6;simp only[AU,AT];rw[CX (by omega) hb,obs,hg,nT,cF,GL ha,obs,g1,nF,cT]
   ·unfold B0;simp only[AU,AT];rw[FO (by omega) hb,obs,hg,nT,cF,Ir ha,obs,g1,nF,cT]
  |true=>
   cases g2:Q0 c with
   |false=>
    refine bad ?_ ?_
    ·unfold B6;simp only[AU,AT];rw[CX (by omega) hb,obs,hg,nT,cF,GL ha,obs,g1,nT,cF,GL hc,obs,g2,nF,cT]
    ·unfold B0;simp only[AU,AT];rw[FO (by omega) hb,obs,hg,nT,cF,Ir ha,obs,g1,nT,cF,Ir hc,obs,g2,nF,cT]
   |true=>
    obtain⟨ps,hps,el⟩:=AV5.1 hg;obtain⟨lo,hlo,ea⟩:=I0.1 g1;obtain⟨hi,hhi,ec⟩:=I0.1 g2;by_cases hx:lo.1<=hi.1
    ·by_cases hy:lo.2<=hi.2
     ·have q1:=AR4 hps hlo hhi hx hy;have q2:=AT5 hps hlo hhi hx hy;rw[<-el,<-ea,<-ec]at q1 q2;refine⟨_,q1,q2,AT3,fun h=> ?_⟩
      obtain⟨o1,o2⟩:=A2l h;exact⟨ps,lo,hi,hps,hlo,hhi,hx,hy,el,ea,ec,o1,o2⟩
     ·have hy':=Rat.not_le.1 hy;refine bad ?_ ?_
      ·unfold B6;simp only[AU,AT];rw[CX (by omega) hb,obs,hg,nT,cF,GL ha,obs,g1,nT,cF,GL hc,obs,g2,nT,cF,ea,ec];simp only[AU,AT,Pv,PD,Ii,Il,An4];rw[Es (k:=2) (by omega) hhi.1 hlo.1,obs,zq (Rat.not_lt.2 hx),cF,Es (k:=2) (by omega) hhi.2 hlo.2,obs,zp hy',cT]
      ·unfold B0;simp only[AU,AT];rw[FO (by omega) hb,obs,hg,nT,cF,Ir ha,obs,g1,nT,cF,Ir hc,obs,g2,nT,cF,ea,ec];simp only[AU,AT,Pv,PD,Ii,Il,An4];have nx:¬QJ lo.1 hi.1>0:=fun h=>Rat.not_lt.2 hx (Ka.1 h)
       rw[Me (k:=2) (by omega) hlo.1 hhi.1,obs,zq nx,cF,Me (k:=2) (by omega) hlo.2 hhi.2,obs,zp (Ka.2 hy'),cT]
    ·have hx':=Rat.not_le.1 hx;refine bad ?_ ?_
     ·unfold B6;simp only[AU,AT];rw[CX (by omega) hb,obs,hg,nT,cF,GL ha,obs,g1,nT,cF,GL hc,obs,g2,nT,cF,ea,ec];simp only[AU,AT,Pv,PD,Ii,Il,An4];rw[Es (k:=2) (by omega) hhi.1 hlo.1,obs,zp hx',cT]
     ·unfold B0;simp only[AU,AT];rw[FO (by omega) hb,obs,hg,nT,cF,Ir ha,obs,g1,nT,cF,Ir hc,obs,g2,nT,cF,ea,ec];simp only[AU,AT,Pv,PD,Ii,Il,An4];rw[Me (k:=2) (by omega) hlo.1 hhi.1,obs,zp (Ka.2 hx'),cT]
end
section
open Go
def ptQ(p:Int×Int):Q2:=((p.1:Rat),(p.2:Rat))
theorem Q9{n:Int}(h1: -100000<=n)(h2:n<=100000):Sz 2 (n:Rat):=Ab3 (by have:B 2=4294967296:=rfl;omega) (by omega)
def SmP(p:Int×Int):Prop:=(-100000<=p.1/\p.1<=100000)/\(-100000<=p.2/\p.2<=100000)
theorem A4E{p:Int×Int}(h:SmP p):SzP 2 (ptQ p):=⟨Q9 h.1.1 h.1.2,Q9 h.2.1 h.2.2⟩
theorem GP.sm{p:Int×Int}(h:GP p):SmP p:=by
 obtain⟨a,b,c,d⟩:=h;unfold SmP;omega
theorem Vb{p:Int×Int}(h:SmP p):I1 p=some (fl (rp (ptQ p))):=by
 obtain⟨⟨h1,h2⟩,h3,h4⟩:=h;unfold I1
 try simp only
 rw[OD (by omega) (by omega),obs,OD (by omega) (by omega),obs];rfl
theorem A2e{w:List (Int×Int)}(hl:w.length<=1000)(h:∀p∈w,SmP p):LF w=some ((w.map ptQ).map rp):=by
 have key:∀(m k:Nat)(l:List RPt),k+m=w.length->l.length=k->Ad (fun(s:((List RPt)×((List (Int×Int))×(Int×Int))))=>Df s.1 s.2.1 s.2.2.1 s.2.2.2) (l,(w,((w.length:Int),(k:Int))))=some (l++((w.drop k).map ptQ).map rp):=by
  intro m
  induction m with
  |zero=>
   intro k l hk hlk;refine Aj ?_
   show Df l w (w.length:Int) (k:Int)=_;unfold Df;rw[zq (by omega),zc9 (by omega)];simp[cF]
  |succ m ih=>
   intro k l hk hlk;have hlt:k<w.length:=by omega
   have hg:w[k]? =some w[k]:=za1 hlt;have hd:w.drop k=w[k]::w.drop (k+1):=zb0 hlt;have gp:=h _ (za4 hg);generalize w[k]=p at hg hd gp;obtain⟨⟨g1,g2⟩,g3,g4⟩:=gp;have hb:Df l w (w.length:Int) (k:Int)=some (.inl (l++[rp (ptQ p)],(w,((w.length:Int),((k+1:Nat):Int))))):=by
    unfold Df;rw[zp (by omega),cT,Ah,hg,obs]
    try simp only
    rw[Hx (by omega) (by omega),obs,Hx (by omega) (by omega),obs];simp only[AT];have e:(((((rqF (p.1:Rat)).1,(rqF (p.1:Rat)).2.1),(rqF (p.1:Rat)).2.2),(((rqF (p.2:Rat)).1,(rqF (p.2:Rat)).2.1),(rqF (p.2:Rat)).2.2)):RPt)=rp (ptQ p):=rfl;rw[e,XL (by omega),obs,AJ (by omega)]
   refine(AM (f:=fun(s:((List RPt)×((List (Int×Int))×(Int×Int))))=>Df s.1 s.2.1 s.2.2.1 s.2.2.2) (s:=(l,(w,((w.length:Int),(k:Int))))) hb).trans ?_
   rw[ih (k+1) _ (by omega) (by simp;omega),hd];simp
 have k0:=key w.length 0 [] (by omega) rfl;have k0':Ad (fun(s:((List RPt)×((List (Int×Int))×(Int×Int))))=>Df s.1 s.2.1 s.2.2.1 s.2.2.2) ((List.nil:List RPt),(w,((w.length:Int),(0:Int))))=_:=k0;unfold LF;rw[k0',obs];rfl
theorem XJ{w:List (Int×Int)}(hl:w.length<=1000)(h:∀p∈w,SmP p):Ad (fun(s:((List RPt)×((List (Int×Int))×(Int×Int))))=>Dh s.1 s.2.1 s.2.2.1 s.2.2.2) ((List.nil:List RPt),(w,((w.length:Int),(0:Int))))=some ((w.map ptQ).map rp):=by
 have key:∀(m k:Nat)(l:List RPt),k+m=w.length->l.length=k->Ad (fun(s:((List RPt)×((List (Int×Int))×(Int×Int))))=>Dh s.1 s.2.1 s.2.2.1 s.2.2.2) (l,(w,((w.length:Int),(k:Int))))=some (l++((w.drop k).map ptQ).map rp):=by
  intro m
  induction m with
  |zero=>
   intro k l hk hlk;refine Aj ?_
   show Dh l w (w.length:Int) (k:Int)=_;unfold Dh;rw[zq (by omega),zc9 (by omega)];simp[cF]
  |succ m ih=>
   intro k l hk hlk;have hlt:k<w.length:=by omega
   have hg:w[k]? =some w[k]:=za1 hlt;have hd:w.drop k=w[k]::w.drop (k+1):=zb0 hlt;have gp:=h _ (za4 hg);generalize w[k]=p at hg hd gp;have hb:Dh l w (w.length:Int) (k:Int)=some (.inl (l++[rp (ptQ p)],(w,((w.length:Int),((k+1:Nat):Int))))):=by
    unfold Dh;rw[zp (by omega),cT,Ah,hg,obs];simp only[AT];rw[Vb gp,obs,AB7,VA,XL (by omega),obs,AJ (by omega)]
   refine(AM (f:=fun(s:((List RPt)×((List (Int×Int))×(Int×Int))))=>Dh s.1 s.2.1 s.2.2.1 s.2.2.2) (s:=(l,(w,((w.length:Int),(k:Int))))) hb).trans ?_
   rw[ih (k+1) _ (by omega) (by simp;omega),hd];simp
 exact key w.length 0 [] (by omega) rfl
theorem Ax4{w:List (Int×Int)}(h:JX w=true):∀p∈w,SmP p:=by
 intro p hp;have:=(IN.1 h).2 p hp;rw[AC1]at this;unfold SmP;omega
theorem A2P{w:List (Int×Int)}(h:JX w=true):SzR (w.map ptQ):=by
 have h12:=(IN.1 h).1.2;refine⟨by rw[zd7];omega,fun p hp=> ?_⟩
 obtain⟨q,hq,rfl⟩:=zd5.1 hp;exact(A4E (Ax4 h q hq)).mono (by omega)
end
section
open Go
def En(x y:Int):Q2:=((x:Rat),(y:Rat))
def sqA(ps:List Q2)(x y:Int):Rat:=Lm (Ph (En x y) (En (x+1) (y+1)) ps)
def Ag9(ps:List Q2)(y:Int):Nat->Int->List Rat
 |0,_=>[]
 |n+1,x=>sqA ps x y::Ag9 ps y n (x+1)
def XP(ps:List Q2)(w:Nat)(x:Int):Nat->Int->List Rat
 |0,_=>[]
 |n+1,y=>Ag9 ps y w x++XP ps w x n (y+1)
theorem U3(ps:List Q2)(y:Int):∀(n:Nat)(x:Int),(Ag9 ps y n x).length=n
 |0,_=>rfl
 |n+1,x=>by rw[Ag9,zb9,U3]
theorem Au7(ps:List Q2)(w:Nat)(x:Int):∀(n:Nat)(y:Int),(XP ps w x n y).length=w*n
 |0,_=>rfl
 |n+1,y=>by rw[XP,zd4,U3,Au7,Nat.mul_succ];omega
end
section
open Go
theorem Y5{x y:Int}(hx: -100<=x/\x<=100)(hy: -100<=y/\y<=100):SzP 2 (En x y):=⟨Q9 (by omega) (by omega),Q9 (by omega) (by omega)⟩
theorem Ah3{x y:Int}:(((rqF (x:Rat)).1,((rqF (x:Rat)).2.1,((rqF (x:Rat)).2.2.1,((rqF (x:Rat)).2.2.2,rqF (y:Rat))))))=fl (rp (En x y)):=(rfl)
theorem AE6{q:Rat}(h:(O0 q).2=false):O0 q=(zF,false):=by
 by_cases hz:Sz 40 q
 ·rw[IV hz]at h;cases h
 ·exact Oh hz
theorem AO4{l:List RPt}(hl:l.length<=1000)(hb:∀x∈l,BrP x){x y:Int}(hx: -90<=x/\x<=90)(hy: -90<=y/\y<=90):∃f:RF×Bool,Et l x y=some f/\Fd l x y=some f/\(f.2=false->f=(zF,false))/\
  (f.2=true->∃ps,SzR ps/\l=ps.map rp/\SzR (Ph (En x y) (En (x+1) (y+1)) ps)/\Sz 40 (sqA ps x y/2)/\f=(rqF (sqA ps x y/2),true)):=by
 have c1:=Y5 (x:=x) (y:=y) (by omega) (by omega);have c2:=Y5 (x:=x+1) (y:=y+1) (by omega) (by omega);obtain⟨f,f1,f2,_,f4⟩:=Az4 hl hb (Xu (k:=2) (by omega) c1) (Xu (k:=2) (by omega) c2);have i1:Et l x y=(bif !f.2 then some (zF,false)else(Gy f.1).bind fun x5=>some (x5.1,x5.2)):=by
  unfold Et;rw[Hx (by omega) (by omega),obs,Hx (by omega) (by omega),obs,Ae (by omega) (by omega),Hx (by omega) (by omega),obs,Ae (by omega) (by omega),Hx (by omega) (by omega),obs];simp only[AU,AT];rw[Ah3,Ah3,f1,obs];rfl
 have s1:Fd l x y=(bif !f.2 then some (zF,false)else(HJ f.1).bind fun x3=>(EB x3).bind fun x4=>some (x4.1,x4.2)):=by
  have h1:SmP (x,y):=by unfold SmP;simp only;omega
  have h2:SmP (x+1,y+1):=by unfold SmP;simp only;omega
  unfold Fd;rw[Vb h1,obs,Ae (by omega) (by omega),Ae (by omega) (by omega),Vb h2,obs];simp only[AU,AT];rw[show ptQ (x,y)=En x y from rfl,show ptQ (x+1,y+1)=En (x+1) (y+1)from rfl,f2,obs];rfl
 rw[i1,s1];cases h:f.2 with
 |false=>
  exact⟨(zF,false),by rw[nF,cT],by rw[nF,cT],fun _=>rfl,fun h=>by cases h⟩
 |true=>
  obtain⟨ps,lo,hi,hps,hlo,hhi,hx',hy',el,ea,ec,hm,ef⟩:=f4 h;have e1:lo=En x y:=Ae4 ea.symm;have e2:hi=En (x+1) (y+1):=Ae4 ec.symm;rw[e1,e2]at hm ef;have ef1:f.1=(Ph (En x y) (En (x+1) (y+1)) ps).map rp:=by rw[ef]
  refine⟨O0 (sqA ps x y/2),?_,?_,AE6,fun hf=> ?_⟩
  ·rw[nT,cF,ef1,AF3 hm,obs];simp only[AT,sqA]
  ·rw[nT,cF,ef1,(TY hm).1,obs,Qx (k:=2722) (by omega) (TY hm).2,obs];simp only[AT,sqA]
  ·by_cases hz:Sz 40 (sqA ps x y/2)
   ·exact⟨ps,hps,el,hm,hz,IV hz⟩
   ·rw[Oh hz]at hf;cases hf
def shV (l:List RPt) (x y:Int):RF×Bool:=(Et l x y).getD (zF,false)
theorem QS{l:List RPt}(hl:l.length<=1000)(hb:∀x∈l,BrP x){x y:Int}(hx: -90<=x/\x<=90)(hy: -90<=y/\y<=90):Et l x y=some (shV l x y)/\Fd l x y=some (shV l x y)/\((shV l x y).2=false->shV l x y=(zF,false))/\
  ((shV l x y).2=true->∃ps,SzR ps/\l=ps.map rp/\SzR (Ph (En x y) (En (x+1) (y+1)) ps)/\Sz 40 (sqA ps x y/2)/\shV l x y=(rqF (sqA ps x y/2),true)):=by
 obtain⟨f,h1,h2,h3',h4⟩:=AO4 hl hb hx hy;have e:shV l x y=f:=by unfold shV;rw[h1];rfl
 rw[e];exact⟨h1,h2,h3',h4⟩
def JT (l:List RPt) (y:Int):Nat->Int->Option (List RQ)
 |0,_=>some []
 |n+1,x=>if(shV l x y).2=true then(JT l y n (x+1)).map (toQ (shV l x y).1:: ·)else none
def Id (l:List RPt) (w:Nat) (x:Int):Nat->Int->Option (List RQ)
 |0,_=>some []
 |n+1,y=>(JT l y w x).bind fun r=>(Id l w x n (y+1)).map (r++ ·)
abbrev BZ:=Int×(Int×(Int×Int))
def XZ{α:Type}(f:List RQ->α):Option (List RQ)->α⊕(List RQ×Bool)
 |some r=>.inl (f r)
 |none=>.inr ([],false)
theorem A4s{l:List RQ}{x:RQ}(h:l.length<=100000):C3 64 4 l [x]=some (l++[x]):=Fy (by simp[Ab];omega) (by simp[Ab];omega)
section
variable {l:List RPt} (hl:l.length<=1000) (hb:∀x∈l,BrP x) {w:BZ} (w1: -40<=w.1/\w.1<=40) (w2: -40<=w.2.1/\w.2.1<=40) (w3:0<=w.2.2.1/\w.2.2.1<=40) (w4:0<=w.2.2.2/\w.2.2.2<=40)
include hl hb w1 w2 w3 w4
theorem W3{y:Int}(hy:w.2.1<=y/\y<w.2.1+w.2.2.2):∀(n:Nat)(x:Int)(out:List RQ),x+(n:Int)=w.1+w.2.2.1->w.1<=x->out.length+n<=10000->
  Ad (fun(s:(BZ×((List RQ)×((List RPt)×(Int×Int)))))=>BV s.1 s.2.1 s.2.2.1 s.2.2.2.1 s.2.2.2.2) (w,(out,(l,(y,x))))=
   some (XZ (fun r=>(w,(out++r,(l,y)))) (JT l y n x))
 |0,x,out,hx,hx',ho=>by
  refine Aj ?_
  show BV w out l y x=_;unfold BV;rw[Ae (by omega) (by omega),zq (by omega),cF,JT];exact congrArg (fun z=>some (Sum.inr (Sum.inl (w,(z,(l,y)))))) (ze8 out).symm
 |n+1,x,out,hx,hx',ho=>by
  obtain⟨s1,s2,_,s4⟩:=QS hl hb (x:=x) (y:=y) (by omega) (by omega);rw[JT];cases h:(shV l x y).2 with
  |false=>
   rw[zw (by simp)];refine Aj ?_
   show BV w out l y x=_;unfold BV;rw[Ae (by omega) (by omega),zp (by omega),cT,s1,obs,h,nF,cT];rfl
  |true=>
   rw[zr rfl];have hgo:BV w out l y x=some (.inl (w,(out++[toQ (shV l x y).1],(l,(y,x+1))))):=by
    unfold BV;rw[Ae (n:=w.1+w.2.2.1) (by omega) (by omega),zp (by omega),cT,s1,obs,h,nT,cF,A4s (by omega),obs,Ae (n:=x+1) (by omega) (by omega)];rfl
   refine(AM (f:=fun(s:(BZ×((List RQ)×((List RPt)×(Int×Int)))))=>BV s.1 s.2.1 s.2.2.1 s.2.2.2.1 s.2.2.2.2) (s:=(w,(out,(l,(y,x))))) hgo).trans ?_
   rw[W3 hy n (x+1) _ (by omega) (by omega) (by rw[zd4,List.length_singleton];omega)];cases JT l y n (x+1)with
   |none=>rfl
   |some r=>simp[XZ]
theorem Ws{y:Int}(hy:w.2.1<=y/\y<w.2.1+w.2.2.2):∀(n:Nat)(x:Int)(out:List RQ),x+(n:Int)=w.1+w.2.2.1->w.1<=x->out.length+n<=10000->
  Ad (fun(s:(BZ×((List RQ)×((List RPt)×(Int×Int)))))=>BU s.1 s.2.1 s.2.2.1 s.2.2.2.1 s.2.2.2.2) (w,(out,(l,(y,x))))=
   some (XZ (fun r=>(w,(out++r,(l,y)))) (JT l y n x))
 |0,x,out,hx,hx',ho=>by
  refine Aj ?_
  show BU w out l y x=_;unfold BU;rw[Ae (by omega) (by omega),zq (by omega),cF,JT];exact congrArg (fun z=>some (Sum.inr (Sum.inl (w,(z,(l,y)))))) (ze8 out).symm
 |n+1,x,out,hx,hx',ho=>by
  obtain⟨s1,s2,_,s4⟩:=QS hl hb (x:=x) (y:=y) (by omega) (by omega);rw[JT];cases h:(shV l x y).2 with
  |false=>
   rw[zw (by simp)];refine Aj ?_
   show BU w out l y x=_;unfold BU;rw[Ae (by omega) (by omega),zp (by omega),cT,s2,obs,h,nF,cT];rfl
  |true=>
   rw[zr rfl];have hgo:BU w out l y x=some (.inl (w,(out++[toQ (shV l x y).1],(l,(y,x+1))))):=by
    unfold BU;rw[Ae (n:=w.1+w.2.2.1) (by omega) (by omega),zp (by omega),cT,s2,obs,h,nT,cF,A4s (by omega),obs,Ae (n:=x+1) (by omega) (by omega)];rfl
   refine(AM (f:=fun(s:(BZ×((List RQ)×((List RPt)×(Int×Int)))))=>BU s.1 s.2.1 s.2.2.1 s.2.2.2.1 s.2.2.2.2) (s:=(w,(out,(l,(y,x))))) hgo).trans ?_
   rw[Ws hy n (x+1) _ (by omega) (by omega) (by rw[zd4,List.length_singleton];omega)];cases JT l y n (x+1)with
   |none=>rfl
   |some r=>simp[XZ]
theorem VR(y:Int):∀(n:Nat)(x:Int)(r:List RQ),JT l y n x=some r->r.length=n
 |0,x,r,h=>by
  rw[JT]at h;rw[<-zv h];rfl
 |n+1,x,r,h=>by
  rw[JT]at h
  split at h
  ·cases hr:JT l y n (x+1)with
   |none=>rw[hr]at h;cases h
   |some r'=>
    rw[hr]at h;rw[<-zv h,zb9,VR y n (x+1) r' hr]
  ·cases h
theorem WW:∀(n:Nat)(y:Int)(out:List RQ),y+(n:Int)=w.2.1+w.2.2.2->w.2.1<=y->out.length+40*n<=9000->
  Ad (fun(s:(BZ×((List RQ)×((List RPt)×Int))))=>BE s.1 s.2.1 s.2.2.1 s.2.2.2) (w,(out,(l,y)))=
   some (XZ (fun r=>out++r) (Id l w.2.2.1.toNat w.1 n y))
 |0,y,out,hy,hy',ho=>by
  refine Aj ?_
  show BE w out l y=_;unfold BE;rw[Ae (by omega) (by omega),zq (by omega),cF,Id];exact congrArg (fun z=>some (Sum.inr (Sum.inl z))) (ze8 out).symm
 |n+1,y,out,hy,hy',ho=>by
  have row:=W3 hl hb w1 w2 w3 w4 (y:=y) (by omega) w.2.2.1.toNat w.1 out (by omega) (by omega) (by omega);rw[Id];cases h:JT l y w.2.2.1.toNat w.1 with
  |none=>
   rw[h]at row;change _=some (Sum.inr (([]:List RQ),false))at row;refine Aj ?_
   show BE w out l y=_;unfold BE;rw[Ae (by omega) (by omega),zp (by omega),cT,row,obs,sEr];rfl
  |some r=>
   rw[h]at row;change _=some (Sum.inl (w,(out++r,(l,y))))at row;have hlen:=VR hl hb w1 w2 w3 w4 y _ _ _ h;have hgo:BE w out l y=some (.inl (w,(out++r,(l,y+1)))):=by
    unfold BE;rw[Ae (n:=w.2.1+w.2.2.2) (by omega) (by omega),zp (by omega),cT,row,obs,sEl,Ae (n:=y+1) (by omega) (by omega)]
   refine(AM (f:=fun(s:(BZ×((List RQ)×((List RPt)×Int))))=>BE s.1 s.2.1 s.2.2.1 s.2.2.2) (s:=(w,(out,(l,y)))) hgo).trans ?_
   rw[WW n (y+1) _ (by omega) (by omega) (by rw[zd4];omega)];show _=some (XZ (fun r=>out++r) ((Id l w.2.2.1.toNat w.1 n (y+1)).map (r++ ·)));cases Id l w.2.2.1.toNat w.1 n (y+1)with
   |none=>rfl
   |some r'=>simp[XZ]
theorem Wx:∀(n:Nat)(y:Int)(out:List RQ),y+(n:Int)=w.2.1+w.2.2.2->w.2.1<=y->out.length+40*n<=9000->
  Ad (fun(s:(BZ×((List RQ)×((List RPt)×Int))))=>BC s.1 s.2.1 s.2.2.1 s.2.2.2) (w,(out,(l,y)))=
   some (XZ (fun r=>out++r) (Id l w.2.2.1.toNat w.1 n y))
 |0,y,out,hy,hy',ho=>by
  refine Aj ?_
  show BC w out l y=_;unfold BC;rw[Ae (by omega) (by omega),zq (by omega),cF,Id];exact congrArg (fun z=>some (Sum.inr (Sum.inl z))) (ze8 out).symm
 |n+1,y,out,hy,hy',ho=>by
  have row:=Ws hl hb w1 w2 w3 w4 (y:=y) (by omega) w.2.2.1.toNat w.1 out (by omega) (by omega) (by omega);rw[Id];cases h:JT l y w.2.2.1.toNat w.1 with
  |none=>
   rw[h]at row;change _=some (Sum.inr (([]:List RQ),false))at row;refine Aj ?_
   show BC w out l y=_;unfold BC;rw[Ae (by omega) (by omega),zp (by omega),cT,row,obs,sEr];rfl
  |some r=>
   rw[h]at row;change _=some (Sum.inl (w,(out++r,(l,y))))at row;have hlen:=VR hl hb w1 w2 w3 w4 y _ _ _ h;have hgo:BC w out l y=some (.inl (w,(out++r,(l,y+1)))):=by
    unfold BC;rw[Ae (n:=w.2.1+w.2.2.2) (by omega) (by omega),zp (by omega),cT,row,obs,sEl,Ae (n:=y+1) (by omega) (by omega)]
   refine(AM (f:=fun(s:(BZ×((List RQ)×((List RPt)×Int))))=>BC s.1 s.2.1 s.2.2.1 s.2.2.2) (s:=(w,(out,(l,y)))) hgo).trans ?_
   rw[Wx n (y+1) _ (by omega) (by omega) (by rw[zd4];omega)];show _=some (XZ (fun r=>out++r) ((Id l w.2.2.1.toNat w.1 n (y+1)).map (r++ ·)));cases Id l w.2.2.1.toNat w.1 n (y+1)with
   |none=>rfl
   |some r'=>simp[XZ]
end
def HU(w:BZ):Bool:=C7 w.1 (-20) 20&&(C7 w.2.1 (-20) 20&&(C7 w.2.2.1 1 8&&C7 w.2.2.2 1 8))
theorem Mp(w:BZ):Dz w=some (HU w):=by
 unfold Dz HU;rw[Rn,obs];cases C7 w.1 (-20) 20 with
 |false=>rfl
 |true=>
  rw[cT,Rn,obs];cases C7 w.2.1 (-20) 20 with
  |false=>rfl
  |true=>
   rw[cT,Rn,obs];cases C7 w.2.2.1 1 8 with
   |false=>rfl
   |true=>rw[cT,Rn,obs];rfl
theorem Mg(w:BZ):DB w=some (HU w):=by
 unfold DB HU;rw[Sw,obs];cases C7 w.1 (-20) 20 with
 |false=>rfl
 |true=>
  rw[cT,Sw,obs];cases C7 w.2.1 (-20) 20 with
  |false=>rfl
  |true=>
   rw[cT,Sw,obs];cases C7 w.2.2.1 1 8 with
   |false=>rfl
   |true=>rw[cT,Sw,obs];rfl
theorem RJ{w:BZ}:HU w=true↔(-20<=w.1/\w.1<=20)/\(-20<=w.2.1/\w.2.1<=20)/\(1<=w.2.2.1/\w.2.2.1<=8)/\(1<=w.2.2.2/\w.2.2.2<=8):=by
 unfold HU;rw[za2,za2,za2,Jx,Jx,Jx,Jx]
theorem Aw8{l:List RPt}(hl:l.length<=1000)(hb:∀x∈l,BrP x)(w:BZ):∃f:List RQ×Bool,Cm l w=some f/\Dg l w=some f/\
  (f.2=false->f.1=[])/\(f.2=true->G4 l=true/\HU w=true/\Id l w.2.2.1.toNat w.1 w.2.2.2.toNat w.2.1=some f.1):=by
 cases hw:HU w with
 |false=>
  refine⟨([],false),?_,?_,fun _=>rfl,fun h=>by cases h⟩
  ·unfold Cm;simp only[AU,AT];rw[CX (by omega) hb,obs];cases G4 l with
   |false=>rw[nF,cT]
   |true=>rw[nT,cF,Mp,obs,hw,nF,cT]
  ·unfold Dg;simp only[AU,AT];rw[Mg,obs,hw,nF,cT]
 |true=>
  obtain⟨w1,w2,w3,w4⟩:=RJ.1 hw;have il:=WW hl hb (w:=w) (by omega) (by omega) (by omega) (by omega) w.2.2.2.toNat w.2.1 [] (by omega) (by omega) (by simp;omega);have sl:=Wx hl hb (w:=w) (by omega) (by omega) (by omega) (by omega) w.2.2.2.toNat w.2.1 [] (by omega) (by omega) (by simp;omega);have ss:Dg l w=some (match Id l w.2.2.1.toNat w.1 w.2.2.2.toNat w.2.1 with|some r=>(r,true)|none=>(([]:List RQ),false)):=by
   unfold Dg;simp only[AU,AT];have sl':Ad (fun(s:(BZ×((List RQ)×((List RPt)×Int))))=>BC s.1 s.2.1 s.2.2.1 s.2.2.2) (w,((List.nil:List RQ),(l,w.2.1)))=_:=sl;rw[Mg,obs,hw,nT,cF,sl',obs];cases Id l w.2.2.1.toNat w.1 w.2.2.2.toNat w.2.1 with
   |none=>rfl
   |some r=>rfl
  cases hg:G4 l with
  |false=>
   have hn:Id l w.2.2.1.toNat w.1 w.2.2.2.toNat w.2.1=none:=by
    obtain⟨s1,s2,_,s4⟩:=QS hl hb (x:=w.1) (y:=w.2.1) (by omega) (by omega);have h0:(shV l w.1 w.2.1).2=false:=by
     cases h:(shV l w.1 w.2.1).2 with
     |false=>rfl
     |true=>
      obtain⟨ps,hps,el,_⟩:=s4 h;rw[el,G8.2 hps]at hg;cases hg
    obtain⟨n,hn⟩:∃n,w.2.2.1.toNat=n+1:=⟨w.2.2.1.toNat-1,by omega⟩;obtain⟨m,hm⟩:∃m,w.2.2.2.toNat=m+1:=⟨w.2.2.2.toNat-1,by omega⟩;rw[hn,hm,Id,JT,h0,zw (by simp)];rfl
   rw[hn]at ss;refine⟨([],false),?_,ss,fun _=>rfl,fun h=>by cases h⟩
   unfold Cm;rw[CX (by omega) hb,obs,hg,nF,cT]
  |true=>
   have ii:Cm l w=some (match Id l w.2.2.1.toNat w.1 w.2.2.2.toNat w.2.1 with|some r=>(r,true)|none=>(([]:List RQ),false)):=by
    unfold Cm;simp only[AU,AT];have il':Ad (fun(s:(BZ×((List RQ)×((List RPt)×Int))))=>BE s.1 s.2.1 s.2.2.1 s.2.2.2) (w,((List.nil:List RQ),(l,w.2.1)))=_:=il;rw[CX (by omega) hb,obs,hg,nT,cF,Mp,obs,hw,nT,cF,il',obs];cases Id l w.2.2.1.toNat w.1 w.2.2.2.toNat w.2.1 with
    |none=>rfl
    |some r=>rfl
   refine⟨_,ii,ss,?_,?_⟩
   ·cases Id l w.2.2.1.toNat w.1 w.2.2.2.toNat w.2.1 with
    |none=>intro _;rfl
    |some r=>intro h;cases h
   ·cases Id l w.2.2.1.toNat w.1 w.2.2.2.toNat w.2.1 with
    |none=>intro h;cases h
    |some r=>intro _;exact⟨rfl,rfl,rfl⟩
section
variable {l:List RPt} {ps:List Q2} (hps:SzR ps) (el:l=ps.map rp)
include hps el
theorem A5u{x y:Int}(hx: -90<=x/\x<=90)(hy: -90<=y/\y<=90)(h:(shV l x y).2=true):Sz 40 (sqA ps x y/2)/\shV l x y=(rqF (sqA ps x y/2),true):=by
 have h40:=hps.1;obtain⟨_,_,_,s4⟩:=QS (l:=l) (by rw[el];simp;omega) (by rw[el];exact O8 (k:=8) (by omega) hps.2) hx hy;obtain⟨qs,hqs,e,_,k1,k2⟩:=s4 h;have inj:∀u v:List Q2,u.map rp=v.map rp->u=v:=by
  intro u
  induction u with
  |nil=>intro v hv;cases v with
   |nil=>rfl
   |cons a t=>cases hv
  |cons b u ih=>intro v hv;cases v with
   |nil=>cases hv
   |cons a t=>
    rw[zb8,zb8]at hv;obtain⟨i1,i2⟩:=List.cons.inj hv;rw[Ae4 i1,ih t i2]
 have e2:qs=ps:=inj _ _ (by rw[<-e,el]);rw[e2]at k1 k2;exact⟨k1,k2⟩
theorem A08{y:Int}(hy: -90<=y/\y<=90):∀(n:Nat)(x:Int)(r:List RQ),-90<=x->x+(n:Int)<=90->JT l y n x=some r->r=(Ag9 ps y n x).map (fun a=>rq (a/2))/\(∀a∈Ag9 ps y n x,Sz 40 (a/2))/\∀i:Nat,i<n->(shV l (x+(i:Int)) y).2=true/\r[i]? =some (toQ (shV l (x+(i:Int)) y).1)
 |0,x,r,_,_,h=>by
  rw[JT]at h;rw[<-zv h];exact⟨rfl,fun a ha=>(by cases ha),fun i hi=>(by omega)⟩
 |n+1,x,r,h1,h2,h=>by
  rw[JT]at h
  split at h
  ·rename_i hs;cases hr:JT l y n (x+1)with
   |none=>rw[hr]at h;cases h
   |some r'=>
    rw[hr]at h;obtain⟨k1,k2⟩:=A5u hps el (x:=x) (y:=y) (by omega) hy hs;obtain⟨j1,j2,j3⟩:=A08 hy n (x+1) r' (by omega) (by omega) hr;have hr':toQ (shV l x y).1::r'=r:=zv h;refine⟨?_,?_,?_⟩
    ·rw[<-hr',k2,j1,Ag9,zb8];rfl
    ·intro a ha;rw[Ag9]at ha;rcases zc7.1 ha with rfl|ha
     ·exact k1
     ·exact j2 a ha
    ·intro i hi;cases i with
     |zero=>
      rw[show x+((0:Nat):Int)=x by omega,<-hr'];exact⟨hs,rfl⟩
     |succ i=>
      obtain⟨q1,q2⟩:=j3 i (by omega);rw[show x+((i+1:Nat):Int)=x+1+(i:Int) by omega,<-hr'];exact⟨q1,by rw[List.getElem?_cons_succ];exact q2⟩
  ·cases h
theorem A1x{w:Nat}{x:Int}(hx: -90<=x/\x+(w:Int)<=90):∀(n:Nat)(y:Int)(r:List RQ),-90<=y->y+(n:Int)<=90->Id l w x n y=some r->r=(XP ps w x n y).map (fun a=>rq (a/2))/\(∀a∈XP ps w x n y,Sz 40 (a/2))/\
  ∀j i:Nat,j<n->i<w->(shV l (x+(i:Int)) (y+(j:Int))).2=true/\r[j*w+i]? =some (toQ (shV l (x+(i:Int)) (y+(j:Int))).1)
 |0,y,r,_,_,h=>by
  rw[Id]at h;rw[<-zv h];exact⟨rfl,fun a ha=>(by cases ha),fun j i hj=>(by omega)⟩
 |n+1,y,r,h1,h2,h=>by
  rw[Id]at h;cases hr:JT l y w x with
  |none=>rw[hr]at h;cases h
  |some r1=>
   rw[hr]at h;have h:(Id l w x n (y+1)).map (r1++ ·)=some r:=h;cases hw:Id l w x n (y+1)with
   |none=>rw[hw]at h;cases h
   |some r2=>
    rw[hw]at h;have hrr:r1++r2=r:=zv h;obtain⟨j1,j2,j3⟩:=A08 hps el (y:=y) (by omega) w x r1 (by omega) (by omega) hr;obtain⟨k1,k2,k3⟩:=A1x hx n (y+1) r2 (by omega) (by omega) hw;have len1:r1.length=w:=by rw[j1,zd7,U3]
    refine⟨?_,?_,?_⟩
    ·rw[<-hrr,j1,k1,XP,List.map_append]
    ·intro a ha;rw[XP]at ha;rcases zb6.1 ha with ha|ha
     ·exact j2 a ha
     ·exact k2 a ha
    ·intro j i hj hi;cases j with
     |zero=>
      obtain⟨q1,q2⟩:=j3 i hi;rw[show y+((0:Nat):Int)=y by omega,<-hrr,Nat.zero_mul,ze4,ze3 (by omega)];exact⟨q1,q2⟩
     |succ j=>
      obtain⟨q1,q2⟩:=k3 j i (by omega) hi;rw[show y+((j+1:Nat):Int)=y+1+(j:Int) by omega,<-hrr,Nat.succ_mul,List.getElem?_append_right (by omega),len1,show j*w+w+i-w=j*w+i by omega];exact⟨q1,q2⟩
end
end
section
open Go
end
section
open Go
def unq(a:RQ):RF:=(a.1.1,(a.1.2,a.2))
theorem YE(a:RQ):(a.1.1,(a.1.2,a.2))=unq a:=(rfl)
theorem R3(q:Rat):unq (rq q)=rqF q:=(rfl)
section
variable {qs:List Rat} (h40:∀q∈qs,Sz 40 q) (hl:qs.length<=64)
include h40 hl
end
end
section
open Go
def OL(q:Rat):Rat:=if 0<=q.num then q else-q
theorem Xg(q:Rat):(OL q).num=(q.num.natAbs:Int):=by
 unfold OL
 split
 ·omega
 ·rw[Rat.neg_num];omega
theorem At2(q:Rat):(OL q).den=q.den:=by
 unfold OL
 split
 ·rfl
 ·exact Rat.neg_den q
theorem A1r(q:Rat):0<=OL q:=Rat.num_nonneg.1 (by rw[Xg];omega)
theorem Ab9{q:Rat}{k:Nat}(h:Sz k q):Sz k (OL q):=⟨by rw[Xg];exact h.1,by rw[At2];exact h.2⟩
theorem AK5(q:Rat):rqF (OL q)=((big (q.num.natAbs:Int)).1,((big (q.num.natAbs:Int)).2,((big (q.den:Int)).1,(big (q.den:Int)).2))):=by
 unfold rqF;rw[Xg,At2]
theorem AL7(q:Rat):(big q.num).2=(big (q.num.natAbs:Int)).2:=by unfold big;simp
def GZ(q:Rat):Rat:=if 1<OL q then 1 else OL q
theorem A3d(q:Rat):0<=GZ q/\GZ q<=1:=by
 unfold GZ;have:=A1r q
 split<;>constructor<;>grind
def byQ(q:Rat):Int:=(GZ q*255+1/2).floor
theorem AI4(q:Rat):0<=byQ q/\byQ q<=255:=by
 obtain⟨h1,h2⟩:=A3d q;have a:(0:Int)<=byQ q:=Rat.le_floor_iff.2 (by grind);have b:byQ q<256:=Rat.floor_lt_iff.2 (by grind);omega
theorem A4J{q:Rat}(h:1<OL q):byQ q=255:=by
 unfold byQ GZ;rw[zr h];have h1:(255:Int)<=((1:Rat)*255+1/2).floor:=Rat.le_floor_iff.2 (by grind);have h2:((1:Rat)*255+1/2).floor<256:=Rat.floor_lt_iff.2 (by grind);omega
theorem Ao3(q:Rat):Pd (byQ q)=(byQ q,true):=by
 have:=AI4 q;unfold Pd;rw[zr (by omega)]
theorem sz1:Sz 1 (1:Rat):=by
 have:B 1=65536:=rfl;exact⟨by rw[this];decide,by rw[this];decide⟩
theorem sz2:Sz 1 (2:Rat):=by
 have:B 1=65536:=rfl;exact⟨by rw[this];decide,by rw[this];decide⟩
theorem A2n:Sz 1 (255:Rat):=by
 have:B 1=65536:=rfl;exact⟨by rw[this];decide,by rw[this];decide⟩
theorem AD3:A8 (255:Int)=some (rqF 255):=by rw[Hx (by omega) (by omega)];rfl
theorem AR8:Cw (1:Int)=some (rqF 1):=by rw[OD (by omega) (by omega)];rfl
theorem Ax1:Cw (255:Int)=some (rqF 255):=by rw[OD (by omega) (by omega)];rfl
section
variable {q:Rat} (hq:Sz 40 q)
include hq
theorem Aa7:Sz 40 (GZ q):=by
 unfold GZ
 split
 ·exact sz1.mono (by omega)
 ·exact Ab9 hq
theorem Ab6:Sz 40 (1/2:Rat):=(Ae9 (k:=1) (m:=1) sz1 sz2 R8).mono (by omega)
theorem Aa1:Sz 80 (GZ q*255):=(Js (Aa7 hq) A2n).mono (by omega)
theorem Ap6:Sz 200 (GZ q*255+1/2):=(PF (Aa1 hq) (Ab6 hq)).mono (by omega)
theorem byB:((byQ q).natAbs:Int)<B 40:=by
 have:=AI4 q;have h1:B 1=65536:=rfl;have:=JI (show 1<=40 by omega);omega
theorem AM9:Kb (rqF q)=some (rqF (OL q)):=by
 unfold Kb NE;rw[AK5];simp only[rqF];rw[AL7,UX (k:=40) (by omega) hq.1,UX (k:=40) (by omega) hq.2];rfl
theorem A27:N7 (rqF q)=some (rqF (OL q)):=by
 unfold N7;rw[AK5];simp only[rqF];rw[AL7,Zi (k:=40) (by omega) hq.1];rfl
theorem A1L:LZ (rqF q)=some (byQ q):=by
 have tail:((A8 (255:Int))).bind (fun x7=>((Ct (rqF (GZ q)) (x7.1,(x7.2.1,(x7.2.2.1,x7.2.2.2))))).bind fun x8=>
  (some (rqF 1)).bind fun x9=>
  ((Dd (x9.1,(x9.2.1,(x9.2.2.1,x9.2.2.2))))).bind fun x10=>
  ((CM (x8.1,(x8.2.1,(x8.2.2.1,x8.2.2.2))) (x10.1,(x10.2.1,(x10.2.2.1,x10.2.2.2))))).bind fun x11=>
  ((Fp (x11.1,(x11.2.1,(x11.2.2.1,x11.2.2.2))))).bind fun x12=>
  ((IQ (x12.1,x12.2))).bind fun x13=>
  some x13.1)=some (byQ q):=by
  have hh:Dd (rqF 1)=some (rqF (1/2)):=by
   unfold Dd;simp only[AU];rw[Yf,obs]
   try simp only[AU]
   rw[Sx (k:=1) (by omega) sz1 sz2 R8,obs]
  rw[AD3,obs]
  try simp only[AU,AT]
  rw[Hi (k:=40) (by omega) (Aa7 hq) (A2n.mono (by omega)),obs,obs]
  try simp only[AU,AT]
  rw[hh,obs]
  try simp only[AU,AT]
  rw[IX (k:=80) (by omega) (Aa1 hq) ((Ab6 hq).mono (by omega)),obs]
  try simp only[AU,AT]
  rw[Ag2 (k:=200) (by omega) (by omega) (Ap6 hq),obs,show(GZ q*255+1/2).floor=byQ q from rfl,A3u (byB hq),obs,Ao3]
 unfold LZ
 try simp only[AU,AT]
 rw[AM9 hq,obs,Zw,obs]
 try simp only[AU,AT]
 rw[Es (k:=40) (by omega) (sz1.mono (by omega)) (Ab9 hq),obs];by_cases h:1<OL q
 ·rw[zp h,cT,obs,obs,sEr];rw[show GZ q=1 by unfold GZ;rw[zr h]]at tail;exact tail
 ·rw[zq h,cF,obs,sEr,show OL q=GZ q by unfold GZ;rw[zw h]];exact tail
theorem AP3:JW (rqF q)=some (byQ q):=by
 unfold JW
 try simp only[AU,AT]
 rw[A27 hq,obs,AR8,obs]
 try simp only[AU,AT]
 rw[Me (k:=40) (by omega) (Ab9 hq) (sz1.mono (by omega)),obs];by_cases h:1<OL q
 ·rw[zp (Ka.2 h),cT,A4J h]
 ·have hb1:((1:Int).natAbs:Int)<B 1:=by have:B 1=65536:=rfl;rw[this];decide
  have hb2:((2:Int).natAbs:Int)<B 1:=by have:B 1=65536:=rfl;rw[this];decide
  have e2:Rat.divInt 1 2=(1/2:Rat):=by rw[Rat.divInt_eq_div];rfl
  rw[zq (fun g=>h (Ka.1 g)),cF,Qa (by omega) (by omega),obs,Qa (by omega) (by omega),obs]
  try simp only[AU,AT]
  rw[Qo (k:=1) (by omega) hb1 hb2 (by omega),obs,Ax1,obs,e2,show OL q=GZ q by unfold GZ;rw[zw h]]
  try simp only[AU,AT]
  rw[UL (k:=40) (by omega) (Aa7 hq) (A2n.mono (by omega)),obs]
  try simp only[AU,AT]
  rw[Qe (k:=80) (by omega) (Aa1 hq) ((Ab6 hq).mono (by omega)),obs]
  try simp only[AU,AT]
  rw[AU3 (k:=200) (by omega) (by omega) (Ap6 hq),obs,show(GZ q*255+1/2).floor=byQ q from rfl,A2N (byB hq),obs,Ao3]
end
theorem A3p{l:List Rat}{k:Nat}{q:Rat}(h:l[k]? =some q):AI (l.map rq) (k:Int)=some (rq q):=by rw[Ah,zd0,h];rfl
section
variable {qs:List Rat} (h40:∀q∈qs,Sz 40 q) (hl:qs.length<=1000)
include h40 hl
theorem AP0:HX (qs.map rq)=some (qs.map byQ):=by
 obtain⟨_,h1,_⟩:=Eo (body:=fun(s:((List Int)×((List RQ)×(Int×Int))))=>Dq s.1 s.2.1 s.2.2.1 s.2.2.2) (fun k (_:Unit)=>((qs.take k).map byQ,(qs.map rq,((qs.length:Int),(k:Int))))) (fun _=>qs.map byQ) (fun _ _=>True) qs.length (by
  intro k _ hk _;have he:qs[k]? =some qs[k]:=za1 hk;have hz:=h40 _ (za4 he);generalize qs[k]=q at he hz;refine⟨(),?_,trivial⟩
  show Dq ((qs.take k).map byQ) (qs.map rq) (qs.length:Int) (k:Int)=_;unfold Dq;rw[zp (by omega),cT,A3p he,obs];simp only[AU,AT,YE,R3];rw[A1L hz,obs,Fy (by simp[Ab];omega) (by simp[Ab];omega),obs,AJ (by omega),List.take_add_one,he];simp) (by
  intro _ _;show Dq ((qs.take qs.length).map byQ) (qs.map rq) (qs.length:Int) (qs.length:Int)=_;unfold Dq;rw[zq (by omega),cF,List.take_length]) 0 () (by omega) trivial
 have h1':Ad (fun(s:((List Int)×((List RQ)×(Int×Int))))=>Dq s.1 s.2.1 s.2.2.1 s.2.2.2) ((List.nil:List Int),(qs.map rq,((qs.length:Int),(0:Int))))=_:=h1;unfold HX;rw[zd7,h1',obs]
theorem Ad9:Ad (fun(s:((List Int)×((List RQ)×(Int×Int))))=>BQ s.1 s.2.1 s.2.2.1 s.2.2.2) ((List.nil:List Int),(qs.map rq,((qs.length:Int),(0:Int))))=some (qs.map byQ):=by
 obtain⟨_,h1,_⟩:=Eo (body:=fun(s:((List Int)×((List RQ)×(Int×Int))))=>BQ s.1 s.2.1 s.2.2.1 s.2.2.2) (fun k (_:Unit)=>((qs.take k).map byQ,(qs.map rq,((qs.length:Int),(k:Int))))) (fun _=>qs.map byQ) (fun _ _=>True) qs.length (by
  intro k _ hk _;have he:qs[k]? =some qs[k]:=za1 hk;have hz:=h40 _ (za4 he);generalize qs[k]=q at he hz;refine⟨(),?_,trivial⟩
  show BQ ((qs.take k).map byQ) (qs.map rq) (qs.length:Int) (k:Int)=_;unfold BQ;rw[zp (by omega),cT,A3p he,obs];simp only[AU,AT,YE,R3];rw[AP3 hz,obs,Fy (by simp[Ab];omega) (by simp[Ab];omega),obs,AJ (by omega),List.take_add_one,he];simp) (by
  intro _ _;show BQ ((qs.take qs.length).map byQ) (qs.map rq) (qs.length:Int) (qs.length:Int)=_;unfold BQ;rw[zq (by omega),cF,List.take_length]) 0 () (by omega) trivial
 exact h1
end
end
section
open Go
def Jo:Option (List Rat)->List RQ×Bool
 |none=>([],false)
 |some qs=>(qs.map rq,true)
def nW(w:BZ):Nat:=w.2.2.1.toNat*w.2.2.2.toNat
theorem Yg{w:BZ}(h:HU w=true):w.2.2.1*w.2.2.2=(nW w:Int)/\1<=nW w/\nW w<=64:=by
 obtain⟨_,_,h3,h4⟩:=RJ.1 h;refine⟨?_,?_,?_⟩
 ·unfold nW;rw[zf7,Int.toNat_of_nonneg (by omega),Int.toNat_of_nonneg (by omega)]
 ·unfold nW;exact Nat.mul_pos (by omega) (by omega)
 ·unfold nW;exact Nat.mul_le_mul (show w.2.2.1.toNat<=8 by omega) (show w.2.2.2.toNat<=8 by omega)
def shW (w:BZ) (x:List P2):Option (List Rat):=if((Cm ((x.map ptQ).map rp) w).getD ([],false)).2=true then some ((XP (x.map ptQ) w.2.2.1.toNat w.1 w.2.2.2.toNat w.2.1).map fun a=>a/2)else none
theorem AB6{x:List P2}(hx:JX x=true){w:BZ}(hw:HU w=true):Cm ((x.map ptQ).map rp) w=some (Jo (shW w x))/\Dg ((x.map ptQ).map rp) w=some (Jo (shW w x))/\∀qs,shW w x=some qs->qs.length=nW w/\∀q∈qs,Sz 40 q:=by
 have hz:=A2P hx;have h40:=hz.1;obtain⟨g1,g2,g3,g4⟩:=RJ.1 hw;obtain⟨f,f1,f2,f3,f4⟩:=Aw8 (l:=(x.map ptQ).map rp) (by rw[zd7];omega) (O8 (k:=8) (by omega) hz.2) w;cases hf:f.2 with
 |false=>
  have e:shW w x=none:=by
   unfold shW;rw[f1];exact zw (by rw[zf5,hf];simp)
  have ef:f=Jo none:=Prod.ext (f3 hf) hf;rw[e,f1,f2,ef];exact⟨rfl,rfl,fun qs h=>by cases h⟩
 |true=>
  obtain⟨_,_,hwin⟩:=f4 hf;obtain⟨j1,j2,_⟩:=A1x hz rfl (w:=w.2.2.1.toNat) (x:=w.1) (by omega) w.2.2.2.toNat w.2.1 f.1 (by omega) (by omega) hwin;have e:shW w x=some ((XP (x.map ptQ) w.2.2.1.toNat w.1 w.2.2.2.toNat w.2.1).map fun a=>a/2):=by
   unfold shW;rw[f1];exact zr hf
  have ef:f=Jo (some ((XP (x.map ptQ) w.2.2.1.toNat w.1 w.2.2.2.toNat w.2.1).map fun a=>a/2)):=Prod.ext (by rw[j1];show _=List.map rq _;rw[List.map_map];rfl) hf;rw[e,f1,f2,<-ef];refine⟨rfl,rfl,fun qs h=> ?_⟩
  cases h
  refine⟨by rw[zd7,Au7];rfl,fun q hq=> ?_⟩
  obtain⟨a,ha,rfl⟩:=zd5.1 hq;exact j2 a ha
def Ik:List Rat->List Rat->Option (List Rat)
 |a::us,q::qs=>if Sz 40 (a+q)then(Ik us qs).map ((a+q):: ·)else none
 |_,_=>some []
theorem AY0(l:List Rat):Ik [] l=some []:=by cases l<;>rfl
theorem RU(a q:Rat)(us qs:List Rat):Ik (a::us) (q::qs)=if Sz 40 (a+q)then(Ik us qs).map ((a+q):: ·)else none:=(rfl)
theorem PQ:∀(us qs r:List Rat),us.length=qs.length->Ik us qs=some r->r.length=us.length/\∀q∈r,Sz 40 q:=by
 intro us
 induction us with
 |nil=>
  intro qs r _ h;rw[AY0]at h;rw[<-zv h];exact⟨rfl,fun q hq=>absurd hq List.not_mem_nil⟩
 |cons a us ih=>
  intro qs r hl h;cases qs with
  |nil=>exact absurd hl (by simp)
  |cons q qs=>
   rw[RU]at h;by_cases hz:Sz 40 (a+q)
   ·rw[zr hz]at h;cases hr:Ik us qs with
    |none=>rw[hr]at h;exact absurd h (by simp)
    |some r'=>
     rw[hr,zd2]at h;obtain⟨i1,i2⟩:=ih qs r' (by simpa using hl) hr;rw[<-zv h];refine⟨by simp[i1],fun x hx=> ?_⟩
     rcases zc7.1 hx with e|hx
     ·rw[e];exact hz
     ·exact i2 x hx
   ·rw[zw hz]at h;exact absurd h (by simp)
def adR(w:BZ)(ws:Fb)(c d:Int)(dn:List Rat):Option (List Rat)->(BZ×(List RQ×(Fb×(Int×Int))))⊕(List RQ×Bool)
 |some r=>.inl (w,((dn++r).map rq,(ws,(c,d))))
 |none=>.inr ([],false)
theorem YB(dn us:List Rat)(a b:Rat){k:Nat}(h:dn.length=k):((dn++a::us).map rq).set k (rq b)=(dn++[b]++us).map rq:=by
 subst h;simp[List.map_append,List.set_append]
theorem UY(pre qs:List Rat)(q:Rat):(pre++q::qs)[pre.length]? =some q:=by simp
theorem A1V(w:BZ)(ws:Fb)(c d:Int):∀(us qs dn pre:List Rat),(∀q∈us,Sz 40 q)->(∀q∈qs,Sz 40 q)->us.length=qs.length->dn.length=pre.length->pre.length+qs.length<=1000->
  Ad (fun(s:(BZ×((List RQ)×(Fb×(Int×(Int×((List RQ)×(Int×Int))))))))=>BF s.1 s.2.1 s.2.2.1 s.2.2.2.1 s.2.2.2.2.1 s.2.2.2.2.2.1 s.2.2.2.2.2.2.1 s.2.2.2.2.2.2.2) (w,((dn++us).map rq,(ws,(c,(d,((pre++qs).map rq,(((pre++qs).length:Int),(pre.length:Int))))))))=some (adR w ws c d dn (Ik us qs))
 |[],[],dn,pre,_,_,_,hd,hp=>by
  refine Aj ?_
  show BF w ((dn++[]).map rq) ws c d ((pre++[]).map rq) ((pre++[]).length:Int) (pre.length:Int)=_;unfold BF;rw[zq (by simp),cF];rfl
 |[],q::qs,dn,pre,_,_,hl,_,_=>by cases hl
 |a::us,[],dn,pre,_,_,hl,_,_=>by cases hl
 |a::us,q::qs,dn,pre,ha,hq,hl,hd,hp=>by
  have ka:=ha a (by simp);have kq:=hq q (by simp);have h81:Sz 81 (a+q):=(PF ka kq).mono (by omega);rw[zb9]at hp;have hlen:((pre++q::qs).length:Int)=(pre.length:Int)+qs.length+1:=by simp;omega
  have hg:AX ((dn++a::us).map rq) pre.length=some (rq a):=by
   show((dn++a::us).map rq)[pre.length]? =_;rw[zd0,<-hd,UY];rfl
  have hi:A1 (pre.length:Int) ((dn++a::us).map rq).length=some pre.length:=A0 (by simp[hd]);have key:BF w ((dn++a::us).map rq) ws c d ((pre++q::qs).map rq) ((pre++q::qs).length:Int) (pre.length:Int)=if Sz 40 (a+q)then some (.inl (w,((dn++[a+q]++us).map rq,(ws,(c,(d,((pre++q::qs).map rq,(((pre++q::qs).length:Int),((pre.length+1:Nat):Int)))))))))else some (.inr (.inr ([],false))):=by
   unfold BF;rw[zp (by omega),cT,A3p (UY pre qs q),obs,hi,obs,hg,obs];simp only[AU,AT,YE,R3];rw[IX (k:=40) (by omega) ka kq,obs]
   try simp only[AU,AT,YE,R3]
   rw[Q8,obs,obs,hg,obs];by_cases hz:Sz 40 (a+q)
   ·rw[zr hz,IV hz,nT,cF,AJ (by omega)];rw[<-YB dn us a (a+q) hd];rfl
   ·rw[zw hz,Oh hz,nF,cT]
  rw[RU];by_cases hz:Sz 40 (a+q)
  ·rw[zr hz]at key⊢
   refine(AM (f:=fun(s:(BZ×((List RQ)×(Fb×(Int×(Int×((List RQ)×(Int×Int))))))))=>BF s.1 s.2.1 s.2.2.1 s.2.2.2.1 s.2.2.2.2.1 s.2.2.2.2.2.1 s.2.2.2.2.2.2.1 s.2.2.2.2.2.2.2) (s:=(w,((dn++a::us).map rq,(ws,(c,(d,((pre++q::qs).map rq,(((pre++q::qs).length:Int),(pre.length:Int))))))))) key).trans ?_
   have ih:=A1V w ws c d us qs (dn++[a+q]) (pre++[q]) (fun x hx=>ha x (by simp[hx])) (fun x hx=>hq x (by simp[hx])) (by simpa using hl) (by simp[hd]) (by simp;omega);rw[show(pre++[q])++qs=pre++q::qs by simp,show(pre++[q]).length=pre.length+1 by simp]at ih;rw[ih];cases Ik us qs with
   |none=>rfl
   |some r=>simp[adR]
  ·rw[zw hz]at key⊢
   exact Aj key
theorem A0J(w:BZ)(ws:Fb)(c d:Int):∀(us qs dn pre:List Rat),(∀q∈us,Sz 40 q)->(∀q∈qs,Sz 40 q)->us.length=qs.length->dn.length=pre.length->pre.length+qs.length<=1000->
  Ad (fun(s:(BZ×((List RQ)×(Fb×(Int×(Int×((List RQ)×(Int×Int))))))))=>BH s.1 s.2.1 s.2.2.1 s.2.2.2.1 s.2.2.2.2.1 s.2.2.2.2.2.1 s.2.2.2.2.2.2.1 s.2.2.2.2.2.2.2) (w,((dn++us).map rq,(ws,(c,(d,((pre++qs).map rq,(((pre++qs).length:Int),(pre.length:Int))))))))=some (adR w ws c d dn (Ik us qs))
 |[],[],dn,pre,_,_,_,hd,hp=>by
  refine Aj ?_
  show BH w ((dn++[]).map rq) ws c d ((pre++[]).map rq) ((pre++[]).length:Int) (pre.length:Int)=_;unfold BH;rw[zq (by simp),cF];rfl
 |[],q::qs,dn,pre,_,_,hl,_,_=>by cases hl
 |a::us,[],dn,pre,_,_,hl,_,_=>by cases hl
 |a::us,q::qs,dn,pre,ha,hq,hl,hd,hp=>by
  have ka:=ha a (by simp);have kq:=hq q (by simp);have h81:Sz 81 (a+q):=(PF ka kq).mono (by omega);rw[zb9]at hp;have hlen:((pre++q::qs).length:Int)=(pre.length:Int)+qs.length+1:=by simp;omega
  have hg:AX ((dn++a::us).map rq) pre.length=some (rq a):=by
   show((dn++a::us).map rq)[pre.length]? =_;rw[zd0,<-hd,UY];rfl
  have hi:A1 (pre.length:Int) ((dn++a::us).map rq).length=some pre.length:=A0 (by simp[hd]);have key:BH w ((dn++a::us).map rq) ws c d ((pre++q::qs).map rq) ((pre++q::qs).length:Int) (pre.length:Int)=if Sz 40 (a+q)then some (.inl (w,((dn++[a+q]++us).map rq,(ws,(c,(d,((pre++q::qs).map rq,(((pre++q::qs).length:Int),((pre.length+1:Nat):Int)))))))))else some (.inr (.inr ([],false))):=by
   unfold BH;rw[zp (by omega),cT,A3p (UY pre qs q),obs,hi,obs,hg,obs];simp only[AU,AT,YE,R3];rw[Qe (k:=40) (by omega) ka kq,obs]
   try simp only[AU,AT,YE,R3]
   rw[Qx (k:=81) (by omega) h81,obs];by_cases hz:Sz 40 (a+q)
   ·rw[zr hz,IV hz,nT,cF,obs,hg,obs,AJ (by omega)];rw[<-YB dn us a (a+q) hd];rfl
   ·rw[zw hz,Oh hz,nF,cT]
  rw[RU];by_cases hz:Sz 40 (a+q)
  ·rw[zr hz]at key⊢
   refine(AM (f:=fun(s:(BZ×((List RQ)×(Fb×(Int×(Int×((List RQ)×(Int×Int))))))))=>BH s.1 s.2.1 s.2.2.1 s.2.2.2.1 s.2.2.2.2.1 s.2.2.2.2.2.1 s.2.2.2.2.2.2.1 s.2.2.2.2.2.2.2) (s:=(w,((dn++a::us).map rq,(ws,(c,(d,((pre++q::qs).map rq,(((pre++q::qs).length:Int),(pre.length:Int))))))))) key).trans ?_
   have ih:=A0J w ws c d us qs (dn++[a+q]) (pre++[q]) (fun x hx=>ha x (by simp[hx])) (fun x hx=>hq x (by simp[hx])) (by simpa using hl) (by simp[hd]) (by simp;omega);rw[show(pre++[q])++qs=pre++q::qs by simp,show(pre++[q]).length=pre.length+1 by simp]at ih;rw[ih];cases Ik us qs with
   |none=>rfl
   |some r=>simp[adR]
  ·rw[zw hz]at key⊢
   exact Aj key
theorem Ap3{x:List P2}(hx:JX x=true):L8 x=some ((x.map ptQ).map rp,true):=by
 have h12:=(IN.1 hx).1.2;unfold L8;rw[A2O (by unfold Ao4;omega),obs,hx,nT,cF,XJ (by omega) (Ax4 hx),obs]
def Ar2 (w:BZ):Fb->List Rat->Option (List Rat)
 |[],acc=>some acc
 |x::l,acc=>(shW w x).bind fun qs=>(Ik acc qs).bind fun r=>Ar2 w l r
def A5e:Option (List Rat)->List RQ⊕(List RQ×Bool)
 |some r=>.inl (r.map rq)
 |none=>.inr ([],false)
section
variable {w:BZ} {l:Fb} (hw:HU w=true) (hg:∀x∈l,JX x=true) (hl:l.length<=4)
include hw hg
theorem YG:∀(m:Fb)(acc r:List Rat),(∀x∈m,JX x=true)->acc.length=nW w->(∀q∈acc,Sz 40 q)->Ar2 w m acc=some r->r.length=nW w/\∀q∈r,Sz 40 q
 |[],acc,r,_,h1,h2,h=>by
  cases h
  exact⟨h1,h2⟩
 |x::m,acc,r,hm,h1,h2,h=>by
  obtain⟨_,_,k⟩:=AB6 (hm x (by simp)) hw;rw[Ar2]at h;cases hs:shW w x with
  |none=>rw[hs]at h;cases h
  |some qs=>
   obtain⟨k1,k2⟩:=k qs hs;rw[hs,obs]at h;cases ha:Ik acc qs with
   |none=>rw[ha]at h;cases h
   |some r'=>
    obtain⟨a1,a2⟩:=PQ acc qs r' (by omega) ha;rw[ha,obs]at h;exact YG m r' r (fun y hy=>hm y (by simp[hy])) (by omega) a2 h
include hl
theorem A3P:∀(m k:Nat)(acc:List Rat),k+m=l.length->acc.length=nW w->(∀q∈acc,Sz 40 q)->
  Ad (fun(s:(BZ×((List RQ)×(Fb×(Int×Int)))))=>Be s.1 s.2.1 s.2.2.1 s.2.2.2.1 s.2.2.2.2) (w,(acc.map rq,(l,((l.length:Int),(k:Int)))))=some (A5e (Ar2 w (l.drop k) acc))
 |0,k,acc,hk,h1,h2=>by
  refine Aj ?_
  show Be w (acc.map rq) l (l.length:Int) (k:Int)=_;unfold Be;rw[zq (by omega),cF,List.drop_of_length_le (by omega)];rfl
 |m+1,k,acc,hk,h1,h2=>by
  have hkl:k<l.length:=by omega
  have he:l[k]? =some l[k]:=za1 hkl;have hx:=hg _ (za4 he);rw[zb0 hkl];generalize l[k]=x at he hx;obtain⟨s1,s2,s3⟩:=AB6 hx hw;have hn:=Yg hw;have h12:=(IN.1 hx).1.2;rw[Ar2];have top:Be w (acc.map rq) l (l.length:Int) (k:Int)=(some (Jo (shW w x))).bind fun x2=>
    bif(!x2.2)then some (Sum.inr (Sum.inr (([]:List RQ),false)))else
    (Ad (fun(s:(BZ×((List RQ)×(Fb×(Int×(Int×((List RQ)×(Int×Int))))))))=>BF s.1 s.2.1 s.2.2.1 s.2.2.2.1 s.2.2.2.2.1 s.2.2.2.2.2.1 s.2.2.2.2.2.2.1 s.2.2.2.2.2.2.2) (w,(acc.map rq,(l,((l.length:Int),((k:Int),(x2.1,((x2.1.length:Int),(0:Int))))))))).bind fun x3=>
    Sum.elim (fun x4=>some (Sum.inl (x4.1,(x4.2.1,(x4.2.2.1,(x4.2.2.2.1,zi zj (x4.2.2.2.2+(1:Int)))))))) (fun x5=>some (Sum.inr (Sum.inr (x5.1,x5.2)))) x3:=by
   unfold Be;rw[zp (by omega),cT,Ah,he,obs,A2e (by omega) (Ax4 hx),obs];rw[show Cm ((x.map ptQ).map rp) (w.1,(w.2.1,(w.2.2.1,w.2.2.2)))=some (Jo (shW w x))from s1]
  cases hs:shW w x with
  |none=>
   refine Aj ?_
   show Be w (acc.map rq) l (l.length:Int) (k:Int)=_;rw[top,hs,obs];rfl
  |some qs=>
   obtain⟨q1,q2⟩:=s3 qs hs;have ad:=A1V w l (l.length:Int) (k:Int) acc qs [] [] h2 q2 (by omega) rfl (by simp;omega);rw[hs,obs]at top;have ad':Ad (fun(s:(BZ×((List RQ)×(Fb×(Int×(Int×((List RQ)×(Int×Int))))))))=>BF s.1 s.2.1 s.2.2.1 s.2.2.2.1 s.2.2.2.2.1 s.2.2.2.2.2.1 s.2.2.2.2.2.2.1 s.2.2.2.2.2.2.2) (w,(acc.map rq,(l,((l.length:Int),((k:Int),((Jo (some qs)).1,(((Jo (some qs)).1.length:Int),(0:Int))))))))=some (adR w l (l.length:Int) (k:Int) [] (Ik acc qs)):=by
    have el:(Jo (some qs)).1.length=([]++qs:List Rat).length:=by show(qs.map rq).length=_;simp
    rw[el];exact ad
   rw[ad',obs,show(Jo (some qs)).2=true from rfl,nT,cF]at top;rw[obs];cases ha:Ik acc qs with
   |none=>
    refine Aj ?_
    show Be w (acc.map rq) l (l.length:Int) (k:Int)=_;rw[top,ha];rfl
   |some r=>
    obtain⟨a1,a2⟩:=PQ acc qs r (by omega) ha;have go:Be w (acc.map rq) l (l.length:Int) (k:Int)=some (.inl (w,(r.map rq,(l,((l.length:Int),((k+1:Nat):Int)))))):=by
     rw[top,ha,<-AJ (k:=k) (by omega)];rfl
    refine(AM (f:=fun(s:(BZ×((List RQ)×(Fb×(Int×Int)))))=>Be s.1 s.2.1 s.2.2.1 s.2.2.2.1 s.2.2.2.2) (s:=(w,(acc.map rq,(l,((l.length:Int),(k:Int)))))) go).trans ?_
    rw[obs];exact A3P m (k+1) r (by omega) (by omega) a2
theorem A35:∀(m k:Nat)(acc:List Rat),k+m=l.length->acc.length=nW w->(∀q∈acc,Sz 40 q)->
  Ad (fun(s:(BZ×((List RQ)×(Fb×(Int×Int)))))=>Bc s.1 s.2.1 s.2.2.1 s.2.2.2.1 s.2.2.2.2) (w,(acc.map rq,(l,((l.length:Int),(k:Int)))))=some (A5e (Ar2 w (l.drop k) acc))
 |0,k,acc,hk,h1,h2=>by
  refine Aj ?_
  show Bc w (acc.map rq) l (l.length:Int) (k:Int)=_;unfold Bc;rw[zq (by omega),cF,List.drop_of_length_le (by omega)];rfl
 |m+1,k,acc,hk,h1,h2=>by
  have hkl:k<l.length:=by omega
  have he:l[k]? =some l[k]:=za1 hkl;have hx:=hg _ (za4 he);rw[zb0 hkl];generalize l[k]=x at he hx;obtain⟨s1,s2,s3⟩:=AB6 hx hw;have hn:=Yg hw;have h12:=(IN.1 hx).1.2;have r2:=Ap3 hx;rw[Ar2];have top:Bc w (acc.map rq) l (l.length:Int) (k:Int)=(some (Jo (shW w x))).bind fun x2=>
    bif(!x2.2)then some (Sum.inr (Sum.inr (([]:List RQ),false)))else
    (Ad (fun(s:(BZ×((List RQ)×(Fb×(Int×(Int×((List RQ)×(Int×Int))))))))=>BH s.1 s.2.1 s.2.2.1 s.2.2.2.1 s.2.2.2.2.1 s.2.2.2.2.2.1 s.2.2.2.2.2.2.1 s.2.2.2.2.2.2.2) (w,(acc.map rq,(l,((l.length:Int),((k:Int),(x2.1,((x2.1.length:Int),(0:Int))))))))).bind fun x3=>
    Sum.elim (fun x4=>some (Sum.inl (x4.1,(x4.2.1,(x4.2.2.1,(x4.2.2.2.1,zi zj (x4.2.2.2.2+(1:Int)))))))) (fun x5=>some (Sum.inr (Sum.inr (x5.1,x5.2)))) x3:=by
   unfold Bc;rw[zp (by omega),cT,A0 hkl,obs,show AX l k=some x from he,obs,r2,obs];rw[show Dg ((x.map ptQ).map rp) (w.1,(w.2.1,(w.2.2.1,w.2.2.2)))=some (Jo (shW w x))from s2]
  cases hs:shW w x with
  |none=>
   refine Aj ?_
   show Bc w (acc.map rq) l (l.length:Int) (k:Int)=_;rw[top,hs,obs];rfl
  |some qs=>
   obtain⟨q1,q2⟩:=s3 qs hs;have ad:=A0J w l (l.length:Int) (k:Int) acc qs [] [] h2 q2 (by omega) rfl (by simp;omega);rw[hs,obs]at top;have ad':Ad (fun(s:(BZ×((List RQ)×(Fb×(Int×(Int×((List RQ)×(Int×Int))))))))=>BH s.1 s.2.1 s.2.2.1 s.2.2.2.1 s.2.2.2.2.1 s.2.2.2.2.2.1 s.2.2.2.2.2.2.1 s.2.2.2.2.2.2.2) (w,(acc.map rq,(l,((l.length:Int),((k:Int),((Jo (some qs)).1,(((Jo (some qs)).1.length:Int),(0:Int))))))))=some (adR w l (l.length:Int) (k:Int) [] (Ik acc qs)):=by
    have el:(Jo (some qs)).1.length=([]++qs:List Rat).length:=by show(qs.map rq).length=_;simp
    rw[el];exact ad
   rw[ad',obs,show(Jo (some qs)).2=true from rfl,nT,cF]at top;rw[obs];cases ha:Ik acc qs with
   |none=>
    refine Aj ?_
    show Bc w (acc.map rq) l (l.length:Int) (k:Int)=_;rw[top,ha];rfl
   |some r=>
    obtain⟨a1,a2⟩:=PQ acc qs r (by omega) ha;have go:Bc w (acc.map rq) l (l.length:Int) (k:Int)=some (.inl (w,(r.map rq,(l,((l.length:Int),((k+1:Nat):Int)))))):=by
     rw[top,ha,<-AJ (k:=k) (by omega)];rfl
    refine(AM (f:=fun(s:(BZ×((List RQ)×(Fb×(Int×Int)))))=>Bc s.1 s.2.1 s.2.2.1 s.2.2.2.1 s.2.2.2.2) (s:=(w,(acc.map rq,(l,((l.length:Int),(k:Int)))))) go).trans ?_
    rw[obs];exact A35 m (k+1) r (by omega) (by omega) a2
end
def zer(n:Nat):List Rat:=List.replicate n 0
theorem A1i(n:Nat):zer (n+1)=zer n++[0]:=List.replicate_succ'
theorem AA9{n:Nat}:∀q∈zer n,Sz 40 q:=fun q hq=>by
 rw[List.eq_of_mem_replicate hq];exact S0r.mono (by omega)
theorem A5i{n:Nat}(h:n<=1000):C3 64 4 ((zer n).map rq) [rq 0]=some ((zer (n+1)).map rq):=by
 rw[A4s (by simp[zer];omega),A1i,List.map_append];rfl
theorem A5A(w:BZ)(l:Fb){n:Nat}(hn:n<=1000):Ad (fun(s:(BZ×((List RQ)×(Fb×(Int×Int)))))=>B2 s.1 s.2.1 s.2.2.1 s.2.2.2.1 s.2.2.2.2) (w,((List.nil:List RQ),(l,((n:Int),(0:Int)))))=some (w,((zer n).map rq,l)):=by
 obtain⟨_,h1,_⟩:=Eo (body:=fun(s:(BZ×((List RQ)×(Fb×(Int×Int)))))=>B2 s.1 s.2.1 s.2.2.1 s.2.2.2.1 s.2.2.2.2) (fun k (_:Unit)=>(w,((zer k).map rq,(l,((n:Int),(k:Int)))))) (fun _=>(w,((zer n).map rq,l))) (fun _ _=>True) n (by
  intro k _ hk _;refine⟨(),?_,trivial⟩
  show B2 w ((zer k).map rq) l (n:Int) (k:Int)=_;unfold B2;rw[zp (by omega),cT,X4,obs];rw[show C3 64 4 ((zer k).map rq) (List.cons (((rqF 0).1,(rqF 0).2.1),((rqF 0).2.2.1,(rqF 0).2.2.2)) (List.nil:List RQ))=some ((zer (k+1)).map rq)from A5i (by omega),obs,AJ (by omega)]) (by
  intro _ _;show B2 w ((zer n).map rq) l (n:Int) (n:Int)=_;unfold B2;rw[zq (by omega),cF]) 0 () (by omega) trivial
 exact h1
theorem A3Z(w:BZ)(l:Fb):∀(m n:Nat),m+n<=1000->Ad (fun(s:(BZ×(Fb×((List RQ)×Int))))=>B4 s.1 s.2.1 s.2.2.1 s.2.2.2) (w,(l,((zer n).map rq,(m:Int))))=some (w,(l,(zer (n+m)).map rq))
 |0,n,h=>by
  refine Aj ?_
  show B4 w l ((zer n).map rq) (0:Int)=_;unfold B4;rw[zq (by omega),cF];rfl
 |m+1,n,h=>by
  have go:B4 w l ((zer n).map rq) ((m+1:Nat):Int)=some (.inl (w,(l,((zer (n+1)).map rq,(m:Int))))):=by
   unfold B4;rw[zp (by omega),cT,YV,obs];rw[show C3 64 4 ((zer n).map rq) (List.cons (((rqF 0).1,(rqF 0).2.1),((rqF 0).2.2.1,(rqF 0).2.2.2)) (List.nil:List RQ))=some ((zer (n+1)).map rq)from A5i (by omega),obs,Ae (by omega) (by omega),show((m+1:Nat):Int)-1=(m:Int) by omega]
  refine(AM (f:=fun(s:(BZ×(Fb×((List RQ)×Int))))=>B4 s.1 s.2.1 s.2.2.1 s.2.2.2) (s:=(w,(l,((zer n).map rq,((m+1:Nat):Int))))) go).trans ?_
  rw[A3Z w l m (n+1) (by omega),show n+1+m=n+(m+1) by omega]
def P8 (s:Str) (w:BZ):Option (List Rat):=if(K9 s).2.2.2=true/\HU w=true then Ar2 w (K9 s).1 (zer (nW w))else none
theorem A02(o:Option (List Rat)):(Sum.elim (fun x4=>some (x4,true)) (fun x5=>some (x5.1,x5.2)) (A5e o):Option (List RQ×Bool))=some (Jo o):=by
 cases o<;>rfl
theorem P4{l:Fb}(h:Jj l=true):∀w∈l,JX w=true:=by
 unfold Jj at h;simp only[za2]at h;exact za5.1 h.1
theorem V4{s:Str}{w:BZ}{r:List Rat}(h:P8 s w=some r):HU w=true/\r.length=nW w/\∀q∈r,Sz 40 q:=by
 unfold P8 at h
 split at h
 ·rename_i hc;rcases Pt s with⟨l,e,hg⟩|⟨c,a,e,hc'⟩
  ·rw[e]at h;exact⟨hc.2,YG (l:=l) hc.2 (P4 hg) l _ _ (P4 hg) (by simp[zer]) AA9 h⟩
  ·rw[e]at hc;cases hc.1
 ·cases h
theorem Al6{s:Str}(hs:s.length<=1048576)(w:BZ):Fq s w=some (Jo (P8 s w)):=by
 unfold Fq P8;rw[As0 (by omega),obs];rcases Pt s with⟨l,e,hg⟩|⟨c,a,e,hc⟩
 ·rw[e];simp only;rw[nT,cF,show Dz (w.1,(w.2.1,(w.2.2.1,w.2.2.2)))=some (HU w)from Mp w,obs];cases hw:HU w with
  |false=>rw[nF,cT,zw (by simp)];rfl
  |true=>
   obtain⟨n1,n2,n3⟩:=Yg hw;have hn:=AK3 hg;have z:=A5A w l (n:=nW w) (by omega);have p:=A3P hw (P4 hg) (l:=l) (by omega) l.length 0 (zer (nW w)) (by omega) (by simp[zer]) AA9;rw[nT,cF,n1,Ae (by omega) (by omega)];rw[show Ad (fun(s:(BZ×((List RQ)×(Fb×(Int×Int)))))=>B2 s.1 s.2.1 s.2.2.1 s.2.2.2.1 s.2.2.2.2) ((w.1,(w.2.1,(w.2.2.1,w.2.2.2))),((List.nil:List RQ),(l,((nW w:Int),(0:Int)))))=_ from z,obs]
   rw[show Ad (fun(s:(BZ×((List RQ)×(Fb×(Int×Int)))))=>Be s.1 s.2.1 s.2.2.1 s.2.2.2.1 s.2.2.2.2) ((w.1,(w.2.1,(w.2.2.1,w.2.2.2))),((zer (nW w)).map rq,(l,((l.length:Int),(0:Int)))))=_ from p,obs,A02,zr ⟨trivial,rfl⟩];rfl
 ·rw[e];simp only;rw[nF,cT,zw (by simp)];rfl
theorem Ai4{s:Str}(hs:s.length<=1048576)(w:BZ):Fk s w=some (Jo (P8 s w)):=by
 unfold Fk P8;rw[Aj8 (by omega),obs];rcases Pt s with⟨l,e,hg⟩|⟨c,a,e,hc⟩
 ·rw[e];simp only;rw[nT,cF,show DB (w.1,(w.2.1,(w.2.2.1,w.2.2.2)))=some (HU w)from Mg w,obs];cases hw:HU w with
  |false=>rw[nF,cT,zw (by simp)];rfl
  |true=>
   obtain⟨n1,n2,n3⟩:=Yg hw;have hn:=AK3 hg;have z:=A3Z w l (nW w) 0 (by omega);rw[ze4]at z;have p:=A35 hw (P4 hg) (l:=l) (by omega) l.length 0 (zer (nW w)) (by omega) (by simp[zer]) AA9;rw[nT,cF,n1,Ae (by omega) (by omega)];rw[show Ad (fun(s:(BZ×(Fb×((List RQ)×Int))))=>B4 s.1 s.2.1 s.2.2.1 s.2.2.2) ((w.1,(w.2.1,(w.2.2.1,w.2.2.2))),(l,((List.nil:List RQ),(nW w:Int))))=_ from z,obs];rw[show Ad (fun(s:(BZ×((List RQ)×(Fb×(Int×Int)))))=>Bc s.1 s.2.1 s.2.2.1 s.2.2.2.1 s.2.2.2.2) ((w.1,(w.2.1,(w.2.2.1,w.2.2.2))),((zer (nW w)).map rq,(l,((l.length:Int),(0:Int)))))=_ from p,obs,A02,zr ⟨trivial,rfl⟩]
   rfl
 ·rw[e];simp only;rw[nF,cT,zw (by simp)];rfl
def AX3:Option (List Rat)->List Int×Bool
 |none=>([],false)
 |some r=>(r.map byQ,true)
theorem Ac1{s:Str}(hs:s.length<=1048576)(w:BZ):Gf s w=some (AX3 (P8 s w)):=by
 unfold Gf;rw[show Fq s (w.1,(w.2.1,(w.2.2.1,w.2.2.2)))=_ from Al6 hs w,obs];cases h:P8 s w with
 |none=>rfl
 |some r=>
  obtain⟨h1,h2,h3⟩:=V4 h;have:=(Yg h1).2.2;show(bif !true then _ else(HX (r.map rq)).bind fun x1=>some (x1,true))=_;rw[nT,cF,AP0 h3 (by omega),obs];rfl
theorem ZT{s:Str}(hs:s.length<=1048576)(w:BZ):GO s w=some (AX3 (P8 s w)):=by
 unfold GO;rw[show Fk s (w.1,(w.2.1,(w.2.2.1,w.2.2.2)))=_ from Ai4 hs w,obs];cases h:P8 s w with
 |none=>rfl
 |some r=>
  obtain⟨h1,h2,h3⟩:=V4 h;have:=(Yg h1).2.2;have lp:=Ad9 h3 (by omega);have lp':Ad (fun(s:((List Int)×((List RQ)×(Int×Int))))=>BQ s.1 s.2.1 s.2.2.1 s.2.2.2) ((List.nil:List Int),((Jo (some r)).1,(((Jo (some r)).1.length:Int),(0:Int))))=some (r.map byQ):=by
   rw[show(Jo (some r)).1.length=r.length by show(r.map rq).length=_;simp];exact lp
  rw[show(Jo (some r)).2=true from rfl,nT,cF,lp',obs];rfl
end
section
open Go
end
section
open Go
def Q5(w h:Int):Str:=[80,53,10]++(Lib.itoa w++(32::(Lib.itoa h++[10,50,53,53,10])))
theorem A5f{w h:Int}(hw:1<=w/\w<=10)(hh:1<=h/\h<=10):M3 w h=some (Q5 w h):=by
 unfold M3 Q5;have n1:=Ln (n:=w) (by omega) (by omega);have n2:=Ln (n:=h) (by omega) (by omega);rw[AD5 (by omega) (by omega),obs,Hv (by simp;omega),obs,Hv (by simp;omega),obs,AD5 (by omega) (by omega),obs,Hv (by simp;omega),obs,Hv (by simp;omega),obs]
 try simp
theorem A10{w h:Int}(hw:1<=w/\w<=10)(hh:1<=h/\h<=10):1<=w*h/\w*h<=100:=by
 have h1:w*h<=10*10:=Int.mul_le_mul hw.2 hh.2 (by omega) (by omega);have h2:1*1<=w*h:=Int.mul_le_mul hw.1 hh.1 (by omega) (by omega);omega
theorem A1E{a b c:Int}:BP a b c=some (decide (b<=a/\a<=c)):=by
 unfold BP;by_cases h:a>=b
 ·rw[zp h,cT];congr 1;simp;omega
 ·rw[zq h,cF];congr 1;simp;omega
end
section
open Go
def Xz(x:Int):Bool:=decide (0<=x/\x<=255)
theorem A5L(x:Int):BP x 0 255=some (Xz x):=A1E
theorem AJ1{a b c:Int}:AO a b c=some (decide (b<=a/\a<=c)):=by
 unfold AO;by_cases h:b<=a
 ·first|(rw[zp h,cT];congr 1;simp;omega)|(simp[h])
 ·first|(rw[zq h,cF];congr 1;simp;omega)|(simp[h])
theorem A2H{l:List Int}(hl:l.length<4611686018427387904):Gs l=some (l.all Xz):=by
 obtain⟨h1,h2⟩:=Gd (l:=l) (st:=fun k=>(l,((l.length:Int),(k:Int)))) (p:=Xz) (body:=fun(s:((List Int)×(Int×Int)))=>Aq s.1 s.2.1 s.2.2) (fin:=.inl ()) (bad:=fun k=>.inr (k:Int))
  (by
   intro k a hk ha;have:=DY hk;show Aq l (l.length:Int) (k:Int)=_;unfold Aq GG;rw[zp (by omega),cT,Ah,hk,obs,AJ1,obs,show decide ((0:Int)<=a/\a<=255)=true from ha,nT,obs,cF,AJ (by omega)])
  (by
   intro k a hk ha;have:=DY hk;show Aq l (l.length:Int) (k:Int)=_;unfold Aq GG;rw[zp (by omega),cT,Ah,hk,obs,AJ1,obs,show decide ((0:Int)<=a/\a<=255)=false from ha,nF,obs,cT])
  (by
   show Aq l (l.length:Int) (l.length:Int)=_;unfold Aq;rw[zq (by omega)];rfl)
 unfold Gs Bi Bw;cases ha:l.all Xz with
 |true=>
  have h1':Ad (fun(s:((List Int)×(Int×Int)))=>Aq s.1 s.2.1 s.2.2) (l,((l.length:Int),(0:Int)))=_:=h1 ha;rw[h1'];rfl
 |false=>
  obtain⟨k,hk,h3⟩:=h2 ha;have h3':Ad (fun(s:((List Int)×(Int×Int)))=>Aq s.1 s.2.1 s.2.2) (l,((l.length:Int),(0:Int)))=_:=h3;rw[h3',obs];simp only[za8,obs];rw[zp (by omega)];rfl
theorem A2D{l:List Int}(hl:l.length<=100):LY l=some (l.all Xz):=by
 obtain⟨h1,h2⟩:=Gd (l:=l) (st:=fun k=>(l,(l,((l.length:Int),(k:Int))))) (p:=Xz) (body:=fun(s:((List Int)×((List Int)×(Int×Int))))=>Cp s.1 s.2.1 s.2.2.1 s.2.2.2) (fin:=.inl l) (bad:=fun k=>.inr false)
  (by
   intro k a hk ha;have:=DY hk;show Cp l l (l.length:Int) (k:Int)=_;unfold Cp;rw[zp (by omega),cT,Ah,hk,obs,A5L,obs,ha,nT,cF,AJ (by omega)])
  (by
   intro k a hk ha;have:=DY hk;show Cp l l (l.length:Int) (k:Int)=_;unfold Cp;rw[zp (by omega),cT,Ah,hk,obs,A5L,obs,ha,nF,cT])
  (by
   show Cp l l (l.length:Int) (l.length:Int)=_;unfold Cp;rw[zq (by omega)];rfl)
 unfold LY;cases ha:l.all Xz with
 |true=>
  have h1':Ad (fun(s:((List Int)×((List Int)×(Int×Int))))=>Cp s.1 s.2.1 s.2.2.1 s.2.2.2) (l,(l,((l.length:Int),(0:Int))))=_:=h1 ha;rw[h1',obs];simp only[Sum.elim_inl];rw[zp (by omega)]
 |false=>
  obtain⟨k,hk,h3⟩:=h2 ha;have h3':Ad (fun(s:((List Int)×((List Int)×(Int×Int))))=>Cp s.1 s.2.1 s.2.2.1 s.2.2.2) (l,(l,((l.length:Int),(0:Int))))=_:=h3;rw[h3'];rfl
theorem A4F{l:List Int}(hl:l.length<=100):∀(n a:Nat)(s:Str),a+n=l.length->s.length<=1000+a->
  Ad (fun(s:((List UInt8)×((List Int)×(Int×Int))))=>CP s.1 s.2.1 s.2.2.1 s.2.2.2) (s,(l,((l.length:Int),(a:Int))))=some (s++CA ((l.drop a).map (zi .u8))):=by
 intro n
 induction n with
 |zero=>
  intro a s ha hs;rw[zc9 (by omega)];refine Aj ?_
  unfold CP;simp only;rw[zq (by omega),cF];simp[CA]
 |succ n ih=>
  intro a s ha hs;have hlt:a<l.length:=by omega
  have he:l[a]? =some l[a]:=za1 hlt;have hd:l.drop a=l[a]::l.drop (a+1):=zb0 hlt;generalize l[a]=x at he hd;have hgo:(fun(s:((List UInt8)×((List Int)×(Int×Int))))=>CP s.1 s.2.1 s.2.2.1 s.2.2.2) (s,(l,((l.length:Int),(a:Int))))=some (.inl (s++CA [zi .u8 x],(l,((l.length:Int),((a+1:Nat):Int))))):=by
   unfold CP;simp only;rw[zp (by omega),cT,Ah,he,obs,Hv (by simp[CA];omega),obs,AJ (by omega)]
  rw[AM hgo,ih (a+1) _ (by omega) (by simp[CA];omega),hd];simp[CA]
theorem AN5{w h:Int}{l:List Int}(hw:1<=w/\w<=10)(hh:1<=h/\h<=10)(hl:l.length<=100):GB w h l=some (Q5 w h++CA (l.map (zi .u8))):=by
 unfold GB;have n1:=Ln (n:=w) (by omega) (by omega);have n2:=Ln (n:=h) (by omega) (by omega);have e:([80,53,10]++Lib.itoa w++[32]++Lib.itoa h++[10,50,53,53,10]:Str)=Q5 w h:=by unfold Q5;simp
 have hb:=A4F hl l.length 0 (Q5 w h) (by omega) (by rw[<-e];simp;omega);rw[Ak7 (by omega) (by omega),obs,Hv (by simp;omega),obs,Hv (by simp;omega),obs,Ak7 (by omega) (by omega),obs,Hv (by simp;omega),obs,Hv (by simp;omega),obs];rw[e];have hb':Ad (fun(s:((List UInt8)×((List Int)×(Int×Int))))=>CP s.1 s.2.1 s.2.2.1 s.2.2.2) (Q5 w h,(l,((l.length:Int),(0:Int))))=_:=hb;rw[hb',obs,zf0]
def AK9(w h:Int)(l:List Int):Prop:=1<=w/\w<=10/\1<=h/\h<=10/\(l.length:Int)=w*h/\l.all Xz=true
instance (w h:Int) (l:List Int):Decidable (AK9 w h l):=by unfold AK9;exact inferInstance
def AV9(w h:Int)(l:List Int):Str×Bool:=if AK9 w h l then(Q5 w h++CA (l.map (zi .u8)),true)else([],false)
theorem HY{w h:Int}{l:List Int}(p:¬AK9 w h l):AV9 w h l=([],false):=zw p
theorem VO{w h:Int}{l:List Int}:Fa w h l=some (AV9 w h l):=by
 unfold Fa;rw[A1E,obs];by_cases c1:1<=w/\w<=10
 ·rw[zp c1,nT,cF,A1E,obs];by_cases c2:1<=h/\h<=10
  ·have hm:=A10 c1 c2;rw[zp c2,nT,cF,Ae (n:=w*h) (by omega) (by omega)];by_cases c3:(l.length:Int)=w*h
   ·rw[show((l.length:Int) != w*h)=false by simpa[bne]using c3,cF,A2D (by omega),obs];cases c4:l.all Xz with
    |true=>
     rw[nT,cF,AN5 c1 c2 (by omega),obs];unfold AV9;rw[zr ⟨c1.1,c1.2,c2.1,c2.2,c3,c4⟩]
    |false=>
     rw[nF,cT,HY (fun p=>by rw[p.2.2.2.2.2]at c4;cases c4)]
   ·rw[show((l.length:Int) != w*h)=true by simpa[bne]using c3,cT,HY (fun p=>c3 p.2.2.2.2.1)]
  ·rw[zq c2,nF,cT,HY (fun p=>c2 ⟨p.2.2.1,p.2.2.2.1⟩)]
 ·rw[zq c1,nF,cT,HY (fun p=>c1 ⟨p.1,p.2.1⟩)]
theorem Wq{w h:Int}{l:List Int}:E6 w h l=some (AV9 w h l):=by
 unfold E6 AO8;rw[AJ1,obs];by_cases c1:1<=w/\w<=10
 ·rw[zp c1,nT,cF,AJ1,obs];by_cases c2:1<=h/\h<=10
  ·have hm:=A10 c1 c2;rw[zp c2,nT,cF,Ae (n:=w*h) (by omega) (by omega)];by_cases c3:(l.length:Int)=w*h
   ·rw[zw (fun h=>h c3),A2H (by omega),obs];cases c4:l.all Xz with
    |true=>
     have n1:=Ln (n:=w) (by omega) (by omega);have n2:=Ln (n:=h) (by omega) (by omega);rw[nT,cF,A5f c1 c2,obs,zr ⟨by unfold Q5;simp;omega,by omega⟩];unfold AV9;rw[zr ⟨c1.1,c1.2,c2.1,c2.2,c3,c4⟩]
    |false=>
     rw[nF,cT,HY (fun p=>by rw[p.2.2.2.2.2]at c4;cases c4)]
   ·rw[zr c3,HY (fun p=>c3 p.2.2.2.2.1)]
  ·rw[zq c2,nF,cT,HY (fun p=>c2 ⟨p.2.2.1,p.2.2.2.1⟩)]
 ·rw[zq c1,nF,cT,HY (fun p=>c1 ⟨p.1,p.2.1⟩)]
end
section
open Go
def AL0 (s:Str) (w:BZ):Str×Bool:=if(AX3 (P8 s w)).2=true then AV9 w.2.2.1 w.2.2.2 (AX3 (P8 s w)).1 else([],false)
theorem AR9{s:Str}(hs:s.length<=1048576)(w:BZ):Kf s w=some (AL0 s w):=by
 have h:=ZT (s:=s) hs w;unfold Kf AL0;simp only[AT];rw[h,obs];cases(AX3 (P8 s w)).2 with
 |false=>rw[nF,cT,zw (by simp)]
 |true=>rw[nT,cF,VO,obs,zr rfl]
theorem AS2{s:Str}(hs:s.length<=1048576)(w:BZ):Kc s w=some (AL0 s w):=by
 have h:=Ac1 (s:=s) hs w;unfold Kc AL0;simp only[AT];rw[h,obs];cases(AX3 (P8 s w)).2 with
 |false=>rw[nF,cT,zw (by simp)]
 |true=>rw[nT,cF,Wq,obs,zr rfl]
end
section
open Go
theorem Pa(s:Str)(w:BZ):C0 s w=some true:=by
 unfold C0;by_cases h:(s.length:Int)>1048576
 ·rw[zp h];rfl
 ·have hs:=AR9 (s:=s) (by omega) w;have hi:=AS2 (s:=s) (by omega) w;have tw:Ge w=some w:=by unfold Ge;rfl
  rw[zq h,cF];simp only[AT];rw[tw,obs,hs,obs,obs,hi,obs,beq_self_eq_true,nT,cF,beq_self_eq_true,nT,cF]
end
end Go.Proofs.YtiijheppiboglaaGreatDoor.Ev
section
namespace Go.Proofs.YtiijheppiboglaaGreatDoor.Ev
open Go Go.RowKit Go.ChangeShapes Go.WideShapes Go.ChangeAt
set_option maxRecDepth 100000
def shs:List Sh:=[.str,.pair (.int .i64) (.pair (.int .i64) (.pair (.int .i64) (.int .i64)))]
theorem fits:AH4 Tryz.prog [9,55] shs:=by
 exact⟨.str (by kernel_rfl),.st Tryz.underlying55 (by kernel_rfl) (.cons rfl (by kernel_rfl) (.int (by kernel_rfl)) (.cons rfl (by kernel_rfl) (.int (by kernel_rfl)) (.cons rfl (by kernel_rfl) (.int (by kernel_rfl)) (.one rfl (by kernel_rfl) (.int (by kernel_rfl)))))),trivial⟩
theorem own:ownKnob Tryz.prog.godebug=none:=by kernel_rfl
theorem laid:laidOutB Tryz.prog=true:=by kernel_rfl
theorem door_met(os:Os)(args:Array Value):laidMetH Tryz.prog Rows.fnExactFileForRow.laid ((World.laidAll Tryz.prog os Rows.fnExactFileForRow.laid).forCall (fun _ _=>0) ⟨#[],args,[]⟩).memory:=by
 rw[MakeChecks.laidMetH_plain _ _ _ (by kernel_rfl)];exact laidMet_laidAll _ (by kernel_rfl) (by kernel_rfl)
theorem starE: "*" ++ "errors.errorString" = "*errors.errorString" :=by decide
def ids:List Nat:=[0,1,2,3]
theorem libJ{W:World}(hsh:W.ShapedOpen Tryz.prog)(hL:laidMetH Tryz.prog Rows.fnExactFileForRow.laid W):LibJ (Jof W ids):=by
 rw[MakeChecks.laidMetH_plain _ _ _ (by kernel_rfl)]at hL;have hP:laidMet Tryz.prog Rows.fnExactFileForRow.laid W:=hL;have htab:Lib.TabIs Tryz.prog W "internal/strconv.uint64pow10" .u64 Lib.pow10Tab:=Lib.tabIs_of_head (g:=3) (t:=254) (e:=113) (n:=20) (by kernel_rfl) (by kernel_rfl) (by kernel_rfl) (by kernel_rfl) (by kernel_rfl) (by kernel_rfl) (show laidMet Tryz.prog ((_,Lib.tabData .u64 Lib.pow10Tab)::_) W from Iq 2 hP)
 have hmax:∃m:Int,W.cell? ⟨2,0,none⟩=some (.int .i64 m):=Go.Proofs.cell_of_shapedOpen_int (zero:= #[.int .i64 0]) (t:=3) hsh (of_decide_eq_true (by kernel_rfl)) (by kernel_rfl) rfl (by kernel_rfl) (by kernel_rfl) Tryz.underlying3;have hsyn:∃tp p,W.var? Tryz.prog "strconv.ErrSyntax" =some #[.iface tp p]:=by
  obtain⟨a,s,hv,_⟩:=laid_sentinel (g:=0) (ti:=125) (tp:=259) (te:=261) (ts:=9) (Iq 5 hP) (by kernel_rfl) (by kernel_rfl) Tryz.underlying125 (fun u h=>typeName_ptr_named (nm:= "errors.errorString") (by rw[starE];kernel_rfl) (by kernel_rfl) (by decide) u (by rw[starE];exact h)) Tryz.underlying259 Tryz.underlying261 rfl rfl Tryz.underlying9 (by kernel_rfl) (by kernel_rfl);exact⟨_,_,hv⟩
 have hrng:∃tp p,W.var? Tryz.prog "strconv.ErrRange" =some #[.iface tp p]:=by
  obtain⟨a,s,hv,_⟩:=laid_sentinel (g:=1) (ti:=125) (tp:=259) (te:=261) (ts:=9) (Iq 4 hP) (by kernel_rfl) (by kernel_rfl) Tryz.underlying125 (fun u h=>typeName_ptr_named (nm:= "errors.errorString") (by rw[starE];kernel_rfl) (by kernel_rfl) (by decide) u (by rw[starE];exact h)) Tryz.underlying259 Tryz.underlying261 rfl rfl Tryz.underlying9 (by kernel_rfl) (by kernel_rfl);exact⟨_,_,hv⟩
 unfold ids;exact {tab:=A6k (g:=3) (by kernel_rfl) (by simp) htab,max:=A6m (g:=2) (by simp) hmax,syn:=A5T (g:=0) (by kernel_rfl) (by simp) hsyn,rng:=A5T (g:=1) (by kernel_rfl) (by simp) hrng}
theorem lifted(os:Os)(started:os.Started)(H:Type)(enc:TypeId×Value->H):
  ReturnsInHanded {} Tryz.checked os 10 .any (fun w args=>(Rows.fnExactFileForSpec.pre enc Tryz.prog Tryz.f10 [] false w args/\laidMetH Tryz.prog Rows.fnExactFileForRow.laid w)/\sizedMet enc Tryz.prog Tryz.f10 (OpenSpec.ofChange Rows.fnExactFileForSpec) false w args)
   (Rows.fnExactFileForSpec.post enc Tryz.prog Tryz.f10 false true false false):=by
 refine Ni (C:=Tryz.checked) (X:=fun w _=>laidMetH Tryz.prog Rows.fnExactFileForRow.laid w) (fun _ _ _ hh h=>h.of_heap hh) own started (by kernel_rfl) Tryz.func10
  (ChangeSpec.witness_shaped (enc:=enc) (C:=Tryz.checked) (os:=os) (X:=fun w _=>laidMetH Tryz.prog Rows.fnExactFileForRow.laid w) false (World.laidAll Tryz.prog os Rows.fnExactFileForRow.laid) #[.string ⟨#[]⟩,.agg #[.int .i64 0,.int .i64 0,.int .i64 0,.int .i64 0]] 8 (World.laidAll_os _ _ _) (World.shaped_of_ZipB (by kernel_rfl) (by kernel_rfl)) (by kernel_rfl) (by kernel_rfl) (by kernel_rfl) (door_met os _)) ?_
 intro W base args ds gs before hval hW hsz hsh hL;exact XR (P:=Tryz.prog) (J:=Jof W ids) (cf:=cf0) (ext:=A4x) (F:=fun x=>C0 x.1 x.2) (shs:=shs) (by kernel_rfl) (Ai3 (libJ hsh hL)) OK (fun d=>by kernel_rfl)
  (fun d hd=>Pa d.1 d.2) rfl rfl (by kernel_rfl) fits laid
  (fun t ht=>by
   have:t=9\/t=55:=by simpa using ht
   rcases this with rfl|rfl<;>exact⟨by kernel_rfl,of_decide_eq_true (by kernel_rfl)⟩) rfl
  (fun ds hl=>by
   match ds,hl with
   |[_,_],_=>rfl) A1G hval hW hsz
theorem hfn:Tryz.prog.funcNamed "loop.example/g00409/laws.FnExactFileFor" =some 10:=by kernel_rfl
theorem closed:joinedFacts Tryz.prog 10 Tryz.f10 Rows.fnExactFileForSpec Rows.fnExactFileForRow=true:=by
 unfold joinedFacts;simp only[za2]
 repeat' apply And.intro
 all_goals (as_aux_lemma=>kernel_rfl)
theorem over:Rows.fnExactFileForRow.holds Tryz.pinned (OpenSpec.ofChange Rows.fnExactFileForSpec):=
 OpenClaim.holds_of_wide 10 Tryz.f10 rfl rfl rfl rfl rfl rfl rfl ⟨rfl,rfl,rfl,rfl,rfl⟩ rfl rfl rfl rfl rfl hfn Tryz.func10 closed
  (of_decide_eq_true (by as_aux_lemma=>kernel_rfl)) (by unfold Func.isWrapper;first|(rw[zr (by decide+kernel)];kernel_rfl)|(rw[zw (by decide+kernel)];exact⟨rfl,rfl⟩))
  (fun os started H enc _=>lifted os started H enc)
theorem carded:Rows.FnExactFileForCardSaid:=
 Claim7.holds_tied_plain_at .later [] [.data,.data,.data,.data,.sentinel,.sentinel,.pinned] true (true, "468de68268811ac350c0866b8afcc88575c2e10ab6507847880ba7abcce4bdc1") true
  over (fun _ h=>by cases h) (by as_aux_lemma=>kernel_rfl) (fun _ h=>by cases h) fnExactFileFor_row_tie rfl ⟨rfl,rfl⟩ (by as_aux_lemma=>kernel_rfl) rfl
  (fun f fn hf hf2=>by
   obtain rfl:f=10:=zv (hfn.symm.trans hf) |>.symm
   obtain rfl:fn=Tryz.f10:=(zv (Tryz.func10.symm.trans hf2)).symm;exact⟨by as_aux_lemma=>kernel_rfl,fun j t ht=>by
    rw[show Tryz.f10.params= #[9,55]from rfl]at ht;have hm:t∈[9,55]:=by simpa using Array.mem_of_getElem? ht
    have hall:([9,55].all fun u=> !Tryz.prog.wantsStandIn u)=true:=by kernel_rfl
    exact(show Tryz.prog.wantsStandIn t=false by simpa using za5.1 hall t hm)⟩)
  (by as_aux_lemma=>kernel_rfl)
end Go.Proofs.YtiijheppiboglaaGreatDoor.Ev
namespace Go.Proofs.YtiijheppiboglaaGreatDoor
theorem fnExactFileFor_holds:Rows.FnExactFileForSaid:=Ev.over
theorem fnExactFileFor_card_holds:Rows.FnExactFileForCardSaid:=Ev.carded
#print axioms fnExactFileFor_card_holds
end Go.Proofs.YtiijheppiboglaaGreatDoor

end
