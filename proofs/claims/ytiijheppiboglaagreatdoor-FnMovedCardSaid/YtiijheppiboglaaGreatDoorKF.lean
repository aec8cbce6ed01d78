/- Whatever comes in, the law of this claim answers true, and nothing that was handed in changes. -/
import Derived.Test.YtiijheppiboglaaGreatDoorKE
import Derived.Test.YtiijheppiboglaaGreatDoorRows
import Derived.Test.YtiijheppiboglaaGreatDoorCards
import Derived.Test.YtiijheppiboglaaGreatDoorTie
import Derived.WalkKit
import Derived.ProofKit
import Derived.OpenShut
import Derived.ShutString
import Derived.ChangeOld
import Derived.Below
import Derived.SizedLaws
import Derived.SevenTiedAt
import Derived.LaidMore
import Derived.Lay
import Derived.Stop.Joined
import Derived.Test.YtiijheppiboglaaGreatDoorChecked
set_option maxHeartbeats 2000000
set_option linter.unusedVariables false
set_option linter.unusedSimpArgs false
set_option linter.unusedSectionVars false
namespace Go.Proofs.YtiijheppiboglaaGreatDoor.Ev
section
open Go
theorem VA {s o t:Nat} (ho:o<2 ^ s) (h : 2 ^ s*t + o<4611686018427387904):orI .i64 (o:Int) ((2 ^ s*t:Nat):Int)=((o + 2 ^ s*t:Nat):Int):=by
 unfold orI
 rw[BitVec.ofInt_natCast,BitVec.ofInt_natCast,BitVec.toNat_or,BitVec.toNat_ofNat,BitVec.toNat_ofNat]
 have h64:IntKind.bits .i64=64:=rfl
 rw[h64,Nat.mod_eq_of_lt (by omega),Nat.mod_eq_of_lt (by omega),Nat.or_comm,←Nat.two_pow_add_eq_or_of_lt ho,wrapI (by omega) (by omega)]
 omega
theorem N5 {x:Int} {s:Nat} (hs:s≤63) (h0 : -9223372036854775808≤x*2 ^ s) (h1:x*2 ^ s≤9223372036854775807):shlI .i64 x (IntKind.wrap .u64 (s:Int))=x*2 ^ s:=by
 unfold shlI
 rw[wrapU (by omega) (by omega),show min ((s:Int).toNat) (IntKind.bits .i64)=s by simp[IntKind.bits]; omega,wrapI h0 h1]
theorem Ze {x:Int} {s:Nat} (hs:s≤63):shrI .i64 x (IntKind.wrap .u64 (s:Int))=x/2 ^ s:=by
 unfold shrI
 rw[wrapU (by omega) (by omega),show min ((s:Int).toNat) (IntKind.bits .i64)=s by simp[IntKind.bits]; omega]
 exact Int.fdiv_eq_ediv_of_nonneg _ (Int.le_of_lt (Int.pow_pos (by decide)))
theorem Ip {s:Nat} (hs:s≤16):∃ S T:Nat,S=2 ^ s∧T=2 ^ (16-s)∧S*T=65536∧1≤S∧1≤T∧S≤65536:=by
 refine ⟨2 ^ s,2 ^ (16-s),rfl,rfl,?_,Nat.one_le_two_pow,Nat.one_le_two_pow,?_⟩
 ·rw[←Nat.pow_add,show s + (16-s)=16 by omega]
 ·exact Nat.pow_le_pow_right (by decide) hs
theorem Nj {S T x:Int} (hST:S*T=65536) (hS : 1≤S) (hT : 1≤T) (hx : 0≤x∧x<65536) :
  x*S%65536=S*(x%T)∧x*S/65536=x/T∧0≤x/T∧x/T<S∧0≤x%T∧x%T<T∧S*(x%T) + 65536*(x/T)=x*S∧S*(x%T) + S≤65536:=by
 have e1:=Int.emod_add_mul_ediv x T
 have e2:=Int.emod_nonneg x (show T≠0 by omega)
 have e3:=Int.emod_lt_of_pos x (show 0<T by omega)
 have e4:=Int.ediv_nonneg hx.1 (show 0≤T by omega)
 have e5:x/T<S:=Int.ediv_lt_of_lt_mul (by omega) (by rw[hST]; exact hx.2)
 have e6:x*S=S*(x%T) + 65536*(x/T):=by
  have h2:S*(x%T + T*(x/T))=S*(x%T) + (S*T)*(x/T):=by rw[Int.mul_add,Int.mul_assoc]
  rw[e1,hST] at h2
  rw[←h2,Int.mul_comm]
 have e7:S*(x%T) + S≤65536:=by
  have h2:=Int.mul_le_mul_of_nonneg_left (show x%T + 1≤T by omega) (show 0≤S by omega)
  rw[Int.mul_add,hST] at h2
  omega
 have e8 : 0≤S*(x%T):=Int.mul_nonneg (by omega) e2
 rw[e6]
 refine ⟨?_,?_,e4,e5,e2,e3,rfl,e7⟩ <;> omega
theorem T5 {S T x y R:Int} (hST:S*T=65536) (hS : 1≤S) (hT : 1≤T) (hx : 0≤x∧x<65536):(x + 65536*(y + 65536*R))/S=(x + 65536*y)/S%65536 + 65536*((y + 65536*R)/S):=by
 have e1:x + 65536*(y + 65536*R)=(x + 65536*y) + S*(T*65536*R):=by
  have:S*(T*65536*R)=(S*T)*(65536*R):=by grind
  rw[this,hST]; omega
 have e2:(x + 65536*(y + 65536*R))/S=(x + 65536*y)/S + T*65536*R:=by rw[e1,Int.add_mul_ediv_left _ _ (by omega)]
 have e3:(x + 65536*(y + 65536*R))/S%65536=(x + 65536*y)/S%65536:=by
  rw[e2,show T*65536*R=65536*(T*R) by grind,Int.add_mul_emod_self_left]
 have e4:(x + 65536*(y + 65536*R))/S/65536=(y + 65536*R)/S:=by
  rw[Int.ediv_ediv_of_nonneg (by omega),Int.mul_comm S,←Int.ediv_ediv_of_nonneg (by decide)]
  congr 1
  omega
 have e5:=Int.emod_add_mul_ediv ((x + 65536*(y + 65536*R))/S) 65536
 rw[e3,e4] at e5
 omega
structure Up (l out:List Int) (s i:Nat):Prop where
 lb:LB out
 len:out.length=l.length + 1
 c:dg out i<2 ^ s
 z:∀ k,i<k→dg out k=0
 v:val out=val (l.take i)*2 ^ s
theorem Up.next {l out:List Int} {s i:Nat} (h:Up l out s i) (hl:LB l) (hs:s≤15) (hi:i<l.length) :
  Up l ((out.set i (dg out i + dg l i*2 ^ s%65536)).set (i + 1) (dg l i*2 ^ s/65536)) s (i + 1):=by
 obtain ⟨S,T,eS,eT,hST,hS,hT,hS2⟩:=Ip (show s≤16 by omega)
 have hSi:((S:Nat):Int)=2 ^ s:=by rw[eS]; simp
 have hc:=h.c
 rw[←hSi] at hc ⊢
 have hx:=Bv hl i
 obtain ⟨d1,d2,d3,d4,d5,d6,d7,d8⟩:=Nj (S:=(S:Int)) (T:=(T:Int)) (by rw[←Int.natCast_mul,hST]; rfl) (by omega) (by omega) hx
 have ho:=Bv h.lb i
 have hol:=h.len
 have hv:=h.v
 rw[←hSi] at hv
 have m0 : 0≤(S:Int)*(dg l i%T):=Int.mul_nonneg (by omega) d5
 rw[d1,d2]
 have hz:=h.z (i + 1) (by omega)
 refine ⟨?_,by simp[hol],?_,fun k hk=>?_,?_⟩
 ·refine (h.lb.set ⟨by omega,by omega⟩).set ⟨d3,by omega⟩
 ·rw[YC (by simp; omega),if_pos rfl,←hSi]; exact d4
 ·rw[B5 (by omega),B5 (by omega)]; exact h.z k (by omega)
 ·rw[Fs (AE (by simp; omega)),B5 (by omega),hz,Fs (AE (show i<out.length by omega)),hv,Dx,←hSi]
  have e1:B (i + 1)*(dg l i/T-0)=B i*(65536*(dg l i/T)):=by simp only[B]; grind
  have e2:(val (l.take i) + B i*dg l i)*S=val (l.take i)*S + B i*(dg l i*S):=by grind
  rw[e1,e2,←d7,Int.mul_add]
  have e3:B i*(dg out i + S*(dg l i%T)-dg out i)=B i*(S*(dg l i%T)):=by congr 1; omega
  omega
theorem Yh {l:List Int} {s:Nat} (hl:LB l) (hs:s≤15) (hn:l.length≤1000000):∃ out,FI l (s:Int)=some out∧LB out∧out.length=l.length + 1∧val out=val l*2 ^ s:=by
 obtain ⟨out,h1,h2⟩:=Cm (body:=fun (s:((List Int)×(Int×((List Int)×(Int×Int)))))=>GE s.1 s.2.1 s.2.2.1 s.2.2.2.1 s.2.2.2.2)
  (st:=fun k (b:List Int)=>(b,((s:Int),(l,((l.length:Int),(k:Int)))))) (fin:=fun b=>b) (I:=fun k b=>Up l b s k) (e:=l.length)
  (by
   rintro k out hk hI
   refine ⟨_,?_,hI.next hl hs hk⟩
   obtain ⟨S,T,eS,eT,hST,hS,hT,hS2⟩:=Ip (show s≤16 by omega)
   have hSi:((S:Nat):Int)=2 ^ s:=by rw[eS]; simp
   have hx:=Bv hl k
   have ho:=Bv hI.lb k
   have hol:=hI.len
   have hc:=hI.c
   rw[←hSi] at hc ⊢
   obtain ⟨d1,d2,d3,d4,d5,d6,d7,d8⟩:=Nj (S:=(S:Int)) (T:=(T:Int)) (by rw[←Int.natCast_mul,hST]; rfl) (by omega) (by omega) hx
   have hxS : 0≤dg l k*(S:Int)∧dg l k*(S:Int)≤65536*65536:=⟨Int.mul_nonneg hx.1 (by omega),Int.le_trans (Int.mul_le_mul_of_nonneg_left (show (S:Int)≤65536 by omega) hx.1) (Int.mul_le_mul_of_nonneg_right (by omega) (by decide))⟩
   have hsh:shlI .i64 (dg l k) (IntKind.wrap .u64 (s:Int))=dg l k*S:=by rw[hSi]; exact N5 (by omega) (by rw[←hSi]; omega) (by rw[←hSi]; omega)
   have hor:orI .i64 (dg out k) (dg l k*S%65536)=dg out k + dg l k*S%65536:=by
    obtain ⟨o,eo⟩:∃ o:Nat,dg out k=(o:Int):=⟨(dg out k).toNat,by omega⟩
    obtain ⟨t,et⟩:∃ t:Nat,dg l k%T=(t:Int):=⟨(dg l k%T).toNat,by omega⟩
    rw[d1,et,eo,←Int.natCast_mul,eS,VA (by rw[←eS]; omega) (by
     rw[←eS]
     have:((S*t:Nat):Int)≤65536:=by rw[Int.natCast_mul,←et]; omega
     omega)]
    simp
   have hu:IntKind.wrap .u64 (s:Int)=(s:Int):=wrapU (by omega) (by omega)
   unfold GE getN
   dsimp only
   rw[decide_eq_true (by omega),wrap1 (by omega)]
   have i1:idxI (k:Int) out.length=some k:=BX (by omega)
   have hd:decide (IntKind.wrap .u64 (s:Int)<0)=false:=by rw[hu]; exact decide_eq_false (by omega)
   simp only[cond_true,Ah,AE hk,Option.bind_some,hd,cond_false,i1,AE (show k<out.length by omega),hsh,Int.tmod_eq_emod_of_nonneg hxS.1,Int.tdiv_eq_ediv_of_nonneg hxS.1,hor,List.length_set]
   rw[BX (by omega)]
   simp only[Option.bind_some]
   rw[AE (by simp; omega)]
   simp only[Option.bind_some]
   rw[wrapI (n:=dg l k*S/65536) (by omega) (by omega)])
  (by
   rintro out _
   unfold GE
   dsimp only
   rw[decide_eq_false (Int.lt_irrefl _)]
   rfl) 0 (List.replicate (l.length + 1) 0) (by omega) ⟨LB.zeros _,by simp,by
    rw[show dg (List.replicate (l.length + 1) (0:Int)) 0=0 from rfl]
    exact Int.pow_pos (by decide),fun k _=>by unfold dg; rw[List.getD_eq_getElem?_getD,List.getElem?_replicate]; split <;> rfl,by simp[D8,val]⟩
 have hv:=h2.v
 rw[List.take_length] at hv
 refine ⟨out,?_,h2.lb,h2.len,hv⟩
 unfold FI
 rw[wrap1 (by omega),Kp (by unfold maxBytes; omega) (by unfold maxBytes; omega)]
 simp only[Option.bind_some]
 rw[show ((0:Nat):Int)=0 from rfl] at h1
 rw[h1]
 rfl
theorem YS {l:List Int} {s:Nat} (hl:LB l) (hs:s≤15) (hn:l.length≤1000000):EL l (s:Int)=some (lim (val l/2 ^ s).toNat):=by
 obtain ⟨S,T,eS,eT,hST,hS,hT,hS2⟩:=Ip (show s≤16 by omega)
 have hSi:((S:Nat):Int)=2 ^ s:=by rw[eS]; simp
 have hSTi:(S:Int)*T=65536:=by rw[←Int.natCast_mul,hST]; rfl
 obtain ⟨out,h1,h2⟩:=Cm (body:=fun (s:((List Int)×((List Int)×(Int×(Int×Int)))))=>DY s.1 s.2.1 s.2.2.1 s.2.2.2.1 s.2.2.2.2)
  (st:=fun k (b:List Int)=>(b,(l,((s:Int),((l.length:Int),(k:Int)))))) (fin:=fun b=>b)
  (I:=fun k b=>LB b∧b.length=l.length∧(∀ i,k≤i→dg b i=0)∧val b + B k*(val (l.drop k)/S)=val l/S) (e:=l.length)
  (by
   rintro k out hk ⟨g1,g2,g3,g4⟩
   have hx:=Bv hl k
   have hy:=Bv hl (k + 1)
   have hm0 : 0≤(dg l k + 65536*dg l (k + 1))/(S:Int)%65536∧(dg l k + 65536*dg l (k + 1))/(S:Int)%65536<65536:=by omega
   refine ⟨out.set k ((dg l k + 65536*dg l (k + 1))/(S:Int)%65536),?_,g1.set hm0,by simp[g2],fun i hi=>by rw[B5 (by omega)]; exact g3 i (by omega),?_⟩
   ·have hor:orI .i64 (dg l k) (shlI .i64 (dg l (k + 1)) 16)=dg l k + 65536*dg l (k + 1):=by
     obtain ⟨o,eo⟩:∃ o:Nat,dg l k=(o:Int):=⟨(dg l k).toNat,by omega⟩
     obtain ⟨t,et⟩:∃ t:Nat,dg l (k + 1)=(t:Int):=⟨(dg l (k + 1)).toNat,by omega⟩
     have h16:shlI .i64 (dg l (k + 1)) 16=((2 ^ 16*t:Nat):Int):=by
      have:=N5 (x:=dg l (k + 1)) (s:=16) (by omega) (by omega) (by omega)
      rw[show IntKind.wrap .u64 ((16:Nat):Int)=16 by decide] at this
      rw[this,et]; omega
     rw[h16,eo,VA (by omega) (by omega),et]
     omega
    have hu:IntKind.wrap .u64 (s:Int)=(s:Int):=wrapU (by omega) (by omega)
    unfold DY getN
    dsimp only
    rw[decide_eq_true (by omega),wrap1 (by omega)]
    have i1:idxI (k:Int) out.length=some k:=BX (by omega)
    have hd:decide (IntKind.wrap .u64 (s:Int)<0)=false:=by rw[hu]; exact decide_eq_false (by omega)
    have hsr:shrI .i64 (dg l k + 65536*dg l (k + 1)) (IntKind.wrap .u64 (s:Int))=(dg l k + 65536*dg l (k + 1))/(S:Int):=by rw[Ze (by omega),hSi]
    have hq0 : 0≤(dg l k + 65536*dg l (k + 1))/(S:Int):=Int.ediv_nonneg (by omega) (by omega)
    simp only[cond_true,Ah,AE hk,Option.bind_some,Ow,hd,cond_false,i1,AE (show k<out.length by omega),hor,hsr,Int.tmod_eq_emod_of_nonneg hq0]
   ·rw[Fs (AE (show k<out.length by omega)),g3 k (Nat.le_refl _),Int.sub_zero]
    rw[Bf l k,Bf l (k + 1),T5 hSTi (by omega) (by omega) hx,←Bf l (k + 1),Int.mul_add] at g4
    have e:B (k + 1)*(val (l.drop (k + 1))/S)=B k*(65536*(val (l.drop (k + 1))/S)):=by simp only[B]; grind
    omega)
  (by
   rintro out _
   unfold DY
   dsimp only
   rw[decide_eq_false (Int.lt_irrefl _)]
   rfl) 0 (List.replicate l.length 0) (by omega) ⟨LB.zeros _,by simp,fun i _=>by unfold dg; rw[List.getD_eq_getElem?_getD,List.getElem?_replicate]; split <;> rfl,by rw[D8,List.drop_zero]; simp[B]⟩
 obtain ⟨g1,g2,g3,g4⟩:=h2
 rw[List.drop_length,show val []=0 from rfl,Int.zero_ediv,Int.mul_zero,Int.add_zero] at g4
 unfold EL
 rw[Kp (by unfold maxBytes; omega) (by unfold maxBytes; omega)]
 simp only[Option.bind_some]
 rw[show ((0:Nat):Int)=0 from rfl] at h1
 rw[h1]
 simp only[Option.bind_some]
 rw[D3 (by unfold Brief; omega)]
 simp only[Option.bind_some]
 rw[Dh g1,g4,hSi]
theorem Ae6 {a b:List Int} {t:Int} {m:Nat} (hm:b.length=m + 1) (hml:m≤1000000) (ht:dg b m=t) (h1 : 1≤t) (h2:t<65536) :
  ∃ s:Nat,s≤15∧t*2 ^ s<65536∧loopM (fun (s:((List Int)×((List Int)×Int)))=>BC s.1 s.2.1 s.2.2) (a,(b,0))=some (a,(b,(s:Int))):=by
 have bound:∀ s:Nat,t*2 ^ s<65536→s≤15:=fun s h=>by
  have h3:(2:Int) ^ s<2 ^ 16:=by
   have h4:(1:Int)*2 ^ s≤t*2 ^ s:=Int.mul_le_mul_of_nonneg_right h1 (Int.le_of_lt (Int.pow_pos (by decide)))
   have h5:(2:Int) ^ 16=65536:=by decide
   omega
  have h5:((2 ^ s:Nat):Int)<((2 ^ 16:Nat):Int):=by simpa using h3
  have h6 : 2 ^ s<2 ^ 16:=by omega
  have:=(Nat.pow_lt_pow_iff_right (show 1<2 by decide)).1 h6
  omega
 obtain ⟨r,g1,s,rfl,g2⟩:=KN (f:=fun (s:((List Int)×((List Int)×Int)))=>BC s.1 s.2.1 s.2.2)
  (I:=fun x=>∃ s:Nat,x=(a,(b,(s:Int)))∧t*2 ^ s<65536) (R:=fun x=>∃ s:Nat,x=(a,(b,(s:Int)))∧t*2 ^ s<65536) (fun x=>100-x.2.2.toNat) (by
   rintro x ⟨s,rfl,hs⟩
   have hb:=bound s hs
   have p0:(0:Int)<2 ^ s:=Int.pow_pos (by decide)
   have p1 : 0≤t*2 ^ s:=Int.mul_nonneg (by omega) (by omega)
   have hsh:shlI .i64 t (IntKind.wrap .u64 (s:Int))=t*2 ^ s:=N5 (by omega) (by omega) (by omega)
   have hu:IntKind.wrap .u64 (s:Int)=(s:Int):=wrapU (by omega) (by omega)
   have hd:decide (IntKind.wrap .u64 (s:Int)<0)=false:=by rw[hu]; exact decide_eq_false (by omega)
   have hg:getI b (IntKind.wrap .i64 ((b.length:Int)-1))=some t:=by rw[←ht]; exact IF (by rw[wrapI (by omega) (by omega)]; omega) (by omega)
   simp only
   by_cases hc:t*2 ^ s<32768
   ·refine .inl ⟨(a,(b,((s + 1:Nat):Int))),?_,⟨s + 1,rfl,by rw[Int.pow_succ,←Int.mul_assoc]; omega⟩,by simp only; omega⟩
    unfold BC
    simp only[hg,Option.bind_some,hd,cond_false,hsh,decide_eq_true hc,cond_true]
    rw[wrap1 (by omega)]
   ·refine .inr ⟨(a,(b,(s:Int))),?_,s,rfl,hs⟩
    unfold BC
    simp only[hg,Option.bind_some,hd,cond_false,hsh,decide_eq_false hc]) (a,(b,0)) ⟨0,rfl,by simp; omega⟩
 exact ⟨s,bound s g2,g2,g1⟩
theorem YF {u0 v:List Int} {m:Nat} {bits:Int} (hv:LB v) (hvl:v.length=m + 2) (ht : 1≤dg v (m + 1)) (hl:u0.length≤1000000) {n:Nat} {out:List Int} (h:Places u0 v m n u0 out) :
  ∃ u out',loopM (fun (s:((List Int)×((List Int)×((List Int)×(Int×Int)))))=>AY s.1 s.2.1 s.2.2.1 s.2.2.2.1 s.2.2.2.2) (u0,(v,(out,(bits,(n:Int)-1))))=some (u,(out',bits))∧Places u0 v m 0 u out':=by
 obtain ⟨⟨u,out'⟩,h1,h2⟩:=KQ (body:=fun (s:((List Int)×((List Int)×((List Int)×(Int×Int)))))=>AY s.1 s.2.1 s.2.2.1 s.2.2.2.1 s.2.2.2.2)
  (st:=fun n (b:List Int×List Int)=>(b.1,(v,(b.2,(bits,(n:Int)-1))))) (fin:=fun b=>(b.1,(b.2,bits))) (I:=fun n b=>Places u0 v m n b.1 b.2)
  (by
   rintro n ⟨u,out⟩ hI
   simp only at hI
   have H:=hI.place hv hvl ht
   have hle:=hI.le
   have hol:=hI.olen
   have hul:=hI.len
   obtain ⟨u',g1,g2,g3,g4,g5⟩:=Zy (out:=out) (bits:=bits) H (by omega) (by omega)
   refine ⟨(u',out.set n (val (u.drop n)/val v)),?_,hI.next H g2 g3 g4 g5⟩
   simp only
   rw[show ((n + 1:Nat):Int)-1=(n:Int) by omega,g1])
  (by
   rintro ⟨u,out⟩ _
   unfold AY
   dsimp only
   rw[decide_eq_false (by omega)]
   rfl) n (u0,out) h
 exact ⟨u,out',h1,h2⟩
theorem Places.start2 {u0 v:List Int} {m n:Nat} (hu:LB u0) (hn:u0.length=n + (m + 2)) (h0:val (u0.drop n)<val v):Places u0 v m n u0 (List.replicate n 0) :=
 ⟨rfl,hu,by omega,h0,LB.zeros n,by simp; omega,fun i hi=>by unfold dg; rw[List.getD_eq_getElem?_getD,List.getElem?_replicate]; split <;> rfl,by rw[D8]; omega⟩
set_option maxHeartbeats 1000000 in
theorem J1 {a b:Nat} (hb0:b≠0) (ha:(lim a).length≤90000) (hb:(lim b).length≤90000):BF (lim a) (lim b)=some (lim (a/b),lim (a%b)):=by
 unfold BF
 rw[D3 (by unfold Brief; omega)]
 simp only[Option.bind_some]
 rw[JV (O1 a),Z8 (by unfold Brief; omega) (by unfold Brief; omega)]
 simp only[Option.bind_some]
 by_cases hab:a<b
 ·rw[RQ (by omega)]
  simp only[show decide ((-1:Int)<0)=true from rfl,cond_true]
  rw[Nat.div_eq_of_lt hab,Nat.mod_eq_of_lt hab,DF]
 have hc:decide (cmpZ (a:Int) b<0)=false:=by
  rcases UO (a:Int) b with ⟨h,g⟩ | ⟨h,_⟩ | ⟨h,_⟩
  ·omega
  ·rw[h]; rfl
  ·rw[h]; rfl
 simp only[hc,cond_false]
 have hbl:(lim b).length≠0:=fun h=>hb0 (MP.1 (List.eq_nil_of_length_eq_zero h))
 by_cases h1:(lim b).length=1
 ·obtain ⟨e1,e2,e3⟩:=ZH h1
  rw[e1]
  simp only[List.length_singleton,show (((1:Nat):Int)==1)=true from rfl,cond_true]
  rw[show getI [(b:Int)] 0=some (b:Int) from rfl]
  simp only[Option.bind_some]
  rw[Xt (by omega) (by omega)]
  simp only[Option.bind_some,Int.toNat_natCast]
 have hn1:((((lim b).length:Nat):Int)==1)=false:=beq_eq_false_iff_ne.2 (by omega)
 obtain ⟨m,hm⟩:∃ m,(lim b).length=m + 2:=⟨(lim b).length-2,by omega⟩
 obtain ⟨t1,t2,t3,t4⟩:=VY hb0
 rw[hm,show m + 2-1=m + 1 by omega] at t1 t2 t3 t4
 generalize ht:dg (lim b) (m + 1)=t at *
 obtain ⟨s,hs1,hs2,hs3⟩:=Ae6 (a:=lim a) (b:=lim b) (m:=m + 1) (by omega) (by omega) ht t1 t2
 obtain ⟨S,T,eS,eT,hST,hS,hT,hS2⟩:=Ip (show s≤16 by omega)
 have hSi:((S:Nat):Int)=2 ^ s:=by rw[eS]; simp
 obtain ⟨u,hu1,hu2,hu3,hu4⟩:=Yh (BA a) hs1 (by omega)
 obtain ⟨v,hv1,hv2,hv3,hv4⟩:=Yh (BA b) hs1 (by omega)
 rw[Bi,←hSi,←Int.natCast_mul] at hu4 hv4
 simp only[hn1,cond_false,hs3,Option.bind_some,hu1,hv1]
 rw[D3 (by unfold Brief; omega)]
 simp only[Option.bind_some]
 rw[Dh hv2,hv4,Int.toNat_natCast]
 have hBa:(a:Int)<B (lim a).length:=AX.1 (Nat.le_refl _)
 have lb:(lim (b*S)).length=m + 2:=by
  apply Nat.le_antisymm
  ·rw[AX]
   rw[show ((b*S:Nat):Int)=(b:Int)*S by simp]
   rw[←hSi] at hs2
   have e1:(b:Int)*S<B (m + 1)*(t + 1)*S:=Int.mul_lt_mul_of_pos_right t4 (by omega)
   have hts:(t + 1)*(S:Int)≤65536:=by
    obtain ⟨d1,d2,d3,d4,d5,d6,d7,d8⟩:=Nj (S:=(S:Int)) (T:=(T:Int)) (by rw[←Int.natCast_mul,hST]; rfl) (by omega) (by omega) (show 0≤t∧t<65536 by omega)
    have d9:t*S%65536=t*S:=Int.emod_eq_of_lt (Int.mul_nonneg (by omega) (by omega)) hs2
    rw[Int.add_mul,Int.one_mul,←d9,d1]
    exact d8
   have e2:B (m + 1)*((t + 1)*(S:Int))≤B (m + 1)*65536:=Int.mul_le_mul_of_nonneg_left hts (Int.le_of_lt (ET _))
   have e3:B (m + 1)*(t + 1)*S=B (m + 1)*((t + 1)*(S:Int)):=Int.mul_assoc ..
   have e4:B (m + 2)=B (m + 1)*65536:=by simp only[B]; omega
   omega
  ·rw[←hm,AX]
   have h1:((b*S:Nat):Int)<B (lim (b*S)).length:=AX.1 (Nat.le_refl _)
   have:b*1≤b*S:=Nat.mul_le_mul_left _ (by omega)
   omega
 have hle:(lim b).length≤(lim a).length:=by rw[AX]; omega
 have hbS0:b*S≠0:=Nat.mul_ne_zero hb0 (by omega)
 have htop:=(VY hbS0).1
 rw[lb,show m + 2-1=m + 1 by omega] at htop
 generalize hn:(lim a).length-(lim b).length + 1=n at *
 have w0:IntKind.wrap .i64 (((lim a).length:Int)-((lim b).length:Int))=(n:Int)-1:=by rw[wrapI (by omega) (by omega)]; omega
 rw[w0,wrapI (n:=(n:Int)-1 + 1) (by omega) (by omega),show (n:Int)-1 + 1=(n:Int) by omega,Kp (by unfold maxBytes; omega) (by unfold maxBytes; omega)]
 simp only[Option.bind_some]
 have hless:val (u.drop n)<val (lim (b*S)):=by
  rw[Bi]
  have h1:=A6 u n
  have h2:=AH (hu2.take n)
  rw[hu4] at h1
  have h3:B n*val (u.drop n)≤((a*S:Nat):Int):=by omega
  have h4:((a*S:Nat):Int)<B (lim a).length*S:=by rw[Int.natCast_mul]; exact Int.mul_lt_mul_of_pos_right hBa (by omega)
  have h5:(lim a).length=n + (m + 1):=by omega
  rw[h5,Ql] at h4
  have h6:B (m + 1)*S≤((b*S:Nat):Int):=by
   rw[Int.natCast_mul]
   have:B (m + 1)*1≤B (m + 1)*t:=Int.mul_le_mul_of_nonneg_left t1 (Int.le_of_lt (ET _))
   exact Int.mul_le_mul_of_nonneg_right (by omega) (by omega)
  have h7:B n*(val (u.drop n))<B n*(B (m + 1)*S):=by rw[←Int.mul_assoc]; omega
  have h8:=Int.lt_of_mul_lt_mul_left h7 (Int.le_of_lt (ET n))
  omega
 obtain ⟨u',out,hp,P⟩:=YF (bits:=(s:Int)) (BA (b*S)) lb htop (by omega) (Places.start2 (n:=n) hu2 (by omega) hless)
 rw[hp]
 simp only[Option.bind_some]
 obtain ⟨p1,p2⟩:=P.end (BA _)
 rw[hu4,Bi] at p1 p2
 obtain ⟨q1,q2⟩:=Uo (a:=a) (b:=b) (c:=S) (by omega)
 have p1':val out=((a/b:Nat):Int):=by rw[p1,←q1]; simp
 have p2':val u'=((a%b*S:Nat):Int):=by rw[p2,←q2]; simp
 have hul:=P.len
 have hol:=P.olen
 rw[D3 (by unfold Brief; omega)]
 simp only[Option.bind_some]
 rw[D3 (by unfold Brief; omega)]
 simp only[Option.bind_some]
 rw[Dh P.lo,Dh P.lu,p1',p2',Int.toNat_natCast,Int.toNat_natCast,YS (BA _) hs1 (by
  have:(lim (a%b*S)).length≤m + 2:=by
   rw[←lb,AX]
   have h1:((b*S:Nat):Int)<B (lim (b*S)).length:=AX.1 (Nat.le_refl _)
   have:=Nat.mul_lt_mul_of_pos_right (Nat.mod_lt a (show b>0 by omega)) (show S>0 by omega)
   omega
  omega),Bi]
 simp only[Option.bind_some]
 rw[←hSi,Int.natCast_mul,Int.mul_ediv_cancel _ (by omega),Int.toNat_natCast]
end
section
open Go
theorem ID (n:Nat):big (n:Int)=(false,lim n):=by unfold big; rw[decide_eq_false (by omega),Int.natAbs_natCast]
theorem Rt (n:Nat):big (-(n:Int))=(decide (n≠0),lim n):=by unfold big; congr 1; exact decide_eq_decide.2 (by omega); congr 1; omega
theorem YA (x y:Int):((!(decide (x<0)==decide (y<0)))&&decide (x.natAbs/y.natAbs≠0),lim (x.natAbs/y.natAbs))=big (x.tdiv y):=by
 rcases Int.lt_or_le x 0 with hx | hx
 ·obtain ⟨a,rfl⟩:∃ a:Nat,x = -(a:Int):=⟨x.natAbs,by omega⟩
  rcases Int.lt_or_le y 0 with hy | hy
  ·obtain ⟨b,rfl⟩:∃ b:Nat,y = -(b:Int):=⟨y.natAbs,by omega⟩
   rw[Int.neg_tdiv,Int.tdiv_neg,Int.neg_neg,←Int.ofNat_tdiv,ID,decide_eq_true hx,decide_eq_true hy,Int.natAbs_neg,Int.natAbs_neg]; rfl
  ·obtain ⟨b,rfl⟩:∃ b:Nat,y=(b:Int):=⟨y.natAbs,by omega⟩
   rw[Int.neg_tdiv,←Int.ofNat_tdiv,Rt,decide_eq_true hx,decide_eq_false (show ¬(b:Int)<0 by omega),Int.natAbs_neg]; rfl
 ·obtain ⟨a,rfl⟩:∃ a:Nat,x=(a:Int):=⟨x.natAbs,by omega⟩
  rcases Int.lt_or_le y 0 with hy | hy
  ·obtain ⟨b,rfl⟩:∃ b:Nat,y = -(b:Int):=⟨y.natAbs,by omega⟩
   rw[Int.tdiv_neg,←Int.ofNat_tdiv,Rt,decide_eq_false (show ¬(a:Int)<0 by omega),decide_eq_true hy,Int.natAbs_neg]; rfl
  ·obtain ⟨b,rfl⟩:∃ b:Nat,y=(b:Int):=⟨y.natAbs,by omega⟩
   rw[←Int.ofNat_tdiv,ID,decide_eq_false (show ¬(a:Int)<0 by omega),decide_eq_false (show ¬(b:Int)<0 by omega)]; rfl
theorem YN (x y:Int):(decide (x<0)&&decide (x.natAbs%y.natAbs≠0),lim (x.natAbs%y.natAbs))=big (x.tmod y):=by
 have hy:x.tmod y=x.tmod (y.natAbs:Int):=by
  rcases Int.natAbs_eq y with h | h
  ·rw[←h]
  ·rw[h,Int.tmod_neg,Int.natAbs_neg,Int.natAbs_natCast]
 rw[hy]
 rcases Int.lt_or_le x 0 with hx | hx
 ·obtain ⟨a,rfl⟩:∃ a:Nat,x = -(a:Int):=⟨x.natAbs,by omega⟩
  rw[Int.neg_tmod,←Int.ofNat_tmod,Rt,decide_eq_true hx,Int.natAbs_neg]; rfl
 ·obtain ⟨a,rfl⟩:∃ a:Nat,x=(a:Int):=⟨x.natAbs,by omega⟩
  rw[←Int.ofNat_tmod,ID,decide_eq_false (show ¬(a:Int)<0 by omega)]; rfl
theorem Kl {a b:Nat} (h:a≤b):(lim a).length≤(lim b).length:=AX.2 (Int.lt_of_le_of_lt (by omega) (AX.1 (Nat.le_refl (lim b).length)))
section
variable {x y:Int} {k:Nat}
theorem VR (hk:k≤90000) (hx:(x.natAbs:Int)<B k) (hy:(y.natAbs:Int)<B k) (h0:y≠0):D7 (big x) (big y)=some (big (x.tdiv y),big (x.tmod y)):=by
 have lx:=Nat.le_trans (AX.2 hx) hk
 have ly:=Nat.le_trans (AX.2 hy) hk
 have l1:=Kl (Nat.div_le_self x.natAbs y.natAbs)
 have l2:=Kl (Nat.mod_le x.natAbs y.natAbs)
 unfold D7
 rw[show (big x).2=lim x.natAbs from rfl,show (big y).2=lim y.natAbs from rfl,J1 (by omega) lx ly]
 simp only[Option.bind_some]
 rw[FJ (BA _) (by unfold Brief; omega),FJ (BA _) (by unfold Brief; omega),Bi,Bi,Int.toNat_natCast,Int.toNat_natCast]
 simp only[Option.bind_some]
 rw[show (big x).1=decide (x<0) from rfl,show (big y).1=decide (y<0) from rfl,YA,YN]
end
theorem SA {b:Nat} (h:b≠0):decide ((((lim b).length:Nat):Int)>0)=true:=by rw[L5,Qu]; simp[h]
theorem Vo:∀ (n a b:Nat),b<n→(lim a).length≤90000→(lim b).length≤90000 →
  loopM (fun (s:((List Int)×(List Int)))=>Fv s.1 s.2) (lim a,lim b)=some (lim (Nat.gcd a b)):=by
 intro n
 induction n with
 | zero=>intro a b h; omega
 | succ n ih =>
  intro a b h ha hb
  by_cases h0:b=0
  ·subst h0
   rw[Nat.gcd_zero_right]
   refine Ap ?_
   unfold Fv
   rw[DF]
   rfl
  ·have hm:=Nat.mod_lt a (show b>0 by omega)
   rw[A7 (s':=(lim b,lim (a%b)))]
   ·rw[ih b (a%b) (by omega) hb (Nat.le_trans (Kl (Nat.mod_le _ _)) ha),Nat.gcd_comm b,←Nat.gcd_rec,Nat.gcd_comm b]
   ·unfold Fv
    dsimp only
    rw[SA h0,J1 h0 ha hb]
    rfl
theorem Zl {a b:Nat} (ha:(lim a).length≤90000) (hb:(lim b).length≤90000):(lim (Nat.gcd a b)).length≤90000:=by
 by_cases h:a=0
 ·subst h; rw[Nat.gcd_zero_left]; exact hb
 ·exact Nat.le_trans (Kl (Nat.gcd_le_left b (by omega))) ha
section
variable {x y:Int} {k:Nat}
theorem ZT (hk:k≤90000) (hx:(x.natAbs:Int)<B k) (hy:(y.natAbs:Int)<B k):F6 (big x).2 (big y).2=some (lim (Int.gcd x y)):=by
 have lx:=Nat.le_trans (AX.2 hx) hk
 have ly:=Nat.le_trans (AX.2 hy) hk
 have lg:=Zl lx ly
 unfold F6
 rw[show (big x).2=lim x.natAbs from rfl,show (big y).2=lim y.natAbs from rfl,Vo _ _ _ (Nat.lt_succ_self _) lx ly]
 simp only[Option.bind_some]
 rw[D3 (by unfold Brief; omega)]
 simp only[Option.bind_some]
 rw[JV (O1 _)]
 rfl
end
end
section
open Go
theorem PG {a:Bool×List Int} (h:a.2.length≤1000000):CN a a=some true:=by
 have hb:CT a.2 a.2=some true:=by
  unfold CT
  rw[bne_self_eq_false]
  simp only[cond_false]
  obtain ⟨h1,h2⟩:=Iw (l:=a.2) (body:=fun (s:((List Int)×((List Int)×(Int×Int))))=>C6 s.1 s.2.1 s.2.2.1 s.2.2.2)
   (st:=fun k (b:Unit)=>(a.2,(a.2,((a.2.length:Int),(k:Int))))) (step:=fun b p=>()) (fin:=fun b=>.inl ()) (I:=fun k b=>True)
   (by
    rintro k b p hk _
    have hkl:=getL hk
    unfold C6
    simp only[Z6 hk,cond_true,Ah,hk,Option.bind_some,bne_self_eq_false,cond_false,wrap1 (show k<4611686018427387904 by omega)]
    exact ⟨trivial,trivial⟩)
   (by
    rintro b _
    unfold C6
    simp only[Aa9,cond_false]) () trivial
  rw[show ((0:Nat):Int)=0 from rfl] at h1
  rw[h1]
  rfl
 unfold CN
 rw[beq_self_eq_true,hb]
 rfl
section
variable {x y:Int} (hx:(x.natAbs:Int)<B 40) (hy:(y.natAbs:Int)<B 40)
include hx hy
end
section
variable {a b:Bool×List Int} (ha:Brief a.2) (hb:Brief b.2) (h:(goodB a&&goodB b)=false)
include ha hb h
end
end
section
open Go
theorem KL {x y:Int} (hy:y≠0):x.tdiv (if y<0 then -((Int.gcd x y:Nat):Int) else (Int.gcd x y:Nat))=(Rat.divInt x y).num∧y.tdiv (if y<0 then -((Int.gcd x y:Nat):Int) else (Int.gcd x y:Nat))=((Rat.divInt x y).den:Int):=by
 have d1:((Int.gcd x y:Nat):Int)∣x:=Int.gcd_dvd_left ..
 have d2:((Int.gcd x y:Nat):Int)∣y:=Int.gcd_dvd_right ..
 rw[Rat.num_divInt,Rat.den_divInt,if_neg hy,Int.gcd_comm y x]
 generalize Int.gcd x y=n at *
 obtain ⟨a,rfl⟩:=d1
 obtain ⟨b,rfl⟩:=d2
 have hn:n≠0:=by rintro rfl; simp at hy
 have hn':(n:Int)≠0:=by omega
 have hb:b≠0:=by rintro rfl; simp at hy
 have hsg:((n:Int)*b<0)↔b<0:=by
  constructor
  ·intro h
   rcases Int.lt_or_le b 0 with g | g
   ·exact g
   ·exact absurd (Int.mul_nonneg (show (0:Int)≤(n:Int) by omega) g) (by omega)
  ·intro h; exact Int.mul_neg_of_pos_of_neg (by omega) h
 rw[Int.natAbs_mul,Int.natAbs_natCast,Nat.mul_div_cancel_left _ (by omega)]
 by_cases h:b<0
 ·rw[if_pos (hsg.2 h),Int.sign_eq_neg_one_of_neg (hsg.2 h),Int.tdiv_neg,Int.tdiv_neg,Int.mul_tdiv_cancel_left _ hn',Int.mul_tdiv_cancel_left _ hn',
   show (-1:Int)*((n:Int)*a)=(n:Int)*(-a) by rw[Int.mul_neg,Int.neg_mul,Int.one_mul],Int.mul_ediv_cancel_left _ hn']
  exact ⟨rfl,by omega⟩
 ·have h':¬(n:Int)*b<0:=fun g=>h (hsg.1 g)
  have hp : 0<(n:Int)*b:=by omega
  rw[if_neg h',Int.sign_eq_one_of_pos hp,Int.mul_tdiv_cancel_left _ hn',Int.mul_tdiv_cancel_left _ hn',Int.one_mul,Int.mul_ediv_cancel_left _ hn']
  exact ⟨rfl,by omega⟩
def Sz (k:Nat) (q:Rat):Prop:=(q.num.natAbs:Int)<B k∧(q.den:Int)<B k
instance (k:Nat) (q:Rat):Decidable (Sz k q):=by unfold Sz; infer_instance
theorem Sz.mono {k m:Nat} {q:Rat} (h:Sz k q) (hkm:k≤m):Sz m q:=by
 have:=N8 hkm
 unfold Sz at *
 omega
theorem MT (x g:Int):(x.tdiv g).natAbs≤x.natAbs:=by rw[Int.natAbs_tdiv]; exact Nat.div_le_self _ _
theorem WU {x y:Int} {k:Nat} (hx:(x.natAbs:Int)<B k) (hy:(y.natAbs:Int)<B k) (h0:y≠0):Sz k (Rat.divInt x y):=by
 obtain ⟨h1,h2⟩:=KL (x:=x) h0
 have a1:=MT x (if y<0 then -((Int.gcd x y:Nat):Int) else (Int.gcd x y:Nat))
 have a2:=MT y (if y<0 then -((Int.gcd x y:Nat):Int) else (Int.gcd x y:Nat))
 rw[h1] at a1
 rw[h2] at a2
 unfold Sz
 omega
theorem natB {n:Nat} {k:Nat} (h:(n:Int)<B k):(((n:Int)).natAbs:Int)<B k:=by rw[Int.natAbs_natCast]; exact h
section
variable {p q:Rat} {k m:Nat} (hp:Sz k p) (hq:Sz m q)
include hp hq
end
theorem B1:B 1=65536:=rfl
def goodQ (a:(Bool×List Int)×(Bool×List Int)):Bool:=goodB a.1&&goodB a.2&&((!a.2.1 && !a.2.2.isEmpty)&&decide (Nat.gcd (val a.1.2).toNat (val a.2.2).toNat=1))
end
section
open Go
abbrev RF:=Bool×(List Int×(Bool×List Int))
def rqF (q:Rat):RF:=((big q.num).1,((big q.num).2,((big (q.den:Int)).1,(big (q.den:Int)).2)))
def zF:RF:=(false,([],(false,[])))
theorem rq_e (a:RF):(a.1,(a.2.1,(a.2.2.1,a.2.2.2)))=a:=(rfl)
theorem Ag1 {x y:Int} {k:Nat} (hy:(y.natAbs:Int)<B k) (h0:y≠0):(((Int.gcd x y:Nat):Int).natAbs:Int)<B k:=by
 rw[Int.natAbs_natCast]
 have:Int.gcd x y≤y.natAbs:=Nat.le_of_dvd (by omega) (Nat.gcd_dvd_right ..)
 omega
theorem Ad5 {x y:Int} (h0:y≠0):((Int.gcd x y:Nat):Int)≠0:=by
 have : 0<Int.gcd x y:=Nat.gcd_pos_of_pos_right _ (by omega)
 omega
theorem OO {x:Int} {k:Nat} (hk:k≤1000000) (h:(x.natAbs:Int)<B k):Brief (big x).2:=by
 have:=AX.2 h; unfold big Brief; dsimp only; omega
theorem P8 (x:Int) (s:Bool):(lim (val (big x).2).toNat,s&&decide ((val (big x).2).toNat≠0))=(lim x.natAbs,s&&decide (x≠0)):=by
 unfold big
 simp only[Bi,Int.toNat_natCast]
 congr 2
 exact decide_eq_decide.2 (by omega)
theorem VZ {x:Int} {k:Nat} (hk:k≤1000000) (h:(x.natAbs:Int)<B k):Eb (big x)=some (big (-x)):=by
 unfold Eb
 rw[FJ (show LB (big x).2 from BA _) (OO hk h),P8]
 simp only[Option.bind_some]
 congr 1
 unfold big
 simp only
 refine Prod.ext ?_ (by simp)
 simp only
 by_cases h0:x<0
 ·rw[decide_eq_true h0]; simp; omega
 ·rw[decide_eq_false h0]; simp only[Bool.not_false,Bool.true_and]; exact decide_eq_decide.2 (by omega)
theorem PR {x:Int} {k:Nat} (hk:k≤1000000) (h:(x.natAbs:Int)<B k):A0 (big x).1 (big x).2=some ((big x).2,(big x).1):=by
 rw[FJ (show LB (big x).2 from BA _) (OO hk h),P8]
 congr 1
 unfold big
 simp only
 refine Prod.ext rfl ?_
 simp only
 by_cases h0:x<0
 ·rw[decide_eq_true h0]; simp; omega
 ·rw[decide_eq_false h0]; rfl
theorem WC {n:Nat} {k:Nat} (hk:k≤1000000) (h:(n:Int)<B k):A0 false (big (n:Int)).2=some ((big (n:Int)).2,(big (n:Int)).1):=by
 have:=PR (x:=(n:Int)) hk (natB h)
 rwa [show (big (n:Int)).1=false by rw[ID]] at this ⊢
section
variable {p q:Rat} {k:Nat} (hk:k≤20000) (hp:Sz k p) (hq:Sz k q)
include hk hp hq
end
def BrF (a:RF):Prop:=Brief a.2.1∧Brief a.2.2.2
def toQ (a:RF):(Bool×List Int)×(Bool×List Int):=((a.1,a.2.1),(a.2.2.1,a.2.2.2))
def fitsQ (q:Rat):RF×Bool:=if Sz 40 q then (rqF q,true) else (zF,false)
end
section
open Go
theorem XF {x y : Int} {k : Nat} (hk : k ≤ 90000) (hx : (x.natAbs : Int) < B k) (hy : (y.natAbs : Int) < B k) (h0 : y ≠ 0) : E9 (big x) (big y) = some (rqF (Rat.divInt x y)) := by
  obtain ⟨p1, p2⟩ := KL (x := x) h0
  have hg := Ag1 (x := x) hy h0
  have hg0 := Ad5 (x := x) h0
  have hl : (lim (Int.gcd x y)).length ≤ k := AX.2 (by rwa [Int.natAbs_natCast] at hg)
  unfold E9
  rw [ZT hk hx hy]
  simp only [Option.bind_some]
  rw [FJ (BA _) (by unfold Brief; omega), Bi, Int.toNat_natCast]
  simp only [Option.bind_some, Bool.false_and]
  rw [← ID]
  simp only [peta, VR hk hx hg hg0, VR hk hy hg hg0, Option.bind_some]
  have t1 := MT x (Int.gcd x y : Nat)
  have t2 := MT y (Int.gcd x y : Nat)
  obtain ⟨c, hc⟩ : ((Int.gcd x y : Nat) : Int) ∣ y := Int.gcd_dvd_right ..
  have e2 : y.tdiv (Int.gcd x y : Nat) = c := by conv => lhs; lhs; rw [hc]
                                                 exact Int.mul_tdiv_cancel_left _ hg0
  have hsg : (y < 0) ↔ c < 0 := by
    have hp : (0 : Int) < (Int.gcd x y : Nat) := by omega
    generalize ((Int.gcd x y : Nat) : Int) = g at *
    constructor
    · intro h
      rcases Int.lt_or_le c 0 with e | e
      · exact e
      · have := Int.mul_nonneg (Int.le_of_lt hp) e; omega
    · intro h; have := Int.mul_neg_of_pos_of_neg hp h; omega
  rw [show (big (y.tdiv (Int.gcd x y : Nat))).1 = decide (y.tdiv (Int.gcd x y : Nat) < 0) from rfl]
  by_cases hn : y < 0
  · rw [if_pos hn, Int.tdiv_neg] at p1 p2
    rw [decide_eq_true (by rw [e2]; exact hsg.1 hn)]
    simp only [cond_true]
    rw [VZ (show k ≤ 1000000 by omega) (by omega), VZ (show k ≤ 1000000 by omega) (by omega)]
    simp only [Option.bind_some, p1, p2]
    rfl
  · rw [if_neg hn] at p1 p2
    rw [decide_eq_false (by rw [e2]; exact fun h => hn (hsg.2 h))]
    simp only [cond_false, p1, p2]
    rfl
section
variable {p q:Rat} {k:Nat} (hk:k≤20000) (hp:Sz k p) (hq:Sz k q)
include hk hp hq
end
theorem Yd {q:Rat} {k:Nat} (hk:k≤1000000) (hq:Sz k q):EV (rqF q)=some (fitsQ q):=by
 unfold EV fitsQ
 have e1:((((rqF q).2.1.length:Nat):Int)>40)↔¬((q.num.natAbs:Int)<B 40):=by
  rw[←AX]
  show ((((lim q.num.natAbs).length:Nat):Int)>40)↔_
  omega
 have e2:((((rqF q).2.2.2.length:Nat):Int)>40)↔¬((q.den:Int)<B 40):=by
  rw[←AX]
  have:(rqF q).2.2.2=lim q.den:=by show (big (q.den:Int)).2=_; rw[ID]
  rw[this]
  omega
 by_cases h1:(q.num.natAbs:Int)<B 40
 ·rw[decide_eq_false (fun h=>e1.1 h h1)]
  by_cases h2:(q.den:Int)<B 40
  ·rw[decide_eq_false (fun h=>e2.1 h h2),if_pos ⟨h1,h2⟩]
   simp only[cond_false]
   rw[show (rqF q).1=(big q.num).1 from rfl,show (rqF q).2.1=(big q.num).2 from rfl,show (rqF q).2.2.2=(big (q.den:Int)).2 from rfl,PR (k:=40) (by omega) h1,WC (k:=40) (by omega) h2]
   rfl
  ·rw[decide_eq_true (e2.2 h2),if_neg (fun h=>h2 h.2)]; rfl
 ·rw[decide_eq_true (e1.2 h1),if_neg (fun h=>h1 h.1)]; rfl
theorem WI {q:Rat} (h:Sz 40 q):fitsQ q=(rqF q,true):=if_pos h
section
variable {p q:Rat} (hp:Sz 40 p) (hq:Sz 40 q)
include hp hq
end
section
variable {a b:RF} (ha:BrF a) (hb:BrF b) (h:(goodQ (toQ a)&&goodQ (toQ b))=false)
include ha hb h
end
theorem B4:B 4=18446744073709551616:=rfl
theorem W1 {a:RF} (h1:a.2.1.length≤1000000) (h2:a.2.2.2.length≤1000000):Bq a a=some true:=by
 unfold Bq
 rw[PG (a:=(a.1,a.2.1)) h1,PG (a:=(a.2.2.1,a.2.2.2)) h2]
 rfl
theorem Rw {q:Rat} {k:Nat} (hk:k≤1000000) (h:Sz k q):Bq (rqF q) (rqF q)=some true :=
 W1 (Nat.le_trans (AX.2 h.1) hk) (Nat.le_trans (AX.2 (natB h.2)) hk)
end
section
open Go
theorem XS {l:List P2} {k:Nat} {q:P2} (h:k<l.length) (hs:l.length≤1000) (hq:l[(k + 1)%l.length]? = some q):ES l (k:Int)=some q:=by
 unfold ES
 have hz:(((l.length:Nat):Int)==0)=false:=beq_eq_false_iff_ne.2 (by omega)
 rw[hz,cF,wrap1 (by omega),Int.tmod_eq_emod_of_nonneg (by omega)]
 have e:((k + 1:Nat):Int)%(l.length:Int)=(((k + 1)%l.length:Nat):Int):=by omega
 rw[e,Ah,hq,obs]
theorem Yu {l:List P2} (hg:∀ p∈l,goodPt p=true) (hl:l.length≤1000):Fh l=some (areaI l)∧-2000000000≤areaI l∧areaI l≤2000000000:=by
 unfold Fh
 have hlen:(ring l).length=l.length:=Ng l
 have hall:(ring l).take (ring l).length=ring l:=List.take_length
 obtain ⟨h1,h2⟩:=Iw (l:=ring l) (body:=fun (s:((List (Int×Int))×(Int×((List (Int×Int))×(Int×Int)))))=>D0 s.1 s.2.1 s.2.2.1 s.2.2.2.1 s.2.2.2.2)
  (st:=fun k (b:Int)=>(l,(b,(l,((l.length:Int),(k:Int)))))) (step:=fun b p=>b + (p.1.1*p.2.2-p.2.1*p.1.2)) (fin:=fun b=>b) (I:=fun k b=>b=tot (fun p:P2×P2=>p.1.1*p.2.2-p.2.1*p.1.2) ((ring l).take k))
  (by
   rintro k b p hk rfl
   have hb:=Nc (hg _ (Pb (List.mem_of_getElem? hk)).1) (hg _ (Pb (List.mem_of_getElem? hk)).2)
   have ht:=Lb hg hl k
   obtain ⟨g1,g2,g3⟩:=YO hk
   unfold D0
   simp only[Et g2,cond_true,Ah,g2,XS g1 hl g3,Option.bind_some,wrap1 (show k<4611686018427387904 by omega)]
   rw[wrapI (n:=p.1.1*p.2.2) (by omega) (by omega),wrapI (n:=p.2.1*p.1.2) (by omega) (by omega),wrapI (n:=p.1.1*p.2.2-p.2.1*p.1.2) (by omega) (by omega),wrapI (by omega) (by omega)]
   exact ⟨rfl,(Py _ hk).symm⟩)
  (by
   rintro b rfl
   unfold D0
   rw[hlen]
   simp only[JG,cond_false]) 0 rfl
 have h0:((0:Nat):Int)=0:=rfl
 rw[h0] at h1
 rw[h2,hall] at h1
 refine ⟨?_,?_⟩
 ·rw[h1]; rfl
 ·have:=Lb hg hl (ring l).length
  rw[hall] at this
  exact this
def inkI:Ways→Int
 | []=>0
 | w::l=>areaI w + inkI l
theorem Xa (l:Ways) (w:List P2):inkI (l ++ [w])=inkI l + areaI w:=by
 induction l with
 | nil=>simp[inkI]
 | cons a l ih=>rw[List.cons_append,inkI,ih,inkI]; omega
theorem LC:∀ (l:Ways),(∀ w∈l,isWay w=true)→-(2000000000*(l.length:Int))≤inkI l∧inkI l≤2000000000*(l.length:Int)
 | [],_=>by simp[inkI]
 | w::l,h=>by
  have h1:=LC l (fun x hx=>h x (List.mem_cons_of_mem _ hx))
  obtain ⟨⟨_,w1⟩,w2⟩:=B8.1 (h w (by simp))
  have h2:=Lb w2 (by omega) (ring w).length
  rw[List.take_length] at h2
  have h2 : -2000000000≤areaI w∧areaI w≤2000000000:=h2
  rw[inkI,List.length_cons]
  omega
theorem Sr {l:Ways} (h:goodWays l=true):∀ w∈l,isWay w=true:=by
 unfold goodWays at h
 simp only[Bool.and_eq_true] at h
 exact List.all_eq_true.1 h.1
theorem Uk {l:Ways} (hg:goodWays l=true):loopM (fun (s:(RF×(Ways×(Int×(Int×Int)))))=>BK s.1 s.2.1 s.2.2.1 s.2.2.2.1 s.2.2.2.2) (zF,(l,((0:Int),((l.length:Int),(0:Int)))))=some (zF,inkI l):=by
 have hn:=Ri hg
 have hw:=Sr hg
 obtain ⟨_,h1,_⟩:=Cm (body:=fun (s:(RF×(Ways×(Int×(Int×Int)))))=>BK s.1 s.2.1 s.2.2.1 s.2.2.2.1 s.2.2.2.2) (fun k (_:Unit)=>(zF,(l,(inkI (l.take k),((l.length:Int),(k:Int)))))) (fun _=>(zF,inkI l)) (fun _ _=>True) l.length (by
  intro k _ hk _
  have he:l[k]? = some l[k]:=List.getElem?_eq_getElem hk
  generalize l[k]=w at he
  obtain ⟨⟨_,w1⟩,w2⟩:=B8.1 (hw w (List.mem_of_getElem? he))
  obtain ⟨a1,a2,a3⟩:=Yu w2 (by omega)
  have hb:=LC (l.take k) (fun x hx=>hw x (List.mem_of_mem_take hx))
  rw[List.length_take] at hb
  have hmin:((min k l.length:Nat):Int)≤4:=by omega
  refine ⟨(),?_,trivial⟩
  show BK zF l (inkI (l.take k)) (l.length:Int) (k:Int)=_
  unfold BK
  rw[decide_eq_true (by omega),cT,BX hk,obs,show getN l k=some w from he,obs,a1,obs,wrapI (by omega) (by omega),wrap1 (by omega),List.take_add_one,he]
  show _=some (Sum.inl (zF,(l,(inkI (l.take k ++ [w]),_))))
  rw[Xa]) (by
  intro _ _
  show BK zF l (inkI (l.take l.length)) (l.length:Int) (l.length:Int)=_
  unfold BK
  rw[decide_eq_false (by omega),cF,List.take_length]) 0 () (by omega) trivial
 exact h1
theorem V8 {s:Str} (hs:s.length≤1048576) {l:Ways} (e:pathV s=(l,0,0,true)) (hg:goodWays l=true):CI s=some (fitsQ (Rat.divInt (inkI l) 2))∧Sz 4 (Rat.divInt (inkI l) 2):=by
 have hn:=Ri hg
 have hb:=LC l (Sr hg)
 have hlp:=Uk hg
 have hB:((inkI l).natAbs:Int)<B 4:=by rw[B4]; omega
 have h2:((2:Int).natAbs:Int)<B 4:=by rw[B4]; decide
 have hz:Sz 4 (Rat.divInt (inkI l) 2):=WU hB h2 (by omega)
 refine ⟨?_,hz⟩
 unfold CI
 rw[Hj (by omega),obs,e]
 simp only
 have hlp':loopM (fun (s:(RF×(Ways×(Int×(Int×Int)))))=>BK s.1 s.2.1 s.2.2.1 s.2.2.2.1 s.2.2.2.2) ((false,([],(false,[]))),(l,((0:Int),((l.length:Int),(0:Int)))))=some (zF,inkI l):=hlp
 rw[nT,cF,hlp',obs]
 simp only[rq_e,peta]
 rw[VB (by omega) (by omega),obs,VB (by omega) (by omega),obs]
 try simp only[rq_e,peta]
 rw[XF (k:=4) (by omega) hB h2 (by omega),obs]
 try simp only[rq_e,peta]
 rw[Yd (k:=4) (by omega) hz,obs]
theorem Zg (d:P2):∀ l:Ways,inkI (l.map (mvW d))=inkI l
 | []=>rfl
 | w::l=>by
  rw[List.map_cons,inkI,inkI,Zg d l]
  have:areaI (mvW d w)=areaI w:=UI w d
  rw[this]
end
section
open Go Go.RowKit Go.ChangeShapes Go.WideShapes Go.ChangeAt
theorem Kv {l:List Int} (h:WFC (.sl 1 (.int .u8)) l):(∀ x∈l,0≤x∧x≤255)∧l.length≤1000000000000000:=by
 have h1:∀ x∈l,(Lit.int .u8 x).wf=true:=h.1
 have h2:l.length*1≤maxBytes:=h.2
 refine ⟨fun x hx=>?_,by unfold maxBytes at h2; omega⟩
 have:=h1 x hx
 simp[Lit.wf,IntKind.min,IntKind.max,IntKind.bits,IntKind.signed] at this
 omega
end
section
open Go
theorem ZJ {a:List Int} (ha:Cur 0 (a,0,0)):∃ s d,BB a=some (s,d)∧s.length≤1000∧GP d:=by
 obtain ⟨c1,s,e1,q1,l1⟩:=Ab0 ha (by omega)
 obtain ⟨c2,d,e2,q2,g2⟩:=XJ q1 (by omega)
 unfold BB
 rw[e1,obs,e2,obs]
 exact ⟨s,d,rfl,l1,g2⟩
theorem TZ {s:Str} {d:P2} (hs:s.length≤1000) (h:(mvV s d).2=true):∃ (p:Str×Bool) (q:RF) (c:Int×Int×Bool) (u:List Wy),
  Ck (mvV s d).1=some c∧c.2.2=true∧c=cntV s∧A8 s=some (u,0,0,true)∧Bt u=some p∧BP (mvV s d).1 (-d.1,-d.2)=some p∧CI s=some (q,true)∧CI (mvV s d).1=some (q,true)∧Bq q q=some true:=by
 obtain ⟨l,e,hg,hc,hgm,em,eb,h400⟩:=XM h
 have hm:(mvV s d).1=printW (l.map (mvW d)):=by rw[em]
 obtain ⟨k1,k2⟩:=Fa hg
 obtain ⟨i1,z1⟩:=V8 (s:=s) (by omega) e hg
 obtain ⟨i2,z2⟩:=V8 (s:=printW (l.map (mvW d))) (by omega) eb hgm
 rw[Zg] at i2
 have hz:=WI (z1.mono (show 4≤40 by omega))
 rw[hz] at i1 i2
 refine ⟨printV l,rqF (Rat.divInt (inkI l) 2),cntV s,l,?_,?_,rfl,?_,L2 (by unfold Short; omega) k2,?_,i1,by rw[hm]; exact i2,Rw (k:=4) (by omega) z1⟩
 ·rw[hm,QC (by omega)]
  unfold cntV
  rw[eb,e]
  simp only
  rw[if_pos trivial,if_pos trivial,Ad4,List.length_map]
 ·unfold cntV
  rw[e]
  rfl
 ·rw[HB (by omega),e]
 ·rw[hm,V2 (by omega),UQ hc eb]
theorem pureFnMoved {a b:List Int} (ha:∀ x∈a,0≤x∧x≤255) (hb:∀ x∈b,0≤x∧x≤255) (la:a.length≤1000000000000000) (lb:b.length≤1000000000000000):DH a b=some true:=by
 unfold DH
 rw[wrapI (by omega) (by omega)]
 by_cases hl:(a.length:Int) + (b.length:Int)>1048576
 ·rw[decide_eq_true hl]; rfl
 rw[decide_eq_false hl,cF]
 have ca:Cur 0 (a,0,0):=.start ha (by omega)
 obtain ⟨s,d,e,hs,gd⟩:=ZJ ca
 obtain ⟨g1,g2,g3,g4⟩:=gd
 have hlen:decide (((b.length:Nat):Int)≥(0:Int))=true:=decide_eq_true (by omega)
 rw[e,obs]
 simp only[peta]
 rw[V2 (by omega),obs,Zz (by omega),obs,QC (by omega),obs,Xk (by omega),obs]
 simp only[beq_self_eq_true,nT,cF,bne_self_eq_false]
 cases h:(mvV s d).2 with
 | false=>rw[cF,hlen]
 | true =>
  obtain ⟨p,q,c,u,f1,f2,f3,f4,f5,f6,f7,f8,f9⟩:=TZ hs h
  rw[cT,f1,obs,f4,obs]
  simp only
  rw[f5,obs,wrapI (by omega) (by omega),wrapI (by omega) (by omega),show (0:Int)-d.1 = -d.1 by omega,show (0:Int)-d.2 = -d.2 by omega,f6,obs,f7,obs,f8,obs,f2,nT,cF,f3,bne_self_eq_false]
  cases p.2 <;> simp only[nT,cF,cT,beq_self_eq_true,bne_self_eq_false,f9,Option.bind_some,hlen]
end
end Go.Proofs.YtiijheppiboglaaGreatDoor.Ev
section
namespace Go.Proofs.YtiijheppiboglaaGreatDoor.Ev
open Go Go.RowKit Go.ChangeShapes Go.WideShapes Go.ChangeAt
set_option maxRecDepth 100000
def shs:List Sh:=[.sl 1 (.int .u8),.sl 1 (.int .u8)]
theorem fits:FitsL Tryz.prog [32,32] shs:=by
 exact ⟨.sl (e:=5) (by kernel_rfl) (by kernel_rfl) (by kernel_rfl) (.int (by kernel_rfl)),.sl (e:=5) (by kernel_rfl) (by kernel_rfl) (by kernel_rfl) (.int (by kernel_rfl)),trivial⟩
theorem own:ownKnob Tryz.prog.godebug=none:=by kernel_rfl
theorem laid:laidOutB Tryz.prog=true:=by kernel_rfl
theorem door_met (os:Os) (args:Array Value):laidMetH Tryz.prog Rows.fnMovedRow.laid ((World.laidAll Tryz.prog os Rows.fnMovedRow.laid).forCall (fun _ _=>0) ⟨#[],args,[]⟩).memory:=by
 rw[MakeChecks.laidMetH_plain _ _ _ (by kernel_rfl)]
 exact laidMet_laidAll _ (by kernel_rfl) (by kernel_rfl)
theorem starE : "*" ++ "errors.errorString" = "*errors.errorString" := by decide
def ids:List Nat:=[0,1,2,3]
theorem libJ {W:World} (hsh:W.ShapedOpen Tryz.prog) (hL:laidMetH Tryz.prog Rows.fnMovedRow.laid W):LibJ (Jof W ids):=by
 rw[MakeChecks.laidMetH_plain _ _ _ (by kernel_rfl)] at hL
 have hP:laidMet Tryz.prog Rows.fnMovedRow.laid W:=hL
 have htab:Lib.TabIs Tryz.prog W "internal/strconv.uint64pow10" .u64 Lib.pow10Tab:=Lib.tabIs_of_head (g:=3) (t:=254) (e:=113) (n:=20) (by kernel_rfl) (by kernel_rfl) (by kernel_rfl) (by kernel_rfl) (by kernel_rfl) (by kernel_rfl) (show laidMet Tryz.prog ((_,Lib.tabData .u64 Lib.pow10Tab)::_) W from D2 2 hP)
 have hmax:∃ m:Int,W.cell? ⟨2,0,none⟩=some (.int .i64 m):=Go.Proofs.cell_of_shapedOpen_int (zero:=#[.int .i64 0]) (t:=3) hsh (of_decide_eq_true (by kernel_rfl)) (by kernel_rfl) rfl (by kernel_rfl) (by kernel_rfl) Tryz.underlying3
 have hsyn:∃ tp p,W.var? Tryz.prog "strconv.ErrSyntax" = some #[.iface tp p]:=by
  obtain ⟨a,s,hv,_⟩:=laid_sentinel (g:=0) (ti:=125) (tp:=259) (te:=261) (ts:=9) (D2 5 hP) (by kernel_rfl) (by kernel_rfl) Tryz.underlying125 (fun u h=>typeName_ptr_named (nm := "errors.errorString") (by rw[starE]; kernel_rfl) (by kernel_rfl) (by decide) u (by rw[starE]; exact h)) Tryz.underlying259 Tryz.underlying261 rfl rfl Tryz.underlying9 (by kernel_rfl) (by kernel_rfl)
  exact ⟨_,_,hv⟩
 have hrng:∃ tp p,W.var? Tryz.prog "strconv.ErrRange" = some #[.iface tp p]:=by
  obtain ⟨a,s,hv,_⟩:=laid_sentinel (g:=1) (ti:=125) (tp:=259) (te:=261) (ts:=9) (D2 4 hP) (by kernel_rfl) (by kernel_rfl) Tryz.underlying125 (fun u h=>typeName_ptr_named (nm := "errors.errorString") (by rw[starE]; kernel_rfl) (by kernel_rfl) (by decide) u (by rw[starE]; exact h)) Tryz.underlying259 Tryz.underlying261 rfl rfl Tryz.underlying9 (by kernel_rfl) (by kernel_rfl)
  exact ⟨_,_,hv⟩
 unfold ids
 exact { tab:=jtab (g:=3) (by kernel_rfl) (by simp) htab,max:=jmax (g:=2) (by simp) hmax,syn:=jvar (g:=0) (by kernel_rfl) (by simp) hsyn,rng:=jvar (g:=1) (by kernel_rfl) (by simp) hrng }
theorem lifted (os:Os) (started:os.Started) (H:Type) (enc:TypeId×Value→H) :
  ReturnsInHanded {} Tryz.checked os 5 .any (fun w args=>(Rows.fnMovedSpec.pre enc Tryz.prog Tryz.f5 [] false w args∧laidMetH Tryz.prog Rows.fnMovedRow.laid w)∧sizedMet enc Tryz.prog Tryz.f5 (OpenSpec.ofChange Rows.fnMovedSpec) false w args)
   (Rows.fnMovedSpec.post enc Tryz.prog Tryz.f5 false true false false):=by
 refine HL (C:=Tryz.checked) (X:=fun w _=>laidMetH Tryz.prog Rows.fnMovedRow.laid w) (fun _ _ _ hh h=>h.of_heap hh) own started (by kernel_rfl) Tryz.func5
  (ChangeSpec.witness_shaped (enc:=enc) (C:=Tryz.checked) (os:=os) (X:=fun w _=>laidMetH Tryz.prog Rows.fnMovedRow.laid w) false (World.laidAll Tryz.prog os Rows.fnMovedRow.laid) #[.slice none 0 0,.slice none 0 0] 8 (World.laidAll_os _ _ _) (World.shaped_of_ZipB (by kernel_rfl) (by kernel_rfl)) (by kernel_rfl) (by kernel_rfl) (by kernel_rfl) (door_met os _)) ?_
 intro W base args ds gs before hval hW hsz hsh hL
 exact QZ (P:=Tryz.prog) (J:=Jof W ids) (cf:=cf0) (ext:=ext0) (F:=fun x=>DH x.1 x.2) (shs:=shs) (by kernel_rfl) (XY (libJ hsh hL)) RK (fun d=>by kernel_rfl)
  (fun d hd=>pureFnMoved (Kv hd.1).1 (Kv hd.2.1).1 (Kv hd.1).2 (Kv hd.2.1).2) rfl rfl rfl (by kernel_rfl) fits laid
  (fun t ht=>by
   have:t=32:=by simpa using ht
   rcases this with rfl <;> exact ⟨by kernel_rfl,of_decide_eq_true (by kernel_rfl)⟩) rfl
  (fun ds hl=>by
   match ds,hl with
   | [_,_],_=>rfl) YD hval hW hsz
theorem hfn:Tryz.prog.funcNamed "loop.example/g00409/laws.FnMoved" = some 5:=by kernel_rfl
theorem closed:joinedFacts Tryz.prog 5 Tryz.f5 Rows.fnMovedSpec Rows.fnMovedRow=true:=by
 unfold joinedFacts
 simp only[Bool.and_eq_true]
 repeat' apply And.intro
 all_goals (as_aux_lemma=>kernel_rfl)
theorem over:Rows.fnMovedRow.holds Tryz.pinned (OpenSpec.ofChange Rows.fnMovedSpec) :=
 OpenClaim.holds_of_wide 5 Tryz.f5 rfl rfl rfl rfl rfl rfl rfl ⟨rfl,rfl,rfl,rfl,rfl⟩ rfl rfl rfl rfl rfl hfn Tryz.func5 closed
  (of_decide_eq_true (by as_aux_lemma=>kernel_rfl)) (by unfold Func.isWrapper; first | (rw[if_pos (by decide +kernel)]; kernel_rfl) | (rw[if_neg (by decide +kernel)]; exact ⟨rfl,rfl⟩))
  (fun os started H enc _=>lifted os started H enc)
theorem carded:Rows.FnMovedCardSaid :=
 Claim7.holds_tied_plain_at .later [] [.data,.data,.data,.data,.sentinel,.sentinel,.pinned] true (true, "468de68268811ac350c0866b8afcc88575c2e10ab6507847880ba7abcce4bdc1") true
  over (fun _ h=>by cases h) (by as_aux_lemma=>kernel_rfl) (fun _ h=>by cases h) fnMoved_row_tie rfl ⟨rfl,rfl⟩ (by as_aux_lemma=>kernel_rfl) rfl
  (fun f fn hf hf2=>by
   obtain rfl:f=5:=Option.some.inj (hfn.symm.trans hf) |>.symm
   obtain rfl:fn=Tryz.f5:=(Option.some.inj (Tryz.func5.symm.trans hf2)).symm
   exact ⟨by as_aux_lemma=>kernel_rfl,fun j t ht=>by
    rw[show Tryz.f5.params = #[32,32] from rfl] at ht
    have hm:t∈[32,32]:=by simpa using Array.mem_of_getElem? ht
    have hall:([32,32].all fun u=>!Tryz.prog.wantsStandIn u)=true:=by kernel_rfl
    exact (show Tryz.prog.wantsStandIn t=false by simpa using List.all_eq_true.1 hall t hm)⟩)
  (by as_aux_lemma=>kernel_rfl)
end Go.Proofs.YtiijheppiboglaaGreatDoor.Ev
namespace Go.Proofs.YtiijheppiboglaaGreatDoor
theorem fnMoved_holds:Rows.FnMovedSaid:=Ev.over
theorem fnMoved_card_holds:Rows.FnMovedCardSaid:=Ev.carded
#print axioms fnMoved_card_holds
end Go.Proofs.YtiijheppiboglaaGreatDoor

end
