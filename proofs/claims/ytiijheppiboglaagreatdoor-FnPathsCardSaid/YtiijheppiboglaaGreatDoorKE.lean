/- Whatever comes in, the law of this claim answers true, and nothing that was handed in changes. -/
import Derived.Test.YtiijheppiboglaaGreatDoorKD
import Derived.Lib.ItoaNum
import Derived.Lib.ItoaLen
import Derived.Lib.Split
import Derived.Lib.SplitLaws
import Derived.Lib.IndexMore
import Derived.Lib.Join
import Derived.Test.YtiijheppiboglaaGreatDoorRows
import Derived.Test.YtiijheppiboglaaGreatDoorCards
import Derived.Test.YtiijheppiboglaaGreatDoorTie
import Derived.WalkKit
import Derived.ProofKit
import Derived.OpenShut
import Derived.ShutString
import Derived.ChangeOld
import Derived.Below
import Derived.SizedLaws
import Derived.SevenTiedAt
import Derived.LaidMore
import Derived.Lay
import Derived.Stop.Joined
import Derived.Test.YtiijheppiboglaaGreatDoorChecked
set_option maxHeartbeats 2000000
set_option linter.unusedVariables false
set_option linter.unusedSimpArgs false
set_option linter.unusedSectionVars false
namespace Go.Proofs.YtiijheppiboglaaGreatDoor.Ev
section
open Go
theorem Gx {p:UInt8→Bool}:∀ {l:Str},∀ b∈l.takeWhile p,p b=true
 | [],b,h=>by simp at h
 | a::l,b,h=>by
  rw[List.takeWhile_cons] at h
  by_cases ha:p a=true
  ·rw[if_pos ha] at h
   rcases List.mem_cons.1 h with rfl | h
   ·exact ha
   ·exact Gx b h
  ·rw[if_neg ha] at h
   exact absurd h List.not_mem_nil
def digs (s:Str) (n k:Nat):Str:=((s.drop k).take n).takeWhile isDig
theorem Na (s:Str) (k:Nat):digs s 0 k = []:=by simp[digs]
theorem L0 {s:Str} {k:Nat} (n:Nat) (h:s.length≤k):digs s n k = []:=by simp[digs,List.drop_eq_nil_of_le h]
theorem M5 {s:Str} {k n:Nat} {b:UInt8} (h:s[k]? = some b):digs s (n + 1) k=if isDig b then b::digs s n (k + 1) else []:=by
 have hlt:=getL h
 unfold digs
 rw[List.drop_eq_getElem_cons hlt,List.take_succ_cons,List.takeWhile_cons]
 have:s[k]=b:=by rw[List.getElem?_eq_getElem hlt] at h; exact Option.some.inj h
 rw[this]
theorem OQ (s:Str) (n k:Nat):(digs s n k).length≤n:=by
 have h1:=(List.takeWhile_sublist isDig (l:=(s.drop k).take n)).length_le
 have h2:=List.length_take_le n (s.drop k)
 unfold digs; omega
theorem PD (s:Str) (n k:Nat):∀ b∈digs s n k,isDig b=true:=Gx
theorem OM (s:Str):∀ (n k i:Nat),i<(digs s n k).length→s[k + i]? = (digs s n k)[i]?
 | 0,k,i,h=>by rw[Na] at h; simp at h
 | n + 1,k,i,h=>by
  by_cases hk:k<s.length
  ·have e:=M5 (n:=n) (List.getElem?_eq_getElem hk)
   rw[e] at h ⊢
   by_cases hd:isDig s[k]=true
   ·rw[if_pos hd] at h ⊢
    cases i with
    | zero=>simp[hk]
    | succ i =>
     rw[show k + (i + 1)=(k + 1) + i by omega,OM s n (k + 1) i (by simpa using h)]
     simp
   ·rw[if_neg hd] at h; simp at h
  ·rw[L0 _ (by omega)] at h; simp at h
theorem UX (l:Str) (h:∀ b∈l,isDig b=true):valF 0 l<10 ^ l.length:=by
 have key:∀ (l:Str) (n:Nat),(∀ b∈l,isDig b=true)→valF n l<(n + 1)*10 ^ l.length:=by
  intro l
  induction l with
  | nil=>intro n _; simp[valF]
  | cons b l ih =>
   intro n h
   have hb:=B2.1 (h b (by simp))
   have:=ih (n*10 + (b.toNat-48)) (fun x hx=>h x (List.mem_cons_of_mem _ hx))
   have e:valF n (b::l)=valF (n*10 + (b.toNat-48)) l:=rfl
   rw[e,List.length_cons,Nat.pow_succ,Nat.mul_comm (10 ^ l.length) 10,←Nat.mul_assoc]
   refine Nat.lt_of_lt_of_le this (Nat.mul_le_mul_right _ (by omega))
 have:=key l 0 h
 simpa using this
theorem TW {s:Str} (hs:s.length<4611686018427387904) {a:Nat} (ha:a<4611686018427387904):∀ (m:Nat) (n k:Nat),k + m=a + 4→a≤k→n<10 ^ (k-a) →
  loopM (fun (t:(Str×(Int×(Int×Int))))=>Bg t.1 t.2.1 t.2.2.1 t.2.2.2) (s,(a:Int),(n:Int),(k:Int))=some (s,(a:Int),((valF n (digs s m k):Nat):Int),((k + (digs s m k).length:Nat):Int)):=by
 intro m
 induction m with
 | zero =>
  intro n k hk hak hn
  rw[Na]
  refine AN ?_
  unfold Bg
  simp only
  by_cases h1:(k:Int)<(s.length:Int)
  ·rw[decide_eq_true h1,cT,wrapI (by omega) (by omega),decide_eq_false (by omega),cF]
   rfl
  ·rw[decide_eq_false h1,cF]
   rfl
 | succ m ih =>
  intro n k hk hak hn
  by_cases h1:k<s.length
  ·have e:s[k]? = some s[k]:=List.getElem?_eq_getElem h1
   generalize s[k]=b at e
   rw[M5 e]
   have hb:=b.toNat_lt
   by_cases hd:isDig b=true
   ·have hd':=B2.1 hd
    have hp : 10 ^ (k-a)≤10 ^ 3:=Nat.pow_le_pow_right (by omega) (by omega)
    rw[if_pos hd]
    have hgo:(fun (t:(Str×(Int×(Int×Int))))=>Bg t.1 t.2.1 t.2.2.1 t.2.2.2) (s,(a:Int),(n:Int),(k:Int))=some (.inl (s,(a:Int),((n*10 + (b.toNat-48):Nat):Int),((k + 1:Nat):Int))):=by
     unfold Bg
     simp only
     rw[decide_eq_true (by omega),cT,wrapI (n:=(a:Int) + 4) (by omega) (by omega),decide_eq_true (by omega),cT,Ak,e,obs,decide_eq_true (by omega),cT,obs,decide_eq_true (by omega),cT,obs,wrap1 (by omega)]
     have w1:IntKind.wrap .u8 (((b.toNat:Nat):Int)-48)=((b.toNat-48:Nat):Int):=by rw[IntKind.wrap_u8]; omega
     rw[w1,wrapI (n:=((b.toNat-48:Nat):Int)) (by omega) (by omega),wrapI (n:=10*(n:Int)) (by omega) (by omega),wrapI (by omega) (by omega)]
     congr 4
     have:(10:Int)*(n:Int) + ((b.toNat-48:Nat):Int)=((n*10 + (b.toNat-48):Nat):Int):=by push_cast; omega
     rw[this]
    rw[Ca hgo,ih (n*10 + (b.toNat-48)) (k + 1) (by omega) (by omega) (by
     rw[show k + 1-a=(k-a) + 1 by omega,Nat.pow_succ]; omega)]
    congr 4
    simp only[List.length_cons]
    congr 1
    omega
   ·have hd':¬(48≤b.toNat∧b.toNat≤57):=fun h=>hd (B2.2 h)
    rw[if_neg hd]
    refine AN ?_
    unfold Bg
    simp only
    rw[decide_eq_true (by omega),cT,wrapI (n:=(a:Int) + 4) (by omega) (by omega),decide_eq_true (by omega),cT,Ak,e,obs]
    by_cases c : 48≤b.toNat
    ·rw[decide_eq_true (by omega),cT,obs,decide_eq_false (by omega),cF]
     rfl
    ·rw[decide_eq_false (by omega),cF]
     rfl
  ·rw[L0 _ (by omega)]
   refine AN ?_
   unfold Bg
   simp only
   rw[decide_eq_false (by omega),cF]
   rfl
def badD (d:Str):Prop:=d = []∨(d.head? = some 48∧1<d.length)
instance (d:Str):Decidable (badD d):=by unfold badD; infer_instance
def intAt (s:Str) (a:Nat):Int×Int:=let d:=digs s 4 a; if badD d then (-1,(a:Int)) else ((valF 0 d:Nat),((a + d.length:Nat):Int))
theorem La {s:Str} (hs:s.length<4611686018427387904) {a:Nat} (ha:a<4611686018427387904):D8 s (a:Int)=some (intAt s a):=by
 unfold D8 intAt
 have h:=TW hs ha 4 0 a rfl (Nat.le_refl _) (by simp)
 have h':loopM (fun (t:(Str×(Int×(Int×Int))))=>Bg t.1 t.2.1 t.2.2.1 t.2.2.2) (s,(a:Int),(0:Int),(a:Int))=_:=h
 rw[h',obs]
 have hl:=OQ s 4 a
 have h0:=OM s 4 a 0
 cases hd:digs s 4 a with
 | nil =>
  have hb0:badD ([]:Str):=Or.inl rfl
  simp only[hb0,if_true,List.length_nil,Nat.add_zero,beq_self_eq_true,cond_true]
 | cons b t =>
  rw[hd] at hl h0
  have hb:s[a]? = some b:=by
   have:=h0 (by simp)
   rw[Nat.add_zero] at this
   rw[this]
   rfl
  have hlb:=getL hb
  simp only[List.length_cons] at hl ⊢
  rw[show (((a + (t.length + 1):Nat):Int)==(a:Int))=false by simp; omega,cF,Ak,hb,obs]
  by_cases c:b=48
  ·subst c
   rw[show ((((48:UInt8).toNat:Nat):Int)==48)=true from rfl,cT,wrapI (by omega) (by omega)]
   by_cases c2:t.length=0
   ·have hn:¬badD (48::t):=by
     rintro (h | ⟨_,h⟩)
     ·cases h
     ·simp at h; omega
    rw[decide_eq_false (by omega),cF,if_neg hn]
   ·rw[decide_eq_true (by omega),cT,if_pos (show badD (48::t) from Or.inr ⟨rfl,by simp; omega⟩)]
  ·have c':¬b.toNat=48:=fun h=>c (N8.2 h)
   have hn:¬badD (b::t):=by
    rintro (h | ⟨h,_⟩)
    ·cases h
    ·exact c (Option.some.inj h)
   rw[show ((((b.toNat:Nat):Int))==48)=false by simp; omega,cF,if_neg hn]
end
section
open Go
theorem C1 {n:Nat} (h:n<18446744073709551616):(Lib.decDigits n).length≤20:=by rw[Lib.decDigits_length]; exact Lib.nDigits_le20 n h
theorem JT {n:Int} (h0 : -9223372036854775808≤n) (h1:n≤9223372036854775807):Ba n=some (Lib.itoa n):=by
 unfold Ba Lz
 rw[if_pos ⟨h0,h1⟩]
theorem En {n:Int} (h0 : -9223372036854775808≤n) (h1:n<9223372036854775808):(Lib.itoa n).length≤21:=by
 unfold Lib.itoa
 split
 ·have:=C1 (n:=n.natAbs) (by omega)
  simp; omega
 ·have:=C1 (n:=n.toNat) (by omega)
  omega
end
section
open Go
def rdNum (s:Str):Int×Bool:=match Lib.atoiAll s with | .ok v=>if -9999≤v∧v≤9999∧Lib.itoa v=s then (v,true) else (0,false) | _=>(0,false)
theorem Ms {v:Int} (h : -9999≤v∧v≤9999):rdNum (Lib.itoa v)=(v,true):=by
 unfold rdNum
 rw[R1 h.1 h.2]
 simp only
 rw[if_pos ⟨h.1,h.2,trivial⟩]
theorem Eu (s:Str):(∃ v:Int,-9999≤v∧v≤9999∧s=Lib.itoa v∧rdNum s=(v,true))∨(rdNum s=(0,false)∧∀ v:Int,-9999≤v→v≤9999→s≠Lib.itoa v):=by
 by_cases h:∃ v:Int,-9999≤v∧v≤9999∧s=Lib.itoa v
 ·obtain ⟨v,h0,h1,rfl⟩:=h
  exact .inl ⟨v,h0,h1,rfl,Ms ⟨h0,h1⟩⟩
 ·refine .inr ⟨?_,fun v h0 h1 h2=>h ⟨v,h0,h1,h2⟩⟩
  unfold rdNum
  split
  ·rw[if_neg]
   rintro ⟨h0,h1,h2⟩
   exact h ⟨_,h0,h1,h2.symm⟩
  ·rfl
theorem Rz (n:Int):B3 n=some (decide (-9999≤n∧n≤9999)):=by
 unfold B3 AU
 by_cases h:n≥-9999
 ·rw[decide_eq_true h,cT,obs]; congr 1; simp; omega
 ·rw[decide_eq_false h,cF,obs]; congr 1; simp; omega
theorem Fw {s:Str} (hs:s.length≤281474976710656):AV s=some (rdNum s):=by
 unfold AV DH L8 rdNum atoiV
 rw[if_pos hs,obs]
 cases hz:Lib.atoiAll s with
 | ok v =>
  simp only[cF,Rz,obs]
  by_cases h : -9999≤v∧v≤9999
  ·rw[decide_eq_true h,nT,cF,JT (by omega) (by omega),obs]
   by_cases h2:Lib.itoa v=s
   ·rw[if_pos ⟨h.1,h.2,h2⟩,h2,beq_self_eq_true,nT,cF]
   ·rw[if_neg (fun hh=>h2 hh.2.2),beq_eq_false_iff_ne.2 h2,nF,cT]
  ·rw[decide_eq_false h,nF,cT,if_neg (fun hh=>h ⟨hh.1,hh.2.1⟩)]
 | range=>rfl
 | _=>rfl
theorem Q4 {d t:Str} {n:Nat} (h:Canon d) (hn:d.length≤n) (hb:∀ b,t.head? = some b→isDig b=false):digs (d++t) n 0=d:=by
 unfold digs
 rw[List.drop_zero]
 have key:∀ (d:Str) (n:Nat),(∀ b∈d,isDig b=true)→d.length≤n→((d++t).take n).takeWhile isDig=d:=by
  intro d
  induction d with
  | nil =>
   intro n _ _
   cases n with
   | zero=>simp
   | succ n =>
    cases t with
    | nil=>simp
    | cons b t=>simp[hb b rfl]
  | cons b d ih =>
   intro n hd hn
   cases n with
   | zero=>simp at hn
   | succ n =>
    rw[List.cons_append,List.take_succ_cons,List.takeWhile_cons,if_pos (hd b (by simp)),ih n (fun x hx=>hd x (List.mem_cons_of_mem _ hx)) (by simpa using hn)]
 exact key d n h.1 hn
theorem Qc {d:Str} (h:Canon d):¬badD d:=by
 rintro (h1 | h1)
 ·exact h.2.1 h1
 ·exact h.2.2 h1
theorem QE {s:Str} {n k:Nat} (h:¬badD (digs s n k)):Canon (digs s n k):=⟨PD s n k,fun h1=>h (.inl h1),fun h1=>h (.inr h1)⟩
theorem JS (u:Nat) (hu:u≤9999):intAt (Lib.decDigits u) 0=((u:Int),((Lib.decDigits u).length:Int)):=by
 obtain ⟨h1,h2,_⟩:=Ds u
 have hd:=Q4 (t:=[]) h1 (O5.2 hu) (by simp)
 rw[List.append_nil] at hd
 unfold intAt
 simp only[hd,if_neg (Qc h1),h2,Nat.zero_add]
theorem J9 (t:Str):(∃ u:Nat,u≤9999∧t=Lib.decDigits u)∨((intAt t 0).1<0∨(intAt t 0).2<(t.length:Int)):=by
 by_cases hb:badD (digs t 4 0)
 ·right; left
  unfold intAt
  simp only[if_pos hb]
  omega
 ·have hc:=QE hb
  have hl:=OQ t 4 0
  by_cases hh:(digs t 4 0).length<t.length
  ·right; right
   unfold intAt
   simp only[if_neg hb,Nat.zero_add]
   omega
  ·left
   have he:digs t 4 0=t:=by
    have h1:(digs t 4 0).length≤t.length:=by
     have:=(List.takeWhile_sublist isDig (l:=(t.drop 0).take 4)).length_le
     have h2:=List.length_take_le' 4 (t.drop 0)
     unfold digs
     simp only[List.drop_zero] at this h2 ⊢
     omega
    refine List.ext_getElem (by omega) fun i h2 h3=>?_
    have:=OM t 4 0 i h2
    rw[Nat.zero_add,List.getElem?_eq_getElem h3,List.getElem?_eq_getElem h2] at this
    exact (Option.some.inj this).symm
   refine ⟨valF 0 (digs t 4 0),?_,?_⟩
   ·have:=UX _ (PD t 4 0)
    have h2 : 10 ^ (digs t 4 0).length≤10 ^ 4:=Nat.pow_le_pow_right (by omega) hl
    omega
   ·rw[NW _ _ rfl hc,he]
theorem sub1 {s:Str} {b:UInt8}:(subI (1:Int) (((b::s).length:Nat):Int) (b::s).length)=some (1,(b::s).length):=by
 unfold subI
 rw[if_pos (by simp only[List.length_cons]; omega)]
 simp
theorem I3 {s:Str} (hs:s.length<4611686018427387904):A6 s=some (rdNum s):=by
 unfold A6
 cases s with
 | nil =>
  rw[show decide ((((([]:Str).length):Nat):Int)>0)=false from rfl,cF,obs]
  simp only[Sum.elim_inr]
  rw[cF,obs]
  simp only[Sum.elim_inr]
  rw[show ((0:Int))=((0:Nat):Int) from rfl,La hs (by omega),obs]
  rcases Eu ([]:Str) with ⟨v,h0,h1,h2,_⟩ | ⟨h,_⟩
  ·exfalso
   unfold Lib.itoa at h2
   split at h2
   ·cases h2
   ·exact (Ds _).1.2.1 h2.symm
  ·rw[h]
   have:intAt ([]:Str) 0=(-1,0):=by
    unfold intAt
    simp only[L0 4 (show ([]:Str).length≤0 by simp)]
    rfl
   rw[this]
   rfl
 | cons b t =>
  rw[decide_eq_true (show (((((b::t)).length:Nat):Int)>0) by simp only[List.length_cons]; omega),cT]
  have hg:getI (b::t) 0=some b:=rfl
  rw[hg,obs,obs]
  simp only[Sum.elim_inr]
  have hlt:t.length<4611686018427387904:=by simp only[List.length_cons] at hs; omega
  by_cases hb:b.toNat=45
  ·have hb':b=45:=UInt8.toNat_inj.1 (show b.toNat=(45:UInt8).toNat from hb)
   subst hb'
   rw[show ((((45:UInt8).toNat:Nat):Int)==45)=true from rfl,cT,sub1,obs,obs]
   simp only[Sum.elim_inr]
   rw[List.take_length,show List.drop 1 ((45:UInt8)::t)=t from rfl,show ((0:Int))=((0:Nat):Int) from rfl,La hlt (by omega),obs]
   rcases Eu ((45:UInt8)::t) with ⟨v,h0,h1,h2,h3⟩ | ⟨h3,h4⟩
   ·rw[h3]
    have hv:v<0:=by
     rcases Int.lt_or_le v 0 with h | h
     ·exact h
     ·unfold Lib.itoa at h2
      rw[if_neg (by omega)] at h2
      exact absurd h2.symm Od
    have ht:t=Lib.decDigits v.natAbs:=by
     unfold Lib.itoa at h2
     rw[if_pos hv] at h2
     exact (List.cons.inj h2).2
    rw[ht,JS _ (by omega)]
    simp only
    rw[decide_eq_false (by omega),cF,decide_eq_false (by omega),cF,cT,show (((v.natAbs:Nat):Int)==((0:Nat):Int))=false by simp; omega,cF,obs]
    simp only[Sum.elim_inr,cT]
    rw[wrapI (by omega) (by omega)]
    congr 2; omega
   ·rw[h3]
    rcases J9 t with ⟨u,hu,rfl⟩ | h
    ·rw[JS _ hu]
     simp only
     rw[decide_eq_false (by omega),cF,decide_eq_false (by omega),cF,cT]
     by_cases hu0:u=0
     ·subst hu0
      rw[show ((((0:Nat):Int))==((0:Nat):Int))=true from rfl,cT,obs]
      rfl
     ·exfalso
      refine h4 (-(u:Int)) (by omega) (by omega) ?_
      unfold Lib.itoa
      rw[if_pos (by omega),Int.natAbs_neg,Int.natAbs_natCast]
    ·by_cases hn:(intAt t 0).1<0
     ·rw[decide_eq_true (show (intAt t 0).1<((0:Nat):Int) from hn),cT,obs]; rfl
     ·have h:=h.resolve_left hn
      rw[decide_eq_false (show ¬(intAt t 0).1<((0:Nat):Int) from hn),cF,decide_eq_true h,cT,obs]; rfl
  ·rw[show (((b.toNat:Nat):Int)==45)=false by simp; omega,cF,obs]
   simp only[Sum.elim_inr]
   rw[show ((0:Int))=((0:Nat):Int) from rfl,La hs (by omega),obs]
   rcases Eu (b::t) with ⟨v,h0,h1,h2,h3⟩ | ⟨h3,h4⟩
   ·rw[h3]
    have hv:¬v<0:=by
     intro h
     unfold Lib.itoa at h2
     rw[if_pos h] at h2
     exact hb (by rw[(List.cons.inj h2).1]; rfl)
    have ht:b::t=Lib.decDigits v.toNat:=by
     unfold Lib.itoa at h2
     rw[if_neg hv] at h2
     exact h2
    rw[ht,JS _ (by omega)]
    simp only
    rw[decide_eq_false (by omega),cF,decide_eq_false (by omega),cF,cF,obs]
    simp only[Sum.elim_inr,cF]
    congr 2; omega
   ·rw[h3]
    rcases J9 (b::t) with ⟨u,hu,he⟩ | h
    ·exfalso
     refine h4 (u:Int) (by omega) (by omega) ?_
     unfold Lib.itoa
     rw[if_neg (by omega),Int.toNat_natCast,he]
    ·by_cases hn:(intAt (b::t) 0).1<0
     ·rw[decide_eq_true (show (intAt (b::t) 0).1<((0:Nat):Int) from hn),cT,obs]; rfl
     ·have h:=h.resolve_left hn
      rw[decide_eq_false (show ¬(intAt (b::t) 0).1<((0:Nat):Int) from hn),cF,decide_eq_true h,cT,obs]; rfl
end
section
open Go
theorem Iw (b c:UInt8) (l:Str):Lib.index (b::l) [c]=if b=c then 0 else if Lib.index l [c] = -1 then -1 else Lib.index l [c] + 1:=by
 rw[Lib.index]
 have:([c]:Str).isPrefixOf (b::l)=(c==b):=by simp[List.isPrefixOf]
 rw[this]
 by_cases h:b=c
 ·subst h; simp
 ·rw[if_neg (show ¬(c==b)=true by simpa using Ne.symm h),if_neg h]
  by_cases h2:Lib.index l [c] = -1
  ·simp[h2]
  ·rw[if_neg (by simpa using h2),if_neg h2]
theorem Mk {c:UInt8}:∀ {s:Str},c ∉ s→Lib.index s [c] = -1
 | [],_=>by rw[Lib.index]; rfl
 | b::l,h=>by
  rw[Iw,if_neg (fun e=>h (by rw[e]; simp)),if_pos (Mk (fun hm=>h (List.mem_cons_of_mem _ hm)))]
theorem IB {c:UInt8}:∀ {x r:Str},c ∉ x→Lib.index (x++c::r) [c]=(x.length:Nat)
 | [],r,_=>by rw[List.nil_append,Iw,if_pos rfl]; rfl
 | b::x,r,h=>by
  have ih:=IB (r:=r) (fun hm:c∈x=>h (List.mem_cons_of_mem _ hm))
  rw[List.cons_append,Iw,if_neg (fun e=>h (by rw[e]; simp)),ih,if_neg (by omega),List.length_cons]
  omega
theorem Q5 (c:UInt8) (s:Str):c ∉ s∨∃ x r,s=x++c::r∧c ∉ x:=by
 by_cases h:c∈s
 ·right
  induction s with
  | nil=>exact absurd h List.not_mem_nil
  | cons b l ih =>
   by_cases hb:b=c
   ·subst hb; exact ⟨[],l,rfl,List.not_mem_nil⟩
   ·have hm:c∈l:=by
     rcases List.mem_cons.1 h with rfl | h
     ·exact absurd rfl hb
     ·exact h
    obtain ⟨x,r,h1,h2⟩:=ih hm
    refine ⟨b::x,r,by rw[h1,List.cons_append],fun h3=>?_⟩
    rcases List.mem_cons.1 h3 with rfl | h3
    ·exact hb rfl
    ·exact h2 h3
 ·exact .inl h
def parts (c:UInt8) (s:Str):List Str:=Lib.split s [c]
theorem Co {c:UInt8} {s:Str} (h:c ∉ s):parts c s = [s]:=by
 unfold parts Lib.split
 rw[Lib.count_miss (Mk h)]
 rfl
theorem Ea {c:UInt8} {x r:Str} (h:c ∉ x):parts c (x++c::r)=x::parts c r:=by
 unfold parts Lib.split
 have e:List.drop (x.length + ([c]:Str).length) (x++c::r)=r:=by simp
 rw[Lib.count_hit (by simp) (IB h),e,Nat.add_comm,Lib.splitK,IB h,if_neg (by simp),Int.toNat_natCast,Nat.add_zero,e]
 simp
theorem Te (c:UInt8) (s:Str):parts c s≠[]:=by
 rcases Q5 c s with h | ⟨x,r,rfl,h⟩
 ·rw[Co h]; simp
 ·rw[Ea h]; simp
theorem Ni {c:UInt8}:∀ (n:Nat) (s:Str),s.length≤n→∀ p∈parts c s,p.length≤s.length:=by
 intro n
 induction n with
 | zero =>
  intro s hs p hp
  have:s = []:=List.eq_nil_of_length_eq_zero (by omega)
  subst this
  rw[Co (by simp)] at hp
  cases List.mem_singleton.1 hp
  exact Nat.le_refl _
 | succ n ih =>
  intro s hs p hp
  rcases Q5 c s with h | ⟨x,r,rfl,h⟩
  ·rw[Co h] at hp
   cases List.mem_singleton.1 hp
   exact Nat.le_refl _
  ·rw[Ea h] at hp
   rw[List.length_append,List.length_cons] at hs ⊢
   rcases List.mem_cons.1 hp with rfl | hp
   ·omega
   ·have:=ih r (by omega) p hp
    omega
theorem Mn {c:UInt8}:∀ (xs:List Str),xs≠[]→(∀ x∈xs,c ∉ x)→parts c (Lib.join xs [c])=xs
 | [],h,_=>absurd rfl h
 | [x],_,h=>by rw[Lib.join_one,Co (h x (by simp))]
 | x::y::r,_,h=>by
  have ih:=Mn (c:=c) (y::r) (by simp) (fun z hz=>h z (List.mem_cons_of_mem _ hz))
  have e:Lib.join (x::y::r) [c]=x++c::Lib.join (y::r) [c]:=by
   rw[Lib.join_cons,Lib.join_cons]
   simp[Lib.joinTail]
  rw[e,Ea (h x (by simp)),ih]
theorem R8 (s:Str) (c:UInt8):splitS s [c]=parts c s:=by
 unfold splitS parts Lib.split
 exact Lib.splitB_data ⟨#[c]⟩ 0 _ ⟨s.toArray⟩
theorem Ta {s:Str} {c:UInt8} (h:s.length<4294967281):Hg s [c]=some (parts c s):=by
 unfold Hg
 rw[if_pos ⟨h,by simp⟩,R8]
end
section
open Go
abbrev Pn:=Int×Int
abbrev Wy:=List Pn
theorem Qi {s:Str} (hs:s.length≤1000):Cx s=some (parts 32 s):=by
 unfold Cx
 obtain ⟨b,h1,h2,h3,h4,h5⟩:=Hl (body:=fun (t:(List Str×(Str×(Int×Int))))=>BV t.1 t.2.1 t.2.2.1 t.2.2.2)
  (fun k (b:List Str×Nat)=>(b.1,s,(b.2:Int),(k:Int))) (fun b=>(b.1,s,(b.2:Int))) (fun k b=>b.2≤k∧b.1.length≤k∧parts 32 s=b.1++parts 32 (s.drop b.2)∧(32:UInt8) ∉ (s.drop b.2).take (k-b.2)) s.length (by
   rintro k ⟨out,f⟩ hk ⟨h1,h2,h3,h4⟩
   simp only at h1 h2 h3 h4
   have he:s[k]? = some s[k]:=List.getElem?_eq_getElem hk
   generalize s[k]=c at he
   unfold BV
   simp only
   rw[decide_eq_true (show (k:Int)<(s.length:Int) by omega),cT,Ak,he,obs]
   by_cases hc:c=32
   ·subst hc
    refine ⟨(out ++ [(s.drop f).take (k-f)],k + 1),?_,Nat.le_refl _,by simp; omega,?_,by simp⟩
    ·have hsub:subI (f:Int) (k:Int) s.length=some (f,k):=by unfold subI; rw[if_pos (by omega)]; rfl
     rw[show ((((32:UInt8).toNat:Nat):Int)==32)=true from rfl,cT,hsub,obs,B4 (by simp[maxBytes]; omega) (by simp[maxBytes]; omega),obs,wrap1 (by omega),List.drop_take]
    ·have hd:s.drop f=(s.drop f).take (k-f)++32::s.drop (k + 1):=by
      have e1:(s.drop f).drop (k-f)=s.drop k:=by rw[List.drop_drop]; congr 1; omega
      have e2:s.drop k=32::s.drop (k + 1):=by
       rw[List.drop_eq_getElem_cons hk]
       rw[List.getElem?_eq_getElem hk] at he
       rw[Option.some.inj he]
      rw[←e2,←e1,List.take_append_drop]
     rw[h3]
     conv=>lhs; rw[hd]
     rw[Ea h4]
     simp
   ·have hc':c.toNat≠32:=fun h=>hc (UInt8.toNat_inj.1 (show c.toNat=(32:UInt8).toNat from h))
    refine ⟨(out,f),?_,by simp only; omega,by simp only; omega,h3,?_⟩
    ·rw[show (((c.toNat:Nat):Int)==32)=false by simp; omega,cF,wrap1 (by omega)]
    ·simp only
     rw[show k + 1-f=(k-f) + 1 by omega,List.take_add_one,List.getElem?_drop,show f + (k-f)=k by omega,he]
     intro hm
     rcases List.mem_append.1 hm with hm | hm
     ·exact h4 hm
     ·simp at hm; exact hc hm.symm) (by
   rintro ⟨out,f⟩ _
   unfold BV
   simp) 0 ([],0) (by omega) ⟨by simp,by simp,by simp,by simp⟩
 have h1':loopM (fun (t:(List Str×(Str×(Int×Int))))=>BV t.1 t.2.1 t.2.2.1 t.2.2.2) (([]:List Str),s,(0:Int),(0:Int))=_:=h1
 obtain ⟨out,f⟩:=b
 simp only at h2 h3 h4 h5
 have hsub:subI (f:Int) (s.length:Int) s.length=some (f,s.length):=by unfold subI; rw[if_pos (by omega)]; rfl
 have hall:(s.drop f).take (s.length-f)=s.drop f:=List.take_of_length_le (by simp)
 rw[hall] at h5
 rw[h1',obs]
 simp only
 rw[hsub,obs,B4 (by simp[maxBytes]; omega) (by simp[maxBytes]; omega),obs,h4,Co h5,List.take_length]
def numAt (W:List Str) (i:Nat):Option Int:=match W[i]? with | none=>none | some s=>if (rdNum s).2 then some (rdNum s).1 else none
abbrev CV:=(Int×Nat) ⊕ (Nat×List Wy×Wy)
def ptV (g:Int×Int→Bool) (i:Nat) (ways:List Wy) (way:Wy) (p:Pn):CV:=if g p then .inr (i,ways,way ++ [p]) else .inl (6,i-1)
def goodP (p:Pn):Bool:=decide (-1000≤p.1∧p.1≤1000)&&decide (-1000≤p.2∧p.2≤1000)
def one (W:List Str) (i:Nat) (ways:List Wy) (way:Wy) (f:Int→Pn):CV:=match numAt W i with | none=>.inl (3,i) | some x=>ptV goodP (i + 1) ways way (f x)
def two (W:List Str) (i:Nat) (ways:List Wy) (way:Wy) (f:Int→Int→Pn):CV:=match numAt W i with | none=>.inl (3,i) | some x=>one W (i + 1) ways way (f x)
section
variable {W:List Str} (hW:W.length≤1000) (hs:∀ w∈W,w.length≤1000)
include hW hs
theorem Pe {i:Nat} (hi:i≤W.length) (ways:List Wy) (way:Wy):Ae (W,(i:Int),0) ways way=some (match numAt W i with | none=>((W,(i:Int),3),ways,way,0) | some x=>((W,((i + 1:Nat):Int),0),ways,way,x)):=by
 unfold Ae numAt
 simp only
 rw[show ((0:Int) != 0)=false from rfl,cF]
 by_cases h:i=W.length
 ·subst h
  rw[show ((W.length:Int)==(W.length:Int))=true by simp,cT,List.getElem?_eq_none (Nat.le_refl _)]
 ·have he:W[i]? = some (W[i]'(by omega)):=List.getElem?_eq_getElem (by omega)
  generalize (W[i]'(by omega))=w at he
  have hw:=hs w (List.mem_of_getElem? he)
  rw[show ((i:Int)==(W.length:Int))=false by simp; omega,cF,Ak,he,obs,I3 (by omega),obs]
  simp only
  cases hr:(rdNum w).2 with
  | false=>rw[nF,cT]; rfl
  | true=>rw[nT,cF,wrap1 (by omega)]; rfl
omit hs in
theorem QQ {i:Int} {c:Int} (hc:c≠0) (ways:List Wy) (way:Wy):Ae (W,i,c) ways way=some ((W,i,c),ways,way,0):=by
 unfold Ae
 simp only
 rw[show (c != 0)=true by simpa[bne] using hc,cT]
theorem S9 {i:Nat} (hi:i≤W.length) (o:Bool) (ways:List Wy) (way:Wy):BJ (W,(i:Int),o) ways way=some (match numAt W i with | none=>((W,(i:Int),o),ways,way,0,false) | some x=>((W,((i + 1:Nat):Int),o),ways,way,x,true)):=by
 unfold BJ numAt
 simp only
 by_cases h:i=W.length
 ·subst h
  rw[show ((W.length:Int)==(W.length:Int))=true by simp,cT,List.getElem?_eq_none (Nat.le_refl _)]
 ·have he:W[i]? = some (W[i]'(by omega)):=List.getElem?_eq_getElem (by omega)
  generalize (W[i]'(by omega))=w at he
  have hw:=hs w (List.mem_of_getElem? he)
  rw[show ((i:Int)==(W.length:Int))=false by simp; omega,cF,Ak,he,obs,Fw (by omega),obs]
  simp only
  rcases Eu w with ⟨v,_,_,_,hr⟩ | ⟨hr,_⟩
  ·rw[hr]; simp only; rw[cT,wrap1 (by omega)]; rfl
  ·rw[hr]; rfl
end
theorem Vj (p:Pn):BX p=some (goodP p):=by
 unfold BX BT goodP
 by_cases h1:p.1≥-1000 <;> by_cases h2:p.1≤1000 <;> by_cases h3:p.2≥-1000 <;> by_cases h4:p.2≤1000 <;> simp[h1,h2,h3,h4] <;> omega
theorem Vl (p:Pn):BH p=some (goodP p):=by
 unfold BH AU goodP
 by_cases h1:p.1≥-1000 <;> by_cases h2:p.1≤1000 <;> by_cases h3:p.2≥-1000 <;> by_cases h4:p.2≤1000 <;> simp[h1,h2,h3,h4] <;> omega
theorem UI (W:List Str) {i:Nat} (hi : 1≤i∧i≤2000) (ways:List Wy) {way:Wy} (hw:way.length≤1000) (p:Pn) :
  Aj (W,(i:Int),0) ways way p=some (if goodP p then ((W,(i:Int),0),ways,way ++ [p]) else ((W,((i-1:Nat):Int),6),ways,way)):=by
 unfold Aj
 simp only
 rw[show ((0:Int) != 0)=false from rfl,cF,Vj,obs]
 cases h:goodP (p.1,p.2) with
 | false =>
  rw[nF,cT,wrapI (by omega) (by omega),show (i:Int)-1=((i-1:Nat):Int) by omega]
  rfl
 | true =>
  rw[nT,cF,B4 (by simp[maxBytes]; omega) (by simp[maxBytes]; omega),obs]
  rfl
theorem Nt (W:List Str) {i c:Int} (hc:c≠0) (ways:List Wy) (way:Wy) (p:Pn):Aj (W,i,c) ways way p=some ((W,i,c),ways,way):=by
 unfold Aj
 simp only
 rw[show (c != 0)=true by simpa[bne] using hc,cT]
def encS (W:List Str) (ways:List Wy) (way:Wy):CV→(List Str×Int×Int)×List Wy×Wy
 | .inl (c,i)=>((W,(i:Int),c),ways,way)
 | .inr (i,ways',way')=>((W,(i:Int),0),ways',way')
abbrev SSt:=(List Str×Int×Int)×List Wy×Wy
noncomputable def numS1 (st:SSt) (f:Int→Pn):Option SSt :=
 (Ae (st.1.1,(st.1.2.1,st.1.2.2)) st.2.1 st.2.2).bind fun x=>(Aj (x.1.1,(x.1.2.1,x.1.2.2)) x.2.1 x.2.2.1 (f x.2.2.2)).bind fun y=>some ((y.1.1,(y.1.2.1,y.1.2.2)),(y.2.1,y.2.2))
noncomputable def numS2 (st:SSt) (f:Int→Int→Pn):Option SSt :=
 (Ae (st.1.1,(st.1.2.1,st.1.2.2)) st.2.1 st.2.2).bind fun x=>(Ae (x.1.1,(x.1.2.1,x.1.2.2)) x.2.1 x.2.2.1).bind fun x'=>(Aj (x'.1.1,(x'.1.2.1,x'.1.2.2)) x'.2.1 x'.2.2.1 (f x.2.2.2 x'.2.2.2)).bind fun y=>some ((y.1.1,(y.1.2.1,y.1.2.2)),(y.2.1,y.2.2))
section
variable {W:List Str} (hW:W.length≤1000) (hs:∀ w∈W,w.length≤1000)
include hW hs
theorem D2 {i:Nat} {x:Int} (h:numAt W i=some x):i<W.length:=by
 unfold numAt at h
 cases hz:W[i]? with
 | none=>rw[hz] at h; cases h
 | some w=>exact getL hz
theorem Gp {i:Nat} (hi:i≤W.length) (ways:List Wy) {way:Wy} (hw:way.length≤1000) (f:Int→Pn):numS1 ((W,(i:Int),0),ways,way) f=some (encS W ways way (one W i ways way f)):=by
 unfold numS1 one
 simp only
 rw[Pe hW hs hi,obs]
 cases hz:numAt W i with
 | none =>
  simp only
  rw[Nt W (by omega),obs]
  rfl
 | some x =>
  have:=D2 hW hs hz
  simp only
  rw[UI W (by omega) ways hw,obs]
  unfold ptV
  split <;> rfl
theorem L3 {i:Nat} (hi:i≤W.length) (ways:List Wy) {way:Wy} (hw:way.length≤1000) (f:Int→Int→Pn):numS2 ((W,(i:Int),0),ways,way) f=some (encS W ways way (two W i ways way f)):=by
 unfold numS2 two
 simp only
 rw[Pe hW hs hi,obs]
 cases hz:numAt W i with
 | none =>
  simp only
  rw[QQ hW (by omega),obs]
  simp only
  rw[Nt W (by omega),obs]
  rfl
 | some x =>
  have:=D2 hW hs hz
  simp only
  exact Gp hW hs (by omega) ways hw (f x)
end
end
section
open Go
def KW:List Str:=[[77],[76],[108],[72],[104],[86],[118],[90]]
def lastP (way:Wy):Pn:=way.getLast?.getD (0,0)
def cmdV (W:List Str) (i:Nat) (ways:List Wy) (way:Wy) (w:Str):CV :=
 if w = [77] then (if way = [] then (if ways.length=4 then .inl (5,i) else two W (i + 1) ways way (fun x y=>(x,y))) else .inl (4,i))
 else if w∈KW then
  (if way = [] then .inl (4,i)
  else if w = [90] then (if way.length<3 then .inl (5,i) else .inr (i + 1,ways ++ [way],[]))
  else if way.length=12 then .inl (5,i)
  else if w = [76] then two W (i + 1) ways way (fun x y=>(x,y))
  else if w = [108] then two W (i + 1) ways way (fun x y=>(IntKind.wrap .i64 ((lastP way).1 + x),IntKind.wrap .i64 ((lastP way).2 + y)))
  else if w = [72] then one W (i + 1) ways way (fun x=>(x,(lastP way).2))
  else if w = [104] then one W (i + 1) ways way (fun x=>(IntKind.wrap .i64 ((lastP way).1 + x),(lastP way).2))
  else if w = [86] then one W (i + 1) ways way (fun x=>((lastP way).1,x))
  else one W (i + 1) ways way (fun x=>((lastP way).1,IntKind.wrap .i64 ((lastP way).2 + x))))
 else .inl (2,i)
theorem HY:(([77]:Str) == [77])=true:=rfl
theorem Im:(([77]:Str) == [76])=false:=rfl
theorem FW:(([77]:Str) == [108])=false:=rfl
theorem Ih:(([77]:Str) == [72])=false:=rfl
theorem F1:(([77]:Str) == [104])=false:=rfl
theorem H4:(([77]:Str) == [86])=false:=rfl
theorem FV:(([77]:Str) == [118])=false:=rfl
theorem IG:(([77]:Str) == [90])=false:=rfl
theorem H3:(([76]:Str) == [77])=false:=rfl
theorem IF:(([76]:Str) == [76])=true:=rfl
theorem Fq:(([76]:Str) == [108])=false:=rfl
theorem Id:(([76]:Str) == [72])=false:=rfl
theorem FX:(([76]:Str) == [104])=false:=rfl
theorem Il:(([76]:Str) == [86])=false:=rfl
theorem FY:(([76]:Str) == [118])=false:=rfl
theorem Ix:(([76]:Str) == [90])=false:=rfl
theorem Fh:(([108]:Str) == [77])=false:=rfl
theorem FT:(([108]:Str) == [76])=false:=rfl
theorem D1:(([108]:Str) == [108])=true:=rfl
theorem Fy:(([108]:Str) == [72])=false:=rfl
theorem DN:(([108]:Str) == [104])=false:=rfl
theorem Fg:(([108]:Str) == [86])=false:=rfl
theorem DG:(([108]:Str) == [118])=false:=rfl
theorem Fl:(([108]:Str) == [90])=false:=rfl
theorem HT:(([72]:Str) == [77])=false:=rfl
theorem Iz:(([72]:Str) == [76])=false:=rfl
theorem FL:(([72]:Str) == [108])=false:=rfl
theorem Ii:(([72]:Str) == [72])=true:=rfl
theorem Fv:(([72]:Str) == [104])=false:=rfl
theorem Ia:(([72]:Str) == [86])=false:=rfl
theorem FZ:(([72]:Str) == [118])=false:=rfl
theorem Ib:(([72]:Str) == [90])=false:=rfl
theorem Fp:(([104]:Str) == [77])=false:=rfl
theorem Fj:(([104]:Str) == [76])=false:=rfl
theorem Ec:(([104]:Str) == [108])=false:=rfl
theorem Fs:(([104]:Str) == [72])=false:=rfl
theorem Em:(([104]:Str) == [104])=true:=rfl
theorem FN:(([104]:Str) == [86])=false:=rfl
theorem DE:(([104]:Str) == [118])=false:=rfl
theorem FH:(([104]:Str) == [90])=false:=rfl
theorem HV:(([86]:Str) == [77])=false:=rfl
theorem H6:(([86]:Str) == [76])=false:=rfl
theorem Fn:(([86]:Str) == [108])=false:=rfl
theorem Iu:(([86]:Str) == [72])=false:=rfl
theorem FJ:(([86]:Str) == [104])=false:=rfl
theorem Ie:(([86]:Str) == [86])=true:=rfl
theorem Fo:(([86]:Str) == [118])=false:=rfl
theorem Ig:(([86]:Str) == [90])=false:=rfl
theorem FE:(([118]:Str) == [77])=false:=rfl
theorem Fm:(([118]:Str) == [76])=false:=rfl
theorem Eh:(([118]:Str) == [108])=false:=rfl
theorem FP:(([118]:Str) == [72])=false:=rfl
theorem DU:(([118]:Str) == [104])=false:=rfl
theorem Fk:(([118]:Str) == [86])=false:=rfl
theorem DO:(([118]:Str) == [118])=true:=rfl
theorem FB:(([118]:Str) == [90])=false:=rfl
theorem JK:(([90]:Str) == [77])=false:=rfl
theorem JX:(([90]:Str) == [76])=false:=rfl
theorem Hv:(([90]:Str) == [108])=false:=rfl
theorem J0:(([90]:Str) == [72])=false:=rfl
theorem Hm:(([90]:Str) == [104])=false:=rfl
theorem JB:(([90]:Str) == [86])=false:=rfl
theorem Hu:(([90]:Str) == [118])=false:=rfl
theorem Jx:(([90]:Str) == [90])=true:=rfl
theorem Bw {way:Wy} (h:way≠[]):getN way (way.length-1)=some (lastP way):=by
 have hp:=List.length_pos_iff.2 h
 have e:way[way.length-1]? = some (way[way.length-1]'(by omega)):=List.getElem?_eq_getElem (by omega)
 show way[way.length-1]? = _
 unfold lastP
 rw[List.getLast?_eq_getElem?,e]
 rfl
theorem Bt {way:Wy} (h:way≠[]) (hl:way.length≤1000):idxI (IntKind.wrap .i64 ((way.length:Int)-1)) way.length=some (way.length-1):=by
 have hp:=List.length_pos_iff.2 h
 rw[wrapI (by omega) (by omega),show (way.length:Int)-1=((way.length-1:Nat):Int) by omega,Pt (by omega)]
theorem Dp (W:List Str) (i:Int) (ways:List Wy) (way:Wy) (w:Str) (o:Bool) :
  loopM (fun (s:((List Str×(Int×Int))×(List Str×(List Wy×(Wy×(Str×(Bool×(Bool×(Int×Int)))))))) )=>A7 s.1 s.2.1 s.2.2.1 s.2.2.2.1 s.2.2.2.2.1 s.2.2.2.2.2.1 s.2.2.2.2.2.2.1 s.2.2.2.2.2.2.2.1 s.2.2.2.2.2.2.2.2)
   ((W,(i,0)),(KW,(ways,(way,(w,(o,(false,(((8:Nat):Int),(0:Int)))))))))=some ((W,(i,0)),(ways,(way,(w,(o,decide (w∈KW)))))):=by
 obtain ⟨_,h1,_⟩:=Hl (body:=fun (s:((List Str×(Int×Int))×(List Str×(List Wy×(Wy×(Str×(Bool×(Bool×(Int×Int)))))))) )=>A7 s.1 s.2.1 s.2.2.1 s.2.2.2.1 s.2.2.2.2.1 s.2.2.2.2.2.1 s.2.2.2.2.2.2.1 s.2.2.2.2.2.2.2.1 s.2.2.2.2.2.2.2.2)
  (fun k (_:Unit)=>((W,(i,0)),(KW,(ways,(way,(w,(o,(decide (w∈KW.take k),(((8:Nat):Int),(k:Int))))))))) ) (fun _=>((W,(i,0)),(ways,(way,(w,(o,decide (w∈KW))))))) (fun _ _=>True) 8 (by
   intro k _ hk _
   have he:KW[k]? = some (KW[k]'hk):=List.getElem?_eq_getElem hk
   generalize hx:(KW[k]'hk)=x at he
   refine ⟨(),?_,trivial⟩
   unfold A7
   simp only
   rw[decide_eq_true (by omega),cT,show idxI (k:Int) KW.length=some k from Pt hk,obs,show getN KW k=some x from he,obs,List.take_add_one,he,wrap1 (by omega)]
   by_cases hm:w∈KW.take k
   ·rw[decide_eq_true hm,cT,decide_eq_true (List.mem_append_left _ hm)]
   ·rw[decide_eq_false hm,cF]
    by_cases hxw:x=w
    ·subst hxw
     rw[beq_self_eq_true,decide_eq_true (List.mem_append_right _ (by simp))]
    ·rw[beq_eq_false_iff_ne.2 hxw,decide_eq_false]
     intro h
     rcases List.mem_append.1 h with h | h
     ·exact hm h
     ·simp at h; exact hxw h.symm) (by
   intro _ _
   unfold A7
   simp only
   rw[decide_eq_false (by omega),cF]
   rfl) 0 () (by omega) trivial
 exact h1
section
variable {W:List Str} (hW:W.length≤1000) (hs:∀ w∈W,w.length≤1000)
include hW hs
theorem TN {i:Nat} {w:Str} (he:W[i]? = some w) (hk:w ∉ KW) (ways:List Wy) {way:Wy} (hw:way.length≤1000):Ag (W,(i:Int),0) ways way=some (encS W ways way (cmdV W i ways way w)):=by
 unfold Ag
 simp only
 rw[Ak,he,obs,show ([[77],[76],[108],[72],[104],[86],[118],[90]]:List Str)=KW from rfl,Dp W _ ways way _ _,obs]
 have h77:w≠[77]:=fun h=>hk (by rw[h]; decide)
 unfold cmdV
 rw[if_neg h77,if_neg hk,decide_eq_false hk,nF]
 simp only[cond_true,Option.bind_some,Sum.elim_inr]
 rfl
theorem Tf {i:Nat} (he:W[i]? = some [77]) (ways:List Wy) {way:Wy} (hw:way.length≤1000):Ag (W,(i:Int),0) ways way=some (encS W ways way (cmdV W i ways way [77])):=by
 have hlt:=getL he
 unfold Ag
 simp only
 rw[Ak,he,obs,show ([[77],[76],[108],[72],[104],[86],[118],[90]]:List Str)=KW from rfl,Dp W _ ways way _ _,obs]
 unfold cmdV
 rw[if_pos rfl,decide_eq_true (show ([77]:Str)∈KW by decide)]
 by_cases h0:way = []
 ·subst h0
  rw[if_pos rfl]
  by_cases h4:ways.length=4
  ·have h4':((ways.length:Int)==4)=true:=by simp[h4]
   rw[if_pos h4]
   simp only[HY,Im,FW,Ih,F1,H4,FV,IG,h4',nT,cF,cT,List.length_nil,show decide (((0:Nat):Int)>0)=false from rfl,show (false==true)=false from rfl,obs,Sum.elim_inr,show ((5:Int) != 0)=true from rfl]
   rfl
  ·have h4':((ways.length:Int)==4)=false:=by simp; omega
   rw[if_neg h4]
   simp only[HY,Im,FW,Ih,F1,H4,FV,IG,h4',nT,nF,cF,cT,List.length_nil,show decide (((0:Nat):Int)>0)=false from rfl,show (false==true)=false from rfl,obs,Sum.elim_inr,show ((0:Int) != 0)=false from rfl,show (((0:Nat):Int)==12)=false from rfl,wrap1 (show i<4611686018427387904 by omega)]
   exact L3 hW hs (by omega) ways (by simp) (fun x y=>(x,y))
 ·have hp:=List.length_pos_iff.2 h0
  rw[if_neg h0]
  simp only[HY,Im,FW,Ih,F1,H4,FV,IG,nT,cF,cT,decide_eq_true (show (way.length:Int)>0 by omega),show (true==true)=true from rfl,obs,Sum.elim_inr,show ((4:Int) != 0)=true from rfl]
  rfl
theorem Uz {i:Nat} (he:W[i]? = some [76]) (ways:List Wy) {way:Wy} (hw:way.length≤1000):Ag (W,(i:Int),0) ways way=some (encS W ways way (cmdV W i ways way [76])):=by
 have hlt:=getL he
 unfold Ag
 simp only
 rw[Ak,he,obs,show ([[77],[76],[108],[72],[104],[86],[118],[90]]:List Str)=KW from rfl,Dp W _ ways way _ _,obs]
 unfold cmdV
 rw[if_neg (by decide),if_pos (show ([76]:Str)∈KW by decide),decide_eq_true (show ([76]:Str)∈KW by decide)]
 by_cases h0:way = []
 ·subst h0
  rw[if_pos rfl]
  simp only[H3,IF,Fq,Id,FX,Il,FY,Ix,nT,cF,cT,List.length_nil,show decide (((0:Nat):Int)>0)=false from rfl,show (false==false)=true from rfl,obs,Sum.elim_inr,show ((4:Int) != 0)=true from rfl]
  rfl
 ·have hp:=List.length_pos_iff.2 h0
  rw[if_neg h0]
  rw[if_neg (by decide)]
  by_cases h12:way.length=12
  ·rw[if_pos h12]
   simp only[H3,IF,Fq,Id,FX,Il,FY,Ix,nT,nF,cF,cT,decide_eq_true (show (way.length:Int)>0 by omega),show (true==false)=false from rfl,obs,Sum.elim_inr,show ((way.length:Int)==12)=true by simp; omega,show ((5:Int) != 0)=true from rfl]
   rfl
  ·rw[if_neg h12,if_pos rfl]
   simp only[H3,IF,Fq,Id,FX,Il,FY,Ix,nT,nF,cF,cT,decide_eq_true (show (way.length:Int)>0 by omega),show (true==false)=false from rfl,obs,Sum.elim_inr,show ((way.length:Int)==12)=false by simp; omega,show ((0:Int) != 0)=false from rfl,Bt h0 hw,Bw h0,wrap1 (show i<4611686018427387904 by omega)]
   exact L3 hW hs (by omega) ways hw (fun x y=>(x,y))
theorem SE {i:Nat} (he:W[i]? = some [108]) (ways:List Wy) {way:Wy} (hw:way.length≤1000):Ag (W,(i:Int),0) ways way=some (encS W ways way (cmdV W i ways way [108])):=by
 have hlt:=getL he
 unfold Ag
 simp only
 rw[Ak,he,obs,show ([[77],[76],[108],[72],[104],[86],[118],[90]]:List Str)=KW from rfl,Dp W _ ways way _ _,obs]
 unfold cmdV
 rw[if_neg (by decide),if_pos (show ([108]:Str)∈KW by decide),decide_eq_true (show ([108]:Str)∈KW by decide)]
 by_cases h0:way = []
 ·subst h0
  rw[if_pos rfl]
  simp only[Fh,FT,D1,Fy,DN,Fg,DG,Fl,nT,cF,cT,List.length_nil,show decide (((0:Nat):Int)>0)=false from rfl,show (false==false)=true from rfl,obs,Sum.elim_inr,show ((4:Int) != 0)=true from rfl]
  rfl
 ·have hp:=List.length_pos_iff.2 h0
  rw[if_neg h0]
  rw[if_neg (by decide)]
  by_cases h12:way.length=12
  ·rw[if_pos h12]
   simp only[Fh,FT,D1,Fy,DN,Fg,DG,Fl,nT,nF,cF,cT,decide_eq_true (show (way.length:Int)>0 by omega),show (true==false)=false from rfl,obs,Sum.elim_inr,show ((way.length:Int)==12)=true by simp; omega,show ((5:Int) != 0)=true from rfl]
   rfl
  ·rw[if_neg h12,if_neg (by decide),if_pos rfl]
   simp only[Fh,FT,D1,Fy,DN,Fg,DG,Fl,nT,nF,cF,cT,decide_eq_true (show (way.length:Int)>0 by omega),show (true==false)=false from rfl,obs,Sum.elim_inr,show ((way.length:Int)==12)=false by simp; omega,show ((0:Int) != 0)=false from rfl,Bt h0 hw,Bw h0,wrap1 (show i<4611686018427387904 by omega)]
   exact L3 hW hs (by omega) ways hw (fun x y=>(IntKind.wrap .i64 ((lastP way).1 + x),IntKind.wrap .i64 ((lastP way).2 + y)))
theorem T3 {i:Nat} (he:W[i]? = some [72]) (ways:List Wy) {way:Wy} (hw:way.length≤1000):Ag (W,(i:Int),0) ways way=some (encS W ways way (cmdV W i ways way [72])):=by
 have hlt:=getL he
 unfold Ag
 simp only
 rw[Ak,he,obs,show ([[77],[76],[108],[72],[104],[86],[118],[90]]:List Str)=KW from rfl,Dp W _ ways way _ _,obs]
 unfold cmdV
 rw[if_neg (by decide),if_pos (show ([72]:Str)∈KW by decide),decide_eq_true (show ([72]:Str)∈KW by decide)]
 by_cases h0:way = []
 ·subst h0
  rw[if_pos rfl]
  simp only[HT,Iz,FL,Ii,Fv,Ia,FZ,Ib,nT,cF,cT,List.length_nil,show decide (((0:Nat):Int)>0)=false from rfl,show (false==false)=true from rfl,obs,Sum.elim_inr,show ((4:Int) != 0)=true from rfl]
  rfl
 ·have hp:=List.length_pos_iff.2 h0
  rw[if_neg h0]
  rw[if_neg (by decide)]
  by_cases h12:way.length=12
  ·rw[if_pos h12]
   simp only[HT,Iz,FL,Ii,Fv,Ia,FZ,Ib,nT,nF,cF,cT,decide_eq_true (show (way.length:Int)>0 by omega),show (true==false)=false from rfl,obs,Sum.elim_inr,show ((way.length:Int)==12)=true by simp; omega,show ((5:Int) != 0)=true from rfl]
   rfl
  ·rw[if_neg h12,if_neg (by decide),if_neg (by decide),if_pos rfl]
   simp only[HT,Iz,FL,Ii,Fv,Ia,FZ,Ib,nT,nF,cF,cT,decide_eq_true (show (way.length:Int)>0 by omega),show (true==false)=false from rfl,obs,Sum.elim_inr,show ((way.length:Int)==12)=false by simp; omega,show ((0:Int) != 0)=false from rfl,Bt h0 hw,Bw h0,wrap1 (show i<4611686018427387904 by omega)]
   exact Gp hW hs (by omega) ways hw (fun x=>(x,(lastP way).2))
theorem S1 {i:Nat} (he:W[i]? = some [104]) (ways:List Wy) {way:Wy} (hw:way.length≤1000):Ag (W,(i:Int),0) ways way=some (encS W ways way (cmdV W i ways way [104])):=by
 have hlt:=getL he
 unfold Ag
 simp only
 rw[Ak,he,obs,show ([[77],[76],[108],[72],[104],[86],[118],[90]]:List Str)=KW from rfl,Dp W _ ways way _ _,obs]
 unfold cmdV
 rw[if_neg (by decide),if_pos (show ([104]:Str)∈KW by decide),decide_eq_true (show ([104]:Str)∈KW by decide)]
 by_cases h0:way = []
 ·subst h0
  rw[if_pos rfl]
  simp only[Fp,Fj,Ec,Fs,Em,FN,DE,FH,nT,cF,cT,List.length_nil,show decide (((0:Nat):Int)>0)=false from rfl,show (false==false)=true from rfl,obs,Sum.elim_inr,show ((4:Int) != 0)=true from rfl]
  rfl
 ·have hp:=List.length_pos_iff.2 h0
  rw[if_neg h0]
  rw[if_neg (by decide)]
  by_cases h12:way.length=12
  ·rw[if_pos h12]
   simp only[Fp,Fj,Ec,Fs,Em,FN,DE,FH,nT,nF,cF,cT,decide_eq_true (show (way.length:Int)>0 by omega),show (true==false)=false from rfl,obs,Sum.elim_inr,show ((way.length:Int)==12)=true by simp; omega,show ((5:Int) != 0)=true from rfl]
   rfl
  ·rw[if_neg h12,if_neg (by decide),if_neg (by decide),if_neg (by decide),if_pos rfl]
   simp only[Fp,Fj,Ec,Fs,Em,FN,DE,FH,nT,nF,cF,cT,decide_eq_true (show (way.length:Int)>0 by omega),show (true==false)=false from rfl,obs,Sum.elim_inr,show ((way.length:Int)==12)=false by simp; omega,show ((0:Int) != 0)=false from rfl,Bt h0 hw,Bw h0,wrap1 (show i<4611686018427387904 by omega)]
   exact Gp hW hs (by omega) ways hw (fun x=>(IntKind.wrap .i64 ((lastP way).1 + x),(lastP way).2))
theorem UA {i:Nat} (he:W[i]? = some [86]) (ways:List Wy) {way:Wy} (hw:way.length≤1000):Ag (W,(i:Int),0) ways way=some (encS W ways way (cmdV W i ways way [86])):=by
 have hlt:=getL he
 unfold Ag
 simp only
 rw[Ak,he,obs,show ([[77],[76],[108],[72],[104],[86],[118],[90]]:List Str)=KW from rfl,Dp W _ ways way _ _,obs]
 unfold cmdV
 rw[if_neg (by decide),if_pos (show ([86]:Str)∈KW by decide),decide_eq_true (show ([86]:Str)∈KW by decide)]
 by_cases h0:way = []
 ·subst h0
  rw[if_pos rfl]
  simp only[HV,H6,Fn,Iu,FJ,Ie,Fo,Ig,nT,cF,cT,List.length_nil,show decide (((0:Nat):Int)>0)=false from rfl,show (false==false)=true from rfl,obs,Sum.elim_inr,show ((4:Int) != 0)=true from rfl]
  rfl
 ·have hp:=List.length_pos_iff.2 h0
  rw[if_neg h0]
  rw[if_neg (by decide)]
  by_cases h12:way.length=12
  ·rw[if_pos h12]
   simp only[HV,H6,Fn,Iu,FJ,Ie,Fo,Ig,nT,nF,cF,cT,decide_eq_true (show (way.length:Int)>0 by omega),show (true==false)=false from rfl,obs,Sum.elim_inr,show ((way.length:Int)==12)=true by simp; omega,show ((5:Int) != 0)=true from rfl]
   rfl
  ·rw[if_neg h12,if_neg (by decide),if_neg (by decide),if_neg (by decide),if_neg (by decide),if_pos rfl]
   simp only[HV,H6,Fn,Iu,FJ,Ie,Fo,Ig,nT,nF,cF,cT,decide_eq_true (show (way.length:Int)>0 by omega),show (true==false)=false from rfl,obs,Sum.elim_inr,show ((way.length:Int)==12)=false by simp; omega,show ((0:Int) != 0)=false from rfl,Bt h0 hw,Bw h0,wrap1 (show i<4611686018427387904 by omega)]
   exact Gp hW hs (by omega) ways hw (fun x=>((lastP way).1,x))
theorem Su {i:Nat} (he:W[i]? = some [118]) (ways:List Wy) {way:Wy} (hw:way.length≤1000):Ag (W,(i:Int),0) ways way=some (encS W ways way (cmdV W i ways way [118])):=by
 have hlt:=getL he
 unfold Ag
 simp only
 rw[Ak,he,obs,show ([[77],[76],[108],[72],[104],[86],[118],[90]]:List Str)=KW from rfl,Dp W _ ways way _ _,obs]
 unfold cmdV
 rw[if_neg (by decide),if_pos (show ([118]:Str)∈KW by decide),decide_eq_true (show ([118]:Str)∈KW by decide)]
 by_cases h0:way = []
 ·subst h0
  rw[if_pos rfl]
  simp only[FE,Fm,Eh,FP,DU,Fk,DO,FB,nT,cF,cT,List.length_nil,show decide (((0:Nat):Int)>0)=false from rfl,show (false==false)=true from rfl,obs,Sum.elim_inr,show ((4:Int) != 0)=true from rfl]
  rfl
 ·have hp:=List.length_pos_iff.2 h0
  rw[if_neg h0]
  rw[if_neg (by decide)]
  by_cases h12:way.length=12
  ·rw[if_pos h12]
   simp only[FE,Fm,Eh,FP,DU,Fk,DO,FB,nT,nF,cF,cT,decide_eq_true (show (way.length:Int)>0 by omega),show (true==false)=false from rfl,obs,Sum.elim_inr,show ((way.length:Int)==12)=true by simp; omega,show ((5:Int) != 0)=true from rfl]
   rfl
  ·rw[if_neg h12,if_neg (by decide),if_neg (by decide),if_neg (by decide),if_neg (by decide),if_neg (by decide)]
   simp only[FE,Fm,Eh,FP,DU,Fk,DO,FB,nT,nF,cF,cT,decide_eq_true (show (way.length:Int)>0 by omega),show (true==false)=false from rfl,obs,Sum.elim_inr,show ((way.length:Int)==12)=false by simp; omega,show ((0:Int) != 0)=false from rfl,Bt h0 hw,Bw h0,wrap1 (show i<4611686018427387904 by omega)]
   exact Gp hW hs (by omega) ways hw (fun x=>((lastP way).1,IntKind.wrap .i64 ((lastP way).2 + x)))
theorem TC {i:Nat} (he:W[i]? = some [90]) (ways:List Wy) {way:Wy} (hw:way.length≤1000) (hwl:ways.length≤1000):Ag (W,(i:Int),0) ways way=some (encS W ways way (cmdV W i ways way [90])):=by
 have hlt:=getL he
 unfold Ag
 simp only
 rw[Ak,he,obs,show ([[77],[76],[108],[72],[104],[86],[118],[90]]:List Str)=KW from rfl,Dp W _ ways way _ _,obs]
 unfold cmdV
 rw[if_neg (by decide),if_pos (show ([90]:Str)∈KW by decide),decide_eq_true (show ([90]:Str)∈KW by decide)]
 by_cases h0:way = []
 ·subst h0
  rw[if_pos rfl]
  simp only[JK,JX,Hv,J0,Hm,JB,Hu,Jx,nT,cF,cT,List.length_nil,show decide (((0:Nat):Int)>0)=false from rfl,show (false==false)=true from rfl,obs,Sum.elim_inr,show ((4:Int) != 0)=true from rfl]
  rfl
 ·have hp:=List.length_pos_iff.2 h0
  rw[if_neg h0]
  rw[if_pos rfl]
  by_cases h3:way.length<3
  ·rw[if_pos h3]
   simp only[JK,JX,Hv,J0,Hm,JB,Hu,Jx,nT,nF,cF,cT,decide_eq_true (show (way.length:Int)>0 by omega),show (true==false)=false from rfl,obs,Sum.elim_inr,decide_eq_true (show (way.length:Int)<3 by omega),show ((5:Int) != 0)=true from rfl]
   rfl
  ·rw[if_neg h3]
   simp only[JK,JX,Hv,J0,Hm,JB,Hu,Jx,nT,nF,cF,cT,decide_eq_true (show (way.length:Int)>0 by omega),show (true==false)=false from rfl,obs,Sum.elim_inr,decide_eq_false (show ¬(way.length:Int)<3 by omega),show ((0:Int) != 0)=false from rfl,Bt h0 hw,Bw h0,wrap1 (show i<4611686018427387904 by omega)]
   rw[B4 (by simp[maxBytes]; omega) (by simp[maxBytes]; omega),obs]
   rfl
theorem R0 {i:Nat} {w:Str} (he:W[i]? = some w) (ways:List Wy) {way:Wy} (hw:way.length≤1000) (hwl:ways.length≤1000):Ag (W,(i:Int),0) ways way=some (encS W ways way (cmdV W i ways way w)):=by
 by_cases hk:w∈KW
 ·have hk':w = [77]∨w = [76]∨w = [108]∨w = [72]∨w = [104]∨w = [86]∨w = [118]∨w = [90]:=by simpa[KW] using hk
  rcases hk' with rfl | rfl | rfl | rfl | rfl | rfl | rfl | rfl
  ·exact Tf hW hs he ways hw
  ·exact Uz hW hs he ways hw
  ·exact SE hW hs he ways hw
  ·exact T3 hW hs he ways hw
  ·exact S1 hW hs he ways hw
  ·exact UA hW hs he ways hw
  ·exact Su hW hs he ways hw
  ·exact TC hW hs he ways hw hwl
 ·exact TN hW hs he hk ways hw
end
end
section
open Go
abbrev ISt:=(List Str×(Int×Bool))×(List Wy×(Wy×(Int×Int)))
def EI (W:List Str):CV→ISt→Prop
 | .inl (c,i),r=>r.2.2.2=(c,(i:Int))∧c≠0
 | .inr (i,ways',way'),r=>r=((W,((i:Int),decide (way'≠[]))),(ways',(way',(0,0))))
def KWi:List Str:=[[77],[76],[108],[72],[86],[104],[118],[90]]
theorem Rv (w:Str):w∈KWi↔w∈KW:=by simp only[KWi,KW,List.mem_cons,List.not_mem_nil,or_false]; constructor <;> (intro h; rcases h with h | h | h | h | h | h | h | h <;> simp[h])
theorem Dk (w:Str):Ao KWi w=some (decide (w∈KW)):=by
 unfold Ao AH
 have key:=Gy (body:=fun s:List Str×Str×Int×Int=>Ap s.1 s.2.1 s.2.2.1 s.2.2.2) (l:=KWi) (st:=fun k=>(KWi,w,((KWi.length:Nat):Int),(k:Int))) (p:=fun x=>!(w==x)) (fin:=.inl ()) (bad:=fun k=>.inr (k:Int))
  (fun k a hk hp=>by
   have hlt:k<8:=getL hk
   have hp:(w==a)=false:=by simpa using hp
   unfold Ap
   simp only
   rw[decide_eq_true (show (k:Int)<((KWi.length:Nat):Int) by show (k:Int)<8; omega),cT,Ak,hk,obs,hp,cF,wrap1 (by omega)])
  (fun k a hk hp=>by
   have hlt:k<8:=getL hk
   have hp:(w==a)=true:=by simpa using hp
   unfold Ap
   simp only
   rw[decide_eq_true (show (k:Int)<((KWi.length:Nat):Int) by show (k:Int)<8; omega),cT,Ak,hk,obs,hp,cT])
  (by
   unfold Ap
   simp only
   rw[decide_eq_false (by omega),cF])
 by_cases hm:w∈KW
 ·have hall:KWi.all (fun x=>!(w==x))=false:=by
   rw[List.all_eq_false]
   exact ⟨w,(Rv w).2 hm,by simp⟩
  obtain ⟨k,_,h⟩:=key.2 hall
  rw[show ((0:Nat):Int)=0 from rfl] at h
  rw[h,obs]
  simp only[Sum.elim_inr]
  rw[obs,decide_eq_true hm,decide_eq_true (by omega)]
 ·have hall:KWi.all (fun x=>!(w==x))=true:=by
   rw[List.all_eq_true]
   intro x hx
   have:w≠x:=fun h=>hm ((Rv w).1 (h▸hx))
   simpa using this
  have h:=key.1 hall
  rw[show ((0:Nat):Int)=0 from rfl] at h
  rw[h,obs]
  simp only[Sum.elim_inl]
  rw[obs,decide_eq_false hm]
  rfl
theorem Fe (w:Str):BI [72,86,104,118] w=some (Lib.contains [72,86,104,118] w):=by
 unfold BI D7
 rw[if_pos (by decide)]
noncomputable def icB:((List Str×(Int×Bool))×(List Int×(List Wy×(Wy×(Str×(Int×Int))))))→Option (((List Str×(Int×Bool))×(List Int×(List Wy×(Wy×(Str×(Int×Int)))))) ⊕ (((List Str×(Int×Bool))×(List Int×(List Wy×(Wy×Str)))) ⊕ ISt)) :=
 fun s=>BF s.1 s.2.1 s.2.2.1 s.2.2.2.1 s.2.2.2.2.1 s.2.2.2.2.2.1 s.2.2.2.2.2.2
section
variable {W:List Str} (hW:W.length≤1000) (hs:∀ w∈W,w.length≤1000)
include hW hs
theorem Ts {i:Nat} (hi:i≤W.length) (o:Bool) (n:List Int) (hn:n.length≤10) (ways:List Wy) (way:Wy) (w:Str) {c k:Nat} (hk:k<c) (hc:c≤10) :
  icB ((W,((i:Int),o)),(n,(ways,(way,(w,((c:Int),(k:Int)))))))=match numAt W i with | none=>some (.inr (.inr ((W,((i:Int),o)),(ways,(way,(3,(i:Int))))))) | some x=>some (.inl ((W,(((i + 1:Nat):Int),o)),(n ++ [x],(ways,(way,(w,((c:Int),((k + 1:Nat):Int)))))))):=by
 unfold icB BF
 simp only
 rw[decide_eq_true (by omega),cT,S9 hW hs hi,obs]
 cases hz:numAt W i with
 | none=>rfl
 | some x =>
  simp only
  rw[nT,cF,B4 (by simp[maxBytes]; omega) (by simp[maxBytes]; omega),obs,wrap1 (by omega)]
omit hW hs in
theorem T4 (W:List Str) (i:Int) (o:Bool) (n:List Int) (ways:List Wy) (way:Wy) (w:Str) (c:Nat):icB ((W,(i,o)),(n,(ways,(way,(w,((c:Int),(c:Int)))))))=some (.inr (.inl ((W,(i,o)),(n,(ways,(way,w)))))):=by
 unfold icB BF
 simp only
 rw[decide_eq_false (by omega),cF]
theorem VG {i:Nat} (hi:i≤W.length) (o:Bool) (ways:List Wy) (way:Wy) (w:Str):loopM icB ((W,((i:Int),o)),(([]:List Int),(ways,(way,(w,((1:Int),(0:Int))))))) =
  match numAt W i with | none=>some (.inr ((W,((i:Int),o)),(ways,(way,(3,(i:Int)))))) | some x=>some (.inl ((W,(((i + 1:Nat):Int),o)),([x],(ways,(way,w))))):=by
 have h1:=Ts hW hs hi o [] (by simp) ways way w (c:=1) (k:=0) (by omega) (by omega)
 cases hz:numAt W i with
 | none=>rw[hz] at h1; exact AN h1
 | some x =>
  rw[hz] at h1
  exact (Ca h1).trans (AN (T4 W _ o [x] ways way w 1))
theorem VW {i:Nat} (hi:i≤W.length) (o:Bool) (ways:List Wy) (way:Wy) (w:Str):loopM icB ((W,((i:Int),o)),(([]:List Int),(ways,(way,(w,((2:Int),(0:Int))))))) =
  match numAt W i with | none=>some (.inr ((W,((i:Int),o)),(ways,(way,(3,(i:Int)))))) | some x=>(match numAt W (i + 1) with | none=>some (.inr ((W,(((i + 1:Nat):Int),o)),(ways,(way,(3,((i + 1:Nat):Int)))))) | some y=>some (.inl ((W,(((i + 2:Nat):Int),o)),([x,y],(ways,(way,w)))))):=by
 have h1:=Ts hW hs hi o [] (by simp) ways way w (c:=2) (k:=0) (by omega) (by omega)
 cases hz:numAt W i with
 | none=>rw[hz] at h1; exact AN h1
 | some x =>
  rw[hz] at h1
  have hlt:=D2 hW hs hz
  have h2:=Ts hW hs (i:=i + 1) (by omega) o [x] (by simp) ways way w (c:=2) (k:=1) (by omega) (by omega)
  refine (Ca h1).trans ?_
  simp only
  cases hz2:numAt W (i + 1) with
  | none=>rw[hz2] at h2; exact AN h2
  | some y =>
   rw[hz2] at h2
   exact (Ca h2).trans (AN (T4 W _ o [x,y] ways way w 2))
noncomputable def icK (w:Str):(((List Str×(Int×Bool))×(List Int×(List Wy×(Wy×Str)))) ⊕ ISt)→Option ISt:=fun x7=>Sum.elim
   (fun x8 =>
   ((Au (x8.1.1,(x8.1.2.1,x8.1.2.2)) x8.2.2.1 x8.2.2.2.1 x8.2.2.2.2 x8.2.1)).bind fun x9 =>
   ((BH (x9.2.2.2.1,x9.2.2.2.2))).bind fun x10 =>
   bif (!x10) then
    some ((x9.1.1,(x9.1.2.1,x9.1.2.2)),(x9.2.1,(x9.2.2.1,((6:Int),(IntKind.wrap .i64 (x9.1.2.1-(1:Int)))))))
   else
   ((appL 16 2 x9.2.2.1 (List.cons (x9.2.2.2.1,x9.2.2.2.2) List.nil))).bind fun x11 =>
   some ((x9.1.1,(x9.1.2.1,true)),(x9.2.1,(x11,((0:Int),(0:Int))))))
   (fun x12 =>
   some ((x12.1.1,(x12.1.2.1,x12.1.2.2)),(x12.2.1,(x12.2.2.1,(x12.2.2.2.1,x12.2.2.2.2)))))
   x7
theorem Vn {i:Nat} (hi : 1≤i∧i≤2000) (o:Bool) (ways:List Wy) {way:Wy} (hw:way.length≤1000) (w:Str) (n:List Int) {p:Pn} (hn:Au (W,((i:Int),o)) ways way w n=some ((W,((i:Int),o)),(ways,(way,p)))) :
  ∃ r,icK w (.inl ((W,((i:Int),o)),(n,(ways,(way,w)))))=some r∧EI W (ptV goodP i ways way p) r:=by
 unfold icK ptV
 simp only[Sum.elim_inl]
 rw[hn,obs]
 simp only
 rw[Vl,obs]
 cases h:goodP (p.1,p.2) with
 | false =>
  rw[nF,cT,if_neg (by simp),wrapI (by omega) (by omega)]
  exact ⟨_,rfl,by show ((6:Int),_)=_; congr 1; omega,by omega⟩
 | true =>
  rw[nT,cF,if_pos rfl,B4 (by simp[maxBytes]; omega) (by simp[maxBytes]; omega),obs]
  refine ⟨_,rfl,?_⟩
  show _=_
  rw[decide_eq_true (show way ++ [p]≠[] by simp)]
theorem K3 {i:Nat} (hi:i≤W.length) (o:Bool) (ways:List Wy) {way:Wy} (hw:way.length≤1000) (w:Str) {f:Int→Pn} (hf:∀ (j:Nat) x,Au (W,((j:Int),o)) ways way w [x]=some ((W,((j:Int),o)),(ways,(way,f x)))) :
  ∃ r,((loopM icB ((W,((i:Int),o)),(([]:List Int),(ways,(way,(w,((1:Int),(0:Int)))))))).bind (icK w))=some r∧EI W (one W i ways way f) r:=by
 rw[VG hW hs hi]
 unfold one
 cases hz:numAt W i with
 | none=>exact ⟨_,rfl,rfl,by omega⟩
 | some x =>
  have:=D2 hW hs hz
  exact Vn hW hs (by omega) o ways hw w [x] (hf (i + 1) x)
theorem On {i:Nat} (hi:i≤W.length) (o:Bool) (ways:List Wy) {way:Wy} (hw:way.length≤1000) (w:Str) {f:Int→Int→Pn} (hf:∀ (j:Nat) x y,Au (W,((j:Int),o)) ways way w [x,y]=some ((W,((j:Int),o)),(ways,(way,f x y)))) :
  ∃ r,((loopM icB ((W,((i:Int),o)),(([]:List Int),(ways,(way,(w,((2:Int),(0:Int)))))))).bind (icK w))=some r∧EI W (two W i ways way f) r:=by
 rw[VW hW hs hi]
 unfold two one
 cases hz:numAt W i with
 | none=>exact ⟨_,rfl,rfl,by omega⟩
 | some x =>
  have:=D2 hW hs hz
  simp only
  cases hz2:numAt W (i + 1) with
  | none=>exact ⟨_,rfl,rfl,by omega⟩
  | some y =>
   have:=D2 hW hs hz2
   exact Vn hW hs (by omega) o ways hw w [x,y] (hf (i + 2) x y)
theorem Tr {i:Nat} {w:Str} (he:W[i]? = some w) (hk:w ∉ KW) (o:Bool) (ways:List Wy) (way:Wy):∃ r,Af (W,((i:Int),o)) ways way=some r∧EI W (cmdV W i ways way w) r:=by
 have h77:w≠[77]:=fun h=>hk (by rw[h]; decide)
 unfold Af Ax
 simp only
 rw[Ak,he,obs,show ([[77],[76],[108],[72],[86],[104],[118],[90]]:List Str)=KWi from rfl,Dk,obs,decide_eq_false hk,nF,cT,obs]
 unfold cmdV
 rw[if_neg h77,if_neg hk]
 exact ⟨_,rfl,rfl,by omega⟩
theorem Tq {i:Nat} (he:W[i]? = some [77]) (ways:List Wy) {way:Wy} (hw:way.length≤1000) (hwl:ways.length≤1000):∃ r,Af (W,((i:Int),decide (way≠[]))) ways way=some r∧EI W (cmdV W i ways way [77]) r:=by
 have hlt:=getL he
 unfold Af Ax
 simp only
 rw[Ak,he,obs,show ([[77],[76],[108],[72],[86],[104],[118],[90]]:List Str)=KWi from rfl,Dk,obs,decide_eq_true (show ([77]:Str)∈KW by decide)]
 unfold cmdV
 by_cases h0:way = []
 ·subst h0
  by_cases h4:ways.length=4
  ·have h4':((ways.length:Int)==4)=true:=by simp[h4]
   rw[if_pos rfl,if_pos rfl,if_pos h4]
   simp only[HY,Im,FW,Ih,F1,H4,FV,IG,nT,nF,cF,cT,obs,h4',show decide (([]:Wy)≠[])=false from rfl,show (true==false)=false from rfl,show ((5:Int) != 0)=true from rfl]
   exact ⟨_,rfl,rfl,by omega⟩
  ·have h4':((ways.length:Int)==4)=false:=by simp; omega
   rw[if_pos rfl,if_pos rfl,if_neg h4]
   simp only[HY,Im,FW,Ih,F1,H4,FV,IG,nT,nF,cF,cT,obs,h4',show decide (([]:Wy)≠[])=false from rfl,show (true==false)=false from rfl,show ((0:Int) != 0)=false from rfl,wrap1 (show i<4611686018427387904 by omega),Fe,show Lib.contains [72,86,104,118] [77]=false from by decide,Sum.elim_inr]
   refine On hW hs (by omega) false ways (way:=[]) (by simp) [77] (f:=fun x y=>(x,y)) fun j x y=>?_
   unfold Au
   simp only[HY,Im,FW,Ih,F1,H4,FV,IG,List.length_nil,show decide (((0:Nat):Int)>0)=false from rfl,cF,obs,Sum.elim_inr]
   rfl
 ·have hp:=List.length_pos_iff.2 h0
  rw[if_pos rfl,if_neg h0]
  simp only[HY,Im,FW,Ih,F1,H4,FV,IG,nT,nF,cF,cT,obs,show decide (way≠[])=true from decide_eq_true h0,show (true==true)=true from rfl,show ((4:Int) != 0)=true from rfl]
  exact ⟨_,rfl,rfl,by omega⟩
theorem T7 {i:Nat} (he:W[i]? = some [76]) (ways:List Wy) {way:Wy} (hw:way.length≤1000) (hwl:ways.length≤1000):∃ r,Af (W,((i:Int),decide (way≠[]))) ways way=some r∧EI W (cmdV W i ways way [76]) r:=by
 have hlt:=getL he
 unfold Af Ax
 simp only
 rw[Ak,he,obs,show ([[77],[76],[108],[72],[86],[104],[118],[90]]:List Str)=KWi from rfl,Dk,obs,decide_eq_true (show ([76]:Str)∈KW by decide)]
 unfold cmdV
 rw[if_neg (by decide),if_pos (show ([76]:Str)∈KW by decide)]
 by_cases h0:way = []
 ·subst h0
  rw[if_pos rfl]
  simp only[H3,IF,Fq,Id,FX,Il,FY,Ix,nT,nF,cF,cT,obs,show decide (([]:Wy)≠[])=false from rfl,show (false==false)=true from rfl,show ((4:Int) != 0)=true from rfl]
  exact ⟨_,rfl,rfl,by omega⟩
 ·have hp:=List.length_pos_iff.2 h0
  rw[if_neg h0]
  rw[if_neg (by decide)]
  by_cases h12:way.length=12
  ·rw[if_pos h12]
   simp only[H3,IF,Fq,Id,FX,Il,FY,Ix,nT,nF,cF,cT,obs,show decide (way≠[])=true from decide_eq_true h0,show (false==true)=false from rfl,show ((way.length:Int)==12)=true by simp; omega,show ((5:Int) != 0)=true from rfl]
   exact ⟨_,rfl,rfl,by omega⟩
  ·rw[if_neg h12,if_pos rfl]
   simp only[H3,IF,Fq,Id,FX,Il,FY,Ix,nT,nF,cF,cT,obs,show decide (way≠[])=true from decide_eq_true h0,show (false==true)=false from rfl,show ((way.length:Int)==12)=false by simp; omega,show ((0:Int) != 0)=false from rfl,wrap1 (show i<4611686018427387904 by omega),Fe,show Lib.contains [72,86,104,118] [76]=false from by decide,Sum.elim_inr]
   refine On hW hs (by omega) true ways hw [76] (f:=fun x y=>(x,y)) fun j x y=>?_
   unfold Au
   simp only[H3,IF,Fq,Id,FX,Il,FY,Ix,decide_eq_true (show (way.length:Int)>0 by omega),cT,cF,Bt h0 hw,Bw h0,obs,Sum.elim_inr]
   rfl
theorem R2 {i:Nat} (he:W[i]? = some [108]) (ways:List Wy) {way:Wy} (hw:way.length≤1000) (hwl:ways.length≤1000):∃ r,Af (W,((i:Int),decide (way≠[]))) ways way=some r∧EI W (cmdV W i ways way [108]) r:=by
 have hlt:=getL he
 unfold Af Ax
 simp only
 rw[Ak,he,obs,show ([[77],[76],[108],[72],[86],[104],[118],[90]]:List Str)=KWi from rfl,Dk,obs,decide_eq_true (show ([108]:Str)∈KW by decide)]
 unfold cmdV
 rw[if_neg (by decide),if_pos (show ([108]:Str)∈KW by decide)]
 by_cases h0:way = []
 ·subst h0
  rw[if_pos rfl]
  simp only[Fh,FT,D1,Fy,DN,Fg,DG,Fl,nT,nF,cF,cT,obs,show decide (([]:Wy)≠[])=false from rfl,show (false==false)=true from rfl,show ((4:Int) != 0)=true from rfl]
  exact ⟨_,rfl,rfl,by omega⟩
 ·have hp:=List.length_pos_iff.2 h0
  rw[if_neg h0]
  rw[if_neg (by decide)]
  by_cases h12:way.length=12
  ·rw[if_pos h12]
   simp only[Fh,FT,D1,Fy,DN,Fg,DG,Fl,nT,nF,cF,cT,obs,show decide (way≠[])=true from decide_eq_true h0,show (false==true)=false from rfl,show ((way.length:Int)==12)=true by simp; omega,show ((5:Int) != 0)=true from rfl]
   exact ⟨_,rfl,rfl,by omega⟩
  ·rw[if_neg h12,if_neg (by decide),if_pos rfl]
   simp only[Fh,FT,D1,Fy,DN,Fg,DG,Fl,nT,nF,cF,cT,obs,show decide (way≠[])=true from decide_eq_true h0,show (false==true)=false from rfl,show ((way.length:Int)==12)=false by simp; omega,show ((0:Int) != 0)=false from rfl,wrap1 (show i<4611686018427387904 by omega),Fe,show Lib.contains [72,86,104,118] [108]=false from by decide,Sum.elim_inr]
   refine On hW hs (by omega) true ways hw [108] (f:=fun x y=>(IntKind.wrap .i64 ((lastP way).1 + x),IntKind.wrap .i64 ((lastP way).2 + y))) fun j x y=>?_
   unfold Au
   simp only[Fh,FT,D1,Fy,DN,Fg,DG,Fl,decide_eq_true (show (way.length:Int)>0 by omega),cT,cF,Bt h0 hw,Bw h0,obs,Sum.elim_inr]
   rfl
theorem TO {i:Nat} (he:W[i]? = some [72]) (ways:List Wy) {way:Wy} (hw:way.length≤1000) (hwl:ways.length≤1000):∃ r,Af (W,((i:Int),decide (way≠[]))) ways way=some r∧EI W (cmdV W i ways way [72]) r:=by
 have hlt:=getL he
 unfold Af Ax
 simp only
 rw[Ak,he,obs,show ([[77],[76],[108],[72],[86],[104],[118],[90]]:List Str)=KWi from rfl,Dk,obs,decide_eq_true (show ([72]:Str)∈KW by decide)]
 unfold cmdV
 rw[if_neg (by decide),if_pos (show ([72]:Str)∈KW by decide)]
 by_cases h0:way = []
 ·subst h0
  rw[if_pos rfl]
  simp only[HT,Iz,FL,Ii,Fv,Ia,FZ,Ib,nT,nF,cF,cT,obs,show decide (([]:Wy)≠[])=false from rfl,show (false==false)=true from rfl,show ((4:Int) != 0)=true from rfl]
  exact ⟨_,rfl,rfl,by omega⟩
 ·have hp:=List.length_pos_iff.2 h0
  rw[if_neg h0]
  rw[if_neg (by decide)]
  by_cases h12:way.length=12
  ·rw[if_pos h12]
   simp only[HT,Iz,FL,Ii,Fv,Ia,FZ,Ib,nT,nF,cF,cT,obs,show decide (way≠[])=true from decide_eq_true h0,show (false==true)=false from rfl,show ((way.length:Int)==12)=true by simp; omega,show ((5:Int) != 0)=true from rfl]
   exact ⟨_,rfl,rfl,by omega⟩
  ·rw[if_neg h12,if_neg (by decide),if_neg (by decide),if_pos rfl]
   simp only[HT,Iz,FL,Ii,Fv,Ia,FZ,Ib,nT,nF,cF,cT,obs,show decide (way≠[])=true from decide_eq_true h0,show (false==true)=false from rfl,show ((way.length:Int)==12)=false by simp; omega,show ((0:Int) != 0)=false from rfl,wrap1 (show i<4611686018427387904 by omega),Fe,show Lib.contains [72,86,104,118] [72]=true from by decide,Sum.elim_inr]
   refine K3 hW hs (by omega) true ways hw [72] (f:=fun x=>(x,(lastP way).2)) fun j x=>?_
   unfold Au
   simp only[HT,Iz,FL,Ii,Fv,Ia,FZ,Ib,decide_eq_true (show (way.length:Int)>0 by omega),cT,cF,Bt h0 hw,Bw h0,obs,Sum.elim_inr]
   rfl
theorem SY {i:Nat} (he:W[i]? = some [104]) (ways:List Wy) {way:Wy} (hw:way.length≤1000) (hwl:ways.length≤1000):∃ r,Af (W,((i:Int),decide (way≠[]))) ways way=some r∧EI W (cmdV W i ways way [104]) r:=by
 have hlt:=getL he
 unfold Af Ax
 simp only
 rw[Ak,he,obs,show ([[77],[76],[108],[72],[86],[104],[118],[90]]:List Str)=KWi from rfl,Dk,obs,decide_eq_true (show ([104]:Str)∈KW by decide)]
 unfold cmdV
 rw[if_neg (by decide),if_pos (show ([104]:Str)∈KW by decide)]
 by_cases h0:way = []
 ·subst h0
  rw[if_pos rfl]
  simp only[Fp,Fj,Ec,Fs,Em,FN,DE,FH,nT,nF,cF,cT,obs,show decide (([]:Wy)≠[])=false from rfl,show (false==false)=true from rfl,show ((4:Int) != 0)=true from rfl]
  exact ⟨_,rfl,rfl,by omega⟩
 ·have hp:=List.length_pos_iff.2 h0
  rw[if_neg h0]
  rw[if_neg (by decide)]
  by_cases h12:way.length=12
  ·rw[if_pos h12]
   simp only[Fp,Fj,Ec,Fs,Em,FN,DE,FH,nT,nF,cF,cT,obs,show decide (way≠[])=true from decide_eq_true h0,show (false==true)=false from rfl,show ((way.length:Int)==12)=true by simp; omega,show ((5:Int) != 0)=true from rfl]
   exact ⟨_,rfl,rfl,by omega⟩
  ·rw[if_neg h12,if_neg (by decide),if_neg (by decide),if_neg (by decide),if_pos rfl]
   simp only[Fp,Fj,Ec,Fs,Em,FN,DE,FH,nT,nF,cF,cT,obs,show decide (way≠[])=true from decide_eq_true h0,show (false==true)=false from rfl,show ((way.length:Int)==12)=false by simp; omega,show ((0:Int) != 0)=false from rfl,wrap1 (show i<4611686018427387904 by omega),Fe,show Lib.contains [72,86,104,118] [104]=true from by decide,Sum.elim_inr]
   refine K3 hW hs (by omega) true ways hw [104] (f:=fun x=>(IntKind.wrap .i64 ((lastP way).1 + x),(lastP way).2)) fun j x=>?_
   unfold Au
   simp only[Fp,Fj,Ec,Fs,Em,FN,DE,FH,decide_eq_true (show (way.length:Int)>0 by omega),cT,cF,Bt h0 hw,Bw h0,obs,Sum.elim_inr]
   rfl
theorem Uj {i:Nat} (he:W[i]? = some [86]) (ways:List Wy) {way:Wy} (hw:way.length≤1000) (hwl:ways.length≤1000):∃ r,Af (W,((i:Int),decide (way≠[]))) ways way=some r∧EI W (cmdV W i ways way [86]) r:=by
 have hlt:=getL he
 unfold Af Ax
 simp only
 rw[Ak,he,obs,show ([[77],[76],[108],[72],[86],[104],[118],[90]]:List Str)=KWi from rfl,Dk,obs,decide_eq_true (show ([86]:Str)∈KW by decide)]
 unfold cmdV
 rw[if_neg (by decide),if_pos (show ([86]:Str)∈KW by decide)]
 by_cases h0:way = []
 ·subst h0
  rw[if_pos rfl]
  simp only[HV,H6,Fn,Iu,FJ,Ie,Fo,Ig,nT,nF,cF,cT,obs,show decide (([]:Wy)≠[])=false from rfl,show (false==false)=true from rfl,show ((4:Int) != 0)=true from rfl]
  exact ⟨_,rfl,rfl,by omega⟩
 ·have hp:=List.length_pos_iff.2 h0
  rw[if_neg h0]
  rw[if_neg (by decide)]
  by_cases h12:way.length=12
  ·rw[if_pos h12]
   simp only[HV,H6,Fn,Iu,FJ,Ie,Fo,Ig,nT,nF,cF,cT,obs,show decide (way≠[])=true from decide_eq_true h0,show (false==true)=false from rfl,show ((way.length:Int)==12)=true by simp; omega,show ((5:Int) != 0)=true from rfl]
   exact ⟨_,rfl,rfl,by omega⟩
  ·rw[if_neg h12,if_neg (by decide),if_neg (by decide),if_neg (by decide),if_neg (by decide),if_pos rfl]
   simp only[HV,H6,Fn,Iu,FJ,Ie,Fo,Ig,nT,nF,cF,cT,obs,show decide (way≠[])=true from decide_eq_true h0,show (false==true)=false from rfl,show ((way.length:Int)==12)=false by simp; omega,show ((0:Int) != 0)=false from rfl,wrap1 (show i<4611686018427387904 by omega),Fe,show Lib.contains [72,86,104,118] [86]=true from by decide,Sum.elim_inr]
   refine K3 hW hs (by omega) true ways hw [86] (f:=fun x=>((lastP way).1,x)) fun j x=>?_
   unfold Au
   simp only[HV,H6,Fn,Iu,FJ,Ie,Fo,Ig,decide_eq_true (show (way.length:Int)>0 by omega),cT,cF,Bt h0 hw,Bw h0,obs,Sum.elim_inr]
   rfl
theorem Sk {i:Nat} (he:W[i]? = some [118]) (ways:List Wy) {way:Wy} (hw:way.length≤1000) (hwl:ways.length≤1000):∃ r,Af (W,((i:Int),decide (way≠[]))) ways way=some r∧EI W (cmdV W i ways way [118]) r:=by
 have hlt:=getL he
 unfold Af Ax
 simp only
 rw[Ak,he,obs,show ([[77],[76],[108],[72],[86],[104],[118],[90]]:List Str)=KWi from rfl,Dk,obs,decide_eq_true (show ([118]:Str)∈KW by decide)]
 unfold cmdV
 rw[if_neg (by decide),if_pos (show ([118]:Str)∈KW by decide)]
 by_cases h0:way = []
 ·subst h0
  rw[if_pos rfl]
  simp only[FE,Fm,Eh,FP,DU,Fk,DO,FB,nT,nF,cF,cT,obs,show decide (([]:Wy)≠[])=false from rfl,show (false==false)=true from rfl,show ((4:Int) != 0)=true from rfl]
  exact ⟨_,rfl,rfl,by omega⟩
 ·have hp:=List.length_pos_iff.2 h0
  rw[if_neg h0]
  rw[if_neg (by decide)]
  by_cases h12:way.length=12
  ·rw[if_pos h12]
   simp only[FE,Fm,Eh,FP,DU,Fk,DO,FB,nT,nF,cF,cT,obs,show decide (way≠[])=true from decide_eq_true h0,show (false==true)=false from rfl,show ((way.length:Int)==12)=true by simp; omega,show ((5:Int) != 0)=true from rfl]
   exact ⟨_,rfl,rfl,by omega⟩
  ·rw[if_neg h12,if_neg (by decide),if_neg (by decide),if_neg (by decide),if_neg (by decide),if_neg (by decide)]
   simp only[FE,Fm,Eh,FP,DU,Fk,DO,FB,nT,nF,cF,cT,obs,show decide (way≠[])=true from decide_eq_true h0,show (false==true)=false from rfl,show ((way.length:Int)==12)=false by simp; omega,show ((0:Int) != 0)=false from rfl,wrap1 (show i<4611686018427387904 by omega),Fe,show Lib.contains [72,86,104,118] [118]=true from by decide,Sum.elim_inr]
   refine K3 hW hs (by omega) true ways hw [118] (f:=fun x=>((lastP way).1,IntKind.wrap .i64 ((lastP way).2 + x))) fun j x=>?_
   unfold Au
   simp only[FE,Fm,Eh,FP,DU,Fk,DO,FB,decide_eq_true (show (way.length:Int)>0 by omega),cT,cF,Bt h0 hw,Bw h0,obs,Sum.elim_inr]
   rfl
theorem Ur {i:Nat} (he:W[i]? = some [90]) (ways:List Wy) {way:Wy} (hw:way.length≤1000) (hwl:ways.length≤1000):∃ r,Af (W,((i:Int),decide (way≠[]))) ways way=some r∧EI W (cmdV W i ways way [90]) r:=by
 have hlt:=getL he
 unfold Af Ax
 simp only
 rw[Ak,he,obs,show ([[77],[76],[108],[72],[86],[104],[118],[90]]:List Str)=KWi from rfl,Dk,obs,decide_eq_true (show ([90]:Str)∈KW by decide)]
 unfold cmdV
 rw[if_neg (by decide),if_pos (show ([90]:Str)∈KW by decide)]
 by_cases h0:way = []
 ·subst h0
  rw[if_pos rfl]
  simp only[JK,JX,Hv,J0,Hm,JB,Hu,Jx,nT,nF,cF,cT,obs,show decide (([]:Wy)≠[])=false from rfl,show (false==false)=true from rfl,show ((4:Int) != 0)=true from rfl]
  exact ⟨_,rfl,rfl,by omega⟩
 ·have hp:=List.length_pos_iff.2 h0
  rw[if_neg h0]
  rw[if_pos rfl]
  by_cases h3:way.length<3
  ·rw[if_pos h3]
   simp only[JK,JX,Hv,J0,Hm,JB,Hu,Jx,nT,nF,cF,cT,obs,show decide (way≠[])=true from decide_eq_true h0,show (false==true)=false from rfl,decide_eq_true (show (way.length:Int)<3 by omega),show ((5:Int) != 0)=true from rfl]
   exact ⟨_,rfl,rfl,by omega⟩
  ·rw[if_neg h3]
   simp only[JK,JX,Hv,J0,Hm,JB,Hu,Jx,nT,nF,cF,cT,obs,show decide (way≠[])=true from decide_eq_true h0,show (false==true)=false from rfl,decide_eq_false (show ¬(way.length:Int)<3 by omega),show ((0:Int) != 0)=false from rfl,wrap1 (show i<4611686018427387904 by omega)]
   rw[B4 (by simp[maxBytes]; omega) (by simp[maxBytes]; omega),obs]
   exact ⟨_,rfl,rfl⟩
theorem SN {i:Nat} {w:Str} (he:W[i]? = some w) (ways:List Wy) {way:Wy} (hw:way.length≤1000) (hwl:ways.length≤1000):∃ r,Af (W,((i:Int),decide (way≠[]))) ways way=some r∧EI W (cmdV W i ways way w) r:=by
 by_cases hk:w∈KW
 ·have hk':w = [77]∨w = [76]∨w = [108]∨w = [72]∨w = [104]∨w = [86]∨w = [118]∨w = [90]:=by simpa[KW] using hk
  rcases hk' with rfl | rfl | rfl | rfl | rfl | rfl | rfl | rfl
  ·exact Tq hW hs he ways hw hwl
  ·exact T7 hW hs he ways hw hwl
  ·exact R2 hW hs he ways hw hwl
  ·exact TO hW hs he ways hw hwl
  ·exact SY hW hs he ways hw hwl
  ·exact Uj hW hs he ways hw hwl
  ·exact Sk hW hs he ways hw hwl
  ·exact Ur hW hs he ways hw hwl
 ·exact Tr hW hs he hk _ ways way
end
end
section
open Go
def CF (W:List Str) (i:Nat) (ways:List Wy) (way:Wy):CV→Prop
 | .inl (c,_)=>c≠0
 | .inr (j,ways',way')=>i<j∧j≤W.length∧ways'.length≤ways.length + 1∧way'.length≤way.length + 1
section
variable {W:List Str} (hW:W.length≤1000) (hs:∀ w∈W,w.length≤1000)
include hW hs
theorem V6 {i j:Nat} (hi:i<j) (hj:j≤W.length) (ways:List Wy) (way:Wy) (p:Pn):CF W i ways way (ptV goodP j ways way p):=by
 unfold ptV
 split
 ·exact ⟨hi,hj,by omega,by simp⟩
 ·show (6:Int)≠0; omega
theorem Tu {i j:Nat} (hi:i<j) (ways:List Wy) (way:Wy) (f:Int→Pn):CF W i ways way (one W j ways way f):=by
 unfold one
 cases hz:numAt W j with
 | none=>show (3:Int)≠0; omega
 | some x=>exact V6 hW hs (by omega) (D2 hW hs hz) ways way _
theorem VQ {i j:Nat} (hi:i<j) (ways:List Wy) (way:Wy) (f:Int→Int→Pn):CF W i ways way (two W j ways way f):=by
 unfold two
 cases hz:numAt W j with
 | none=>show (3:Int)≠0; omega
 | some x=>exact Tu hW hs (by omega) ways way _
theorem Tz {i:Nat} {w:Str} (he:W[i]? = some w) (ways:List Wy) (way:Wy):CF W i ways way (cmdV W i ways way w):=by
 have hlt:=getL he
 unfold cmdV
 repeat' split
 all_goals first
  | exact VQ hW hs (by omega) ways way _
  | exact Tu hW hs (by omega) ways way _
  | (show (5:Int)≠0; omega)
  | (show (4:Int)≠0; omega)
  | (show (2:Int)≠0; omega)
  | exact ⟨by omega,by omega,by simp,by simp⟩
def parse (W:List Str):Nat→Nat→List Wy→Wy→(Int×Nat) ⊕ (List Wy×Wy)
 | 0,_,ways,way=>.inr (ways,way)
 | n + 1,i,ways,way=>match W[i]? with | none=>.inr (ways,way) | some w=>(match cmdV W i ways way w with | .inl e=>.inl e | .inr (j,ways',way')=>parse W n j ways' way')
abbrev SP:=(List Str×Int×Int)×List Wy×Wy
noncomputable def spB:SP→Option (SP ⊕ SP):=fun s=>Bd s.1 s.2.1 s.2.2
def SEnd (W:List Str):((Int×Nat) ⊕ (List Wy×Wy))→SP→Prop
 | .inl (c,i),r=>r.1.2=((i:Int),c)∧c≠0
 | .inr (ways,way),r=>r=((W,((W.length:Int),0)),(ways,way))
omit hW hs in
theorem VU (W:List Str) (i c:Int) (hc:c≠0) (ways:List Wy) (way:Wy):loopM spB ((W,(i,c)),(ways,way))=some ((W,(i,c)),(ways,way)):=by
 refine AN ?_
 unfold spB Bd
 simp only
 by_cases h:i<(W.length:Int)
 ·rw[decide_eq_true h,cT,show (c==0)=false by simpa using hc,cF]
 ·rw[decide_eq_false h,cF]
theorem UT:∀ (n i:Nat) (ways:List Wy) (way:Wy),W.length<n + i→i≤W.length→ways.length≤i→way.length≤i→∃ r,loopM spB ((W,((i:Int),0)),(ways,way))=some r∧SEnd W (parse W n i ways way) r:=by
 intro n
 induction n with
 | zero=>intro i ways way h1 h2; omega
 | succ n ih =>
  intro i ways way h1 h2 h3 h4
  unfold parse
  by_cases hi:i=W.length
  ·subst hi
   rw[List.getElem?_eq_none (Nat.le_refl _)]
   refine ⟨_,AN (r:=((W,((W.length:Int),0)),(ways,way))) ?_,rfl⟩
   unfold spB Bd
   simp only
   rw[decide_eq_false (by omega),cF]
  ·have he:W[i]? = some (W[i]'(by omega)):=List.getElem?_eq_getElem (by omega)
   generalize (W[i]'(by omega))=w at he
   have hc:=R0 hW hs he ways (way:=way) (by omega) (by omega)
   have hf:=Tz hW hs he ways way
   rw[he]
   simp only
   have hgo:spB ((W,((i:Int),0)),(ways,way))=some (.inl (encS W ways way (cmdV W i ways way w))):=by
    unfold spB Bd
    simp only
    rw[decide_eq_true (by omega),cT,show ((0:Int)==0)=true from rfl,cT,hc,obs]
   rw[Ca hgo]
   cases hz:cmdV W i ways way w with
   | inl e =>
    obtain ⟨c,j⟩:=e
    rw[hz] at hf
    exact ⟨_,VU W _ c hf ways way,rfl,hf⟩
   | inr v =>
    obtain ⟨j,ways',way'⟩:=v
    rw[hz] at hf
    obtain ⟨f1,f2,f3,f4⟩:=hf
    exact ih j ways' way' (by omega) f2 (by omega) (by omega)
abbrev IP:=(List Str×Int×Bool)×List Wy×Wy
noncomputable def ipB:IP→Option (IP ⊕ (IP ⊕ (List Wy×Int×Int×Bool))):=fun s=>BK s.1 s.2.1 s.2.2
def IEnd (W:List Str):((Int×Nat) ⊕ (List Wy×Wy))→(IP ⊕ (List Wy×Int×Int×Bool))→Prop
 | .inl (c,i),r=>r = .inr ([],c,(i:Int),false)
 | .inr (ways,way),r=>r = .inl ((W,((W.length:Int),decide (way≠[]))),(ways,way))
theorem Vb:∀ (n i:Nat) (ways:List Wy) (way:Wy),W.length<n + i→i≤W.length→ways.length≤i→way.length≤i→∃ r,loopM ipB ((W,((i:Int),decide (way≠[]))),(ways,way))=some r∧IEnd W (parse W n i ways way) r:=by
 intro n
 induction n with
 | zero=>intro i ways way h1 h2; omega
 | succ n ih =>
  intro i ways way h1 h2 h3 h4
  unfold parse
  by_cases hi:i=W.length
  ·subst hi
   rw[List.getElem?_eq_none (Nat.le_refl _)]
   refine ⟨.inl ((W,((W.length:Int),decide (way≠[]))),(ways,way)),AN ?_,rfl⟩
   unfold ipB BK
   simp only
   rw[decide_eq_false (show ¬(W.length:Int)<(W.length:Int) by omega),cF]
  ·have he:W[i]? = some (W[i]'(by omega)):=List.getElem?_eq_getElem (by omega)
   generalize (W[i]'(by omega))=w at he
   obtain ⟨r,hc,hE⟩:=SN hW hs he ways (way:=way) (by omega) (by omega)
   have hf:=Tz hW hs he ways way
   rw[he]
   simp only
   have hgo:ipB ((W,((i:Int),decide (way≠[]))),(ways,way))=bif (r.2.2.2.1 != 0) then some (.inr (.inr ([],(r.2.2.2.1,(r.2.2.2.2,false))))) else some (.inl ((r.1.1,(r.1.2.1,r.1.2.2)),(r.2.1,r.2.2.1))):=by
    unfold ipB BK
    simp only
    rw[decide_eq_true (show (i:Int)<(W.length:Int) by omega),cT,hc,obs]
   cases hz:cmdV W i ways way w with
   | inl e =>
    obtain ⟨c,j⟩:=e
    rw[hz] at hf hE
    have hE:r.2.2.2=(c,(j:Int))∧c≠0:=hE
    rw[hE.1,show (c != 0)=true by simpa[bne] using hE.2,cT] at hgo
    exact ⟨_,AN hgo,rfl⟩
   | inr v =>
    obtain ⟨j,ways',way'⟩:=v
    rw[hz] at hf hE
    obtain ⟨f1,f2,f3,f4⟩:=hf
    have hE:r=((W,((j:Int),decide (way'≠[]))),(ways',(way',(0,0)))):=hE
    subst hE
    simp only at hgo
    rw[show ((0:Int) != 0)=false from rfl,cF] at hgo
    rw[Ca hgo]
    exact ih j ways' way' (by omega) f2 (by omega) (by omega)
end
def pathV (s:Str):List Wy×Int×Int×Bool :=
 if 1≤s.length∧s.length≤400 then (match parse (parts 32 s) ((parts 32 s).length + 1) 0 [] [] with
  | .inl (c,i)=>([],c,(i:Int),false)
  | .inr (ways,way)=>if way≠[] then ([],7,((parts 32 s).length:Int),false) else (ways,0,0,true)) else ([],1,0,false)
theorem KB {c:UInt8}:∀ (n:Nat) (s:Str),s.length≤n→(parts c s).length≤s.length + 1:=by
 intro n
 induction n with
 | zero =>
  intro s hs
  have:s = []:=List.eq_nil_of_length_eq_zero (by omega)
  subst this
  rw[Co (by simp)]
  simp
 | succ n ih =>
  intro s hs
  rcases Q5 c s with h | ⟨x,r,rfl,h⟩
  ·rw[Co h]; simp
  ·rw[Ea h]
   rw[List.length_append,List.length_cons] at hs ⊢
   have:=ih r (by omega)
   rw[List.length_cons]
   omega
theorem P1 {s:Str} (hs:s.length<4611686018427387904):BN s=some (pathV s):=by
 unfold BN pathV
 by_cases h0:s.length=0
 ·rw[show ((s.length:Int)==0)=true by simp[h0],cT,if_neg (by omega)]
 rw[show ((s.length:Int)==0)=false from beq_eq_false_iff_ne.2 (by omega),cF]
 by_cases h1 : 400<s.length
 ·rw[decide_eq_true (by omega),cT,if_neg (by omega)]
 rw[decide_eq_false (by omega),cF,Qi (by omega),obs,if_pos (by omega)]
 have hc:=KB (c:=32) s.length s (Nat.le_refl _)
 have hl:∀ w∈parts 32 s,w.length≤1000:=fun w hw=>by have:=Ni s.length s (Nat.le_refl _) w hw; omega
 obtain ⟨r,h2,h3⟩:=UT (W:=parts 32 s) (by omega) hl ((parts 32 s).length + 1) 0 [] [] (by omega) (by omega) (by simp) (by simp)
 have h2':loopM (fun (s:(((List Str)×(Int×Int))×((List Wy)×Wy)))=>Bd s.1 s.2.1 s.2.2) ((parts 32 s,((0:Int),(0:Int))),(([]:List Wy),([]:Wy)))=some r:=h2
 rw[h2',obs]
 cases hz:parse (parts 32 s) ((parts 32 s).length + 1) 0 [] [] with
 | inl e =>
  obtain ⟨c,i⟩:=e
  rw[hz] at h3
  have h3:r.1.2=((i:Int),c)∧c≠0:=h3
  simp only[h3.1]
  rw[show (c==0)=false by simpa using h3.2,cF,obs]
  simp only[Sum.elim_inr]
  rw[show (c != 0)=true by simpa[bne] using h3.2,cT]
 | inr v =>
  obtain ⟨ways,way⟩:=v
  rw[hz] at h3
  have h3:r=((parts 32 s,(((parts 32 s).length:Int),0)),(ways,way)):=h3
  subst h3
  simp only
  rw[show ((0:Int)==0)=true from rfl,cT]
  by_cases hw:way = []
  ·subst hw
   rw[show decide (((([]:Wy).length:Nat):Int)>0)=false from rfl,cF,obs,if_neg (by simp)]
   rfl
  ·have hp:=List.length_pos_iff.2 hw
   rw[decide_eq_true (by omega),cT,obs,if_pos hw]
   rfl
theorem Gi {s:Str} (hs:s.length<4294967281):AJ s=some (pathV s):=by
 unfold AJ pathV
 have hin:AU (s.length:Int) 1 400=some (decide (1≤s.length∧s.length≤400)):=by
  unfold AU
  by_cases h:(s.length:Int)≥1
  ·rw[decide_eq_true h,cT]; congr 1; rw[decide_eq_decide]; omega
  ·rw[decide_eq_false h,cF]; congr 1; symm; rw[decide_eq_false]; omega
 rw[hin,obs]
 by_cases h : 1≤s.length∧s.length≤400
 ·rw[decide_eq_true h,nT,cF,if_pos h]
  unfold Dg
  rw[Ta hs,obs]
  have hc:=KB (c:=32) s.length s (Nat.le_refl _)
  have hl:∀ w∈parts 32 s,w.length≤1000:=fun w hw=>by have:=Ni s.length s (Nat.le_refl _) w hw; omega
  obtain ⟨r,h2,h3⟩:=Vb (W:=parts 32 s) (by omega) hl ((parts 32 s).length + 1) 0 [] [] (by omega) (by omega) (by simp) (by simp)
  have h2':loopM (fun (s:(((List Str)×(Int×Bool))×((List Wy)×Wy)))=>BK s.1 s.2.1 s.2.2) ((parts 32 s,((0:Int),false)),(([]:List Wy),([]:Wy)))=some r:=h2
  rw[h2',obs]
  cases hz:parse (parts 32 s) ((parts 32 s).length + 1) 0 [] [] with
  | inl e =>
   obtain ⟨c,i⟩:=e
   rw[hz] at h3
   have h3:r = .inr ([],c,(i:Int),false):=h3
   subst h3
   rfl
  | inr v =>
   obtain ⟨ways,way⟩:=v
   rw[hz] at h3
   have h3:r = .inl ((parts 32 s,(((parts 32 s).length:Int),decide (way≠[]))),(ways,way)):=h3
   subst h3
   simp only[Sum.elim_inl]
   by_cases hw:way = []
   ·subst hw; rw[show decide (([]:Wy)≠[])=false from rfl,cF,if_neg (by simp)]
   ·rw[decide_eq_true hw,cT,if_pos hw]
 ·rw[decide_eq_false h,nF,cT,if_neg h]
end
section
open Go
theorem wrap8 {n:Int} (h1 : 0≤n) (h2:n<256):IntKind.wrap .u8 n=n:=by rw[IntKind.wrap_u8]; omega
theorem Mg {n:Nat} (h:n<10):strOf [IntKind.wrap .u8 (IntKind.wrap .i64 ((48:Int) + (n:Int)))] = [UInt8.ofNat (48 + n)]:=by
 rw[wrapI (by omega) (by omega),wrap8 (by omega) (by omega)]
 unfold strOf
 simp only[List.map_cons,List.map_nil]
 congr 2
theorem RQ:∀ (f n:Nat),n<f→n<9223372036854775808→CT f (n:Int)=some (Lib.decDigits n)
 | 0,n,h,_=>by omega
 | f + 1,n,h,h1=>by
  unfold CT JF
  by_cases hn:n<10
  ·rw[decide_eq_true (by omega),cT,Mg hn,Lib.decDigits,dif_pos hn]
  ·have e1:Int.tdiv (n:Int) 10=((n/10:Nat):Int):=by rw[Int.tdiv_eq_ediv_of_nonneg (by omega)]; omega
   have e2:Int.tmod (n:Int) 10=((n%10:Nat):Int):=by rw[Int.tmod_eq_emod_of_nonneg (by omega)]; omega
   rw[decide_eq_false (by omega),cF,e1,wrapI (by omega) (by omega),RQ f (n/10) (by omega) (by omega),obs,e2,Mg (by omega),AE (by
    have:=C1 (n:=n/10) (by omega)
    simp; omega),obs]
   conv=>rhs; rw[Lib.decDigits,dif_neg hn]
theorem RN {n:Nat} (h:n<9223372036854775808):Fb (n:Int)=some (Lib.decDigits n):=by
 unfold Fb
 exact RQ _ n (by omega) h
end
section
open Go
theorem Ej {n:Int} (h0 : -9223372036854775808<n) (h1:n<9223372036854775808):A5 n=some (Lib.itoa n):=by
 unfold A5 Lib.itoa
 by_cases hn:n<0
 ·obtain ⟨m,rfl⟩:∃ m:Nat,n = -(m:Int):=⟨n.natAbs,by omega⟩
  rw[decide_eq_true hn,cT,if_pos hn,wrapI (by omega) (by omega),show (0:Int) - -(m:Int)=(m:Int) by omega,RN (by omega),obs,AE (by
   have:=C1 (n:=m) (by omega)
   simp; omega),obs]
  rw[Int.natAbs_neg,Int.natAbs_natCast]
  rfl
 ·obtain ⟨m,rfl⟩:∃ m:Nat,n=(m:Int):=⟨n.toNat,by omega⟩
  rw[decide_eq_false hn,cF,if_neg hn,RN (by omega),obs,Int.toNat_natCast]
end
section
open Go
theorem Ul {c:Nat}:∀ {xs:List Str},(∀ x∈xs,x.length≤c)→∀ b,(Lib.join xs [b]).length≤(c + 1)*xs.length
 | [],_,b=>by simp[Lib.join_nil]
 | x::xs,h,b=>by
  rw[Lib.join_cons]
  have ht:∀ ys:List Str,(∀ y∈ys,y.length≤c)→(Lib.joinTail [b] ys).length≤(c + 1)*ys.length:=by
   intro ys
   induction ys with
   | nil=>intro _; simp[Lib.joinTail]
   | cons y ys ih =>
    intro hy
    have h1:=ih (fun z hz=>hy z (List.mem_cons_of_mem _ hz))
    have h2:=hy y (List.mem_cons_self ..)
    simp only[Lib.joinTail,List.map_cons,List.flatten_cons,List.length_append,List.length_cons,List.length_nil] at h1 ⊢
    rw[Nat.mul_add]
    omega
  have h1:=ht xs (fun z hz=>h z (List.mem_cons_of_mem _ hz))
  have h2:=h x (List.mem_cons_self ..)
  rw[List.length_append,List.length_cons,Nat.mul_add]
  omega
theorem VP {l:List Str} {sep:Str} (h1:l.length≤140737488355328) (h2:(Lib.join l sep).length≤140737488355328):CE l sep=some (Lib.join l sep):=by
 unfold CE Ld
 rw[if_pos ⟨h1,h2⟩]
end
section
open Go
abbrev Ways:=List (List (Int×Int))
def goodWays (l:Ways):Bool:=l.all isWay&&(decide (1≤l.length)&&decide (l.length≤4))
theorem wlen (n:Nat):within (n:Int) 1 4=(decide (1≤n)&&decide (n≤4)):=by
 unfold within
 congr 1 <;> (apply decide_eq_decide.2; omega)
theorem LL {l:Ways} (hl:Short l) (hs:∀ w∈l,Short w):B5 l=some (goodWays l):=by
 unfold B5 goodWays
 have hl':=hl
 unfold Short at hl'
 have key:=Gy (body:=fun s:Ways×Ways×Int×Int=>BY s.1 s.2.1 s.2.2.1 s.2.2.2) (l:=l) (st:=fun k=>(l,l,(l.length:Int),(k:Int))) (p:=isWay) (fin:=.inl l) (bad:=fun k=>.inr false)
  (fun k a hk hp=>by
   have:=getL hk
   unfold BY
   simp only[F2 hk,cond_true,Ak,hk,Option.bind_some,Rn (hs a (List.mem_of_getElem? hk)),hp,Bool.not_true,cond_false,wrap1 (show k<4611686018427387904 by omega)])
  (fun k a hk hp=>by
   unfold BY
   simp only[F2 hk,cond_true,Ak,hk,Option.bind_some,Rn (hs a (List.mem_of_getElem? hk)),hp,Bool.not_false])
  (by unfold BY; simp only[LD,cond_false])
 cases hall:l.all isWay with
 | true =>
  have h:=key.1 hall
  rw[show ((0:Nat):Int)=0 from rfl] at h
  simp only[h,Option.bind_some,Sum.elim_inl,Oe,wlen,Bool.true_and]
 | false =>
  obtain ⟨k,_,h⟩:=key.2 hall
  rw[show ((0:Nat):Int)=0 from rfl] at h
  simp only[h,Option.bind_some,Sum.elim_inr,Bool.false_and]
theorem HS {l:Ways} (hl:Short l) (hs:∀ w∈l,Short w):Bf l=some (goodWays l):=by
 unfold Bf goodWays Aw AD
 have hl':=hl
 unfold Short at hl'
 have key:=Gy (body:=fun s:Ways×Int×Int=>An s.1 s.2.1 s.2.2) (l:=l) (st:=fun k=>(l,(l.length:Int),(k:Int))) (p:=isWay) (fin:=.inl ()) (bad:=fun k=>.inr (k:Int))
  (fun k a hk hp=>by
   have:=getL hk
   unfold An BZ
   simp only[F2 hk,cond_true,Ak,hk,Option.bind_some,Ry (hs a (List.mem_of_getElem? hk)),hp,Bool.not_true,cond_false,wrap1 (show k<4611686018427387904 by omega)])
  (fun k a hk hp=>by
   unfold An BZ
   simp only[F2 hk,cond_true,Ak,hk,Option.bind_some,Ry (hs a (List.mem_of_getElem? hk)),hp,Bool.not_false])
  (by unfold An; simp only[LD,cond_false])
 rw[L5,obs,wlen]
 cases hw:(decide (1≤l.length)&&decide (l.length≤4)) with
 | false=>rw[cF,Bool.and_false]
 | true =>
  rw[cT,Bool.and_true]
  cases hall:l.all isWay with
  | true =>
   have h:=key.1 hall
   rw[show ((0:Nat):Int)=0 from rfl] at h
   simp only[h,Option.bind_some,Sum.elim_inl]
   rfl
  | false =>
   obtain ⟨k,_,h⟩:=key.2 hall
   rw[show ((0:Nat):Int)=0 from rfl] at h
   simp only[h,Option.bind_some,Sum.elim_inr]
   have:decide ((k:Int)≥0)=true:=by simp
   rw[this]; rfl
theorem CD {l:Ways} (h:goodWays l=true):l.length≤4∧∀ w∈l,w.length≤12∧3≤w.length∧∀ p∈w,-1000≤p.1∧p.1≤1000∧-1000≤p.2∧p.2≤1000:=by
 unfold goodWays at h
 rw[Bool.and_eq_true,Bool.and_eq_true,List.all_eq_true] at h
 refine ⟨by simpa using h.2.2,fun w hw=>?_⟩
 have h1:=h.1 w hw
 unfold isWay at h1
 simp only[Bool.and_eq_true,decide_eq_true_eq,List.all_eq_true] at h1
 exact ⟨h1.1.2,h1.1.1,fun p hp=>QN.1 (h1.2 p hp)⟩
end
section
open Go
def ptW (k:Nat) (p:P2):List Str:=[if k=0 then [77] else [76],Lib.itoa p.1,Lib.itoa p.2]
def ptsW (w:List P2) (k:Nat):List Str:=((List.range k).map fun i=>match w[i]? with | some p=>ptW i p | none=>[]).flatten
def wayW (w:List P2):List Str:=ptsW w w.length ++ [[90]]
def waysW (l:Ways) (k:Nat):List Str:=((l.take k).map wayW).flatten
def sp (ws:List Str):Str:=(ws.map (· ++ [32])).flatten
theorem JH (a b:List Str):sp (a++b)=sp a++sp b:=by unfold sp; simp
theorem KZ (a:List Str) (z:Str):Lib.join (a ++ [z]) [32]=sp a++z:=by
 induction a with
 | nil=>rw[List.nil_append,Lib.join_one]; rfl
 | cons x a ih =>
  have e:∀ (y:Str) (r:List Str),Lib.join (x::y::r) [32]=x++32::Lib.join (y::r) [32]:=by
   intro y r
   rw[Lib.join_cons,Lib.join_cons]
   simp[Lib.joinTail]
  cases a with
  | nil =>
   rw[List.nil_append] at ih
   rw[List.cons_append,List.nil_append,e,ih]
   simp[sp]
  | cons y r =>
   rw[List.cons_append] at ih
   rw[List.cons_append,List.cons_append,e,ih]
   unfold sp
   simp
theorem Dq {w:List P2} {k:Nat} {p:P2} (h:w[k]? = some p):ptsW w (k + 1)=ptsW w k++ptW k p:=by
 unfold ptsW
 rw[List.range_succ,List.map_append,List.flatten_append]
 simp[h]
theorem Cl {l:Ways} {k:Nat} {w:List P2} (h:l[k]? = some w):waysW l (k + 1)=waysW l k++wayW w:=by
 unfold waysW
 rw[List.take_add_one,h]
 simp
theorem Dy (w:List P2):∀ k,(ptsW w k).length≤3*k
 | 0=>by simp[ptsW]
 | k + 1=>by
  cases h:w[k]? with
  | some p =>
   have:=Dy w k
   rw[Dq h,List.length_append]
   simp[ptW]; omega
  | none =>
   have:=Dy w k
   have e:ptsW w (k + 1)=ptsW w k:=by
    unfold ptsW
    rw[List.range_succ,List.map_append,List.flatten_append]
    simp[h]
   rw[e]; omega
theorem T1 (w:List P2):(wayW w).length≤3*w.length + 1:=by
 have:=Dy w w.length
 unfold wayW
 rw[List.length_append]
 simp; omega
theorem Dv {l:Ways} (h:∀ w∈l,w.length≤12):∀ k,(waysW l k).length≤37*k
 | 0=>by simp[waysW]
 | k + 1=>by
  have:=Dv h k
  cases hk:l[k]? with
  | some w =>
   have h1:=T1 w
   have h2:=h w (List.mem_of_getElem? hk)
   rw[Cl hk,List.length_append]
   omega
  | none =>
   unfold waysW at this ⊢
   rw[List.take_add_one,hk]
   simp at this ⊢; omega
def SW (ws:List Str):Prop:=∀ x∈ws,x.length≤21
theorem SW.append {a b:List Str} (ha:SW a) (hb:SW b):SW (a++b):=fun x hx=>(List.mem_append.1 hx).elim (ha x) (hb x)
theorem VC {k:Nat} {p:P2} (h : -1000≤p.1∧p.1≤1000∧-1000≤p.2∧p.2≤1000):SW (ptW k p):=by
 intro x hx
 unfold ptW at hx
 rcases List.mem_cons.1 hx with rfl | hx
 ·split <;> simp
 rcases List.mem_cons.1 hx with rfl | hx
 ·exact En (by omega) (by omega)
 cases List.mem_singleton.1 hx
 exact En (by omega) (by omega)
theorem KX {w:List P2} (h:∀ p∈w,-1000≤p.1∧p.1≤1000∧-1000≤p.2∧p.2≤1000):∀ k,k≤w.length→SW (ptsW w k)
 | 0,_=>fun x hx=>by simp[ptsW] at hx
 | k + 1,hk=>by
  have he:w[k]? = some w[k]:=List.getElem?_eq_getElem (by omega)
  rw[Dq he]
  exact (KX h k (by omega)).append (VC (h _ (List.getElem_mem _)))
theorem U7 {w:List P2} (h:∀ p∈w,-1000≤p.1∧p.1≤1000∧-1000≤p.2∧p.2≤1000):SW (wayW w) :=
 (KX h w.length (Nat.le_refl _)).append (fun x hx=>by cases List.mem_singleton.1 hx; simp)
theorem Mz {l:Ways} (h:∀ w∈l,∀ p∈w,-1000≤p.1∧p.1≤1000∧-1000≤p.2∧p.2≤1000) (k:Nat):SW (waysW l k):=by
 intro x hx
 unfold waysW at hx
 obtain ⟨ws,hws,hx⟩:=List.mem_flatten.1 hx
 obtain ⟨w,hw,rfl⟩:=List.mem_map.1 hws
 exact U7 (h w (List.mem_of_mem_take hw)) x hx
theorem QZ {ws:List Str} (h:SW ws):(sp ws).length≤22*ws.length:=by
 induction ws with
 | nil=>simp[sp]
 | cons x ws ih =>
  have h1:=ih (fun y hy=>h y (List.mem_cons_of_mem _ hy))
  have h2:=h x (List.mem_cons_self ..)
  unfold sp at h1 ⊢
  rw[List.map_cons,List.flatten_cons,List.length_append,List.length_append,List.length_cons]
  simp only[List.length_cons,List.length_nil]
  omega
def printW (l:Ways):Str:=Lib.join (waysW l l.length) [32]
def preW (l:Ways) (k:Nat):Str:=Lib.join (waysW l k) [32]
theorem Va {l:Ways} {k:Nat} (hk:k<l.length) (h0:k≠0):preW l k ++ [32]=sp (waysW l k):=by
 obtain ⟨j,rfl⟩:∃ j,k=j + 1:=⟨k-1,by omega⟩
 have he:l[j]? = some l[j]:=List.getElem?_eq_getElem (by omega)
 unfold preW
 rw[Cl he]
 unfold wayW
 rw[←List.append_assoc,KZ,JH (waysW l j++ptsW l[j] l[j].length),List.append_assoc]
 rfl
section
variable {l:Ways} (hl:l.length≤4) (hw:∀ w∈l,w.length≤12∧3≤w.length∧∀ p∈w,-1000≤p.1∧p.1≤1000∧-1000≤p.2∧p.2≤1000)
include hl hw
theorem Vr {j:Nat} (hj:j<l.length) {w:List P2} (hjw:l[j]? = some w) (a b:Int) :
  loopM (fun (s:(Str×(Ways×(Int×(Int×(List P2×(Int×Int)))))))=>BS s.1 s.2.1 s.2.2.1 s.2.2.2.1 s.2.2.2.2.1 s.2.2.2.2.2.1 s.2.2.2.2.2.2) (sp (waysW l j),(l,(a,(b,(w,((w.length:Int),(0:Int))))))) =
   some (sp (waysW l j++ptsW w w.length),(l,(a,b))):=by
 have hin:=hw w (List.mem_of_getElem? hjw)
 have hsw:=Mz (l:=l) (fun w hw'=>(hw w hw').2.2) j
 have hwl:=Dv (l:=l) (fun w hw'=>(hw w hw').1) j
 obtain ⟨_,h1,_⟩:=Hl (body:=fun (s:(Str×(Ways×(Int×(Int×(List P2×(Int×Int)))))))=>BS s.1 s.2.1 s.2.2.1 s.2.2.2.1 s.2.2.2.2.1 s.2.2.2.2.2.1 s.2.2.2.2.2.2)
  (fun k (_:Unit)=>(sp (waysW l j++ptsW w k),l,a,b,w,(w.length:Int),(k:Int))) (fun _=>(sp (waysW l j++ptsW w w.length),l,a,b)) (fun _ _=>True) w.length (by
   intro k _ hk _
   have he:w[k]? = some w[k]:=List.getElem?_eq_getElem hk
   generalize w[k]=p at he
   have hp:=hin.2.2 p (List.mem_of_getElem? he)
   have n1:=En (n:=p.1) (by omega) (by omega)
   have n2:=En (n:=p.2) (by omega) (by omega)
   have hsl:=QZ (hsw.append (KX hin.2.2 k (by omega)))
   have hpl:=Dy w k
   rw[List.length_append] at hsl
   refine ⟨(),?_,trivial⟩
   unfold BS
   simp only
   rw[decide_eq_true (by omega),cT,Ak,he,obs,Dq he]
   by_cases hk0:k=0
   ·subst hk0
    rw[show (((0:Nat):Int)==0)=true from rfl,cT,AE (by simp; omega),obs,obs]
    simp only[Sum.elim_inr]
    rw[Ej (by omega) (by omega),obs,AE (by simp; omega),obs,Ej (by omega) (by omega),obs,AE (by simp; omega),obs,AE (by simp; omega),obs,AE (by simp; omega),obs,wrap1 (by omega),
     ←List.append_assoc (waysW l j),JH (waysW l j++ptsW w _)]
    simp[ptW,sp]
   ·rw[show ((k:Int)==0)=false by simp; omega,cF,AE (by simp; omega),obs,obs]
    simp only[Sum.elim_inr]
    rw[Ej (by omega) (by omega),obs,AE (by simp; omega),obs,Ej (by omega) (by omega),obs,AE (by simp; omega),obs,AE (by simp; omega),obs,AE (by simp; omega),obs,wrap1 (by omega),
     ←List.append_assoc (waysW l j),JH (waysW l j++ptsW w _)]
    simp[ptW,sp,hk0]) (by
   intro _ _
   unfold BS
   simp) 0 () (by omega) trivial
 have e0:ptsW w 0 = []:=by simp[ptsW]
 rw[e0,List.append_nil] at h1
 exact h1
theorem Qh:CK l=some (printW l):=by
 unfold CK
 obtain ⟨_,h1,_⟩:=Hl (body:=fun (s:(Str×(Ways×(Int×Int))))=>BU s.1 s.2.1 s.2.2.1 s.2.2.2)
  (fun k (_:Unit)=>(preW l k,l,(l.length:Int),(k:Int))) (fun _=>printW l) (fun _ _=>True) l.length (by
   intro k _ hk _
   have he:l[k]? = some l[k]:=List.getElem?_eq_getElem hk
   generalize l[k]=w at he
   have hin:=hw w (List.mem_of_getElem? he)
   have hsw:=Mz (l:=l) (fun w hw'=>(hw w hw').2.2) k
   have hwl:=Dv (l:=l) (fun w hw'=>(hw w hw').1) k
   have hsl:=QZ hsw
   have hsl2:=QZ (hsw.append (KX hin.2.2 w.length (Nat.le_refl _)))
   have hpl:=Dy w w.length
   rw[List.length_append] at hsl2
   refine ⟨(),?_,trivial⟩
   unfold BU
   simp only
   rw[decide_eq_true (by omega),cT,Ak,he,obs]
   by_cases hk0:k=0
   ·subst hk0
    rw[show decide (((0:Nat):Int)>0)=false from rfl,cF]
    have e0:preW l 0=sp (waysW l 0):=by simp[preW,waysW,sp,Lib.join_nil]
    rw[e0]
    rw[obs]
    simp only[Sum.elim_inr]
    rw[Vr hl hw hk he,obs]
    simp only
    rw[AE (by simp; omega),obs,wrap1 (by omega)]
    congr 3
    unfold preW
    rw[Cl he]
    unfold wayW
    rw[←List.append_assoc,KZ]
   ·have hps:=Va hk hk0
    have hlen:=congrArg List.length hps
    rw[List.length_append] at hlen
    rw[decide_eq_true (by omega),cT,AE (by simp at hlen ⊢; omega),obs,hps]
    rw[obs]
    simp only[Sum.elim_inr]
    rw[Vr hl hw hk he,obs]
    simp only
    rw[AE (by simp; omega),obs,wrap1 (by omega)]
    congr 3
    unfold preW
    rw[Cl he]
    unfold wayW
    rw[←List.append_assoc,KZ]) (by
   intro _ _
   unfold BU
   simp[preW,printW]) 0 () (by omega) trivial
 have e0:preW l 0 = []:=by simp[preW,waysW,Lib.join_nil]
 rw[e0] at h1
 have h1':loopM (fun (s:(Str×(Ways×(Int×Int))))=>BU s.1 s.2.1 s.2.2.1 s.2.2.2) (([]:Str),l,(l.length:Int),(0:Int))=_:=h1
 rw[h1',obs]
theorem V7 {j:Nat} (hj:j<l.length) {w:List P2} (hjw:l[j]? = some w) (a b:Int) :
  loopM (fun (s:(List Str×(Ways×(Int×(Int×(List P2×(Int×Int)))))))=>BM s.1 s.2.1 s.2.2.1 s.2.2.2.1 s.2.2.2.2.1 s.2.2.2.2.2.1 s.2.2.2.2.2.2) (waysW l j,(l,(a,(b,(w,((w.length:Int),(0:Int))))))) =
   some (waysW l j++ptsW w w.length,(l,(a,b))):=by
 have hin:=hw w (List.mem_of_getElem? hjw)
 have hwl:=Dv (l:=l) (fun w hw'=>(hw w hw').1) j
 obtain ⟨_,h1,_⟩:=Hl (body:=fun (s:(List Str×(Ways×(Int×(Int×(List P2×(Int×Int)))))))=>BM s.1 s.2.1 s.2.2.1 s.2.2.2.1 s.2.2.2.2.1 s.2.2.2.2.2.1 s.2.2.2.2.2.2)
  (fun k (_:Unit)=>(waysW l j++ptsW w k,l,a,b,w,(w.length:Int),(k:Int))) (fun _=>(waysW l j++ptsW w w.length,l,a,b)) (fun _ _=>True) w.length (by
   intro k _ hk _
   have he:w[k]? = some w[k]:=List.getElem?_eq_getElem hk
   generalize w[k]=p at he
   have hp:=hin.2.2 p (List.mem_of_getElem? he)
   have hpl:=Dy w k
   refine ⟨(),?_,trivial⟩
   unfold BM
   simp only
   rw[decide_eq_true (by omega),cT,Ak,he,obs,Dq he]
   by_cases hk0:k=0
   ·subst hk0
    rw[show (((0:Nat):Int)==0)=true from rfl,cT,obs]
    simp only[Sum.elim_inr]
    rw[JT (by omega) (by omega),obs,JT (by omega) (by omega),obs,B4 (by simp[maxBytes]; omega) (by simp[maxBytes]; omega),obs,wrap1 (by omega)]
    simp[ptW]
   ·rw[show ((k:Int)==0)=false by simp; omega,cF,obs]
    simp only[Sum.elim_inr]
    rw[JT (by omega) (by omega),obs,JT (by omega) (by omega),obs,B4 (by simp[maxBytes]; omega) (by simp[maxBytes]; omega),obs,wrap1 (by omega)]
    simp[ptW,hk0]) (by
   intro _ _
   unfold BM
   simp) 0 () (by omega) trivial
 have e0:ptsW w 0 = []:=by simp[ptsW]
 rw[e0,List.append_nil] at h1
 exact h1
theorem UW:loopM (fun (s:(List Str×(Ways×(Int×Int))))=>BL s.1 s.2.1 s.2.2.1 s.2.2.2) (([]:List Str),(l,((l.length:Int),(0:Int))))=some (waysW l l.length):=by
 obtain ⟨_,h1,_⟩:=Hl (body:=fun (s:(List Str×(Ways×(Int×Int))))=>BL s.1 s.2.1 s.2.2.1 s.2.2.2)
  (fun k (_:Unit)=>(waysW l k,l,(l.length:Int),(k:Int))) (fun _=>waysW l l.length) (fun _ _=>True) l.length (by
   intro k _ hk _
   have he:l[k]? = some l[k]:=List.getElem?_eq_getElem hk
   generalize l[k]=w at he
   have hin:=hw w (List.mem_of_getElem? he)
   have hwl:=Dv (l:=l) (fun w hw'=>(hw w hw').1) k
   have hpl:=Dy w w.length
   refine ⟨(),?_,trivial⟩
   unfold BL
   simp only
   rw[decide_eq_true (by omega),cT,Ak,he,obs,V7 hl hw hk he,obs,B4 (by simp[maxBytes]; omega) (by simp[maxBytes]; omega),obs,wrap1 (by omega),Cl he]
   simp[wayW]) (by
   intro _ _
   unfold BL
   simp) 0 () (by omega) trivial
 have e0:waysW l 0 = []:=by simp[waysW]
 rw[e0] at h1
 exact h1
end
def printV (l:Ways):Str×Bool:=if goodWays l then (if (printW l).length≤400 then (printW l,true) else ([],false)) else ([],false)
theorem Km {l:Ways} (hl:Short l) (hs:∀ w∈l,Short w):BR l=some (printV l):=by
 unfold BR printV
 rw[LL hl hs,obs]
 cases hg:goodWays l with
 | false=>rfl
 | true =>
  obtain ⟨h1,h2⟩:=CD hg
  rw[nT,cF,Qh h1 h2,obs,if_pos rfl]
  by_cases h:(printW l).length≤400
  ·rw[decide_eq_false (by omega),cF,if_pos h]
  ·rw[decide_eq_true (by omega),cT,if_neg h]
theorem Ko {l:Ways} (hl:Short l) (hs:∀ w∈l,Short w):Bq l=some (printV l):=by
 unfold Bq printV
 rw[HS hl hs,obs]
 cases hg:goodWays l with
 | false=>rfl
 | true =>
  obtain ⟨h1,h2⟩:=CD hg
  have hwl:=Dv (l:=l) (fun w hw'=>(h2 w hw').1) l.length
  have hsw:=Mz (l:=l) (fun w hw'=>(h2 w hw').2.2) l.length
  have hj:=Ul (c:=21) (xs:=waysW l l.length) hsw 32
  rw[nT,cF,UW h1 h2,obs,VP (by omega) (by omega),obs,if_pos rfl]
  show (bif decide (((printW l).length:Int)>400) then _ else some (printW l,true))=_
  by_cases h:(printW l).length≤400
  ·rw[decide_eq_false (by omega),cF,if_pos h]
  ·rw[decide_eq_true (by omega),cT,if_neg h]
end
section
open Go
theorem Px (u:Nat):(32:UInt8) ∉ Lib.decDigits u:=fun h=>by
 have:=B2.1 ((Ds u).1.1 _ h)
 rw[show (32:UInt8).toNat=32 from rfl] at this
 omega
theorem N2 (n:Int):(32:UInt8) ∉ Lib.itoa n:=by
 unfold Lib.itoa
 split
 ·intro h
  rcases List.mem_cons.1 h with h | h
  ·cases h
  ·exact Px _ h
 ·exact Px _
theorem TP (k:Nat) (p:P2):∀ x∈ptW k p,(32:UInt8) ∉ x:=by
 intro x hx
 unfold ptW at hx
 rcases List.mem_cons.1 hx with rfl | hx
 ·split <;> decide
 rcases List.mem_cons.1 hx with rfl | hx
 ·exact N2 _
 cases List.mem_singleton.1 hx
 exact N2 _
theorem Ng (w:List P2):∀ k,k≤w.length→∀ x∈ptsW w k,(32:UInt8) ∉ x
 | 0,_=>fun x hx=>by simp[ptsW] at hx
 | k + 1,hk=>by
  have he:w[k]? = some w[k]:=List.getElem?_eq_getElem (by omega)
  rw[Dq he]
  intro x hx
  rcases List.mem_append.1 hx with hx | hx
  ·exact Ng w k (by omega) x hx
  ·exact TP _ _ x hx
theorem QY (l:Ways) (k:Nat):∀ x∈waysW l k,(32:UInt8) ∉ x:=by
 intro x hx
 unfold waysW at hx
 obtain ⟨ws,hws,hx⟩:=List.mem_flatten.1 hx
 obtain ⟨w,hw,rfl⟩:=List.mem_map.1 hws
 unfold wayW at hx
 rcases List.mem_append.1 hx with hx | hx
 ·exact Ng w _ (Nat.le_refl _) x hx
 ·cases List.mem_singleton.1 hx; decide
def tailW (w:List P2):Nat→Nat→List Str
 | 0,_=>[[90]]
 | n + 1,k=>(match w[k]? with | some p=>ptW k p | none=>[])++tailW w n (k + 1)
theorem Pm (w:List P2):∀ n k,k + n=w.length→ptsW w k++tailW w n k=wayW w
 | 0,k,h=>by
  rw[show k=w.length by omega]; rfl
 | n + 1,k,h=>by
  have he:w[k]? = some w[k]:=List.getElem?_eq_getElem (by omega)
  rw[←Pm w n (k + 1) (by omega),Dq he,tailW,he,List.append_assoc]
theorem SK (w:List P2):tailW w w.length 0=wayW w:=by
 rw[←Pm w w.length 0 (by omega)]
 simp[ptsW]
def SmPn (p:Pn):Prop:=-1000≤p.1∧p.1≤1000∧-1000≤p.2∧p.2≤1000
theorem UC {p:Pn} (h:SmPn p):goodP p=true:=by
 unfold goodP
 obtain ⟨a,b,c,d⟩:=h
 rw[decide_eq_true ⟨a,b⟩,decide_eq_true ⟨c,d⟩]; rfl
theorem LX {W:List Str} {i:Nat} {n:Int} (h:W[i]? = some (Lib.itoa n)) (hn : -9999≤n∧n≤9999):numAt W i=some n:=by
 unfold numAt
 rw[h]
 simp only
 rw[Ms hn]
 rfl
theorem Jl {W:List Str} {i:Nat} {x:Str} {r:List Str} (h:W.drop i=x::r):W[i]? = some x∧W.drop (i + 1)=r:=by
 have h1:(W.drop i)[0]? = some x:=by rw[h]; rfl
 rw[List.getElem?_drop,Nat.add_zero] at h1
 refine ⟨h1,?_⟩
 have h2:(W.drop i).drop 1=r:=by rw[h]; rfl
 rw[List.drop_drop] at h2
 exact h2
theorem LK {W:List Str} {w:List P2} (hw:∀ p∈w,SmPn p) (h3 : 3≤w.length) (h12:w.length≤12) {ways:List Wy} (h4:ways.length<4) {rest:List Str}:∀ (n k i m:Nat),k + n=w.length→W.drop i=tailW w n k++rest →
  parse W (m + n + 1) i ways (w.take k)=parse W m (i + 3*n + 1) (ways ++ [w]) []
 | 0,k,i,m,hk,hd=>by
  have hd:W.drop i = [90]::rest:=hd
  obtain ⟨g1,_⟩:=Jl hd
  rw[show m + 0 + 1=m + 1 by omega,parse,g1]
  simp only
  have hne:w.take k≠[]:=by
     intro h
     have:=congrArg List.length h
     rw[List.length_take,List.length_nil] at this
     omega
  have e:cmdV W i ways (w.take k) [90] = .inr (i + 1,ways ++ [w],[]):=by
   unfold cmdV
   rw[if_neg (by decide),if_pos (by decide),if_neg hne,if_pos rfl,if_neg (by rw[List.length_take]; omega),List.take_of_length_le (by omega)]
  rw[e]
 | n + 1,k,i,m,hk,hd=>by
  have he:w[k]? = some w[k]:=List.getElem?_eq_getElem (by omega)
  have hp:=hw _ (List.mem_of_getElem? he)
  have hsn:=List.take_add_one (l:=w) (i:=k)
  rw[he] at hsn
  rw[tailW,he] at hd
  generalize w[k]=p at he hp hd hsn
  have hd:W.drop i=(if k=0 then [77] else [76])::Lib.itoa p.1::Lib.itoa p.2::(tailW w n (k + 1)++rest):=by
   rw[hd]; rfl
  obtain ⟨g1,d1⟩:=Jl hd
  obtain ⟨g2,d2⟩:=Jl d1
  obtain ⟨g3,d3⟩:=Jl d2
  obtain ⟨p1,p2,p3,p4⟩:=hp
  have n1:=LX g2 (n:=p.1) (by omega)
  have n2:=LX g3 (n:=p.2) (by omega)
  have tw:two W (i + 1) ways (w.take k) (fun x y=>(x,y)) = .inr (i + 3,ways,w.take (k + 1)):=by
   unfold two
   rw[n1]
   simp only
   unfold one
   rw[n2]
   simp only
   unfold ptV
   rw[if_pos (UC ⟨p1,p2,p3,p4⟩),hsn]
   rfl
  have e:cmdV W i ways (w.take k) (if k=0 then [77] else [76]) = .inr (i + 3,ways,w.take (k + 1)):=by
   unfold cmdV
   by_cases hk0:k=0
   ·rw[if_pos hk0,if_pos rfl,if_pos (by rw[hk0]; rfl),if_neg (by omega),tw]
   ·have hne:w.take k≠[]:=by
     intro h
     have:=congrArg List.length h
     rw[List.length_take,List.length_nil] at this
     omega
    rw[if_neg hk0,if_neg (by decide),if_pos (by decide),if_neg hne,if_neg (by decide),if_neg (by rw[List.length_take]; omega),if_pos rfl,tw]
  rw[show m + (n + 1) + 1=(m + n + 1) + 1 by omega,parse,g1]
  simp only
  rw[e]
  simp only
  rw[LK hw h3 h12 h4 n (k + 1) (i + 3) m (by omega) (by rw[show i + 3=i + 1 + 1 + 1 by omega]; exact d3),show i + 3 + 3*n + 1=i + 3*(n + 1) + 1 by omega]
theorem Ht {w:List P2}:∀ n k,k + n=w.length→(tailW w n k).length=3*n + 1
 | 0,k,_=>rfl
 | n + 1,k,h=>by
  have he:w[k]? = some w[k]:=List.getElem?_eq_getElem (by omega)
  rw[tailW,he,List.length_append,Ht n (k + 1) (by omega)]
  show 3 + _=_
  omega
theorem Me {W:List Str} {l:Ways} (hl:l.length≤4) (hw:∀ w∈l,w.length≤12∧3≤w.length∧∀ p∈w,SmPn p):∀ (n k i m:Nat),k + n=l.length→W.drop i=((l.drop k).map wayW).flatten→W.length≤m + i→parse W (m + 1) i (l.take k) [] = .inr (l,[])
 | 0,k,i,m,hk,hd,hm=>by
  rw[List.drop_eq_nil_of_le (show l.length≤k by omega)] at hd
  have hi:W.length≤i:=by
   have:=congrArg List.length hd
   simp at this
   omega
  rw[parse,List.getElem?_eq_none hi,List.take_of_length_le (by omega)]
 | n + 1,k,i,m,hk,hd,hm=>by
  have he:l[k]? = some l[k]:=List.getElem?_eq_getElem (by omega)
  have hdk:l.drop k=l[k]::l.drop (k + 1):=List.drop_eq_getElem_cons (by omega)
  have hsn:=List.take_add_one (l:=l) (i:=k)
  rw[he] at hsn
  have hin:=hw _ (List.mem_of_getElem? he)
  generalize l[k]=w at he hdk hin hsn
  rw[hdk,List.map_cons,List.flatten_cons,←SK] at hd
  have hlen:=congrArg List.length hd
  rw[List.length_append,Ht (w:=w) w.length 0 (by omega),List.length_drop] at hlen
  obtain ⟨m',hm'⟩:∃ m',m + 1=(m' + 1) + w.length + 1:=⟨m-w.length-1,by omega⟩
  have h0:w.take 0 = []:=List.take_zero
  rw[hm',←h0,LK hin.2.2 hin.2.1 hin.1 (by rw[List.length_take]; omega) w.length 0 i (m' + 1) (by omega) hd]
  have hsn':l.take k ++ [w]=l.take (k + 1):=by rw[hsn]; rfl
  rw[hsn']
  refine Me hl hw n (k + 1) _ _ (by omega) ?_ (by omega)
  have h2:(W.drop i).drop (3*w.length + 1)=((l.drop (k + 1)).map wayW).flatten:=by
   rw[hd,List.drop_append_of_le_length (by rw[Ht (w:=w) w.length 0 (by omega)]; omega),List.drop_eq_nil_of_le (by rw[Ht (w:=w) w.length 0 (by omega)]; omega),List.nil_append]
  rw[List.drop_drop] at h2
  rw[show i + 3*w.length + 1=i + (3*w.length + 1) by omega]
  exact h2
theorem M9 {l:Ways} (hg:goodWays l=true) (h400:(printW l).length≤400):pathV (printW l)=(l,0,0,true):=by
 obtain ⟨h1,h2⟩:=CD hg
 have h0 : 1≤l.length:=by
  unfold goodWays at hg
  simp only[Bool.and_eq_true,decide_eq_true_eq] at hg
  omega
 have hne:waysW l l.length≠[]:=by
  obtain ⟨j,hj⟩:∃ j,l.length=j + 1:=⟨l.length-1,by omega⟩
  have he:l[j]? = some l[j]:=List.getElem?_eq_getElem (by omega)
  rw[hj,Cl he]
  intro h
  have:=congrArg List.length h
  unfold wayW at this
  simp at this
 have hp:parts 32 (printW l)=waysW l l.length:=Mn _ hne (QY l _)
 have hpos : 1≤(printW l).length:=by
  obtain ⟨j,hj⟩:∃ j,l.length=j + 1:=⟨l.length-1,by omega⟩
  have he:l[j]? = some l[j]:=List.getElem?_eq_getElem (by omega)
  unfold printW
  rw[hj,Cl he]
  unfold wayW
  rw[←List.append_assoc,KZ,List.length_append]
  simp
 unfold pathV
 rw[if_pos ⟨hpos,h400⟩,hp]
 have key:=Me (W:=waysW l l.length) (l:=l) h1 (fun w hw=>h2 w hw) l.length 0 0 (waysW l l.length).length (by omega) (by
  unfold waysW
  rw[List.take_length,List.drop_zero,List.drop_zero]) (by omega)
 rw[List.take_zero] at key
 rw[key]
 rfl
theorem T0 {i:Nat} {ways:List Wy} {way:Wy} {p:Pn} {j:Nat} {ways':List Wy} {way':Wy} (h:ptV goodP i ways way p = .inr (j,ways',way')):ways'=ways∧way'=way ++ [p]∧goodP p=true:=by
 unfold ptV at h
 split at h
 ·rename_i hg
  cases h
  exact ⟨rfl,rfl,hg⟩
 ·cases h
theorem ER {W:List Str} {i:Nat} {ways:List Wy} {way:Wy} {f:Int→Pn} {j:Nat} {ways':List Wy} {way':Wy} (h:one W i ways way f = .inr (j,ways',way')):ways'=ways∧∃ p,way'=way ++ [p]∧goodP p=true:=by
 unfold one at h
 split at h
 ·cases h
 ·obtain ⟨a,b,c⟩:=T0 h
  exact ⟨a,_,b,c⟩
theorem Jk {W:List Str} {i:Nat} {ways:List Wy} {way:Wy} {f:Int→Int→Pn} {j:Nat} {ways':List Wy} {way':Wy} (h:two W i ways way f = .inr (j,ways',way')):ways'=ways∧∃ p,way'=way ++ [p]∧goodP p=true:=by
 unfold two at h
 split at h
 ·cases h
 ·exact ER h
structure PInv (ways:List Wy) (way:Wy):Prop where
 len:ways.length≤4
 ok:∀ w∈ways,isWay w=true
 pts:∀ p∈way,goodPt p=true
 short:way.length≤12
 four:way≠[]→ways.length<4
theorem TG (p:Pn):goodP p=goodPt p:=by
 unfold goodP goodPt within
 rw[Bool.eq_iff_iff]
 simp
theorem SO {ways:List Wy} {way:Wy} {p:Pn} (h:PInv ways way) (h4:ways.length<4) (h12:way.length<12) (hp:goodP p=true):PInv ways (way ++ [p]):=by
 refine ⟨h.len,h.ok,fun q hq=>?_,by rw[List.length_append,List.length_singleton]; omega,fun _=>h4⟩
 rcases List.mem_append.1 hq with hq | hq
 ·exact h.pts q hq
 ·rw[List.mem_singleton.1 hq,←TG]; exact hp
theorem Ve {W:List Str} {i:Nat} {w:Str} {ways:List Wy} {way:Wy} {j:Nat} {ways':List Wy} {way':Wy} (h:PInv ways way) (hc:cmdV W i ways way w = .inr (j,ways',way')):PInv ways' way':=by
 have key:∀ (x:CV),(∀ j ways' way',x = .inr (j,ways',way')→ways'=ways∧∃ p,way'=way ++ [p]∧goodP p=true)→ways.length<4→way.length<12→x = .inr (j,ways',way')→PInv ways' way':=by
  intro x hx h4 h12 he
  obtain ⟨a,p,b,c⟩:=hx _ _ _ he
  rw[a,b]
  exact SO h h4 h12 c
 have hlen:=h.short
 unfold cmdV at hc
 split at hc
 ·split at hc
  ·rename_i hway
   split at hc
   ·cases hc
   ·rename_i h4
    have:=h.len
    exact key _ (fun _ _ _=>Jk) (by omega) (by rw[hway]; simp) hc
  ·cases hc
 ·split at hc
  ·split at hc
   ·cases hc
   ·rename_i hne
    have h4:=h.four hne
    split at hc
    ·split at hc
     ·cases hc
     ·rename_i h3
      cases hc
      refine ⟨by rw[List.length_append,List.length_singleton]; omega,fun v hv=>?_,fun p hp=>(by cases hp),by decide,fun h=>absurd rfl h⟩
      rcases List.mem_append.1 hv with hv | hv
      ·exact h.ok v hv
      ·rw[List.mem_singleton.1 hv]
       exact R7.2 ⟨⟨by omega,h.short⟩,h.pts⟩
    ·split at hc
     ·cases hc
     ·rename_i h12
      have h12:way.length<12:=by omega
      split at hc
      ·exact key _ (fun _ _ _=>Jk) h4 h12 hc
      ·split at hc
       ·exact key _ (fun _ _ _=>Jk) h4 h12 hc
       ·split at hc
        ·exact key _ (fun _ _ _=>ER) h4 h12 hc
        ·split at hc
         ·exact key _ (fun _ _ _=>ER) h4 h12 hc
         ·split at hc
          ·exact key _ (fun _ _ _=>ER) h4 h12 hc
          ·exact key _ (fun _ _ _=>ER) h4 h12 hc
  ·cases hc
theorem Nc {W:List Str}:∀ (n i:Nat) (ways:List Wy) (way:Wy),PInv ways way→∀ ways' way',parse W n i ways way = .inr (ways',way')→PInv ways' way'
 | 0,i,ways,way,h,ways',way',he=>by
  rw[parse] at he
  cases he
  exact h
 | n + 1,i,ways,way,h,ways',way',he=>by
  rw[parse] at he
  split at he
  ·cases he; exact h
  ·rename_i w hw
   cases hc:cmdV W i ways way w with
   | inl e=>rw[hc] at he; cases he
   | inr v =>
    obtain ⟨j,a,b⟩:=v
    rw[hc] at he
    exact Nc n j a b (Ve h hc) _ _ he
theorem P9 {W:List Str} {i:Nat} {w:Str} {ways:List Wy} {way:Wy} {j:Nat} {ways':List Wy} {way':Wy} (hc:cmdV W i ways way w = .inr (j,ways',way')):way'≠[]∨1≤ways'.length:=by
 have k2:∀ f:Int→Int→Pn,two W (i + 1) ways way f = .inr (j,ways',way')→way'≠[]∨1≤ways'.length:=fun f h=>by
  obtain ⟨_,p,b,_⟩:=Jk h
  left; rw[b]; simp
 have k1:∀ f:Int→Pn,one W (i + 1) ways way f = .inr (j,ways',way')→way'≠[]∨1≤ways'.length:=fun f h=>by
  obtain ⟨_,p,b,_⟩:=ER h
  left; rw[b]; simp
 unfold cmdV at hc
 repeat' split at hc
 all_goals first
  | exact k2 _ hc
  | exact k1 _ hc
  | (cases hc; right; simp)
  | cases hc
theorem LC {W:List Str}:∀ (n i:Nat) (ways:List Wy) (way:Wy),(way≠[]∨1≤ways.length)→∀ ways' way',parse W n i ways way = .inr (ways',way')→way'≠[]∨1≤ways'.length
 | 0,i,ways,way,h,ways',way',he=>by
  rw[parse] at he
  cases he
  exact h
 | n + 1,i,ways,way,h,ways',way',he=>by
  rw[parse] at he
  split at he
  ·cases he; exact h
  ·rename_i w hw
   cases hc:cmdV W i ways way w with
   | inl e=>rw[hc] at he; cases he
   | inr v =>
    obtain ⟨j,a,b⟩:=v
    rw[hc] at he
    exact LC n j a b (P9 hc) _ _ he
theorem S3 {s:Str} {l:List Wy} {c at_:Int} (h:pathV s=(l,c,at_,true)):goodWays l=true∧c=0∧at_=0:=by
 unfold pathV at h
 split at h
 ·split at h
  ·cases h
  ·rename_i ways way hp
   split at h
   ·cases h
   ·rename_i hw
    have hw:way = []:=Classical.byContradiction fun h=>hw h
    have inv:=Nc _ _ _ _ (⟨by simp,by simp,by simp,by simp,fun h=>absurd rfl h⟩:PInv [] []) _ _ hp
    have h1 : 1≤ways.length:=by
     have hne:=Te 32 s
     obtain ⟨x,r,hx⟩:∃ x r,parts 32 s=x::r:=List.exists_cons_of_ne_nil hne
     rw[parse,hx] at hp
     simp only[List.getElem?_cons_zero] at hp
     cases hc:cmdV (x::r) 0 [] [] x with
     | inl e=>rw[hc] at hp; cases hp
     | inr v =>
      obtain ⟨j,a,b⟩:=v
      rw[hc] at hp
      rcases LC _ _ _ _ (P9 hc) _ _ hp with h | h
      ·exact absurd hw h
      ·exact h
    cases h
    refine ⟨?_,rfl,rfl⟩
    unfold goodWays
    rw[Bool.and_eq_true,Bool.and_eq_true,decide_eq_true_eq,decide_eq_true_eq]
    exact ⟨List.all_eq_true.2 inv.ok,h1,inv.len⟩
 ·cases h
theorem Tg {W:List Str} {i:Nat} {w:Str} {ways:List Wy} {way:Wy} {c:Int} {j:Nat} (hc:cmdV W i ways way w = .inl (c,j)):c≠0:=by
 have kp:∀ (a:Nat) (p:Pn),ptV goodP a ways way p = .inl (c,j)→c≠0:=fun a p h=>by
  unfold ptV at h
  split at h <;> cases h
  omega
 have k1:∀ (a:Nat) (f:Int→Pn),one W a ways way f = .inl (c,j)→c≠0:=fun a f h=>by
  unfold one at h
  split at h
  ·cases h; omega
  ·exact kp _ _ h
 have k2:∀ (a:Nat) (f:Int→Int→Pn),two W a ways way f = .inl (c,j)→c≠0:=fun a f h=>by
  unfold two at h
  split at h
  ·cases h; omega
  ·exact k1 _ _ h
 unfold cmdV at hc
 repeat' split at hc
 all_goals first
  | exact k2 _ _ hc
  | exact k1 _ _ hc
  | (cases hc; omega)
  | cases hc
theorem Lj {W:List Str}:∀ (n i:Nat) (ways:List Wy) (way:Wy) (c:Int) (j:Nat),parse W n i ways way = .inl (c,j)→c≠0
 | 0,i,ways,way,c,j,he=>by rw[parse] at he; cases he
 | n + 1,i,ways,way,c,j,he=>by
  rw[parse] at he
  split at he
  ·cases he
  ·rename_i w hw
   cases hc:cmdV W i ways way w with
   | inl e=>rw[hc] at he; cases he; exact Tg hc
   | inr v =>
    obtain ⟨j',a,b⟩:=v
    rw[hc] at he
    exact Lj n j' a b c j he
theorem Um {s:Str} {l:List Wy} {c at_:Int} (h:pathV s=(l,c,at_,false)):c≠0∧l = []:=by
 unfold pathV at h
 split at h
 ·split at h
  ·rename_i c' i hp
   cases h
   exact ⟨Lj _ _ _ _ _ _ hp,rfl⟩
  ·split at h <;> cases h
   exact ⟨by omega,rfl⟩
 ·cases h; exact ⟨by omega,rfl⟩
end
section
open Go
theorem SC (l:List Int):(strOf l).length=l.length:=by unfold strOf; simp
theorem S2 {B':Nat} {c:List Int×Int×Int} (h:Cur B' c) (hB:B'≤90000000) (t w:Str) (ht:t.length≤100000) (hw : 1≤w.length) (hw2:w.length≤1000):∃ c' r,A1 c t w=some (c',r)∧Cur (B' + 100) c'∧r.length≤t.length + 3:=by
 unfold A1
 obtain ⟨c0,v0,e0,q0,a0,b0⟩:=AG h (by omega) 3
 have b0:=b0 (by omega)
 obtain ⟨r,e1,q1,n1⟩:=Pz (f:=fun (s:((List Int×Int×Int)×((List UInt8)×((List UInt8)×Int))))=>BG s.1 s.2.1 s.2.2.1 s.2.2.2) (I:=fun s=>s.2.2.1=w∧0≤s.2.2.2∧s.2.2.2≤3∧Cur (B' + 50-6*s.2.2.2.toNat) s.1∧s.2.1.length + s.2.2.2.toNat≤t.length + 3)
  (R:=fun s=>Cur (B' + 100) s.1∧s.2.length≤t.length + 3) (fun s=>s.2.2.2.toNat)
  (by
   rintro ⟨c,s,w',n⟩ ⟨i1,i2,i3,i4,i5⟩
   simp only at i1 i2 i3 i4 i5
   subst i1
   simp only
   unfold BG
   by_cases hn : 0<n
   ·rw[decide_eq_true (show n>0 from hn),cT]
    by_cases hs : 0<s.length
    ·rw[decide_eq_true (show ((s.length:Nat):Int)>0 by omega),cT]
     obtain ⟨c1,v1,e1,q1,a1,b1⟩:=AG i4 (by omega) (s.length:Int)
     obtain ⟨c2,v2,e2,q2,a2,b2⟩:=AG q1 (by omega) (w'.length:Int)
     obtain ⟨c3,v3,e3,q3,a3,b3⟩:=AG q2 (by omega) 3
     have b1:=b1 (by omega)
     have b2:=b2 (by omega)
     have b3:=b3 (by omega)
     obtain ⟨x,hx,_⟩:=KY a2 b2
     have s1:subI (0:Int) v1 s.length=some (0,v1.toNat):=by unfold subI; rw[if_pos (by omega)]; rfl
     have s2:subI v1 (s.length:Int) s.length=some (v1.toNat,s.length):=by unfold subI; rw[if_pos (by omega)]; rfl
     have s3:subI (v1 + 1) (s.length:Int) s.length=some ((v1 + 1).toNat,s.length):=by unfold subI; rw[if_pos (by omega)]; rfl
     simp only[peta,e1,e2,e3,hx,obs,s1,s2,wrapI (n:=v1 + 1) (by omega) (by omega),s3,wrapI (n:=n-1) (by omega) (by omega)]
     have len1:(strOf [((UInt8.toNat x:Nat):Int)]).length=1:=by rw[SC]; rfl
     have fin:∀ (y:Str),y.length≤s.length + 1→(∃ s',(some (Sum.inl (c3,(y,(w',n-1)))):Option (((List Int×Int×Int)×(Str×(Str×Int))) ⊕ ((List Int×Int×Int)×Str)))=some (Sum.inl s')∧(s'.2.2.1=w'∧0≤s'.2.2.2∧s'.2.2.2≤3∧Cur (B' + 50-6*s'.2.2.2.toNat) s'.1∧s'.2.1.length + s'.2.2.2.toNat≤t.length + 3)∧s'.2.2.2.toNat<n.toNat):=by
      intro y hy
      exact ⟨_,rfl,⟨rfl,by simp only; omega,by simp only; omega,q3.mono (by simp only; omega),by simp only; omega⟩,by simp only; omega⟩
     by_cases h0:v3=0
     ·rw[show (v3==0)=true by simp[h0],cT,AE (by simp[len1]; omega),obs,AE (by simp[len1]; omega),obs]
      exact .inl (fin _ (by simp[len1]; omega))
     ·rw[show (v3==0)=false from beq_eq_false_iff_ne.2 h0,cF]
      by_cases h1:v3=1
      ·rw[show (v3==1)=true by simp[h1],cT,AE (by simp[len1]; omega),obs,AE (by simp[len1]; omega),obs]
       exact .inl (fin _ (by simp[len1]; omega))
      ·rw[show (v3==1)=false from beq_eq_false_iff_ne.2 h1,cF,AE (by simp; omega),obs]
       exact .inl (fin _ (by simp; omega))
    ·rw[decide_eq_false (show ¬((s.length:Nat):Int)>0 by omega),cF]
     exact .inr ⟨_,rfl,i4.mono (by omega),by simp only; omega⟩
   ·rw[decide_eq_false (show ¬n>0 by omega),cF]
    exact .inr ⟨_,rfl,i4.mono (by omega),by simp only; omega⟩) (c0,t,w,v0) ⟨rfl,by simp only; omega,by simp only; omega,q0.mono (by simp only; omega),by simp only; omega⟩
 simp only[e0,obs,peta]
 have e1':loopM (fun (s:((List Int×Int×Int)×((List UInt8)×((List UInt8)×Int))))=>BG s.1 s.2.1 s.2.2.1 s.2.2.2) (c0,(t,(w,v0)))=some r:=e1
 rw[e1',obs]
 exact ⟨r.1,r.2,by rw[peta],q1,n1⟩
end
section
open Go
abbrev CuP:=List Int×Int×Int
theorem RU {B':Nat} {c:CuP} (h:Cur B' c) (hB:B'≤90000000):∃ c' l,Bu c=some (c',l)∧Cur (B' + 10000) c'∧l.length≤10∧∀ w∈l,w.length≤13:=by
 unfold Bu
 obtain ⟨c0,v0,e0,q0,a0,b0⟩:=AG h (by omega) 2
 obtain ⟨c1,v1,e1,q1⟩:=H7 q0 (by omega) 20
 have b0:=b0 (by omega)
 simp only[peta]
 rw[e0,obs,e1,obs]
 have loop:∀ (n:Nat) (B1:Nat) (c:CuP) (l:Ways),Cur B1 c→B1 + 500*n≤100000000→l.length + n≤10→(∀ w∈l,w.length≤13) →
   ∃ c' l',loopM (fun (s:(CuP×(Ways×Int)))=>AL s.1 s.2.1 s.2.2) (c,(l,(n:Int)))=some (c',l')∧Cur (B1 + 500*n) c'∧l'.length≤10∧∀ w∈l',w.length≤13:=by
  intro n
  induction n with
  | zero =>
   intro B1 c l hc _ hl hw
   refine ⟨c,l,AN ?_,hc.mono (by omega),by omega,hw⟩
   show AL c l ((0:Nat):Int)=_
   unfold AL
   rfl
  | succ n ih =>
   intro B1 c l hc hB1 hl hw
   obtain ⟨c1,w,e1,q1,g1⟩:=Vu hc (by omega)
   obtain ⟨c',l',i1,i2,i3,i4⟩:=ih (B1 + 500) c1 (l ++ [w]) q1 (by omega) (by simp; omega) (by
    intro x hx
    rcases List.mem_append.1 hx with hx | hx
    ·exact hw x hx
    ·rw[List.mem_singleton.1 hx]; exact g1.hi)
   refine ⟨c',l',?_,i2.mono (by omega),i3,i4⟩
   have hgo:AL c l ((n + 1:Nat):Int)=some (.inl (c1,(l ++ [w],(n:Int)))):=by
    unfold AL
    rw[decide_eq_true (by omega)]
    simp only[cT,peta]
    rw[e1,obs,B4 (by simp[maxBytes]; omega) (by simp[maxBytes]; omega),obs,wrapI (by omega) (by omega),show ((n + 1:Nat):Int)-1=(n:Int) by omega]
   exact (Ca (f:=fun (s:(CuP×(Ways×Int)))=>AL s.1 s.2.1 s.2.2) (s:=(c,(l,((n + 1:Nat):Int)))) hgo).trans i1
 have fin:∀ (c3:CuP) (v:Int),Cur (B' + 100) c3→0≤v→v≤8→∃ c' l,((loopM (fun (s:(CuP×(Ways×Int)))=>AL s.1 s.2.1 s.2.2) (c3,(([]:Ways),v))).bind fun x6=>some x6)=some (c',l)∧Cur (B' + 10000) c'∧l.length≤10∧∀ w∈l,w.length≤13:=by
  intro c3 v q3 hv0 hv1
  obtain ⟨n,rfl⟩:∃ n:Nat,v=(n:Int):=⟨v.toNat,by omega⟩
  obtain ⟨c',l,h1,h2,h3,h4⟩:=loop n (B' + 100) c3 [] q3 (by omega) (by simp; omega) (by simp)
  rw[h1,obs]
  exact ⟨c',l,rfl,h2.mono (by omega),h3,h4⟩
 cases v1 with
 | true =>
  obtain ⟨c2,v2,e2,q2,a2,b2⟩:=AG q1 (by omega) 6
  have b2:=b2 (by omega)
  simp only[cT]
  rw[e2,obs,obs,sEr]
  exact fin c2 v2 (q2.mono (by omega)) (by omega) (by omega)
 | false =>
  simp only[cF]
  rw[obs,sEr,wrapI (by omega) (by omega)]
  exact fin c1 (1 + v0) (q1.mono (by omega)) (by omega) (by omega)
theorem TU {B':Nat} {c:CuP} (h:Cur B' c) (hB:B'≤800000000) (l:List Str) (h1 : 1≤l.length) (h2:l.length<1000000):∃ c' v,Bm c l=some (c',v)∧Cur (B' + 2) c'∧v∈l:=by
 unfold Bm
 obtain ⟨c1,v1,e1,q1,b1,b2⟩:=AG h (by omega) (l.length:Int)
 have:=b2 (by omega)
 obtain ⟨a,ha,hm⟩:=KY b1 this
 simp only[peta]
 rw[e1,obs]
 simp only
 rw[ha,obs]
 exact ⟨c1,a,rfl,q1,List.mem_of_getElem? hm⟩
theorem Mb {v:Str} {l:List Str} {n:Nat} (hl:l.all (fun x=>decide (x.length≤n))=true) (h:v∈l):v.length≤n:=of_decide_eq_true (List.all_eq_true.1 hl v h)
theorem Nn:∀ (n:Nat) (B':Nat) (c:CuP) (t:Str),Cur B' c→B' + 2*n≤100000000→t.length + 7*n≤100000→∃ c' t',loopM (fun (s:(CuP×(Str×Int)))=>AO s.1 s.2.1 s.2.2) (c,(t,(n:Int)))=some (c',t')∧Cur (B' + 2*n) c'∧t'.length≤t.length + 7*n
 | 0,B',c,t,hc,_,_=>by
  refine ⟨c,t,AN ?_,hc.mono (by omega),by omega⟩
  show AO c t ((0:Nat):Int)=_
  unfold AO
  rfl
 | n + 1,B',c,t,hc,hB,ht=>by
  obtain ⟨c1,v,e1,q1,hv⟩:=TU hc (by omega) [[32,76,32,52,32,49],[32,108,32,50,32,51],[32,108,32,45,49,32,50],[32,72,32,53],[32,104,32,45,50],[32,86,32,51],[32,118,32,50],[32,76,32,48,32,48],[32,104,32,49]] (by simp) (by simp)
  have hv7:v.length≤7:=Mb (by decide) hv
  obtain ⟨c',t',h1,h2,h3⟩:=Nn n (B' + 2) c1 (t++v) q1 (by omega) (by rw[List.length_append]; omega)
  refine ⟨c',t',?_,h2.mono (by omega),by rw[List.length_append] at h3; omega⟩
  have hgo:AO c t ((n + 1:Nat):Int)=some (.inl (c1,(t++v,(n:Int)))):=by
   unfold AO
   rw[decide_eq_true (by omega)]
   simp only[cT,peta]
   rw[e1,obs]
   simp only
   rw[AE (by omega),obs,wrapI (by omega) (by omega),show ((n + 1:Nat):Int)-1=(n:Int) by omega]
  exact (Ca (f:=fun (s:(CuP×(Str×Int)))=>AO s.1 s.2.1 s.2.2) (s:=(c,(t,((n + 1:Nat):Int)))) hgo).trans h1
theorem Q3 (l:Ways):(printV l).1.length≤400:=by
 unfold printV
 split
 ·split
  ·assumption
  ·simp
 ·simp
theorem shorts {l:Ways} (h1:l.length≤1000) (h2:∀ w∈l,w.length≤1000):Short l∧∀ w∈l,Short w:=⟨by unfold Short; omega,fun w hw=>by have:=h2 w hw; unfold Short; omega⟩
theorem UU {B':Nat} {c:CuP} (h:Cur B' c) (hB:B'≤10000000):∃ c' t,BW c=some (c',t)∧Cur (B' + 30000) c'∧t.length≤1000:=by
 unfold BW
 obtain ⟨c0,v0,e0,q0⟩:=H7 h (by omega) 3
 simp only[peta]
 rw[e0,obs]
 have main:∀ c1:CuP,Cur (B' + 20000) c1→∃ c' t,(((Ab c1 (5:Int))).bind fun x6 =>
  ((A5 x6.2)).bind fun x7 =>
  ((catS (List.cons 77 (List.cons 32 (List.nil:List UInt8))) x7)).bind fun x8 =>
  ((catS x8 (List.cons 32 (List.nil:List UInt8)))).bind fun x9 =>
  ((Ab x6.1 (5:Int))).bind fun x10 =>
  ((A5 x10.2)).bind fun x11 =>
  ((catS x9 x11)).bind fun x12 =>
  ((Ab x10.1 (4:Int))).bind fun x13 =>
  (loopM (fun (s:(((List Int)×(Int×Int))×((List UInt8)×Int)))=>AO s.1 s.2.1 s.2.2) (x13.1,(x12,(IntKind.wrap .i64 ((2:Int) + x13.2))))).bind fun x14 =>
  ((catS x14.2 (List.cons 32 (List.cons 90 (List.nil:List UInt8))))).bind fun x15 =>
  (((Am x14.1 (4:Int))).bind fun x16 =>
   bif x16.2 then
    ((catS x15 (List.cons 32 (List.cons 77 (List.cons 32 (List.cons 48 (List.cons 32 (List.cons 48 (List.cons 32 (List.cons 72 (List.cons 32 (List.cons 51 (List.cons 32 (List.cons 118 (List.cons 32 (List.cons 50 (List.cons 32 (List.cons 90 (List.nil:List UInt8))))))))))))))))))).bind fun x17 =>
    some (Sum.inr (x16.1,x17))
   else
   some (Sum.inr (x16.1,x15))).bind fun x18 =>
  Sum.elim
   (fun (x19:CuP×Str) =>
   some x19)
   (fun x20 =>
   (((Am x20.1 (8:Int))).bind fun x21 =>
    bif x21.2 then
     ((A1 x21.1 x20.2 (List.cons 77 (List.cons 76 (List.cons 90 (List.cons 32 (List.cons 48 (List.cons 45 (List.cons 57 (List.nil:List UInt8)))))))))).bind fun x22 =>
     some (Sum.inr x22)
    else
    some (Sum.inr (x21.1,x20.2))).bind fun x23 =>
   Sum.elim
    (fun (x24:CuP×Str) =>
    some x24)
    (fun x25 =>
    ((Am x25.1 (12:Int))).bind fun x26 =>
    bif x26.2 then
     ((Bm x26.1 (List.cons (List.cons 32 (List.cons 77 (List.cons 32 (List.cons 49 (List.cons 32 (List.cons 49 (List.nil:List UInt8))))))) (List.cons (List.cons 32 (List.cons 76 (List.cons 32 (List.cons 49 (List.cons 32 (List.cons 49 (List.nil:List UInt8))))))) (List.cons (List.cons 32 (List.cons 81 (List.nil:List UInt8))) (List.cons (List.cons 32 (List.cons 77 (List.cons 32 (List.cons 49 (List.nil:List UInt8))))) (List.cons (List.cons 32 (List.cons 77 (List.cons 32 (List.cons 57 (List.cons 57 (List.cons 57 (List.cons 57 (List.cons 32 (List.cons 48 (List.nil:List UInt8)))))))))) (List.cons (List.nil:List UInt8) (List.nil:List (List UInt8)))))))))).bind fun x27 =>
     ((catS x25.2 x27.2)).bind fun x28 =>
     some (x27.1,x28)
    else
    some (x26.1,x25.2))
    x23)
   x18)=some (c',t)∧Cur (B' + 30000) c'∧t.length≤1000:=by
  intro c1 q1
  obtain ⟨c2,v2,e2,q2,a2,b2⟩:=AG q1 (by omega) 5
  obtain ⟨c3,v3,e3,q3,a3,b3⟩:=AG q2 (by omega) 5
  obtain ⟨c4,v4,e4,q4,a4,b4⟩:=AG q3 (by omega) 4
  have b2:=b2 (by omega); have b3:=b3 (by omega); have b4:=b4 (by omega)
  have n2:=En (n:=v2) (by omega) (by omega)
  have n3:=En (n:=v3) (by omega) (by omega)
  obtain ⟨k,hk⟩:∃ k:Nat,2 + v4=(k:Int):=⟨(2 + v4).toNat,by omega⟩
  obtain ⟨c5,t5,e5,q5,l5⟩:=Nn k (B' + 20006) c4 ((([77,32]++Lib.itoa v2) ++ [32])++Lib.itoa v3) (q4.mono (by omega)) (by omega) (by simp; omega)
  have hl0:(([77,32]++Lib.itoa v2 ++ [32])++Lib.itoa v3:Str).length≤45:=by simp; omega
  rw[e2,obs]
  simp only
  rw[Ej (by omega) (by omega),obs,AE (by simp; omega),obs,AE (by simp; omega),obs,e3,obs]
  simp only
  rw[Ej (by omega) (by omega),obs,AE (by simp; omega),obs,e4,obs]
  simp only
  rw[wrapI (by omega) (by omega),hk]
  rw[e5,obs]
  simp only
  rw[AE (by simp; omega),obs]
  obtain ⟨c6,v6,e6,q6⟩:=H7 q5 (by omega) 4
  have st6:∃ t6:Str,(((Am c5 (4:Int))).bind fun x16 =>
   bif x16.2 then
    ((catS (t5 ++ [32,90]) (List.cons 32 (List.cons 77 (List.cons 32 (List.cons 48 (List.cons 32 (List.cons 48 (List.cons 32 (List.cons 72 (List.cons 32 (List.cons 51 (List.cons 32 (List.cons 118 (List.cons 32 (List.cons 50 (List.cons 32 (List.cons 90 (List.nil:List UInt8))))))))))))))))))).bind fun x17 =>
    some (Sum.inr (x16.1,x17))
   else
   some (Sum.inr (x16.1,(t5 ++ [32,90]))))=(some (Sum.inr (c6,t6)):Option ((CuP×Str) ⊕ (CuP×Str)))∧t6.length≤200:=by
   rw[e6,obs]
   cases v6 with
   | true=>exact ⟨_,by simp only[cT]; rw[AE (by simp; omega),obs],by simp; omega⟩
   | false=>exact ⟨_,by simp only[cF]; rfl,by simp; omega⟩
  obtain ⟨t6,e6',l6⟩:=st6
  rw[e6',obs,sEr]
  simp only
  obtain ⟨c7,v7,e7,q7⟩:=H7 q6 (by omega) 8
  have st7:∃ (c8:CuP) (t8:Str),(((Am c6 (8:Int))).bind fun x21 =>
    bif x21.2 then
     ((A1 x21.1 t6 (List.cons 77 (List.cons 76 (List.cons 90 (List.cons 32 (List.cons 48 (List.cons 45 (List.cons 57 (List.nil:List UInt8)))))))))).bind fun x22 =>
     some (Sum.inr x22)
    else
    some (Sum.inr (x21.1,t6)))=(some (Sum.inr (c8,t8)):Option ((CuP×Str) ⊕ (CuP×Str)))∧Cur (B' + 20400) c8∧t8.length≤300:=by
   rw[e7,obs]
   cases v7 with
   | true =>
    obtain ⟨c8,t8,e8,q8,l8⟩:=S2 q7 (by omega) t6 [77,76,90,32,48,45,57] (by omega) (by simp) (by simp)
    exact ⟨c8,t8,by simp only[cT]; rw[e8,obs],q8.mono (by omega),by omega⟩
   | false=>exact ⟨c7,t6,by simp only[cF],q7.mono (by omega),by omega⟩
  obtain ⟨c8,t8,e8,q8,l8⟩:=st7
  rw[e8,obs,sEr]
  simp only
  obtain ⟨c9,v9,e9,q9⟩:=H7 q8 (by omega) 12
  rw[e9,obs]
  cases v9 with
  | true =>
   obtain ⟨c10,v10,e10,q10,hm⟩:=TU q9 (by omega) [[32,77,32,49,32,49],[32,76,32,49,32,49],[32,81],[32,77,32,49],[32,77,32,57,57,57,57,32,48],[]] (by simp) (by simp)
   have:=Mb (n:=9) (by decide) hm
   simp only[cT]
   rw[e10,obs]
   simp only
   rw[AE (by omega),obs]
   exact ⟨c10,_,rfl,q10.mono (by omega),by simp; omega⟩
  | false=>exact ⟨c9,t8,by simp only[cF],q9.mono (by omega),by omega⟩
 cases v0 with
 | true =>
  obtain ⟨c1,l,e1,q1,l1,w1⟩:=RU q0 (by omega)
  obtain ⟨sh1,sh2⟩:=shorts (l:=l) (by omega) (fun w hw=>by have:=w1 w hw; omega)
  simp only[cT]
  rw[e1,obs]
  simp only
  rw[Km sh1 sh2,obs]
  cases hp:(printV l).2 with
  | true =>
   have:=Q3 l
   rw[cT,obs,sEl]
   exact ⟨c1,_,rfl,q1.mono (by omega),by omega⟩
  | false =>
   rw[cF,obs,sEr]
   exact main c1 (q1.mono (by omega))
 | false =>
  simp only[cF]
  rw[obs,sEr]
  exact main c0 (q0.mono (by omega))
end
section
open Go Go.RowKit Go.ChangeShapes Go.WideShapes Go.ChangeAt
theorem Jm {l:List Int} (h:WFC (.sl 1 (.int .u8)) l):(∀ x∈l,0≤x∧x≤255)∧l.length≤1000000000000000:=by
 have h1:∀ x∈l,(Lit.int .u8 x).wf=true:=h.1
 have h2:l.length*1≤maxBytes:=h.2
 refine ⟨fun x hx=>?_,by unfold maxBytes at h2; omega⟩
 have:=h1 x hx
 simp[Lit.wf,IntKind.min,IntKind.max,IntKind.bits,IntKind.signed] at this
 omega
end
section
open Go
theorem F5 {l:Ways} (h1:l.length≤1000) (h2:∀ w∈l,w.length≤1000):AQ l l=some true:=by
 unfold AQ
 rw[bne_self_eq_false,cF]
 obtain ⟨k1,k2⟩:=Nx (l:=l) (body:=fun (s:(Ways×(Ways×(Int×Int))))=>A4 s.1 s.2.1 s.2.2.1 s.2.2.2)
  (st:=fun k (b:Unit)=>(l,(l,((l.length:Int),(k:Int))))) (step:=fun b p=>()) (fin:=fun b=>.inl ()) (I:=fun k b=>True)
  (by
   rintro k b p hk _
   have hkl:=getL hk
   have hp:=h2 p (List.mem_of_getElem? hk)
   refine ⟨?_,trivial⟩
   show A4 l l (l.length:Int) (k:Int)=_
   unfold A4
   rw[decide_eq_true (by omega),cT,Ak,hk,obs,obs,SZ (by unfold Short; omega),obs,nT,cF,wrap1 (by omega)])
  (by
   rintro b _
   show A4 l l (l.length:Int) (l.length:Int)=_
   unfold A4
   rw[decide_eq_false (by omega)]
   rfl) () trivial
 have k1':loopM (fun (s:(Ways×(Ways×(Int×Int))))=>A4 s.1 s.2.1 s.2.2.1 s.2.2.2) (l,(l,((l.length:Int),(0:Int))))=_:=k1
 rw[k1']
 rfl
theorem Q7 {l:Ways} (h:goodWays l=true):l.length≤1000∧∀ w∈l,w.length≤1000:=by
 obtain ⟨h1,h2⟩:=CD h
 exact ⟨by omega,fun w hw=>by have:=(h2 w hw).1; omega⟩
theorem NE {l:Ways} (h:(printV l).2=true):goodWays l=true∧printV l=(printW l,true)∧(printW l).length≤400:=by
 unfold printV at h ⊢
 split at h
 ·rename_i hg
  split at h
  ·rename_i hl
   rw[if_pos hg,if_pos hl]
   exact ⟨hg,rfl,hl⟩
  ·cases h
 ·cases h
theorem M0 (v:Int) (h : -20000≤v∧v≤20000):Bz v=some (if -9999≤v∧v≤9999 then (Lib.itoa v,true) else ([],false)):=by
 unfold Bz
 rw[Rz,obs]
 by_cases hv : -9999≤v∧v≤9999
 ·rw[decide_eq_true hv,nT,cF,JT (by omega) (by omega),obs,if_pos hv]
 ·rw[decide_eq_false hv,nF,cT,if_neg hv]
theorem MT (v:Int) (h : -20000≤v∧v≤20000):Bv v=some (if -9999≤v∧v≤9999 then (Lib.itoa v,true) else ([],false)):=by
 have e:BT v (-9999) 9999=some (decide (-9999≤v∧v≤9999)):=by
  rw[Oe]
  congr 1
  unfold within
  rw[Bool.decide_and]
 unfold Bv
 rw[e,obs]
 by_cases hv : -9999≤v∧v≤9999
 ·rw[decide_eq_true hv,nT,cF,Ej (by omega) (by omega),obs,if_pos hv]
 ·rw[decide_eq_false hv,nF,cT,if_neg hv]
theorem Qr {b:List Int} (hb:Cur 0 (b,0,0)) :
  (((A0 b)).bind fun x24 =>
    ((Bz x24)).bind fun x25 =>
    ((Bv x24)).bind fun x26 =>
    ((AZ b)).bind fun x27 =>
    ((AV x27)).bind fun x28 =>
    ((A6 x27)).bind fun x29 =>
    bif (!(x25.2==x26.2)) then
     some false
    else
    bif (!(x25.1==x26.1)) then
     some false
    else
    bif (!(x28.2==x29.2)) then
     some false
    else
    bif (x28.1 != x29.1) then
     some false
    else
    bif x25.2 then
     ((AV x25.1)).bind fun x30 =>
     bif x30.2 then
      some (x30.1==x24)
     else
     some false
    else
    some true)=some true:=by
 have d1:∃ v,A0 b=some v∧-20000≤v∧v≤20000:=by
  obtain ⟨c1,v,e1,q1,hm⟩:=P5 hb (by omega) [(0:Int),5,-5,9999,-9999,10000,-10000,42] (by simp) (by simp)
  unfold A0
  rw[e1,obs]
  refine ⟨v,rfl,?_⟩
  simp at hm
  omega
 have d2:∃ t,AZ b=some t∧t.length≤10:=by
  obtain ⟨c1,v,e1,q1,hm⟩:=TU hb (by omega) [[48],[45,48],[55],[45,49,50],[57,57,57,57],[49,48,48,48,48],[48,48,55],[],[45],[49,97],[45,57,57,57,57]] (by simp) (by simp)
  unfold AZ
  rw[e1,obs]
  exact ⟨v,rfl,Mb (by decide) hm⟩
 obtain ⟨v,ev,hv⟩:=d1
 obtain ⟨t,et,ht⟩:=d2
 rw[ev,obs,M0 v hv,obs,MT v hv,obs,et,obs,Fw (by omega),obs,I3 (by omega),obs]
 simp only[beq_self_eq_true,nT,cF,bne_self_eq_false]
 by_cases h : -9999≤v∧v≤9999
 ·have hl:=En (n:=v) (by omega) (by omega)
  rw[if_pos h]
  simp only
  rw[cT,Fw (by omega),obs,Ms h]
  simp only
  rw[cT,beq_self_eq_true]
 ·rw[if_neg h]
  simp only
  rw[cF]
theorem SM {l:Ways} (h1:l.length≤1000) (h2:∀ w∈l,w.length≤1000) (b:List Int) :
  (bif (printV l).2 then
   ((AJ (printV l).1)).bind fun x5 =>
   bif (!x5.2.2.2) then
    some (Sum.inl false)
   else
   bif (x5.2.1 != (0:Int)) then
    some (Sum.inl false)
   else
   bif (x5.2.2.1 != (0:Int)) then
    some (Sum.inl false)
   else
   ((AQ x5.1 l)).bind fun x6 =>
   bif (!x6) then
    some (Sum.inl false)
   else
   some (Sum.inr b)
  else
  some (Sum.inr b))=(some (Sum.inr b):Option (Bool ⊕ List Int)):=by
 cases hp:(printV l).2 with
 | false=>rw[cF]
 | true =>
  obtain ⟨hg,e,h400⟩:=NE hp
  rw[cT,e]
  simp only
  rw[Gi (by omega),obs,M9 hg h400]
  simp only
  rw[nT,cF,bne_self_eq_false,cF,cF,F5 h1 h2,obs,nT,cF]
theorem Sg (t:Str) (ht:t.length≤1000) (b:List Int) (K:List Int→Option Bool) (hK:K b=some true) :
  (((AJ t)).bind fun x11 =>
  ((BN t)).bind fun x12 =>
  (bif (!(x11.2.2.2==x12.2.2.2)) then
    some (Sum.inl false)
   else
   bif (x11.2.1 != x12.2.1) then
    some (Sum.inl false)
   else
   bif (x11.2.2.1 != x12.2.2.1) then
    some (Sum.inl false)
   else
   ((AQ x11.1 x12.1)).bind fun x13 =>
   bif (!x13) then
    some (Sum.inl false)
   else
   bif (!x11.2.2.2) then
    bif (x11.2.1==(0:Int)) then
     some (Sum.inl false)
    else
    some (Sum.inr (b,(x11.1,x11.2.2.2)))
   else
   some (Sum.inr (b,(x11.1,x11.2.2.2)))).bind fun x14 =>
  Sum.elim
   (fun x15 =>
   some x15)
   (fun x16 =>
   (bif x16.2.2 then
     ((Bq x16.2.1)).bind fun x17 =>
     ((Bf x16.2.1)).bind fun x18 =>
     bif (!x18) then
      some (Sum.inl false)
     else
     bif x17.2 then
      ((AJ x17.1)).bind fun x19 =>
      bif (!x19.2.2.2) then
       some (Sum.inl false)
      else
      ((AQ x19.1 x16.2.1)).bind fun x20 =>
      bif (!x20) then
       some (Sum.inl false)
      else
      some (Sum.inr x16.1)
     else
     some (Sum.inr x16.1)
    else
    some (Sum.inr x16.1)).bind fun x21 =>
   Sum.elim
    (fun x22 =>
    some x22)
    (fun x23=>K x23)
    x21)
   x14)=some true:=by
 rw[Gi (by omega),obs,P1 (by omega),obs]
 have hv:∃ w c a ok,pathV t=(w,c,a,ok):=⟨_,_,_,_,rfl⟩
 obtain ⟨w,c,a,ok,e⟩:=hv
 rw[e]
 simp only
 rw[beq_self_eq_true,nT,cF,bne_self_eq_false,cF,bne_self_eq_false,cF]
 cases ok with
 | false =>
  obtain ⟨hc,hw⟩:=Um e
  rw[hw,F5 (by simp) (by simp),obs,nT,cF,nF,cT,show (c==0)=false from beq_eq_false_iff_ne.2 hc,cF,obs,sEr]
  simp only
  rw[cF,obs,sEr]
  exact hK
 | true =>
  obtain ⟨hg,_,_⟩:=S3 e
  obtain ⟨g1,g2⟩:=Q7 hg
  obtain ⟨sh1,sh2⟩:=shorts g1 g2
  rw[F5 g1 g2,obs,nT,cF,cF,obs,sEr]
  simp only
  rw[cT,Ko sh1 sh2,obs,HS sh1 sh2,obs,hg,nT,cF]
  have mid:(bif (printV w).2 then
      ((AJ (printV w).1)).bind fun x19 =>
      bif (!x19.2.2.2) then
       some (Sum.inl false)
      else
      ((AQ x19.1 w)).bind fun x20 =>
      bif (!x20) then
       some (Sum.inl false)
      else
      some (Sum.inr b)
     else
     some (Sum.inr b))=(some (Sum.inr b):Option (Bool ⊕ List Int)):=by
   cases hp:(printV w).2 with
   | false=>rw[cF]
   | true =>
    obtain ⟨hg,e,h400⟩:=NE hp
    rw[cT,e]
    simp only
    rw[Gi (by omega),obs,M9 hg h400]
    simp only
    rw[nT,cF,F5 g1 g2,obs,nT,cF]
  rw[mid,obs,sEr]
  exact hK
theorem pureFnPaths {a b:List Int} (ha:∀ x∈a,0≤x∧x≤255) (hb:∀ x∈b,0≤x∧x≤255) (la:a.length≤1000000000000000) (lb:b.length≤1000000000000000):C4 a b=some true:=by
 unfold C4
 rw[wrapI (by omega) (by omega)]
 by_cases hl:(a.length:Int) + (b.length:Int)>1048576
 ·rw[decide_eq_true hl]; rfl
 rw[decide_eq_false hl,cF]
 have ca:Cur 0 (a,0,0):=.start ha (by omega)
 have cb:Cur 0 (b,0,0):=.start hb (by omega)
 have last:=Qr cb
 obtain ⟨c1,l,e1,q1,l1,w1⟩:=RU ca (by omega)
 obtain ⟨c2,t,e2,q2,l2⟩:=UU cb (by omega)
 have d1:Bi a=some l:=by
  unfold Bi B7
  rw[e1,obs,obs]
 have d2:Bh b=some t:=by
  unfold Bh
  rw[e2,obs]
 have h2:∀ w∈l,w.length≤1000:=fun w hw=>by have:=w1 w hw; omega
 obtain ⟨sh1,sh2⟩:=shorts (l:=l) (by omega) h2
 have one:=SM (l:=l) (by omega) h2 b
 rw[d1,obs,Ko sh1 sh2,obs,Km sh1 sh2,obs,beq_self_eq_true,nT,cF,beq_self_eq_true,nT,cF,HS sh1 sh2,obs,LL sh1 sh2,obs,beq_self_eq_true,nT,cF,one,obs,sEr,d2,obs]
 refine Sg t l2 b _ ?_
 exact last
end
end Go.Proofs.YtiijheppiboglaaGreatDoor.Ev
section
namespace Go.Proofs.YtiijheppiboglaaGreatDoor.Ev
open Go Go.RowKit Go.ChangeShapes Go.WideShapes Go.ChangeAt
set_option maxRecDepth 100000
def shs:List Sh:=[.sl 1 (.int .u8),.sl 1 (.int .u8)]
theorem fits:FitsL Tryz.prog [32,32] shs:=by
 exact ⟨.sl (e:=5) (by kernel_rfl) (by kernel_rfl) (by kernel_rfl) (.int (by kernel_rfl)),.sl (e:=5) (by kernel_rfl) (by kernel_rfl) (by kernel_rfl) (.int (by kernel_rfl)),trivial⟩
theorem own:ownKnob Tryz.prog.godebug=none:=by kernel_rfl
theorem laid:laidOutB Tryz.prog=true:=by kernel_rfl
theorem door_met (os:Os) (args:Array Value):laidMetH Tryz.prog Rows.fnPathsRow.laid ((World.laidAll Tryz.prog os Rows.fnPathsRow.laid).forCall (fun _ _=>0) ⟨#[],args,[]⟩).memory:=by
 rw[MakeChecks.laidMetH_plain _ _ _ (by kernel_rfl)]
 exact laidMet_laidAll _ (by kernel_rfl) (by kernel_rfl)
theorem starE : "*" ++ "errors.errorString" = "*errors.errorString" := by decide
def ids:List Nat:=[0,1,2,3]
theorem libJ {W:World} (hsh:W.ShapedOpen Tryz.prog) (hL:laidMetH Tryz.prog Rows.fnPathsRow.laid W):LibJ (Jof W ids):=by
 rw[MakeChecks.laidMetH_plain _ _ _ (by kernel_rfl)] at hL
 have hP:laidMet Tryz.prog Rows.fnPathsRow.laid W:=hL
 have htab:Lib.TabIs Tryz.prog W "internal/strconv.uint64pow10" .u64 Lib.pow10Tab:=Lib.tabIs_of_head (g:=3) (t:=254) (e:=113) (n:=20) (by kernel_rfl) (by kernel_rfl) (by kernel_rfl) (by kernel_rfl) (by kernel_rfl) (by kernel_rfl) (show laidMet Tryz.prog ((_,Lib.tabData .u64 Lib.pow10Tab)::_) W from Dl 2 hP)
 have hmax:∃ m:Int,W.cell? ⟨2,0,none⟩=some (.int .i64 m):=Go.Proofs.cell_of_shapedOpen_int (zero:=#[.int .i64 0]) (t:=3) hsh (of_decide_eq_true (by kernel_rfl)) (by kernel_rfl) rfl (by kernel_rfl) (by kernel_rfl) Tryz.underlying3
 have hsyn:∃ tp p,W.var? Tryz.prog "strconv.ErrSyntax" = some #[.iface tp p]:=by
  obtain ⟨a,s,hv,_⟩:=laid_sentinel (g:=0) (ti:=125) (tp:=259) (te:=261) (ts:=9) (Dl 5 hP) (by kernel_rfl) (by kernel_rfl) Tryz.underlying125 (fun u h=>typeName_ptr_named (nm := "errors.errorString") (by rw[starE]; kernel_rfl) (by kernel_rfl) (by decide) u (by rw[starE]; exact h)) Tryz.underlying259 Tryz.underlying261 rfl rfl Tryz.underlying9 (by kernel_rfl) (by kernel_rfl)
  exact ⟨_,_,hv⟩
 have hrng:∃ tp p,W.var? Tryz.prog "strconv.ErrRange" = some #[.iface tp p]:=by
  obtain ⟨a,s,hv,_⟩:=laid_sentinel (g:=1) (ti:=125) (tp:=259) (te:=261) (ts:=9) (Dl 4 hP) (by kernel_rfl) (by kernel_rfl) Tryz.underlying125 (fun u h=>typeName_ptr_named (nm := "errors.errorString") (by rw[starE]; kernel_rfl) (by kernel_rfl) (by decide) u (by rw[starE]; exact h)) Tryz.underlying259 Tryz.underlying261 rfl rfl Tryz.underlying9 (by kernel_rfl) (by kernel_rfl)
  exact ⟨_,_,hv⟩
 unfold ids
 exact { tab:=jtab (g:=3) (by kernel_rfl) (by simp) htab,max:=jmax (g:=2) (by simp) hmax,syn:=jvar (g:=0) (by kernel_rfl) (by simp) hsyn,rng:=jvar (g:=1) (by kernel_rfl) (by simp) hrng }
theorem lifted (os:Os) (started:os.Started) (H:Type) (enc:TypeId×Value→H) :
  ReturnsInHanded {} Tryz.checked os 4 .any (fun w args=>(Rows.fnPathsSpec.pre enc Tryz.prog Tryz.f4 [] false w args∧laidMetH Tryz.prog Rows.fnPathsRow.laid w)∧sizedMet enc Tryz.prog Tryz.f4 (OpenSpec.ofChange Rows.fnPathsSpec) false w args)
   (Rows.fnPathsSpec.post enc Tryz.prog Tryz.f4 false true false false):=by
 refine Gq (C:=Tryz.checked) (X:=fun w _=>laidMetH Tryz.prog Rows.fnPathsRow.laid w) (fun _ _ _ hh h=>h.of_heap hh) own started (by kernel_rfl) Tryz.func4
  (ChangeSpec.witness_shaped (enc:=enc) (C:=Tryz.checked) (os:=os) (X:=fun w _=>laidMetH Tryz.prog Rows.fnPathsRow.laid w) false (World.laidAll Tryz.prog os Rows.fnPathsRow.laid) #[.slice none 0 0,.slice none 0 0] 8 (World.laidAll_os _ _ _) (World.shaped_of_ZipB (by kernel_rfl) (by kernel_rfl)) (by kernel_rfl) (by kernel_rfl) (by kernel_rfl) (door_met os _)) ?_
 intro W base args ds gs before hval hW hsz hsh hL
 exact Oy (P:=Tryz.prog) (J:=Jof W ids) (cf:=cf0) (ext:=ext0) (F:=fun x=>C4 x.1 x.2) (shs:=shs) (by kernel_rfl) (TL (libJ hsh hL)) Oc (fun d=>by kernel_rfl)
  (fun d hd=>pureFnPaths (Jm hd.1).1 (Jm hd.2.1).1 (Jm hd.1).2 (Jm hd.2.1).2) rfl rfl rfl (by kernel_rfl) fits laid
  (fun t ht=>by
   have:t=32:=by simpa using ht
   rcases this with rfl <;> exact ⟨by kernel_rfl,of_decide_eq_true (by kernel_rfl)⟩) rfl
  (fun ds hl=>by
   match ds,hl with
   | [_,_],_=>rfl) TV hval hW hsz
theorem hfn:Tryz.prog.funcNamed "loop.example/g00409/laws.FnPaths" = some 4:=by kernel_rfl
theorem closed:joinedFacts Tryz.prog 4 Tryz.f4 Rows.fnPathsSpec Rows.fnPathsRow=true:=by
 unfold joinedFacts
 simp only[Bool.and_eq_true]
 repeat' apply And.intro
 all_goals (as_aux_lemma=>kernel_rfl)
theorem over:Rows.fnPathsRow.holds Tryz.pinned (OpenSpec.ofChange Rows.fnPathsSpec) :=
 OpenClaim.holds_of_wide 4 Tryz.f4 rfl rfl rfl rfl rfl rfl rfl ⟨rfl,rfl,rfl,rfl,rfl⟩ rfl rfl rfl rfl rfl hfn Tryz.func4 closed
  (of_decide_eq_true (by as_aux_lemma=>kernel_rfl)) (by unfold Func.isWrapper; first | (rw[if_pos (by decide +kernel)]; kernel_rfl) | (rw[if_neg (by decide +kernel)]; exact ⟨rfl,rfl⟩))
  (fun os started H enc _=>lifted os started H enc)
theorem carded:Rows.FnPathsCardSaid :=
 Claim7.holds_tied_plain_at .later [] [.data,.data,.data,.data,.sentinel,.sentinel,.pinned] true (true, "468de68268811ac350c0866b8afcc88575c2e10ab6507847880ba7abcce4bdc1") true
  over (fun _ h=>by cases h) (by as_aux_lemma=>kernel_rfl) (fun _ h=>by cases h) fnPaths_row_tie rfl ⟨rfl,rfl⟩ (by as_aux_lemma=>kernel_rfl) rfl
  (fun f fn hf hf2=>by
   obtain rfl:f=4:=Option.some.inj (hfn.symm.trans hf) |>.symm
   obtain rfl:fn=Tryz.f4:=(Option.some.inj (Tryz.func4.symm.trans hf2)).symm
   exact ⟨by as_aux_lemma=>kernel_rfl,fun j t ht=>by
    rw[show Tryz.f4.params = #[32,32] from rfl] at ht
    have hm:t∈[32,32]:=by simpa using Array.mem_of_getElem? ht
    have hall:([32,32].all fun u=>!Tryz.prog.wantsStandIn u)=true:=by kernel_rfl
    exact (show Tryz.prog.wantsStandIn t=false by simpa using List.all_eq_true.1 hall t hm)⟩)
  (by as_aux_lemma=>kernel_rfl)
end Go.Proofs.YtiijheppiboglaaGreatDoor.Ev
namespace Go.Proofs.YtiijheppiboglaaGreatDoor
theorem fnPaths_holds:Rows.FnPathsSaid:=Ev.over
theorem fnPaths_card_holds:Rows.FnPathsCardSaid:=Ev.carded
#print axioms fnPaths_card_holds
end Go.Proofs.YtiijheppiboglaaGreatDoor

end
