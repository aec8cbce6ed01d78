/- What the theorem of this claim leans on, part 3. -/
import Derived.Test.YtiijheppiboglaaGreatDoorKB
import Derived.Laws.Strings
import Derived.Laws.StructEq
set_option maxHeartbeats 2000000
open Option renaming bind_some → za0, map_eq_some_iff → zb5, map_some → zd2, getD_some → zf5
open List renaming getElem?_eq_getElem → za1, getElem?_eq_some_iff → za3, mem_of_getElem? → za4, all_eq_true → za5, drop_eq_getElem_cons → zb0, mem_flatMap → zb1, eq_nil_of_length_eq_zero → zb2, flatMap_cons → zb4, mem_append → zb6, getD_eq_getElem?_getD → zb7, map_cons → zb8, length_cons → zb9, getElem?_take → zc0, take_of_length_le → zc4, mem_cons → zc7, all_cons → zc8, drop_eq_nil_of_le → zc9, getElem?_map → zd0, length_pos_iff → zd1, getElem?_drop → zd3, length_append → zd4, mem_map → zd5, length_map → zd7, getElem?_append_left → ze3, getElem?_append → ze6, getElem?_replicate → ze7, append_nil → ze8, drop_zero → zf0, mem_singleton → zf2, length_nil → zf3
open Bool renaming and_eq_true → za2, false_eq_true → zc3, true_and → ze1, not_eq_true' → zf4, false_and → zf8, not_true → zg0
open Nat renaming eq_of_beq_eq_true → za6, le_refl → za7, lt_or_ge → zd6, mul_le_mul_right → zd8, lt_of_lt_of_le → zd9, zero_add → ze4, le_trans → ze5, add_mul → zf6
open Sum renaming elim_inr → za8
open Int renaming mul_le_mul_of_nonneg_right → za9, mul_le_mul_of_nonneg_left → zb3, toNat_natCast → zc2, tdiv_eq_ediv_of_nonneg → zc5, tmod_eq_emod_of_nonneg → zc6, mul_add → ze0, le_of_lt → ze2, natAbs_natCast → ze9, mul_nonneg → zf1, natCast_mul → zf7, mul_comm → zf9, mul_assoc → zg1
open Array renaming getD_eq_getD_getElem? → zc1
open Go.IntKind renaming wrap → zi, i64 → zj, u64 → zk
open Option.some renaming inj → zv, injEq → zx
noncomputable section
set_option linter.unusedVariables false
set_option linter.unusedSimpArgs false
set_option linter.unusedSectionVars false
namespace Go.Proofs.YtiijheppiboglaaGreatDoor.Ev
section
open Go
inductive Ty where
 |int (k:IntKind)
 |bool
 |str
 |pair (a b:Ty)
 |sl (e:Ty)
 deriving DecidableEq
abbrev Str:=List UInt8
@[reducible] def Ty.den:Ty->Type
 |.int _=>Int
 |.bool=>Bool
 |.str=>Str
 |.pair a b=>a.den×b.den
 |.sl e=>List e.den
def Ty.size:Ty->Nat
 |.pair a b=>a.size+b.size
 |_=>1
inductive SV where
 |int (k:IntKind) (n:Int)
 |bool (b:Bool)
 |str (s:Str)
 |sc (x:Value)
 |er (b:Bool)
 |em
 |im (t:Ty) (l:List t.den)
 |ow (id:Nat)
 |ar (id lo n:Nat)
 |rf (id r c:Nat)
 |ir (t:Ty) (a:t.den) (c:Nat)
 |agg (cs:List SV)
 |tup (vs:List SV)
 |cl (f:FuncId) (caps:List SV)
 |any
 deriving Inhabited
inductive TB where
 |box (ty:TypeId) (cs:List SV)
 |arr (ty:TypeId) (deep:Bool) (t:Ty) (l:List t.den)
 |frz (ty:TypeId) (deep:Bool) (t:Ty) (l:List t.den)
abbrev TTm:=List (Nat×SV)
abbrev THp:=List (Nat×Option TB)
structure TSt where
 tm:TTm
 hp:THp
 c:Nat
def Bt:TTm->Nat->SV
 |[],_=>.any
 |(k,x)::l,i=>cond (Nat.beq i k) x (Bt l i)
def AF:THp->Nat->Option TB
 |[],_=>none
 |(k,x)::l,i=>cond (Nat.beq i k) x (AF l i)
def getD:List (Nat×TyD)->Nat->Option TyD
 |[],_=>none
 |(k,x)::l,i=>cond (Nat.beq i k) (some x) (getD l i)
def QX:Value->SV
 |.int k n=>.int k n
 |.bool b=>.bool b
 |.string s=>.str s.data.toList
 |.slice none 0 0=>.em
 |x=>if Hy x then .sc x else .any
def WG:Value->SV
 |.agg cs=>.agg (cs.toList.map QX)
 |x=>QX x
def S3:V->SV
 |.v (.int k n)=>.int k n
 |.v (.bool b)=>.bool b
 |.v (.string s)=>.str s.data.toList
 |.v x=>.sc x
 |.em=>.em
 |_=>.any
def opT(tm:TTm):Operand->SV
 |.tmp t=>Bt tm t
 |.const c=>WG c
 |.global _=>.any
 |.func f=>.cl f []
def Tf{α:Type}(x:SV)(F:SV->α):α:=
 match x with
 |.int k n=>F (.int k n)
 |.bool b=>F (.bool b)
 |.str s=>F (.str s)
 |.sc x=>F (.sc x)
 |.er b=>F (.er b)
 |.em=>F .em
 |.im t l=>F (.im t l)
 |.ow id=>F (.ow id)
 |.ar id lo n=>F (.ar id lo n)
 |.rf id r c=>F (.rf id r c)
 |.ir t a c=>F (.ir t a c)
 |.agg cs=>F (.agg cs)
 |.tup vs=>F (.tup vs)
 |.cl f caps=>F (.cl f caps)
 |.any=>F .any
def Ap4:(t:Ty)->t.den->List SV
 |.int k,n=>[.int k n]
 |.bool,b=>[.bool b]
 |.str,s=>[.str s]
 |.pair a b,x=>Ap4 a x.1++Ap4 b x.2
 |.sl e,l=>[.im e l]
def Ip{t e:Ty}(h:t=e)(l:List t.den):List e.den:=h▸l
def asL(e:Ty):SV->Option (List e.den)
 |.em=>some []
 |.im t l=>if h:t=e then some (Ip h l)else none
 |_=>none
def RN:(t:Ty)->List SV->Option (t.den×List SV)
 |.int k,.int k' n::r=>if k'=k then some (n,r)else none
 |.bool,.bool b::r=>some (b,r)
 |.str,.str s::r=>some (s,r)
 |.pair a b,cs=>
  match RN a cs with
  |some (x,r)=>(match RN b r with|some (y,r')=>some ((x,y),r')|none=>none)
  |none=>none
 |.sl e,v::r=>(match asL e v with|some l=>some (l,r)|none=>none)
 |_,_=>none
def A0D(t:Ty)(cs:List SV):Option t.den:=
 match RN t cs with
 |some (x,[])=>some x
 |_=>none
def Dl:SV->List SV
 |.agg cs=>cs
 |x=>[x]
def okT:SV->Bool
 |.int .. |.bool _|.str _|.sc _|.em|.im .. |.ow _|.ar .. |.rf .. |.ir .. =>true
 |.cl _ []=>true
 |_=>false
def mkT(g:Bool)(cs:List SV):Option SV:=
 if g then some (.agg cs)else match cs with|[x]=>some x|_=>none
def An6(cs:List SV)(off n:Nat):Option (List SV):=if off+n<=cs.length then some ((cs.drop off).take n)else none
def AW1(cs:List SV)(off:Nat)(new:List SV):Option (List SV):=
 if off+new.length<=cs.length then some (cs.take off++new++cs.drop (off+new.length))else none
def AX{β:Type}(l:List β)(n:Nat):Option β:=l[n]?
def AI{α:Type}(l:List α)(n:Int):Option α:=if 0<=n then l[n.toNat]? else none
def neL{α:Type}(l:List α):Option Unit:=match l with|[]=>none|_::_=>some ()
def A1(n:Int)(len:Nat):Option Nat:=if 0<=n/\n.toNat<len then some n.toNat else none
def Kr(lo hi:Int)(len:Nat):Option (Nat×Nat):=if 0<=lo/\lo<=hi/\hi<=len then some (lo.toNat,hi.toNat)else none
def Rp(s t:Str):Option Str:=if s.length+t.length<=9223372036854775807 then some (s++t)else none
def OM(n:Int)(bytes size:Nat):Option Nat:=if 0<=n/\n.toNat*bytes<=Ab/\n.toNat*size<=Ab then some n.toNat else none
def Y9(n bytes size:Nat):Bool:=decide (n*bytes<=Ab)&&decide (n*size<=Ab)
def SO(k:IntKind)(a b:Int):Int:=k.wrap (a*2^(min b.toNat k.bits))
def AY8(k:IntKind)(a b:Int):Int:=a.fdiv (2^(min b.toNat k.bits))
def A6s(k:IntKind)(a b:Int):Int:=k.wrap ((BitVec.ofInt k.bits a&&& BitVec.ofInt k.bits b).toNat:Int)
def orI(k:IntKind)(a b:Int):Int:=k.wrap ((BitVec.ofInt k.bits a|||BitVec.ofInt k.bits b).toNat:Int)
def A6g(k:IntKind)(a b:Int):Int:=k.wrap ((BitVec.ofInt k.bits a^^^BitVec.ofInt k.bits b).toNat:Int)
def Z1(s:Str):List Int:=s.map fun c=>(c.toNat:Int)
def CA(l:List Int):Str:=l.map fun n=>UInt8.ofNat n.toNat
section
variable {α:Type}
def F5(op:BinOp)(k k':IntKind)(a b:Int)(K:SV->Option α):Option α:=
 match op with
 |.shl=>cond (decide (b<0)) none (K (.int k (SO k a b)))
 |.shr=>cond (decide (b<0)) none (K (.int k (AY8 k a b)))
 |_=>
  if k=k' then
   match op with
   |.add=>K (.int k (k.wrap (a+b)))
   |.sub=>K (.int k (k.wrap (a-b)))
   |.mul=>K (.int k (k.wrap (a*b)))
   |.quo=>cond (b==0) none (K (.int k (k.wrap (a.tdiv b))))
   |.rem=>cond (b==0) none (K (.int k (a.tmod b)))
   |.and=>K (.int k (A6s k a b))
   |.or=>K (.int k (orI k a b))
   |.xor=>K (.int k (A6g k a b))
   |.eql=>K (.bool (a==b))
   |.neq=>K (.bool (a != b))
   |.lss=>K (.bool (decide (a<b)))
   |.leq=>K (.bool (decide (a<=b)))
   |.gtr=>K (.bool (decide (a>b)))
   |.geq=>K (.bool (decide (a>=b)))
   |_=>none
  else none
def A0P(op:BinOp)(s t:Str)(K:SV->Option α):Option α:=
 match op with
 |.add=>(Rp s t).bind fun u=>K (.str u)
 |.eql=>K (.bool (s==t))
 |.neq=>K (.bool (!(s==t)))
 |.lss=>K (.bool (Op.bytesLess s t))
 |.leq=>K (.bool (Op.bytesLess s t||s==t))
 |.gtr=>K (.bool (!(Op.bytesLess s t||s==t)))
 |.geq=>K (.bool (!(Op.bytesLess s t)))
 |_=>none
def GH:List SV->List SV->Option Bool
 |[],[]=>some true
 |[.int k a],[.int k' b]=>if k=k' then some (a==b)else none
 |.int k a::x,.int k' b::y=>if k=k' then(match GH x y with|some r=>some ((a==b)&&r)|none=>none)else none
 |_,_=>none
def tUn(u:UnOp)(x:SV)(K:SV->Option α):Option α:=
 match u,x with
 |.not,.bool b=>K (.bool (!b))
 |.neg,.int k n=>K (.int k (k.wrap (0-n)))
 |_,_=>none
def AK0(flds:List Fld)(tm:TTm):List SV->List (Nat×Operand)->(List SV->Option α)->Option α
 |cs,[],K=>K cs
 |cs,(k,x)::rest,K=>
  match flds[k]? with
  |some f=>Tf (opT tm x) fun v=>if(Dl v).length=f.size&&(Dl v).all okT then(match AW1 cs f.off (Dl v)with|some cs=>AK0 flds tm cs rest K|none=>none)else none
  |none=>none
def A0z:SV->Option Int
 |.int _ n=>some n
 |_=>none
def XG(tm:TTm):Option Operand->Int->Option Int
 |none,d=>some d
 |some x,_=>A0z (opT tm x)
def N2:List SV->Option (IntKind×List Int)
 |[.int k n]=>some (k,[n])
 |.int k n::l=>match N2 l with|some (k',ns)=>if k=k' then some (k,n::ns)else none|none=>none
 |_=>none
def A5w:List Int->Int
 |[]=>0
 |x::l=>l.foldl (fun a b=>if b<a then b else a) x
def A2a:List Int->Int
 |[]=>0
 |x::l=>l.foldl (fun a b=>if b>a then b else a) x
end
def EY:SV->List Nat
 |.ow id=>[id]
 |_=>[]
def XA:SV->List Nat
 |.agg cs=>cs.flatMap EY
 |.cl _ cs=>cs.flatMap EY
 |x=>EY x
def GC:SV->List Nat
 |.tup vs=>vs.flatMap XA
 |x=>XA x
def Kt:TB->List Nat
 |.box _ cs=>cs.flatMap EY
 |_=>[]
def AH3(b:Nat)(l:List Nat):Bool:=l.all fun i=> !Nat.beq i b
def Gi(tm:TTm)(hp:THp)(b:Nat):Bool:=
 tm.all (fun x=>AH3 b (GC x.2))&&hp.all fun x=>match x.2 with|some k=>AH3 b (Kt k)|none=>true
def DJ(hp:THp):List Nat->THp
 |[]=>hp
 |id::l=>DJ ((id,none)::hp) l
def AT9:TB->TB
 |.arr ty deep t l=>.frz ty deep t l
 |x=>x
def El(hp:THp):List Nat->THp
 |[]=>hp
 |id::l=>El ((id,(AF hp id).map AT9)::hp) l
def Aj0(b:Nat)(hp:THp):THp:=hp.filter fun x=>Nat.blt x.1 b
inductive AC where
 |int (k:IntKind)
 |bool
 |str
 |err
 |im (t:Ty)
 |at (j:Nat)
inductive AB where
 |arr (ty:TypeId) (deep:Bool) (t:Ty)
 |box (ty:TypeId) (cs:List AC)
inductive AS where
 |cell (c:AC)
 |agg (cs:List AC)
 |ref (j:Nat) (isbox:Bool)
 |sub (j:Nat)
 |clo (f:FuncId)
 |cap (f:FuncId) (js:List Nat)
inductive Item where
 |blk (b:AB)
 |slot (s:Nat) (a:AS)
@[reducible] def Ar8(u v:Bool)(A B:Type):Type:=
 match u,v with
 |true,_=>B
 |false,true=>A
 |false,false=>A×B
def mkP:(u v:Bool)->(A B:Type)->A->B->Ar8 u v A B
 |true,_,_,_,_,b=>b
 |false,true,_,_,a,_=>a
 |false,false,_,_,a,b=>(a,b)
def A5Y:(u v:Bool)->(A B:Type)->(u=true->A)->Ar8 u v A B->A
 |true,_,_,_,a,_=>a rfl
 |false,true,_,_,_,x=>x
 |false,false,_,_,_,x=>x.1
def A5I:(u v:Bool)->(A B:Type)->(v=true->B)->Ar8 u v A B->B
 |true,_,_,_,_,x=>x
 |false,true,_,_,b,_=>b rfl
 |false,false,_,_,_,x=>x.2
section
variable {ι:Type} (den:ι->Type) (u:ι->Bool)
@[reducible] def Nq:List ι->Type
 |[]=>Unit
 |x::l=>Ar8 (u x) (l.all u) (den x) (Nq l)
variable (un:∀x,u x=true->den x)
def AF5:(l:List ι)->l.all u=true->Nq den u l
 |[],_=>()
 |x::l,h=>mkP (u x) (l.all u) (den x) (Nq den u l) (un x (by simp at h;exact h.1)) (AF5 l (by simp at h⊢;exact h.2))
def hdL(x:ι)(l:List ι)(d:Nq den u (x::l)):den x:=A5Y (u x) (l.all u) (den x) (Nq den u l) (un x) d
def tlL(x:ι)(l:List ι)(d:Nq den u (x::l)):Nq den u l:=A5I (u x) (l.all u) (den x) (Nq den u l) (AF5 den u un l) d
def AL3(x:ι)(l:List ι)(a:den x)(d:Nq den u l):Nq den u (x::l):=mkP (u x) (l.all u) (den x) (Nq den u l) a d
end
@[reducible] def AC.den:AC->Type
 |.int _=>Int
 |.bool=>Bool
 |.str=>Str
 |.err=>Bool
 |.im t=>List t.den
 |.at _=>Unit
def AC.isU:AC->Bool
 |.at _=>true
 |_=>false
def Aj2:(c:AC)->c.isU=true->c.den
 |.at _,_=>()
 |.int _,h=>by cases h
 |.bool,h=>by cases h
 |.str,h=>by cases h
 |.err,h=>by cases h
 |.im _,h=>by cases h
@[reducible] def PC(cs:List AC):Type:=Nq AC.den AC.isU cs
def hdC(c:AC)(cs:List AC)(d:PC (c::cs)):c.den:=hdL AC.den AC.isU Aj2 c cs d
def tlC(c:AC)(cs:List AC)(d:PC (c::cs)):PC cs:=tlL AC.den AC.isU Aj2 c cs d
def Zj(c:AC)(cs:List AC)(a:c.den)(d:PC cs):PC (c::cs):=AL3 AC.den AC.isU c cs a d
@[reducible] def AB.den:AB->Type
 |.arr _ _ t=>List t.den
 |.box _ cs=>PC cs
@[reducible] def AS.den:AS->Type
 |.cell c=>c.den
 |.agg cs=>PC cs
 |.ref _ _=>Unit
 |.sub _=>Nat×Nat
 |.clo _=>Unit
 |.cap _ _=>Unit
@[reducible] def Item.den:Item->Type
 |.blk b=>b.den
 |.slot _ a=>a.den
def AB.isU:AB->Bool
 |.arr _ _ _=>false
 |.box _ cs=>cs.all AC.isU
def AS.isU:AS->Bool
 |.cell c=>c.isU
 |.agg cs=>cs.all AC.isU
 |.ref _ _=>true
 |.sub _=>false
 |.clo _=>true
 |.cap _ _=>true
def Item.isU:Item->Bool
 |.blk b=>b.isU
 |.slot _ a=>a.isU
def A5p:(b:AB)->b.isU=true->b.den
 |.box _ cs,h=>AF5 AC.den AC.isU Aj2 cs h
 |.arr _ _ _,h=>by cases h
def A5R:(a:AS)->a.isU=true->a.den
 |.cell c,h=>Aj2 c h
 |.agg cs,h=>AF5 AC.den AC.isU Aj2 cs h
 |.ref _ _,_=>()
 |.clo _,_=>()
 |.cap _ _,_=>()
 |.sub _,h=>by cases h
def A34:(x:Item)->x.isU=true->x.den
 |.blk b,h=>A5p b h
 |.slot _ a,h=>A5R a h
@[reducible] def B9(l:List Item):Type:=Nq Item.den Item.isU l
def hdI(x:Item)(l:List Item)(d:B9 (x::l)):x.den:=hdL Item.den Item.isU A34 x l d
def tlI(x:Item)(l:List Item)(d:B9 (x::l)):B9 l:=tlL Item.den Item.isU A34 x l d
def HW(x:Item)(l:List Item)(a:x.den)(d:B9 l):B9 (x::l):=AL3 Item.den Item.isU x l a d
def Ab5:(c:AC)->c.den->SV
 |.int k,n=>.int k n
 |.bool,b=>.bool b
 |.str,s=>.str s
 |.err,b=>.er b
 |.im t,l=>.im t l
 |.at j,_=>.ow j
def Ru:(cs:List AC)->PC cs->List SV
 |[],_=>[]
 |c::cs,d=>Ab5 c (hdC c cs d)::Ru cs (tlC c cs d)
def A4t:(b:AB)->b.den->TB
 |.arr ty deep t,l=>.arr ty deep t l
 |.box ty cs,x=>.box ty (Ru cs x)
def Yv:(a:AS)->a.den->SV
 |.cell c,x=>Ab5 c x
 |.agg cs,x=>.agg (Ru cs x)
 |.ref j false,_=>.ow j
 |.ref j true,_=>.rf j 0 0
 |.sub j,x=>.ar j x.1 x.2
 |.clo g,_=>.cl g []
 |.cap g js,_=>.cl g (js.map fun j=>.rf j 0 0)
def Bk:Nat->(l:List Item)->B9 l->TTm×THp
 |_,[],_=>([],[])
 |k,.blk b::l,d=>((Bk (k+1) l (tlI (.blk b) l d)).1,(k,some (A4t b (hdI (.blk b) l d)))::(Bk (k+1) l (tlI (.blk b) l d)).2)
 |k,.slot s a::l,d=>((s,Yv a (hdI (.slot s a) l d))::(Bk k l (tlI (.slot s a) l d)).1,(Bk k l (tlI (.slot s a) l d)).2)
def HM(l:List Item)(d:B9 l):TSt:={tm:=(Bk 0 l d).1,hp:=(Bk 0 l d).2,c:=1}
def ES:List Item->List Nat
 |[]=>[]
 |.blk _::l=>ES l
 |.slot s _::l=>s::ES l
def Fj:List Item->List AS
 |[]=>[]
 |.blk _::l=>Fj l
 |.slot _ a::l=>a::Fj l
def CD:List Item->List AB
 |[]=>[]
 |.blk b::l=>b::CD l
 |.slot _ _::l=>CD l
inductive TM where
 |keep
 |own (ty:TypeId) (deep:Bool) (t:Ty)
 |im (t:Ty)
 |sub
inductive TMs where
 |one (m:TM)
 |agg (l:List TM)
 |box (l:List TM)
def A5s(bl:List AB)(j:Nat):TM:=match bl[j]? with|some (.arr ty deep t)=>.own ty deep t|_=>.keep
def tmC(bl:List AB):AC->TM
 |.im t=>.im t
 |.at j=>A5s bl j
 |_=>.keep
def tmS(bl:List AB):AS->TMs
 |.cell c=>.one (tmC bl c)
 |.agg cs=>.agg (cs.map (tmC bl))
 |.ref j false=>.one (A5s bl j)
 |.ref j true=>match bl[j]? with|some (.box _ cs)=>.box (cs.map (tmC bl))|_=>.one .keep
 |.sub _=>.one .sub
 |.clo _=>.one .keep
 |.cap _ _=>.one .keep
def TM.md:TM->Md
 |.keep=>.keep
 |.own ty deep t=>.own ty t.size deep
 |.im _=>.im
 |.sub=>.keep
def TMs.mds:TMs->Mds
 |.one m=>.one m.md
 |.agg l=>.agg (l.map TM.md)
 |.box l=>.box (l.map TM.md)
def JJ(bl:List AB):List Item->List (Nat×TMs)
 |[]=>[]
 |.blk _::l=>JJ bl l
 |.slot s a::l=>(s,tmS bl a)::JJ bl l
def Fi(l:List (Nat×TMs)):List (Nat×Mds):=l.map fun p=>(p.1,p.2.mds)
def Ce(l:List Item):List (Nat×Mds):=Fi (JJ (CD l) l)
def Gz(hp:THp)(e:Ty):SV->Option (List e.den)
 |.ow id=>
  match AF hp id with
  |some (.arr _ _ t l)|some (.frz _ _ t l)=>if h:t=e then some (Ip h l)else none
  |_=>none
 |.ar id lo n=>
  match AF hp id with
  |some (.arr _ _ t l)|some (.frz _ _ t l)=>if h:t=e then some (((Ip h l).take (lo+n)).drop lo)else none
  |_=>none
 |v=>asL e v
def frV:SV->List Nat
 |.ow id=>[id]
 |.ar id _ _=>[id]
 |_=>[]
def tnC(m:TM)(v:SV)(hp:THp)(b:Nat):Option (SV×THp×Nat):=
 match m with
 |.keep=>some (v,hp,0)
 |.own ty deep t=>
  match v with
  |.em=>some (.ow b,(b,some (.arr ty deep t []))::hp,1)
  |.ow id=>
   match AF hp id with
   |some (.arr ty' deep' t' _)=>if t'=t then(if Nat.beq ty' ty&&(deep'==deep)then some (.ow id,hp,0)else none)else none
   |_=>none
  |_=>none
 |.im t=>match Gz hp t v with|some l=>some (.im t l,El hp (frV v),0)|none=>none
 |.sub=>
  match v with
  |.ow id=>match AF hp id with|some (.arr _ _ _ l)=>some (.ar id 0 l.length,hp,0)|_=>none
  |.ar id lo n=>some (.ar id lo n,hp,0)
  |_=>none
def tnL:List TM->List SV->THp->Nat->Option (List SV×THp×Nat)
 |[],[],hp,_=>some ([],hp,0)
 |m::ms,x::xs,hp,b=>
  match tnC m x hp b with
  |some (y,hp1,n)=>
   match tnL ms xs hp1 (b+n)with
   |some (ys,hp2,k)=>some (y::ys,hp2,n+k)
   |none=>none
  |none=>none
 |_,_,_,_=>none
def tnV(m:TMs)(v:SV)(hp:THp)(b:Nat):Option (SV×THp×Nat):=
 match m with
 |.one m=>tnC m v hp b
 |.agg l=>match v with|.agg cs=>(match tnL l cs hp b with|some (cs',hp',n)=>some (.agg cs',hp',n)|none=>none)|_=>none
 |.box l=>
  match v with
  |.rf id r c=>
   match AF hp id with
   |some (.box ty cs)=>(match tnL l cs hp b with|some (cs',hp',n)=>if cs'.all okT then some (.rf id r c,(id,some (.box ty cs'))::hp',n)else none|none=>none)
   |_=>none
  |_=>none
def tnS:List (Nat×TMs)->TSt->Option TSt
 |[],st=>some st
 |(s,m)::l,st=>
  match tnV m (Bt st.tm s) st.hp (16*st.c)with
  |some (x,hp,n)=>if Nat.ble n 16 then tnS l {tm:=(s,x)::st.tm,hp:=hp,c:=st.c+1}else none
  |none=>none
def So(tm:TTm)(hp:THp)(b:Nat):Bool:=
 tm.all (fun x=>(GC x.2).all fun i=>Nat.blt i b)&&hp.all fun x=>match x.2 with|some k=>Nat.blt x.1 b&&(Kt k).all fun i=>Nat.blt i b|none=>true
def rf0:SV->List Nat
 |.ow id=>[id]
 |.ar id _ _=>[id]
 |.rf id _ _=>[id]
 |_=>[]
def rf1:SV->List Nat
 |.agg cs=>cs.flatMap rf0
 |.cl _ caps=>caps.flatMap rf0
 |x=>rf0 x
def rfB:TB->List Nat
 |.box _ cs=>cs.flatMap rf0
 |_=>[]
def JB:SV->Bool
 |.agg _|.tup _|.any=>false
 |.cl _ caps=>caps.isEmpty
 |_=>true
def EM:SV->Bool
 |.agg cs=>cs.all JB
 |.cl _ caps=>caps.all JB
 |x=>JB x
def VT:TB->Bool
 |.box _ cs=>cs.all JB
 |_=>true
def AQ7(i:Nat):List Nat->Bool
 |[]=>false
 |x::l=>cond (Nat.beq x i) true (AQ7 i l)
def Gc(hp:THp):Nat->List Nat->List Nat->Option (List Nat)
 |0,_,_=>none
 |_+1,[],acc=>some acc
 |k+1,id::l,acc=>
  cond (AQ7 id acc) (Gc hp k l acc)
   (match AF hp id with
   |none=>none
   |some b=>cond (VT b) (Gc hp k (l++rfB b) (acc++[id])) none)
def C5:List Nat->Nat->Option Nat
 |[],_=>none
 |x::l,id=>cond (Nat.beq x id) (some 0) (match C5 l id with|some j=>some (j+1)|none=>none)
def Az3:List Nat->List Nat->Bool
 |[],[]=>true
 |x::l,y::m=>Nat.beq x y&&Az3 l m
 |_,_=>false
def Ek(f:Nat->Option Nat):SV->SV
 |.ow id=>match f id with|some j=>.ow j|none=>.any
 |.ar id lo n=>match f id with|some j=>.ar j lo n|none=>.any
 |.rf id r c=>match f id with|some j=>.rf j r c|none=>.any
 |.cl g []=>.cl g []
 |.cl _ _|.agg _|.tup _=>.any
 |x=>x
def BB(f:Nat->Option Nat):SV->SV
 |.agg cs=>.agg (cs.map (Ek f))
 |.cl g caps=>.cl g (caps.map (Ek f))
 |x=>Ek f x
def Xm(f:Nat->Option Nat):TB->TB
 |.box ty cs=>.box ty (cs.map (Ek f))
 |x=>x
def Em(hp:THp)(f:Nat->Option Nat):Nat->List Nat->THp
 |_,[]=>[]
 |k,id::l=>(k,match AF hp id with|some b=>some (Xm f b)|none=>none)::Em hp f (k+1) l
def MM(e:Nat)(keep:List Nat)(st:TSt):Option TSt:=
 if keep.all (fun s=>EM (Bt st.tm s))then
  match Gc st.hp 64 (List.range e++keep.flatMap fun s=>rf1 (Bt st.tm s)) []with
  |some o=>
   if Nat.ble o.length 16&&Az3 (o.take e) (List.range e)then
    some {tm:=keep.map fun s=>(s,BB (C5 o) (Bt st.tm s)),hp:=Em st.hp (C5 o) 0 o,c:=1}
   else none
  |none=>none
 else none
def rdC:(c:AC)->SV->Option c.den
 |.int k,.int k' n=>if k'=k then some n else none
 |.bool,.bool b=>some b
 |.str,.str s=>some s
 |.err,.er b=>some b
 |.im t,.im t' l=>if h:t'=t then some (Ip h l)else none
 |.at j,.ow i=>if Nat.beq i j then some ()else none
 |_,_=>none
def A0F:(cs:List AC)->List SV->Option (PC cs)
 |[],[]=>some ()
 |c::cs,v::vs=>(match rdC c v with|some x=>(match A0F cs vs with|some y=>some (Zj c cs x y)|none=>none)|none=>none)
 |_,_=>none
def rdB:(b:AB)->TB->Option b.den
 |.arr ty deep t,.arr ty' deep' t' l=>if h:t'=t then(if Nat.beq ty' ty&&(deep'==deep)then some (Ip h l)else none)else none
 |.box ty cs,.box ty' vs=>if Nat.beq ty' ty then A0F cs vs else none
 |_,_=>none
def ZQ:List Nat->List SV->Bool
 |[],[]=>true
 |j::js,.rf i 0 0::vs=>cond (Nat.beq i j) (ZQ js vs) false
 |_,_=>false
def rdS:(a:AS)->SV->Option a.den
 |.cell c,v=>rdC c v
 |.agg cs,.agg vs=>A0F cs vs
 |.ref j false,.ow i=>if Nat.beq i j then some ()else none
 |.ref j true,.rf i 0 0=>if Nat.beq i j then some ()else none
 |.sub j,.ar i lo n=>if Nat.beq i j then some (lo,n)else none
 |.clo f,.cl g []=>if Nat.beq g f then some ()else none
 |.cap f js,.cl g vs=>if Nat.beq g f&&ZQ js vs then some ()else none
 |_,_=>none
def rdI:Nat->(l:List Item)->TTm->THp->Option (B9 l)
 |_,[],[],[]=>some ()
 |k,.blk b::l,tm,(i,some tb)::hp=>
  if Nat.beq i k then(match rdB b tb with|some x=>(match rdI (k+1) l tm hp with|some y=>some (HW (.blk b) l x y)|none=>none)|none=>none)else none
 |k,.slot s a::l,(i,v)::tm,hp=>
  if Nat.beq i s then(match rdS a v with|some x=>(match rdI k l tm hp with|some y=>some (HW (.slot s a) l x y)|none=>none)|none=>none)else none
 |_,_,_,_=>none
def Ff(e:Nat)(l:List Item)(st:TSt):Option (B9 l):=
 if So st.tm st.hp (16*st.c)then
  match tnS (JJ (CD l) l) st with
  |some st1=>(match MM e (ES l) st1 with|some st2=>rdI 0 l st2.tm st2.hp|none=>none)
  |none=>none
 else none
structure FAnn where
 g:FuncId
 e:Nat:=0
 params:List Item
 res:List Item
 heads:List (Nat×List Item):=[]
 outs:List (Nat×List (Ex×List Item)):=[]
 joins:List (Nat×List Item):=[]
def Ny:List FAnn->FuncId->Option FAnn
 |[],_=>none
 |a::l,g=>cond (Nat.beq a.g g) (some a) (Ny l g)
def D4{α:Type}:List (Nat×α)->Nat->Option α
 |[],_=>none
 |(k,x)::l,i=>cond (Nat.beq k i) (some x) (D4 l i)
def RL:Ex->Ex->Bool
 |.normal,.normal=>true
 |.ret,.ret=>true
 |.exit i,.exit j=>Nat.beq i j
 |_,_=>false
def OO:List (Ex×List Item)->Ex->Option (List Item)
 |[],_=>none
 |(e,x)::l,i=>cond (RL e i) (some x) (OO l i)
def Uu(bl:List AB):Nat->Nat->List AB->List (Nat×TMs)
 |0,_,_=>[]
 |_,_,[]=>[]
 |e+1,k,.box _ cs::l=>(k,.box (cs.map (tmC bl)))::Uu bl e (k+1) l
 |e+1,k,_::l=>Uu bl e (k+1) l
def A59:AC->Bool
 |.at _=>true
 |_=>false
def Xe:AS->Bool
 |.ref _ false=>true
 |.sub _=>true
 |.agg cs=>cs.any A59
 |.clo _=>true
 |.cap _ _=>true
 |_=>false
def MJ(tab:List FAnn)(ext:FuncId->Bool):Cfg where
 live g r:=match (Ny tab g).bind fun a=>D4 a.heads r with|some l=>Ce l|none=>[]
 out g r ex:=match ((Ny tab g).bind fun a=>D4 a.outs r).bind fun l=>OO l ex with|some l=>Ce l|none=>[]
 join g r:=match (Ny tab g).bind fun a=>D4 a.joins r with|some l=>some (Ce l)|none=>none
 res g:=match Ny tab g with|some a=>(Ce a.res).map (·.2)|none=>[]
 par g:=match Ny tab g with|some a=>Ce a.params|none=>[]
 rts g:=match Ny tab g with|some a=>Fi (Uu (CD a.res) a.e 0 (CD a.res))|none=>[]
 byref g:=match Ny tab g with|some a=>(Fj a.params).map Xe|none=>[]
 isExt:=ext
structure Ent where
 a:FAnn
 F:B9 a.params->Option (B9 a.res)
def ZF:List Ent->FuncId->Option Ent
 |[],_=>none
 |x::l,g=>cond (Nat.beq x.a.g g) (some x) (ZF l g)
structure TX where
 ty:List (Nat×TyD)
 cod:List (Nat×Ty)
 eqs:List Nat
 bools:List Nat
 ents:List Ent
 ann:FAnn
def Ef:Ty->Bool
 |.sl _=>false
 |.pair a b=>Ef a&&Ef b
 |_=>true
section
variable {α:Type} (X:TX)
def T1(t:TypeId):Option (TypeId×TyD×Ty):=
 match getD X.ty t with
 |some d=>
  match d.elem with
  |some e=>
   match getD X.ty e,D4 X.cod e with
   |some de,some c=>if Nat.beq de.size c.size&&(de.zero.all UC==Ef c)then some (e,de,c)else none
   |_,_=>none
  |none=>none
 |none=>none
def AI8(t:TypeId):Bool:=match getD X.ty t with|some d=>d.ifc|none=>false
def Mc(t:TypeId):Bool:=match getD X.ty t with|some d=>d.str|none=>false
def A2K(op:BinOp)(t:TypeId)(x y:SV)(K:SV->Option α):Option α:=
 match x,y with
 |.int k a,.int k' b=>F5 op k k' a b K
 |.str s,.str u=>A0P op s u K
 |.bool a,.bool b=>
  if X.bools.contains t then(match op with|.eql=>K (.bool (a==b))|.neq=>K (.bool (!(a==b)))|_=>none)else none
 |.agg cs,.agg ds=>
  if X.eqs.contains t then
   match getD X.ty t,GH cs ds with
   |some d,some r=>if Nat.beq cs.length d.size then(match op with|.eql=>K (.bool r)|.neq=>K (.bool (!r))|_=>none)else none
   |_,_=>none
  else none
 |_,_=>none
def tMk(g:Bool)(cs:Option (List SV))(K:SV->Option α):Option α:=
 match cs with
 |some cs=>(match mkT g cs with|some x=>Tf x K|none=>none)
 |none=>none
def AL1(t:TypeId)(v:SV)(hp:THp)(K:SV->Option α):Option α:=
 match getD X.ty t,v with
 |some d,.ir ty a c=>tMk d.agg (An6 (Ap4 ty a) c d.size) K
 |some d,.rf id r c=>
  match AF hp id with
  |some (.box _ cs)=>(match r with|0=>tMk d.agg (An6 cs c d.size) K|_=>none)
  |some (.arr _ deep ty l)=>if !deep||Ef ty then(AX l r).bind fun a=>tMk d.agg (An6 (Ap4 ty a) c d.size) K else none
  |some (.frz _ _ ty l)=>if Ef ty then(AX l r).bind fun a=>tMk d.agg (An6 (Ap4 ty a) c d.size) K else none
  |none=>none
 |_,_=>none
def UK(hp:THp):SV->Option (SV×List Nat×Bool)
 |.int k n=>some (.int k n,[],true)
 |.bool b=>some (.bool b,[],true)
 |.str s=>some (.str s,[],true)
 |.sc x=>some (.sc x,[],true)
 |.em=>some (.em,[],false)
 |.im t l=>some (.im t l,[],false)
 |.ow id=>
  match AF hp id with
  |some (.arr _ deep t l)=>some (.im t l,[id],deep)
  |some (.frz _ _ t l)=>some (.im t l,[],false)
  |_=>none
 |.ar id lo n=>
  match AF hp id with
  |some (.arr _ deep t l)=>some (.im t ((l.take (lo+n)).drop lo),[id],deep)
  |some (.frz _ _ t l)=>some (.im t ((l.take (lo+n)).drop lo),[],false)
  |_=>none
 |_=>none
def J4(hp:THp):List SV->Option (List SV×List Nat×Bool)
 |[]=>some ([],[],true)
 |x::l=>
  match UK hp x,J4 hp l with
  |some (y,a,d),some (ys,as,ds)=>some (y::ys,a++as,d&&ds)
  |_,_=>none
def A0j(t:TypeId)(a x:SV)(hp:THp)(K:SV->THp->Cls->Option α):Option α:=
 match getD X.ty t,a with
 |some d,.rf id r c=>
  if Nat.beq (Dl x).length d.size then
   match AF hp id with
   |some (.box ty cs)=>
    match r with
    |0=>if(Dl x).all okT then(match AW1 cs c (Dl x)with|some cs=>K .any ((id,some (.box ty cs))::hp) .E|none=>none)else none
    |_=>none
   |some (.arr ty deep e l)=>
    (AX l r).bind fun y=>
    match J4 hp (Dl x)with
    |some (cs,kills,deep')=>
     if DT (id::kills)then
      match AW1 (Ap4 e y) c cs with
      |some cs=>(match A0D e cs with|some z=>K .any ((id,some (.arr ty (deep&&deep') e (l.set r z)))::DJ hp kills) .E|none=>none)
      |none=>none
     else none
    |none=>none
   |_=>none
  else none
 |_,_=>none
def LA(hp:THp)(tm:TTm)(e:Ty):Nat->List (Nat×Operand)->Option (List e.den×List Nat×Bool)
 |_,[]=>some ([],[],true)
 |n,(k,x)::l=>
  if Nat.beq k n&&Nat.beq (Dl (opT tm x)).length e.size then
   match J4 hp (Dl (opT tm x)),LA hp tm e (n+1) l with
   |some (cs,a,d),some (ys,as,ds)=>(match A0D e cs with|some y=>some (y::ys,a++as,d&&ds)|none=>none)
   |_,_=>none
  else none
def Xh:SV->Bool
 |.int .. |.bool _|.str _|.sc _|.em|.im .. =>true
 |_=>false
def AE3(tm:TTm)(Ai:List (Nat×Operand)):Bool:=Ai.all fun p=>(Dl (opT tm p.2)).all Xh
def Aj7(t:TypeId)(len:Nat)(Ai:List (Nat×Operand))(tm:TTm)(hp:THp)(b:Nat)(K:SV->THp->Cls->Option α):Option α:=
 match T1 X t with
 |some (e,de,c)=>
  match len,Ai with
  |0,[]=>K .em hp .M
  |0,_::_=>none
  |len+1,Ai=>
   match LA hp tm c 0 Ai with
   |some (l,kills,deep)=>
    if Nat.beq l.length (len+1)&&Nat.ble ((len+1)*de.size) 16777216&&DT kills&&Gi tm hp b then
     K (.ow b) ((b,some (.arr e deep c l))::DJ hp kills) (A0n kills (AE3 tm Ai))
    else none
   |none=>none
 |none=>none
def A4M(c:Ty)(x:SV)(hp:THp):Option (List c.den×List Nat×Bool):=
 match x with
 |.ow id=>
  match AF hp id with
  |some (.arr _ deep t l)=>if h:t=c then(if Ef c then some (Ip h l,[],true)else some (Ip h l,[id],deep))else none
  |some (.frz _ _ t l)=>if h:t=c then some (Ip h l,[],Ef c)else none
  |_=>none
 |.ar id lo n=>
  match AF hp id with
  |some (.arr _ deep t l)=>if h:t=c then(if Ef c then some (((Ip h l).take (lo+n)).drop lo,[],true)else some (((Ip h l).take (lo+n)).drop lo,[id],deep))else none
  |some (.frz _ _ t l)=>if h:t=c then some (((Ip h l).take (lo+n)).drop lo,[],Ef c)else none
  |_=>none
 |v=>match asL c v with|some l=>some (l,[],Ef c)|none=>none
def C3{β:Type}(bytes size:Nat)(l m:List β):Option (List β):=if(l.length+m.length)*bytes<=Ab/\(l.length+m.length)*size<=Ab then some (l++m)else none
def AF8(ts:List TypeId)(s x:SV)(tm:TTm)(hp:THp)(b:Nat)(K:SV->THp->Cls->Option α):Option α:=
 match ts with
 |[t,t']=>
  if Nat.beq t' t then
   match T1 X t with
   |some (e,de,c)=>
    match A4M c x hp with
    |some (m,kills,deep)=>
     match s with
     |.em=>if DT kills&&Gi tm hp b then cond (Y9 m.length de.bytes de.size) (K (.ow b) ((b,some (.arr e deep c m))::DJ hp kills) (match kills with|[]=>.M|_=>.E)) none else none
     |.ow id=>
      match AF hp id with
      |some (.arr ty d0 t0 l)=>
       if h:t0=c then
        if Nat.beq ty e&&DT (id::kills)&&Gi tm hp b then
         (C3 de.bytes de.size (Ip h l) m).bind fun r=>K (.ow b) ((b,some (.arr e (d0&&deep) c r))::DJ hp (id::kills)) .E
        else none
       else none
      |_=>none
     |.ar id 0 n=>
      match AF hp id with
      |some (.arr ty d0 t0 l)=>
       if h:t0=c then
        if Nat.beq ty e&&DT (id::kills)&&Gi tm hp b then
         cond (decide (n<=l.length)) ((C3 de.bytes de.size ((Ip h l).take n) m).bind fun r=>K (.ow b) ((b,some (.arr e (d0&&deep) c r))::DJ hp (id::kills)) .E) none
        else none
       else none
      |_=>none
     |_=>none
    |none=>none
   |none=>none
  else none
 |_=>none
def Af5(tm:TTm)(lo hi:Option Operand)(len:Nat)(K:Nat->Nat->Option α):Option α:=
 match lo,hi with
 |none,none=>K 0 len
 |_,_=>
  match XG tm lo 0,XG tm hi (len:Int)with
  |some l,some h=>(Kr l h len).bind fun p=>K p.1 p.2
  |_,_=>none
def A3U(tm:TTm)(lo hi:Option Operand)(len:Nat)(A:Option α)(K:Nat->Nat->Option α):Option α:=
 match lo,hi with
 |none,none=>A
 |_,_=>Af5 tm lo hi len K
def A0l(t:TypeId)(x:SV)(lo hi:Option Operand)(tm:TTm)(hp:THp)(K:SV->Option α):Option α:=
 match x with
 |.str s=>if Mc X t then Af5 tm lo hi s.length fun l h=>K (.str ((s.take h).drop l))else none
 |x=>
  match T1 X t with
  |some (e,de,c)=>
   match x with
   |.em=>Af5 tm lo hi 0 fun _ _=>K .em
   |.im ty l=>if Nat.beq ty.size de.size then Af5 tm lo hi l.length fun lo hi=>K (.im ty ((l.take hi).drop lo))else none
   |.ow id=>
    match AF hp id with
    |some (.arr _ _ ty l)|some (.frz _ _ ty l)=>if Nat.beq ty.size de.size then A3U tm lo hi l.length (K (.ow id)) fun l h=>K (.ar id l (h-l))else none
    |_=>none
   |.ar id l0 n=>
    match AF hp id with
    |some (.arr _ _ ty l)|some (.frz _ _ ty l)=>if Nat.beq ty.size de.size then Af5 tm lo hi n fun l h=>K (.ar id (l0+l) (h-l))else none
    |_=>none
   |_=>none
  |none=>none
def A5j(t:TypeId)(x i:SV)(hp:THp)(K:SV->Cls->Option α):Option α:=
 match T1 X t with
 |some (_,de,_)=>
  match x,i with
  |.im ty l,.int _ n=>if Nat.beq ty.size de.size then(AI l n).bind fun a=>K (.ir ty a 0) .T else none
  |.ow id,.int _ n=>
   match AF hp id with
   |some (.arr _ _ ty l)|some (.frz _ _ ty l)=>if Nat.beq ty.size de.size then(A1 n l.length).bind fun k=>K (.rf id k 0) .M else none
   |_=>none
  |.ar id lo len,.int _ n=>
   match AF hp id with
   |some (.arr _ _ ty l)|some (.frz _ _ ty l)=>if Nat.beq ty.size de.size then(A1 n len).bind fun k=>K (.rf id (lo+k) 0) .M else none
   |_=>none
  |_,_=>none
 |none=>none
def A4e(t:TypeId)(same:Bool)(l c:SV)(tm:TTm)(hp:THp)(b:Nat)(K:SV->THp->Cls->Option α):Option α:=
 match T1 X t,l,c with
 |some (e,de,ty),.int _ n,.int _ m=>
  match A0D ty (de.zero.map S3)with
  |some z=>
   if Gi tm hp b&&de.zero.all Ei then
    cond same
     ((OM m de.bytes de.size).bind fun k=>K (.ow b) ((b,some (.arr e true ty (List.replicate k z)))::hp) .M)
     ((OM m de.bytes de.size).bind fun _=>cond (decide (0<=n)&&decide (n<=m)) (K (.ow b) ((b,some (.arr e true ty (List.replicate n.toNat z)))::hp) .M) none)
   else none
  |none=>none
 |_,_,_=>none
def Ap7(t:TypeId):Bool:=match getD X.ty t with|some d=>d.elem.isSome|none=>false
def Qs(t:TypeId):Bool:=match getD X.ty t with|some d=>(match d.elem with|some e=>(match getD X.ty e with|some de=>de.int==some .u8|none=>false)|none=>false)|none=>false
def A3O(s d:TypeId)(x:SV)(hp:THp)(K:SV->Cls->Option α):Option α:=
 match x with
 |.int _ n=>(match getD X.ty s,getD X.ty d with|some _,some dd=>(match dd.int with|some k=>K (.int k (k.wrap n)) .T|none=>none)|_,_=>none)
 |.str v=>
  if Mc X s then
   if Qs X d then cond (decide (v.length<=Ab)) (K (.im (.int .u8) (Z1 v)) .M) none
   else if Mc X d then K (.str v) .T else none
  else none
 |x=>
  if Qs X s&&Mc X d then
   match Gz hp (.int .u8) x with
   |some l=>K (.str (CA l)) .M
   |none=>none
  else none
def A50(t:TypeId)(x:SV)(hp:THp)(K:SV->Option α):Option α:=
 match x with
 |.str s=>if Mc X t&& !Ap7 X t then K (.int .i64 (s.length:Int))else none
 |x=>
  if Ap7 X t then
   match x with
   |.em=>K (.int .i64 0)
   |.im _ l=>K (.int .i64 (l.length:Int))
   |.ow id=>
    match AF hp id with
    |some (.arr _ _ _ l)|some (.frz _ _ _ l)=>K (.int .i64 (l.length:Int))
    |_=>none
   |.ar _ _ n=>K (.int .i64 (n:Int))
   |_=>none
  else none
def UV(mx:Bool)(xs:List SV)(K:SV->Option α):Option α:=
 match N2 xs with
 |some (k,ns)=>K (.int k (if mx then A2a ns else A5w ns))
 |none=>none
def Vj:SV->List Nat
 |.ow id=>[id]
 |.ar id _ _=>[id]
 |_=>[]
def Ac9:SV->List Nat
 |.agg cs=>cs.flatMap Vj
 |.cl _ cs=>cs.flatMap Vj
 |x=>Vj x
def Ee(hp:THp):AC->SV->Option SV
 |.im t,v=>match Gz hp t v with|some l=>some (.im t l)|none=>none
 |.int _,.int k n=>some (.int k n)
 |.bool,.bool b=>some (.bool b)
 |.str,.str s=>some (.str s)
 |_,_=>none
def Qf(hp:THp):List AC->List SV->Option (List SV)
 |[],[]=>some []
 |c::cs,v::vs=>(match Ee hp c v with|some x=>(match Qf hp cs vs with|some y=>some (x::y)|none=>none)|none=>none)
 |_,_=>none
def Jn(hp:THp):AS->SV->Option SV
 |.cell c,v=>Ee hp c v
 |.agg cs,.agg vs=>(match Qf hp cs vs with|some l=>some (.agg l)|none=>none)
 |.ref _ true,.rf id r c=>some (.rf id r c)
 |.clo _,.cl g []=>some (.cl g [])
 |_,_=>none
def Kw:List AS->List SV->List Nat
 |a::l,v::vs=>(cond (Xe a) [] (Ac9 v))++Kw l vs
 |_,_=>[]
def SA(hp:THp):List AS->List SV->Option (List SV)
 |[],[]=>some []
 |a::l,v::vs=>(match (cond (Xe a) (cond (EM v) (some v) none) (Jn hp a v))with|some x=>(match SA hp l vs with|some y=>some (x::y)|none=>none)|none=>none)
 |_,_=>none
def Vd:SV->Bool
 |.int .. |.bool _|.str _|.sc _|.ow _|.ar .. |.rf .. =>true
 |.cl _ []=>true
 |_=>false
def Z6:SV->Bool
 |.agg cs=>cs.all Vd
 |x=>Vd x
def A16:TB->Bool
 |.box _ cs=>cs.all Vd
 |.arr _ deep _ _=>deep
 |.frz .. =>false
def ddN:List Nat->List Nat->List Nat
 |acc,[]=>acc
 |acc,id::l=>cond (AQ7 id acc) (ddN acc l) (ddN (acc++[id]) l)
def QP(order:List Nat)(e n b j:Nat):Option Nat:=cond (Nat.blt j e) order[j]? (cond (Nat.blt j n) (some (b+(j-e))) none)
def AZ8(vs:List SV):SV:=match vs with|[v]=>v|vs=>.tup vs
def Ar0(hp out:THp):List Nat->Option α->Option α
 |[],A=>A
 |id::l,A=>
  match AF out id,AF hp id with
  |some (.arr _ _ _ l'),some (.arr _ _ _ l0)=>cond (decide (l'.length=l0.length)) (Ar0 hp out l A) none
  |some (.box _ _),some (.box _ _)=>Ar0 hp out l A
  |_,_=>none
def A0a:Nat×Option TB->Bool
 |(_,some k)=>A16 k
 |(_,none)=>false
def Af7(vs:List SV)(bs:THp):Bool:=vs.all Z6&&bs.all A0a
def A5E(o:List Nat)(c:Bool)(A B C D:Option α):Option α:=
 match o,c with
 |[],true=>A
 |[],false=>B
 |_::_,true=>C
 |_::_,false=>D
def Rs:Nat->List SV->TTm
 |_,[]=>[]
 |n,x::l=>(n,x)::Rs (n+1) l
def DQ(f:Nat->Option Nat):THp->THp
 |[]=>[]
 |(k,b)::l=>match f k with|some i=>(i,match b with|some b=>some (Xm f b)|none=>none)::DQ f l|none=>DQ f l
def A1X(g:FuncId)(args:List SV)(tm:TTm)(hp:THp)(b:Nat)(K:SV->THp->Cls->Option α):Option α:=
 match ZF X.ents g with
 |some E=>
  match SA hp (Fj E.a.params) args with
  |some args'=>
   match Gc hp 64 (args'.flatMap rf1) []with
   |some o=>
    match Ff E.a.e E.a.params {tm:=Rs 0 (args'.map (BB (C5 o))),hp:=Em hp (C5 o) 0 o,c:=1}with
    |some x=>
     if args'.all EM&&(args'.map (BB (C5 o))).all EM&&Az3 (ddN [] ((args'.map (BB (C5 o))).flatMap rf1)) (List.range E.a.e)&&Az3 (o.take E.a.e) (ddN [] (args'.flatMap rf1))&&Nat.beq (ddN [] (args'.flatMap rf1)).length E.a.e&&Nat.ble o.length 16&&So tm hp b&&Nat.beq (ES E.a.params).length args'.length&&o.all (fun id=>Nat.blt id b&&AH3 id (Kw (Fj E.a.params) args))then
      (E.F x).bind fun y=>
       let r:=Bk 0 E.a.res y
       let f:=QP o E.a.e r.2.length b
       if Nat.ble E.a.e r.2.length&&Nat.ble r.2.length (E.a.e+16)then
        Ar0 hp (DQ f r.2) (o.take E.a.e) (Tf (AZ8 (r.1.map fun p=>BB f p.2)) fun v=>
         A5E o ((Kw (Fj E.a.params) args).isEmpty||Af7 (r.1.map (·.2)) r.2)
          (K v (DQ f r.2++hp) .M)
          (K v (DQ f r.2++El hp (Kw (Fj E.a.params) args)) .E)
          (K v (DQ f r.2++DJ hp (o.drop E.a.e)) .E)
          (K v (DQ f r.2++DJ (El hp (Kw (Fj E.a.params) args)) (o.drop E.a.e)) .E))
       else none
     else none
    |none=>none
   |none=>none
  |none=>none
 |none=>none
def Av4:Operand->Operand->Bool
 |.tmp a,.tmp b=>Nat.beq a b
 |_,_=>false
def erC(b:BinOp)(y:Operand):Option Bool:=
 match b,y with
 |.eql,.const .nilIface=>some true
 |.neq,.const .nilIface=>some false
 |_,_=>none
def BJ(op:Op)(b:Nat)(tm:TTm)(hp:THp)(K:SV->THp->Cls->Option α):Option α:=
 match op with
 |.store t a x=>A0j X t (opT tm a) (opT tm x) hp K
 |.buildSlice t len Ai=>Aj7 X t len Ai.toList tm hp b K
 |.slice t x lo hi none=>A0l X t (opT tm x) lo hi tm hp fun v=>K v hp .M
 |.move x|.assign x=>Tf (opT tm x) fun v=>K v hp .T
 |.pick c x y=>(match opT tm c with|.bool t=>cond t (Tf (opT tm x) fun v=>K v hp .T) (Tf (opT tm y) fun v=>K v hp .T)|_=>none)
 |.build t Ai=>(match getD X.ty t with|some d=>if d.agg&& !d.flds.isEmpty then AK0 d.flds tm (d.zero.map S3) Ai.toList fun cs=>K (.agg cs) hp .T else none|none=>none)
 |.nilCheck x=>(match opT tm x with|.rf id r c=>K (.rf id r c) hp .T|.ir t a c=>K (.ir t a c) hp .T|.cl f caps=>K (.cl f caps) hp .T|_=>none)
 |.binOp op t x y _=>
  (match A4A op y with
  |true=>(match getD X.ty t,opT tm x with|some d,.im _ l=>(match d.elem with|some _=>(neL l).bind fun _=>K (.bool false) hp .T|none=>none)|_,_=>none)
  |false=>(match erC op y with
   |some s=>(match opT tm x with
    |.er e=>cond (AI8 X t) (K (.bool (cond s (!e) e)) hp .T) none
    |_=>A2K X op t (opT tm x) (opT tm y) fun v=>K v hp .T)
   |none=>A2K X op t (opT tm x) (opT tm y) fun v=>K v hp .T))
 |.unOp u _ x=>tUn u (opT tm x) fun v=>K v hp .T
 |.convert s d x=>A3O X s d (opT tm x) hp fun v c=>K v hp c
 |.field t x k=>
  match opT tm x,getD X.ty t with
  |.agg cs,some d=>(match d.flds[k]? with|some f=>tMk f.agg (An6 cs f.off f.size) fun v=>K v hp .T|none=>none)
  |_,_=>none
 |.fieldAddr t x k=>
  match getD X.ty t with
  |some d=>
   match d.flds[k]?,opT tm x with
   |some f,.rf id r c=>K (.rf id r (c+f.off)) hp .T
   |some f,.ir t a c=>K (.ir t a (c+f.off)) hp .T
   |_,_=>none
  |none=>none
 |.index t x i=>
  match Mc X t,opT tm x,opT tm i with
  |true,.str s,.int _ n=>(AI s n).bind fun c=>K (.int .u8 (c.toNat:Int)) hp .T
  |_,_,_=>none
 |.indexAddr t x i=>A5j X t (opT tm x) (opT tm i) hp fun v c=>K v hp c
 |.slice t x lo (some hi) (some mx)=>
  match T1 X t,opT tm x with
  |some (_,_,_),.im _ l=>
   match XG tm lo 0,XG tm (some hi) 0,XG tm (some mx) 0 with
   |some lo,some hi,some mx=>cond (decide (lo=0/\hi=0/\mx=0)) (K .em hp .T) none
   |_,_,_=>none
  |_,_=>none
 |.extract x k=>(match opT tm x with|.tup vs=>(match vs[k]? with|some v=>Tf v fun v=>K v hp .T|none=>none)|_=>none)
 |.makeFunc (.func f) first caps=>if first.isEmpty&&(caps.toList.map (opT tm)).all okT then K (.cl f (caps.toList.map (opT tm))) hp .T else none
 |.call {callee:=.builtin .append,args,argTypes}=>(match args.toList with|[s,x]=>AF8 X argTypes.toList (opT tm s) (opT tm x) tm hp b K|_=>none)
 |.call {callee:=.builtin .len,args,argTypes}=>(match args.toList,argTypes.toList with|[x],[t]=>A50 X t (opT tm x) hp fun v=>K v hp .T|_,_=>none)
 |.call {callee:=.builtin .min,args, .. }=>UV false (args.toList.map (opT tm)) fun v=>K v hp .T
 |.call {callee:=.builtin .max,args, .. }=>UV true (args.toList.map (opT tm)) fun v=>K v hp .T
 |.call {callee:=.value f,args, .. }=>(match opT tm f with|.cl g caps=>A1X X g (args.toList.map (opT tm)++caps) tm hp b K|_=>none)
 |.alloc t=>(match getD X.ty t with|some d=>if Gi tm hp b then K (.rf b 0 0) ((b,some (.box t (d.zero.map S3)))::hp) .M else none|none=>none)
 |.box t x=>(match getD X.ty t with|some d=>if Nat.beq (Dl (opT tm x)).length d.size&&(Dl (opT tm x)).all okT&&Gi tm hp b then K (.rf b 0 0) ((b,some (.box t (Dl (opT tm x))))::hp) .M else none|none=>none)
 |.load t a=>AL1 X t (opT tm a) hp fun v=>K v hp .M
 |.makeSlice t l c=>A4e X t (Av4 l c) (opT tm l) (opT tm c) tm hp b K
 |_=>none
def AZ7(draw:Bool)(op:Op)(b:Nat)(tm:TTm)(hp:THp)(K:SV->THp->Cls->Option α):Option α:=
 match draw&&isR op with
 |true=>BJ X op b tm (Aj0 b hp) fun x _ cls=>K x hp cls
 |false=>BJ X op b tm hp K
def Z7(draw ok:Bool)(cls:Cls)(A:Option α):Option α:=
 match draw,cls with
 |true,.E=>cond ok A none
 |_,_=>A
def Az8(tm:TTm)(op:Op):Bool:=(op.operands.toList.map (opT tm)).all EM
def AY9(tm:TTm)(op:Op):List Nat:=(op.operands.toList.map (opT tm)).flatMap rf1
def QA(op:Op)(tm:TTm)(hp:THp):Option (List Nat):=
 match op with
 |.store _ a x=>if EM (opT tm a)&&EM (opT tm x)then some (rf1 (opT tm a)++rf1 (opT tm x))else none
 |.call {callee:=.value f,args, .. }=>
  match opT tm f with
  |.cl g caps=>
   match ZF X.ents g with
   |some E=>
    match SA hp (Fj E.a.params) (args.toList.map (opT tm)++caps)with
    |some args'=>if args'.all EM then(match Gc hp 64 (args'.flatMap rf1) []with|some o=>some (o++Kw (Fj E.a.params) (args.toList.map (opT tm)++caps))|none=>none)else none
    |none=>none
   |none=>none
  |_=>none
 |.buildSlice _ (_+1) Ai=>if Ai.toList.all fun p=>EM (opT tm p.2)then some (Ai.toList.flatMap fun p=>rf1 (opT tm p.2))else none
 |_=>none
def AR0(ops:List Oper)(tm:TTm)(hp:THp)(i:Nat):Bool:=
 match ops[i]? with
 |some a=> !GI ops a&&(match QA X a.op tm hp with
  |some ids=>(List.range ops.length).all fun j=>j==i||EN ops i j||(match ops[j]? with
   |some o=>isT o.op||(isR o.op&&decide (j<i)&&A1o ops j i o&&(Az8 tm o.op&&(AY9 tm o.op).all fun id=> !ids.contains id))
   |none=>true)
  |none=>false)
 |none=>false
def OX(tm:TTm)(dst:Option Tmp)(x:SV):TTm:=
 match dst with
 |some d=>(d,x)::tm
 |none=>tm
def Qp(all:List Oper)(draw:Bool):List Oper->Nat->TSt->(TSt->Option α)->Option α
 |[],_,st,K=>K st
 |o::l,i,st,K=>
  match o.guard with
  |none=>
   AZ7 X draw o.op (16*(st.c+i)) st.tm st.hp fun x hp cls=>Z7 draw (eOK all i||AR0 X all st.tm st.hp i) cls (Qp all draw l (i+1) {tm:=OX st.tm o.dst x,hp:=hp,c:=st.c} K)
  |some (j,want)=>
   match (all[j]?).bind (·.dst)with
   |some d=>
    match Bt st.tm d with
    |.bool t=>
     let go (tm:TTm):Option α:=AZ7 X draw o.op (16*(st.c+i)) tm st.hp fun x hp cls=>Z7 draw (eOK all i||AR0 X all tm st.hp i) cls (Qp all draw l (i+1) {tm:=OX tm o.dst x,hp:=hp,c:=st.c} K)
     let no (tm:TTm):Option α:=Qp all draw l (i+1) {tm:=OX tm o.dst (.tup []),hp:=st.hp,c:=st.c} K
     match want with
     |true=>cond t (go ((d,.bool true)::st.tm)) (no ((d,.bool false)::st.tm))
     |false=>cond t (no ((d,.bool true)::st.tm)) (go ((d,.bool false)::st.tm))
    |.tup []=>Qp all draw l (i+1) {tm:=OX st.tm o.dst (.tup []),hp:=st.hp,c:=st.c} K
    |_=>none
   |none=>none
end
@[reducible] def A3G:List (Ex×List Item)->Type
 |[]=>Empty
 |[a]=>B9 a.2
 |a::b::l=>B9 a.2⊕A3G (b::l)
def AC4(e:Nat):(l:List (Ex×List Item))->Ex->TSt->Option (A3G l)
 |[],_,_=>none
 |[a],ex,st=>cond (RL a.1 ex) (Ff e a.2 st) none
 |a::b::l,ex,st=>cond (RL a.1 ex) ((Ff e a.2 st).map .inl) ((AC4 e (b::l) ex st).map .inr)
def A0e{α:Type}(K:Ex->TSt->Option α):(l:List (Ex×List Item))->A3G l->Option α
 |[]=>fun d=>nomatch d
 |[a]=>fun d=>K a.1 (HM a.2 d)
 |a::b::l=>fun d=>Sum.elim (fun d=>K a.1 (HM a.2 d)) (A0e K (b::l)) d
abbrev A0t(α:Type):=Ex->TSt->Option α
def TX.e(X:TX):Nat:=X.ann.e
def wtC (X:TX):Code->{α:Type}->TSt->A0t α->Option α
 |.skip,_,st,Q=>Q .normal st
 |.region _ ops draw,_,st,Q=>Qp X (reo draw ops.toList) draw (reo draw ops.toList) 0 st fun s=>Q .normal {s with c:=s.c+ops.size}
 |.seq a b,_,st,Q=>
  match D4 X.ann.joins (rid b)with
  |none=>wtC X a st fun ex s=>match ex with|.normal=>wtC X b s Q|ex=>Q ex s
  |some an=>
   (wtC X a (α:=_⊕B9 an) st fun ex s=>match ex with|.normal=>(Ff X.e an s).map .inr|ex=>(Q ex s).map .inl).bind fun z=>Sum.elim some (fun d=>wtC X b (HM an d) Q) z
 |.cond c x y,_,st,Q=>
  match opT st.tm c with
  |.bool t=>cond t (wtC X x st Q) (wtC X y st Q)
  |_=>none
 |.block id c,_,st,Q=>wtC X c st fun ex s=>match ex with|.exit j=>cond (Nat.beq j id) (Q .normal s) (Q (.exit j) s)|ex=>Q ex s
 |.loop c,_,st,Q=>
  match D4 X.ann.heads (rid c),D4 X.ann.outs (rid c)with
  |some an,some outs=>
   (Ff X.e an st).bind fun d0=>
   (Ad (fun d=>wtC X c (HM an d) fun ex s=>match ex with|.normal=>(Ff X.e an s).map .inl|ex=>(AC4 X.e outs ex s).map .inr) d0).bind fun z=>A0e Q outs z
  |_,_=>none
 |.exit id,_,st,Q=>Q (.exit id) st
 |.ret,_,st,Q=>Q .ret st
 |_,_,_,_=>none
def Ay2{α:Type}(X:TX)(tm:TTm)(hp:THp):List ResultVar->(List SV->Option α)->Option α
 |[],K=>K []
 |.tmp t::l,K=>Ay2 X tm hp l fun xs=>K (Bt tm t::xs)
 |.cell a t::l,K=>AL1 X t (Bt tm a) hp fun x=>Ay2 X tm hp l fun xs=>K (x::xs)
def tnR:List TMs->List SV->THp->Nat->Option (List SV×THp)
 |[],[],hp,_=>some ([],hp)
 |m::ms,x::xs,hp,c=>
  match tnV m x hp (16*c)with
  |some (y,hp1,n)=>if Nat.ble n 16 then(match tnR ms xs hp1 (c+1)with|some (ys,hp2)=>some (y::ys,hp2)|none=>none)else none
  |none=>none
 |_,_,_,_=>none
def A1z(rts:List (Nat×TMs))(hp:THp):Bool:=rts.all fun p=>Nat.blt p.1 16&&(match AF hp p.1 with|some (.box _ _)=>true|_=>false)
def A2M(res:List Item)(e:Nat)(s:TSt)(xs:List SV):Option (B9 res):=
 let rts:=Uu (CD res) e 0 (CD res)
 if A1z rts s.hp&&xs.all EM&&So (Rs 0 xs) s.hp (16*(s.c+1))then
  match tnR (rts.map (·.2)++(JJ (CD res) res).map (·.2)) (rts.map (fun p=>SV.rf p.1 0 0)++xs) s.hp (s.c+1)with
  |some (ys,hp)=>
   let zs:=ys.drop rts.length
   if zs.all EM then
    match Gc hp 64 (List.range e++zs.flatMap rf1) []with
    |some o=>if Az3 (o.take e) (List.range e)then rdI 0 res (Rs 0 (zs.map (BB (C5 o)))) (Em hp (C5 o) 0 o)else none
    |none=>none
   else none
  |none=>none
 else none
def wtF (X:TX) (fn:Func) (x:B9 X.ann.params):Option (B9 X.ann.res):=
 match fn.body with
 |some c=>wtC X c (HM X.ann.params x) fun ex s=>
  match ex with
  |.exit _=>none
  |_=>Ay2 X s.tm s.hp fn.results.toList fun xs=>A2M X.ann.res X.e s xs
 |none=>none
end
section
open Go
def RLx{α:Type}(R:α->List V->Prop)(l:List α)(rows:List (List V)):Prop:=
 rows.length=l.length/\∀(i:Nat)(a:α)(r:List V),l[i]? =some a->rows[i]? =some r->R a r
section
variable {α:Type} {R:α->List V->Prop} {l m:List α} {rows rs:List (List V)}
theorem RLx.nil:RLx R ([]:List α) []:=⟨rfl,fun i a r h=>by simp at h⟩
theorem RLx.of_nil(h:RLx R ([]:List α) rows):rows=[]:=zb2 h.1
theorem RLx.get(h:RLx R l rows){i:Nat}{a:α}(hi:l[i]? =some a):∃r,rows[i]? =some r/\R a r:=by
 have hlt:i<rows.length:=by rw[h.1];exact(za3.1 hi).1
 exact⟨rows[i],za1 hlt,h.2 i a _ hi (za1 hlt)⟩
theorem RLx.get'(h:RLx R l rows){i:Nat}{r:List V}(hi:rows[i]? =some r):∃a,l[i]? =some a/\R a r:=by
 have hlt:i<l.length:=by rw[<-h.1];exact(za3.1 hi).1
 exact⟨l[i],za1 hlt,h.2 i _ r (za1 hlt) hi⟩
theorem RLx.mono{R':α->List V->Prop}(h:RLx R l rows)(hm:∀a r,R a r->R' a r):RLx R' l rows:=⟨h.1,fun i a r h1 h2=>hm a r (h.2 i a r h1 h2)⟩
theorem RLx.set(h:RLx R l rows)(k:Nat){z:α}{r:List V}(hz:R z r):RLx R (l.set k z) (rows.set k r):=by
 refine⟨by simp[h.1],fun i a q h1 h2=> ?_⟩
 rw[List.getElem?_set]at h1 h2;by_cases hk:k=i
 ·subst hk;rw[zr rfl]at h1 h2
  split at h1
  ·split at h2
   ·cases h1;cases h2;exact hz
   ·cases h2
  ·cases h1
 ·rw[zw hk]at h1 h2;exact h.2 i a q h1 h2
theorem RLx.append(h:RLx R l rows)(k:RLx R m rs):RLx R (l++m) (rows++rs):=by
 refine⟨by simp[h.1,k.1],fun i a q h1 h2=> ?_⟩
 rw[ze6]at h1 h2;rw[h.1]at h2
 split at h1
 ·rename_i hi;rw[zr hi]at h2;exact h.2 i a q h1 h2
 ·rename_i hi;rw[zw hi]at h2;exact k.2 _ a q h1 h2
theorem RLx.take(h:RLx R l rows)(n:Nat):RLx R (l.take n) (rows.take n):=by
 refine⟨by simp[h.1],fun i a q h1 h2=> ?_⟩
 rw[zc0]at h1 h2
 split at h1
 ·rename_i hi;rw[zr hi]at h2;exact h.2 i a q h1 h2
 ·cases h1
theorem RLx.drop(h:RLx R l rows)(n:Nat):RLx R (l.drop n) (rows.drop n):=by
 refine⟨by simp[h.1],fun i a q h1 h2=> ?_⟩
 rw[zd3]at h1 h2;exact h.2 _ a q h1 h2
theorem RLx.replicate{z:α}{r:List V}(h:R z r)(n:Nat):RLx R (List.replicate n z) (List.replicate n r):=by
 refine⟨by simp,fun i a q h1 h2=> ?_⟩
 rw[ze7]at h1 h2
 split at h1
 ·rename_i hi;rw[zr hi]at h2;cases h1;cases h2;exact h
 ·cases h1
theorem RLx.cons{a:α}{r:List V}(h:R a r)(k:RLx R l rows):RLx R (a::l) (r::rows):=by
 refine⟨by simp[k.1],fun i a' q h1 h2=> ?_⟩
 cases i with
 |zero=>simp at h1 h2;subst h1;subst h2;exact h
 |succ i=>exact k.2 i a' q (by simpa using h1) (by simpa using h2)
end
def RE:(t:Ty)->t.den->List V->Prop
 |.int k,n,row=>row=[.v (.int k n)]
 |.bool,b,row=>row=[.v (.bool b)]
 |.str,s,row=>row=[.v (.string ⟨s.toArray⟩)]
 |.pair a b,x,row=>∃r1 r2,row=r1++r2/\RE a x.1 r1/\RE b x.2 r2
 |.sl e,l,row=>(l=[]/\row=[.em])\/∃rows,row=[.im rows]/\RLx (RE e) l rows
theorem RE.len:∀{t:Ty}{a:t.den}{row:List V},RE t a row->row.length=t.size
 |.int _,_,_,h=>by simp only[RE]at h;subst h;rfl
 |.bool,_,_,h=>by simp only[RE]at h;subst h;rfl
 |.str,_,_,h=>by simp only[RE]at h;subst h;rfl
 |.pair a b,x,_,h=>by
  obtain⟨r1,r2,rfl,h1,h2⟩:=h;simp[Ty.size,h1.len,h2.len]
 |.sl e,_,_,h=>by
  rcases h with⟨_,rfl⟩|⟨rows,rfl,_⟩<;>rfl
def EZ:TB->Option Nat
 |.box _ _=>none
 |.arr _ _ _ l=>some l.length
 |.frz _ _ _ l=>some l.length
def RV0(hp:THp):SV->V->Prop
 |.int k n,y=>y=.v (.int k n)
 |.bool b,y=>y=.v (.bool b)
 |.str s,y=>y=.v (.string ⟨s.toArray⟩)
 |.sc x,y=>y=.v x
 |.er b,y=>y=.er b
 |.em,y=>y=.em
 |.im t l,y=>(l=[]/\y=.em)\/∃rows,y=.im rows/\RLx (RE t) l rows
 |.ow id,y=>∃n,y=.ar id 0 n/\∀b,AF hp id=some b->EZ b=some n
 |.ar id lo n,y=>y=.ar id lo n
 |.rf id r c,y=>y=.rf id r c
 |.ir t a c,y=>∃row,y=.ir row c/\RE t a row
 |.cl f [],y=>y=.cl f []
 |.any,_=>True
 |_,_=>False
def RC(R:SV->V->Prop):List SV->List V->Prop
 |[],[]=>True
 |x::xs,y::ys=>R x y/\RC R xs ys
 |_,_=>False
def RV1(hp:THp):SV->V->Prop
 |.agg cs,y=>∃us,y=.agg us/\RC (RV0 hp) cs us
 |.cl f caps,y=>∃us,y=.cl f us/\RC (RV0 hp) caps us
 |x,y=>RV0 hp x y
def RV2(hp:THp):SV->V->Prop
 |.tup vs,y=>∃us,y=.tup us/\RC (RV1 hp) vs us
 |x,y=>RV1 hp x y
section
variable {R R':SV->V->Prop}
theorem RC.length:∀{xs:List SV}{ys:List V},RC R xs ys->ys.length=xs.length
 |[],[],_=>rfl
 |_::xs,_::ys,h=>by simp[RC.length (xs:=xs) (ys:=ys) h.2]
 |[],_::_,h=>h.elim
 |_::_,[],h=>h.elim
theorem RC.mono:∀{xs:List SV}{ys:List V},RC R xs ys->(∀x∈xs,∀y,R x y->R' x y)->RC R' xs ys
 |[],[],_,_=>trivial
 |x::xs,y::ys,h,hm=>⟨hm x (by simp) y h.1,RC.mono h.2 fun x hx=>hm x (by simp[hx])⟩
 |[],_::_,h,_=>h.elim
 |_::_,[],h,_=>h.elim
theorem RC.append:∀{xs xs':List SV}{ys ys':List V},RC R xs ys->RC R xs' ys'->RC R (xs++xs') (ys++ys')
 |[],_,[],_,_,h=>h
 |_::xs,_,_::ys,_,h,h'=>⟨h.1,RC.append h.2 h'⟩
 |[],_,_::_,_,h,_=>h.elim
 |_::_,_,[],_,h,_=>h.elim
theorem RC.take:∀{xs:List SV}{ys:List V}(n:Nat),RC R xs ys->RC R (xs.take n) (ys.take n)
 |[],[],n,_=>by simp[RC]
 |a::xs,b::ys,0,_=>by simp[RC]
 |a::xs,b::ys,n+1,h=>⟨h.1,RC.take n h.2⟩
 |[],_::_,_,h=>h.elim
 |_::_,[],_,h=>h.elim
theorem RC.drop:∀{xs:List SV}{ys:List V}(n:Nat),RC R xs ys->RC R (xs.drop n) (ys.drop n)
 |[],[],n,_=>by simp[RC]
 |a::xs,b::ys,0,h=>h
 |a::xs,b::ys,n+1,h=>by simpa using RC.drop n h.2
 |[],_::_,_,h=>h.elim
 |_::_,[],_,h=>h.elim
theorem RC.get:∀{xs:List SV}{ys:List V},RC R xs ys->∀{j:Nat}{x:SV},xs[j]? =some x->∃y,ys[j]? =some y/\R x y
 |[],[],_,j,x,h=>by simp at h
 |a::xs,b::ys,h,0,x,hx=>by simp at hx;subst hx;exact⟨b,by simp,h.1⟩
 |a::xs,b::ys,h,j+1,x,hx=>by simpa using RC.get h.2 (by simpa using hx)
 |[],_::_,h,_,_,_=>h.elim
 |_::_,[],h,_,_,_=>h.elim
theorem RC.map{α:Type}{f:α->SV}{g:α->V}:∀{l:List α},(∀x∈l,R (f x) (g x))->RC R (l.map f) (l.map g)
 |[],_=>trivial
 |x::l,h=>⟨h x (by simp),RC.map fun y hy=>h y (by simp[hy])⟩
end
theorem RC.seg{hp:THp}{cs l:List SV}{us:List V}{off n:Nat}(h:An6 cs off n=some l)(hr:RC (RV0 hp) cs us):∃vs,seg us off n=some vs/\RC (RV0 hp) l vs:=by
 unfold An6 at h
 split at h
 ·rename_i hn;cases h
  refine⟨_,by unfold Ev.seg;rw[zr (by rw[hr.length];exact hn)],(hr.drop off).take n⟩
 ·cases h
theorem RC.put{hp:THp}{cs cs' new:List SV}{us vs:List V}{off:Nat}(h:AW1 cs off new=some cs')(hr:RC (RV0 hp) cs us)(hn:RC (RV0 hp) new vs):∃us',Gu us off vs=some us'/\RC (RV0 hp) cs' us':=by
 unfold AW1 at h
 split at h
 ·rename_i hl;cases h
  have h1:=hr.length;have h2:=hn.length;refine⟨_,by unfold Gu;rw[zr (by omega)],?_⟩
  rw[h2];exact((hr.take off).append hn).append (hr.drop _)
 ·cases h
theorem RV0.to1{hp:THp}:∀{x:SV}{y:V},RV0 hp x y->RV1 hp x y
 |.cl f [],y,h=>⟨[],h,trivial⟩
 |.cl _ (_::_),_,h=>h.elim
 |.agg _,_,h=>h.elim
 |.tup _,_,h=>h
 |.int ..,_,h|.bool _,_,h|.str _,_,h|.sc _,_,h|.er _,_,h|.em,_,h|.im ..,_,h|.ow _,_,h|.ar ..,_,h|.rf ..,_,h|.ir ..,_,h|.any,_,h=>h
theorem RV1.to2{hp:THp}:∀{x:SV}{y:V},RV1 hp x y->RV2 hp x y
 |.tup _,_,h=>False.elim h
 |.cl ..,_,h|.agg _,_,h|.int ..,_,h|.bool _,_,h|.str _,_,h|.sc _,_,h|.er _,_,h|.em,_,h|.im ..,_,h|.ow _,_,h|.ar ..,_,h|.rf ..,_,h|.ir ..,_,h|.any,_,h=>h
def CN(hp hp':THp)(id:Nat):Prop:=∀b',AF hp' id=some b'->∃b,AF hp id=some b/\EZ b=EZ b'
theorem CN.refl(hp:THp)(id:Nat):CN hp hp id:=fun b h=>⟨b,h,rfl⟩
theorem CN.trans{a b c:THp}{id:Nat}(h:CN a b id)(k:CN b c id):CN a c id:=fun x hx=>by
 obtain⟨y,hy,e⟩:=k x hx;obtain⟨z,hz,e'⟩:=h y hy;exact⟨z,hz,e'.trans e⟩
theorem RV0.keeps{hp hp':THp}:∀{x:SV}{y:V},RV0 hp x y->(∀id∈EY x,CN hp hp' id)->RV0 hp' x y
 |.ow id,y,⟨n,hy,h⟩,hk=>⟨n,hy,fun b hb=>by
   obtain⟨b0,h0,e⟩:=hk id (by simp[EY]) b hb;rw[<-e];exact h b0 h0⟩
 |.cl _ [],_,h,_=>h
 |.cl _ (_::_),_,h,_=>h.elim
 |.int ..,_,h,_|.bool _,_,h,_|.str _,_,h,_|.sc _,_,h,_|.er _,_,h,_|.em,_,h,_|.im ..,_,h,_|.ar ..,_,h,_|.rf ..,_,h,_|.ir ..,_,h,_|.any,_,h,_=>h
 |.agg _,_,h,_=>h.elim
 |.tup _,_,h,_=>h.elim
theorem RV1.keeps{hp hp':THp}{x:SV}{y:V}(h:RV1 hp x y)(hk:∀id∈XA x,CN hp hp' id):RV1 hp' x y:=by
 have key:∀{cs:List SV}{us:List V},(∀id∈cs.flatMap EY,CN hp hp' id)->RC (RV0 hp) cs us->RC (RV0 hp') cs us:=fun hk h=>
  h.mono fun x hx y hxy=>hxy.keeps fun id hid=>hk id (zb1.2 ⟨x,hx,hid⟩)
 cases x with
 |agg cs=>obtain⟨us,rfl,h⟩:=h;exact⟨us,rfl,key hk h⟩
 |cl f cs=>obtain⟨us,rfl,h⟩:=h;exact⟨us,rfl,key hk h⟩
 |int k n=>exact RV0.keeps (x:=.int k n) h hk
 |bool b=>exact RV0.keeps (x:=.bool b) h hk
 |str s=>exact RV0.keeps (x:=.str s) h hk
 |sc v=>exact RV0.keeps (x:=.sc v) h hk
 |em=>exact RV0.keeps (x:=.em) h hk
 |er e=>exact RV0.keeps (x:=.er e) h hk
 |im t l=>exact RV0.keeps (x:=.im t l) h hk
 |ow id=>exact RV0.keeps (x:=.ow id) h hk
 |ar a b c=>exact RV0.keeps (x:=.ar a b c) h hk
 |rf a b c=>exact RV0.keeps (x:=.rf a b c) h hk
 |ir a b c=>exact RV0.keeps (x:=.ir a b c) h hk
 |tup l=>exact h.elim
 |any=>trivial
theorem RV2.keeps{hp hp':THp}{x:SV}{y:V}(h:RV2 hp x y)(hk:∀id∈GC x,CN hp hp' id):RV2 hp' x y:=by
 cases x with
 |tup vs=>obtain⟨us,rfl,h⟩:=h;exact⟨us,rfl,h.mono fun x hx y hxy=>hxy.keeps fun id hid=>hk id (zb1.2 ⟨x,hx,hid⟩)⟩
 |agg cs=>exact RV1.keeps (x:=.agg cs) h hk
 |cl f cs=>exact RV1.keeps (x:=.cl f cs) h hk
 |int k n=>exact RV1.keeps (x:=.int k n) h hk
 |bool b=>exact RV1.keeps (x:=.bool b) h hk
 |str s=>exact RV1.keeps (x:=.str s) h hk
 |sc v=>exact RV1.keeps (x:=.sc v) h hk
 |em=>exact RV1.keeps (x:=.em) h hk
 |er e=>exact RV1.keeps (x:=.er e) h hk
 |im t l=>exact RV1.keeps (x:=.im t l) h hk
 |ow id=>exact RV1.keeps (x:=.ow id) h hk
 |ar a b c=>exact RV1.keeps (x:=.ar a b c) h hk
 |rf a b c=>exact RV1.keeps (x:=.rf a b c) h hk
 |ir a b c=>exact RV1.keeps (x:=.ir a b c) h hk
 |any=>trivial
def RB(hp:THp):TB->Blk->Prop
 |.box ty cs,k=>k.kind=.box/\k.ty=ty/\∃row,k.rows=[row]/\k.size=row.length/\RC (RV0 hp) cs row
 |.arr ty deep t l,k=>k.kind=.arr/\k.ty=ty/\k.deep=deep/\k.size=t.size/\RLx (RE t) l k.rows
 |.frz ty deep t l,k=>k.kind=.frz/\k.ty=ty/\k.deep=deep/\k.size=t.size/\RLx (RE t) l k.rows
theorem RB.keeps{hp hp':THp}:∀{b:TB}{k:Blk},RB hp b k->(∀id∈Kt b,CN hp hp' id)->RB hp' b k
 |.box ty cs,k,⟨h1,h2,row,h3,h4,h5⟩,hk=>⟨h1,h2,row,h3,h4,h5.mono fun x hx y hxy=>hxy.keeps fun id hid=>hk id (zb1.2 ⟨x,hx,hid⟩)⟩
 |.arr ..,_,h,_=>h
 |.frz ..,_,h,_=>h
def RH(hp:THp)(h:Hp):Prop:=∀id b,AF hp id=some b->∃k,h id=some k/\RB hp b k
def RT(hp:THp)(tm:TTm)(m:Tm):Prop:=∀t,RV2 hp (Bt tm t) (m t)
structure RS (st:TSt) (s:St):Prop where
 tm:RT st.hp st.tm s.tm
 hp:RH st.hp s.hp
 c:s.c=st.c
theorem AA(k:Nat)(x:Option TB)(l:THp)(i:Nat):AF ((k,x)::l) i=if i=k then x else AF l i:=by
 simp only[AF];by_cases h:i=k
 ·subst h;simp
 ·rw[zw h];have:Nat.beq i k=false:=by cases hb:Nat.beq i k with|false=>rfl|true=>exact absurd (za6 hb) h
  rw[this];rfl
theorem E4(k:Nat)(x:SV)(l:TTm)(i:Nat):Bt ((k,x)::l) i=if i=k then x else Bt l i:=by
 simp only[Bt];by_cases h:i=k
 ·subst h;simp
 ·rw[zw h];have:Nat.beq i k=false:=by cases hb:Nat.beq i k with|false=>rfl|true=>exact absurd (za6 hb) h
  rw[this];rfl
theorem Ag3{tm:TTm}{t:Nat}:Bt tm t=.any\/∃x∈tm,x.2=Bt tm t:=by
 induction tm with
 |nil=>exact .inl rfl
 |cons a l ih=>
  obtain⟨k,x⟩:=a;rw[E4]
  split
  ·exact .inr ⟨(k,x),by simp,rfl⟩
  ·rcases ih with h|⟨y,hy,h⟩
   ·exact .inl h
   ·exact .inr ⟨y,by simp[hy],h⟩
theorem A0w{hp:THp}{id:Nat}{b:TB}(h:AF hp id=some b):∃x∈hp,x.2=some b:=by
 induction hp with
 |nil=>cases h
 |cons a l ih=>
  obtain⟨k,x⟩:=a;rw[AA]at h
  split at h
  ·exact⟨(k,x),by simp,h⟩
  ·obtain⟨y,hy,h⟩:=ih h;exact⟨y,by simp[hy],h⟩
theorem Sm{b:Nat}{l:List Nat}(h:AH3 b l=true):b ∉ l:=by
 intro hm;have:=za5.1 h b hm;simp at this
theorem I5{tm:TTm}{hp:THp}{b:Nat}(h:Gi tm hp b=true)(t:Nat):b ∉ GC (Bt tm t):=by
 simp only[Gi,za2]at h;rcases Ag3 (tm:=tm) (t:=t)with h'|⟨x,hx,h'⟩
 ·rw[h'];simp[GC,XA,EY]
 ·rw[<-h'];exact Sm (za5.1 h.1 x hx)
theorem Rg{tm:TTm}{hp:THp}{b:Nat}(h:Gi tm hp b=true){id:Nat}{k:TB}(hk:AF hp id=some k):b ∉ Kt k:=by
 simp only[Gi,za2]at h;obtain⟨x,hx,h'⟩:=A0w hk;have:=za5.1 h.2 x hx;rw[h']at this;exact Sm this
theorem RT.keeps{hp hp':THp}{tm:TTm}{m:Tm}(h:RT hp tm m)(hk:∀t,∀id∈GC (Bt tm t),CN hp hp' id):RT hp' tm m:=fun t=>(h t).keeps (hk t)
theorem Lk{hp:THp}{b:Nat}{x:Option TB}{id:Nat}(h:id≠b):CN hp ((b,x)::hp) id:=fun k hk=>by
 rw[AA,zw h]at hk;exact⟨k,hk,rfl⟩
theorem VZ{hp:THp}{b:Nat}{x y:TB}(hx:AF hp b=some x)(hl:EZ x=EZ y)(id:Nat):CN hp ((b,some y)::hp) id:=fun k hk=>by
 rw[AA]at hk
 split at hk
 ·rename_i he;subst he;cases hk;exact⟨x,hx,hl⟩
 ·exact⟨k,hk,rfl⟩
theorem AF4{hp:THp}{b:Nat}(id:Nat):CN hp ((b,none)::hp) id:=fun k hk=>by
 rw[AA]at hk
 split at hk
 ·cases hk
 ·exact⟨k,hk,rfl⟩
theorem Hb:∀(l:List Nat)(hp:THp)(id:Nat),CN hp (DJ hp l) id
 |[],hp,id=>CN.refl hp id
 |b::l,hp,id=>(AF4 id).trans (Hb l _ id)
theorem Qk:∀(l:List Nat)(hp:THp)(id:Nat)(b:TB),AF (DJ hp l) id=some b->AF hp id=some b/\id ∉ l
 |[],_,_,_,h=>⟨h,by simp⟩
 |x::l,hp,id,b,h=>by
  obtain⟨h1,h2⟩:=Qk l _ id b h;rw[AA]at h1
  split at h1
  ·cases h1
  ·rename_i hne;exact⟨h1,by simp[hne,h2]⟩
theorem RH.kill{hp:THp}{h:Hp}(hr:RH hp h)(l:List Nat):RH (DJ hp l) (Ev.kill h l):=fun id b hb=>by
 obtain⟨h1,h2⟩:=Qk l hp id b hb;obtain⟨k,hk,hrb⟩:=hr id b h1;exact⟨k,by rw[JQ l h id h2];exact hk,hrb.keeps fun i _=>Hb l hp i⟩
theorem RH.put{hp:THp}{h:Hp}(hr:RH hp h){b:Nat}{x:TB}{k:Blk}(hk:∀id∈Kt x,CN hp ((b,some x)::hp) id)(hold:∀id y,id≠b->AF hp id=some y->∀i∈Kt y,CN hp ((b,some x)::hp) i)(hx:RB hp x k):RH ((b,some x)::hp) (upd h b (some k)):=fun id y hy=>by
 rw[AA]at hy
 split at hy
 ·rename_i he;subst he;cases hy
  exact⟨k,by simp[upd],hx.keeps hk⟩
 ·rename_i he;obtain⟨k',hk',hr'⟩:=hr id y hy;exact⟨k',by simp[upd,he,hk'],hr'.keeps (hold id y he hy)⟩
end
section
open Go
theorem RE.cells{hp:THp}:∀{t:Ty}{a:t.den}{row:List V},RE t a row->RC (RV0 hp) (Ap4 t a) row
 |.int _,_,_,h=>by simp only[RE]at h;subst h;exact⟨rfl,trivial⟩
 |.bool,_,_,h=>by simp only[RE]at h;subst h;exact⟨rfl,trivial⟩
 |.str,_,_,h=>by simp only[RE]at h;subst h;exact⟨rfl,trivial⟩
 |.pair a b,x,_,h=>by
  obtain⟨r1,r2,rfl,h1,h2⟩:=h;exact h1.cells.append h2.cells
 |.sl e,l,_,h=>by
  rcases h with⟨rfl,rfl⟩|⟨rows,rfl,hr⟩
  ·exact⟨.inl ⟨rfl,rfl⟩,trivial⟩
  ·exact⟨.inr ⟨rows,rfl,hr⟩,trivial⟩
theorem FP{t e:Ty}(h:t=e){l:List t.den}{rows:List (List V)}(hr:RLx (RE t) l rows):RLx (RE e) (Ip h l) rows:=by subst h;exact hr
theorem Ad3{hp:THp}{e:Ty}{x:SV}{l:List e.den}{y:V}(h:asL e x=some l)(hv:RV0 hp x y):(l=[]/\y=.em)\/∃rows,y=.im rows/\RLx (RE e) l rows:=by
 unfold asL at h
 split at h
 ·cases h;exact .inl ⟨rfl,hv⟩
 ·split at h
  ·rename_i t l' he;cases h
   subst he;rcases hv with⟨rfl,rfl⟩|⟨rows,rfl,hr⟩
   ·exact .inl ⟨rfl,rfl⟩
   ·exact .inr ⟨rows,rfl,hr⟩
  ·cases h
 ·cases h
theorem Xq{hp:THp}:∀{t:Ty}{cs r:List SV}{x:t.den}{us:List V},RN t cs=some (x,r)->RC (RV0 hp) cs us->∃row us',us=row++us'/\RE t x row/\RC (RV0 hp) r us'
 |.int k,cs,r,x,us,h,hv=>by
  cases cs with
  |nil=>simp[RN]at h
  |cons c cs=>
   cases c<;>simp only[RN,reduceCtorEq]at h
   rename_i k' n
   split at h
   ·rename_i hk;cases h
    subst hk;cases us with
    |nil=>exact hv.elim
    |cons u us=>obtain⟨h1,h2⟩:=hv;exact⟨[u],us,rfl,by simp only[RE];rw[h1],h2⟩
   ·cases h
 |.bool,cs,r,x,us,h,hv=>by
  cases cs with
  |nil=>simp[RN]at h
  |cons c cs=>
   cases c<;>simp only[RN,reduceCtorEq]at h
   cases h
   cases us with
   |nil=>exact hv.elim
   |cons u us=>obtain⟨h1,h2⟩:=hv;exact⟨[u],us,rfl,by simp only[RE];rw[h1],h2⟩
 |.str,cs,r,x,us,h,hv=>by
  cases cs with
  |nil=>simp[RN]at h
  |cons c cs=>
   cases c<;>simp only[RN,reduceCtorEq]at h
   cases h
   cases us with
   |nil=>exact hv.elim
   |cons u us=>obtain⟨h1,h2⟩:=hv;exact⟨[u],us,rfl,by simp only[RE];rw[h1],h2⟩
 |.pair a b,cs,r,x,us,h,hv=>by
  simp only[RN]at h
  split at h
  ·rename_i x1 r1 h1
   split at h
   ·rename_i y1 r2 h2;cases h
    obtain⟨row1,us1,rfl,e1,v1⟩:=Xq h1 hv;obtain⟨row2,us2,rfl,e2,v2⟩:=Xq h2 v1;exact⟨row1++row2,us2,by simp,⟨row1,row2,rfl,e1,e2⟩,v2⟩
   ·cases h
  ·cases h
 |.sl e,cs,r,x,us,h,hv=>by
  cases cs with
  |nil=>simp[RN]at h
  |cons c cs=>
   simp only[RN]at h
   split at h
   ·rename_i l h1;cases h
    cases us with
    |nil=>exact hv.elim
    |cons u us=>
     obtain⟨q1,q2⟩:=hv;refine⟨[u],us,rfl,?_,q2⟩
     rcases Ad3 h1 q1 with⟨rfl,rfl⟩|⟨rows,rfl,hr⟩
     ·exact .inl ⟨rfl,rfl⟩
     ·exact .inr ⟨rows,rfl,hr⟩
   ·cases h
theorem U1{hp:THp}{t:Ty}{cs:List SV}{x:t.den}{us:List V}(h:A0D t cs=some x)(hv:RC (RV0 hp) cs us):RE t x us:=by
 unfold A0D at h
 split at h
 ·rename_i y hd;cases h
  obtain⟨row,us',rfl,e,v⟩:=Xq hd hv;cases us' with
  |nil=>simpa using e
  |cons a l=>exact v.elim
 ·cases h
theorem An2{hp:THp}(c:Value):RV0 hp (QX c) (Dt c):=by
 unfold QX Dt
 split
 ·simp[Hy,RV0]
 ·simp[Hy,RV0]
 ·simp[Hy,RV0]
 ·rfl
 ·split
  ·rename_i h1 h2 h3 h4 h5
   split
   ·exact absurd rfl h4
   ·rw[zr h5];rfl
  ·trivial
theorem Yy{hp:THp}:∀(l:List Value),RC (RV0 hp) (l.map QX) (l.map Dt)
 |[]=>trivial
 |c::l=>⟨An2 c,Yy l⟩
theorem AX0{hp:THp}(c:Value):RV2 hp (WG c) (IH c):=by
 unfold WG IH
 split
 ·rename_i cs;exact⟨_,rfl,Yy cs.toList⟩
 ·rename_i hn
  split
  ·rename_i cs;exact absurd rfl (hn cs)
  ·exact(An2 c).to1.to2
theorem A2{hp:THp}{tm:TTm}{m:Tm}(h:RT hp tm m)(x:Operand):RV2 hp (opT tm x) (AG m x):=by
 cases x with
 |tmp t=>exact h t
 |const c=>exact AX0 c
 |global g=>trivial
 |func f=>exact⟨[],rfl,trivial⟩
theorem P9{hp:THp}:∀(l:List V),RC (RV0 hp) (l.map S3) l
 |[]=>trivial
 |x::l=>by
  refine⟨?_,P9 l⟩
  unfold S3
  split<;>first|rfl|trivial
theorem Jw{α:Type}(x:SV)(F:SV->α):Tf x F=F x:=by cases x<;>rfl
section
variable {hp:THp} {x:SV} {y:V}
theorem I6{k:IntKind}{n:Int}(h:RV2 hp (.int k n) y):y=.v (.int k n):=h
theorem N8{b:Bool}(h:RV2 hp (.bool b) y):y=.v (.bool b):=h
theorem Sf{s:Str}(h:RV2 hp (.str s) y):y=.v (.string ⟨s.toArray⟩):=h
theorem WX{cs:List SV}(h:RV2 hp (.agg cs) y):∃us,y=.agg us/\RC (RV0 hp) cs us:=h
theorem AJ7{f:FuncId}{cs:List SV}(h:RV2 hp (.cl f cs) y):∃us,y=.cl f us/\RC (RV0 hp) cs us:=h
theorem Jy(hv:RV2 hp x y)(hok:(Dl x).all okT=true):RC (RV0 hp) (Dl x) (flat y)/\(flat y).all Br=true:=by
 have one:∀{x:SV}{y:V},RV0 hp x y->okT x=true->Br y=true:=by
  intro x y h hk;cases x with
  |int k n=>have:y=_:=h;subst this;rfl
  |bool b=>have:y=_:=h;subst this;rfl
  |str s=>have:y=_:=h;subst this;rfl
  |sc v=>have:y=_:=h;subst this;rfl
  |em=>have:y=_:=h;subst this;rfl
  |er e=>simp[okT]at hk
  |im t l=>rcases h with⟨_,rfl⟩|⟨rows,rfl,_⟩<;>rfl
  |ow id=>obtain⟨n,rfl,_⟩:=h;rfl
  |ar a b c=>have:y=_:=h;subst this;rfl
  |rf a b c=>have:y=_:=h;subst this;rfl
  |ir a b c=>obtain⟨row,rfl,_⟩:=h;rfl
  |agg cs=>simp[okT]at hk
  |tup cs=>simp[okT]at hk
  |cl f cs=>cases cs with
   |nil=>have:y=_:=h;subst this;rfl
   |cons a l=>simp[okT]at hk
  |any=>simp[okT]at hk
 have many:∀{xs:List SV}{ys:List V},RC (RV0 hp) xs ys->xs.all okT=true->ys.all Br=true:=by
  intro xs
  induction xs with
  |nil=>intro ys h _;cases ys with|nil=>rfl|cons a l=>exact h.elim
  |cons a l ih=>
   intro ys h hk;cases ys with
   |nil=>exact h.elim
   |cons b m=>
    simp only[zc8,za2]at hk⊢
    exact⟨one h.1 hk.1,ih h.2 hk.2⟩
 have single:RV0 hp x y->Dl x=[x]->flat y=[y]->RC (RV0 hp) (Dl x) (flat y)/\(flat y).all Br=true:=by
  intro h h1 h2;rw[h1]at hok⊢
  rw[h2];exact⟨⟨h,trivial⟩,many (xs:=[x]) (ys:=[y]) ⟨h,trivial⟩ hok⟩
 cases x with
 |agg cs=>obtain⟨us,rfl,h⟩:=hv;exact⟨h,many h hok⟩
 |int k n=>have:y=_:=hv;subst this;exact single rfl rfl rfl
 |bool b=>have:y=_:=hv;subst this;exact single rfl rfl rfl
 |str s=>have:y=_:=hv;subst this;exact single rfl rfl rfl
 |sc v=>have:y=_:=hv;subst this;exact single rfl rfl rfl
 |em=>have:y=_:=hv;subst this;exact single rfl rfl rfl
 |er e=>simp[Dl,okT]at hok
 |im t l=>have hv':RV0 hp (.im t l) y:=hv;rcases hv with⟨_,rfl⟩|⟨rows,rfl,_⟩<;>exact single hv' rfl rfl
 |ow id=>have hv':RV0 hp (.ow id) y:=hv;obtain⟨n,rfl,_⟩:=hv;exact single hv' rfl rfl
 |ar a b c=>have:y=_:=hv;subst this;exact single rfl rfl rfl
 |rf a b c=>have:y=_:=hv;subst this;exact single rfl rfl rfl
 |ir a b c=>have hv':RV0 hp (.ir a b c) y:=hv;obtain⟨row,rfl,_⟩:=hv;exact single hv' rfl rfl
 |tup cs=>simp[Dl,okT]at hok
 |cl f cs=>
  cases cs with
  |nil=>
   obtain⟨us,rfl,h⟩:=hv;cases us with
   |nil=>exact single rfl rfl rfl
   |cons a l=>exact h.elim
  |cons a l=>simp[Dl,okT]at hok
 |any=>simp[Dl,okT]at hok
end
theorem UJ{hp:THp}{g:Bool}{cs:List SV}{us:List V}{x:SV}(h:mkT g cs=some x)(hr:RC (RV0 hp) cs us):∃y,mk g us=some y/\RV2 hp x y:=by
 unfold mkT at h
 split at h
 ·rename_i hg;cases h
  exact⟨.agg us,by simp[mk,hg],us,rfl,hr⟩
 ·rename_i hg
  split at h
  ·cases h
   cases us with
   |nil=>exact hr.elim
   |cons u us=>
    cases us with
    |nil=>exact⟨u,by simp[mk,hg],hr.1.to1.to2⟩
    |cons a l=>exact hr.2.elim
  ·cases h
theorem Q4{α:Type}{g:Bool}{cs:Option (List SV)}{K:SV->Option α}{z:α}(h:tMk g cs K=some z):∃l x,cs=some l/\mkT g l=some x/\K x=some z:=by
 unfold tMk at h
 split at h
 ·split at h
  ·rename_i x hx;rw[Jw]at h;exact⟨_,x,rfl,hx,h⟩
  ·cases h
 ·cases h
theorem Bh{α β:Type}{x:Option α}{f:α->Option β}{z:β}(h:x.bind f=some z):∃a,x=some a/\f a=some z:=by
 cases x with
 |none=>cases h
 |some a=>exact⟨a,rfl,h⟩
theorem Oc{α:Type}{c:Bool}{A:Option α}{z:α}(h:cond c none A=some z):c=false/\A=some z:=by
 cases c with
 |true=>cases h
 |false=>exact⟨rfl,h⟩
theorem C1{α:Type}{c:Bool}{A:Option α}{z:α}(h:cond c A none=some z):c=true/\A=some z:=by
 cases c with
 |false=>cases h
 |true=>exact⟨rfl,h⟩
theorem Fn{α:Type}{X:Option V}{k:IntKind}{n:Int}{K:SV->Option α}{z:α}(h:K (.int k n)=some z)(he:X=some (.v (.int k n))):∃v u,X=some (.v u)/\(∀hp,RV2 hp v (.v u))/\K v=some z:=⟨.int k n,.int k n,he,fun _=>rfl,h⟩
theorem Hj{α:Type}{X:Option V}{b:Bool}{K:SV->Option α}{z:α}(h:K (.bool b)=some z)(he:X=some (.v (.bool b))):∃v u,X=some (.v u)/\(∀hp,RV2 hp v (.v u))/\K v=some z:=⟨.bool b,.bool b,he,fun _=>rfl,h⟩
theorem A0G{α:Type}{X:Option V}{s:Str}{K:SV->Option α}{z:α}(h:K (.str s)=some z)(he:X=some (.v (.string ⟨s.toArray⟩))):∃v u,X=some (.v u)/\(∀hp,RV2 hp v (.v u))/\K v=some z:=⟨.str s,.string ⟨s.toArray⟩,he,fun _=>rfl,h⟩
theorem A26{α:Type}{P:Program}{op:BinOp}{t:TypeId}{x y:Operand}{k k':IntKind}{a b:Int}{K:SV->Option α}{z:α}(h:F5 op k k' a b K=some z):
  ∃v u,((Ao P (do eqGuard op t x y (.int k a) (.int k' b);binOp op t (.int k a) (.int k' b))).bind AD)=some (.v u)/\(∀hp,RV2 hp v (.v u))/\K v=some z:=by
 have hk:k=k'->(op≠ .shl/\op≠ .shr)->∃v u,((Ao P (do eqGuard op t x y (.int k a) (.int k b);binOp op t (.int k a) (.int k b))).bind AD)=some (.v u)/\(∀hp,RV2 hp v (.v u))/\K v=some z:=by
  intro he hop;subst he;cases op
  case quo=>
   simp only[F5,if_true]at h;obtain⟨h1,h2⟩:=Oc h;have h0:¬b=0:=by simpa using h1
   refine Fn h2 ?_
   show((Ao P (if k≠k then _ else if b=0 then _ else _)).bind AD)=_;rw[zw (by simp),zw h0];rfl
  case rem=>
   simp only[F5,if_true]at h;obtain⟨h1,h2⟩:=Oc h;have h0:¬b=0:=by simpa using h1
   refine Fn h2 ?_
   show((Ao P (if k≠k then _ else if b=0 then _ else _)).bind AD)=_;rw[zw (by simp),zw h0];rfl
  case shl=>exact absurd rfl hop.1
  case shr=>exact absurd rfl hop.2
  case andNot=>simp only[F5,if_true,reduceCtorEq]at h
  case add=>simp only[F5,if_true]at h;exact Fn h (by show((Ao P (if k≠k then _ else _)).bind AD)=_;rw[zw (by simp)];rfl)
  case sub=>simp only[F5,if_true]at h;exact Fn h (by show((Ao P (if k≠k then _ else _)).bind AD)=_;rw[zw (by simp)];rfl)
  case mul=>simp only[F5,if_true]at h;exact Fn h (by show((Ao P (if k≠k then _ else _)).bind AD)=_;rw[zw (by simp)];rfl)
  case and=>simp only[F5,if_true]at h;exact Fn h (by show((Ao P (if k≠k then _ else _)).bind AD)=_;rw[zw (by simp)];rfl)
  case or=>simp only[F5,if_true]at h;exact Fn h (by show((Ao P (if k≠k then _ else _)).bind AD)=_;rw[zw (by simp)];rfl)
  case xor=>simp only[F5,if_true]at h;exact Fn h (by show((Ao P (if k≠k then _ else _)).bind AD)=_;rw[zw (by simp)];rfl)
  case eql=>simp only[F5,if_true]at h;exact Hj h (by show((Ao P (if k≠k then _ else _)).bind AD)=_;rw[zw (by simp)];rfl)
  case neq=>simp only[F5,if_true]at h;exact Hj h (by show((Ao P (if k≠k then _ else _)).bind AD)=_;rw[zw (by simp)];rfl)
  case lss=>simp only[F5,if_true]at h;exact Hj h (by show((Ao P (if k≠k then _ else _)).bind AD)=_;rw[zw (by simp)];rfl)
  case leq=>simp only[F5,if_true]at h;exact Hj h (by show((Ao P (if k≠k then _ else _)).bind AD)=_;rw[zw (by simp)];rfl)
  case gtr=>simp only[F5,if_true]at h;exact Hj h (by show((Ao P (if k≠k then _ else _)).bind AD)=_;rw[zw (by simp)];rfl)
  case geq=>simp only[F5,if_true]at h;exact Hj h (by show((Ao P (if k≠k then _ else _)).bind AD)=_;rw[zw (by simp)];rfl)
 by_cases h1:op=.shl
 ·subst h1;simp only[F5]at h;obtain⟨h1,h2⟩:=Oc h;have h0:¬b<0:=by simpa using h1
  refine Fn h2 ?_
  show((Ao P (if b<0 then _ else _)).bind AD)=_;rw[zw h0];rfl
 ·by_cases h2:op=.shr
  ·subst h2;simp only[F5]at h;obtain⟨h1,h2⟩:=Oc h;have h0:¬b<0:=by simpa using h1
   refine Fn h2 ?_
   show((Ao P (if b<0 then _ else _)).bind AD)=_;rw[zw h0];rfl
  ·by_cases hkk:k=k'
   ·subst hkk;exact hk rfl ⟨h1,h2⟩
   ·exfalso
    cases op<;>simp only[F5,zw hkk,reduceCtorEq]at h
    ·exact h1 rfl
    ·exact h2 rfl
theorem A25{α:Type}{P:Program}{op:BinOp}{t:TypeId}{x y:Operand}{s u:Str}{K:SV->Option α}{z:α}(h:A0P op s u K=some z):
  ∃v w,((Ao P (do eqGuard op t x y (.string ⟨s.toArray⟩) (.string ⟨u.toArray⟩);binOp op t (.string ⟨s.toArray⟩) (.string ⟨u.toArray⟩))).bind AD)=some (.v w)/\(∀hp,RV2 hp v (.v w))/\K v=some z:=by
 have e1:(ByteArray.mk s.toArray).toList=s:=ByteArray.toList_mk s;have e2:(ByteArray.mk u.toArray).toList=u:=ByteArray.toList_mk u;cases op<;>simp only[A0P,reduceCtorEq]at h
 case add=>
  obtain⟨r,h1,h2⟩:=Bh h;unfold Rp at h1
  split at h1
  ·rename_i hle;cases h1
   refine A0G h2 ?_
   show((Ao P (if(((ByteArray.mk s.toArray).size+(ByteArray.mk u.toArray).size:Nat):Int)>IntKind.i64.max then _ else _)).bind AD)=_;have hs:(ByteArray.mk s.toArray).size=s.length:=by simp[ByteArray.size]
   have hu:(ByteArray.mk u.toArray).size=u.length:=by simp[ByteArray.size]
   have hm:IntKind.i64.max=9223372036854775807:=by decide
   rw[zw (by rw[hs,hu,hm];omega)];have:(ByteArray.mk s.toArray)++(ByteArray.mk u.toArray)=⟨(s++u).toArray⟩:=by
    apply ByteArray.ext;simp
   show some (V.v (.string ((ByteArray.mk s.toArray)++(ByteArray.mk u.toArray))))=_;rw[this]
  ·cases h1
 all_goals
  refine Hj h ?_
  show some (V.v (.bool _))=_;simp only[e1,e2]
end
section
open Go
abbrev EqR:SV->V->Prop:=fun s u=>∃k n,s=.int k n/\u=.v (.int k n)
def A58(P:Program)(t:TypeId)(n:Nat):Prop:=∀(x y:Operand)(cs ds:List SV)(us vs:List Value)(r:Bool),us.length=n->RC EqR cs (us.map .v)->
 RC EqR ds (vs.map .v)->GH cs ds=some r->
 Ao P (do eqGuard .eql t x y (.agg us.toArray) (.agg vs.toArray);binOp .eql t (.agg us.toArray) (.agg vs.toArray))=some (.bool r)/\
 Ao P (do eqGuard .neq t x y (.agg us.toArray) (.agg vs.toArray);binOp .neq t (.agg us.toArray) (.agg vs.toArray))=some (.bool (!r))
def A5C(P:Program)(t:TypeId):Prop:=∀d,AQ P t=some d->A58 P t d.size
structure XOK (P:Program) (X:TX):Prop where
 ty:∀t d,getD X.ty t=some d->AQ P t=some d
 bools:∀t,X.bools.contains t=true->P.underlying t=some .bool
 eqs:∀t,X.eqs.contains t=true->A5C P t
section
variable {α:Type} {P:Program} {R:Rel} {cf:Cfg} {X:TX} {b:Nat} {tm:TTm} {m:Tm} {hp hpm:THp} {hv hvm:Hp} {K:SV->THp->Cls->Option α} {z:α}
def CK(P:Program)(R:Rel)(cf:Cfg)(op:Op)(b:Nat)(m:Tm)(hp:THp)(hpm:THp)(hvm:Hp)(K:SV->THp->Cls->Option α)(z:α):Prop:=
 ∃x y cls,K x hpm cls=some z/\RV2 hp x y/\∀KV:Cb,KV y hvm cls->Bo P R cf op b (AG m) hvm KV
def RHm(hpm hp:THp)(hvm:Hp):Prop:=∀id b,AF hpm id=some b->AF hp id=some b/\∃k,hvm id=some k/\RB hp b k
theorem RH.toM(h:RH hp hv):RHm hp hp hv:=fun id b hb=>⟨hb,h id b hb⟩
theorem A5{op:Op}{x:SV}{y:V}(h:K x hpm .T=some z)(hr:RV2 hp x y)(hn:Ay P op (AG m)=some y)
  (hop:∀KV:Cb,Bo P R cf op b (AG m) hvm KV=(match Ay P op (AG m)with|some x=>KV x hvm .T|none=>Bs (Bb P op (AG m) hvm b) fun z=>z.2.length<=16/\KV z.1 (inst hvm b z.2) .M)):CK P R cf op b m hp hpm hvm K z:=
 ⟨x,y,.T,h,hr,fun KV hk=>by rw[hop,hn];exact hk⟩
theorem Ml{op:Op}{x:SV}{y:V}(h:K x hpm .M=some z)(hr:RV2 hp x y)(hn:Ay P op (AG m)=none)(hm:Bb P op (AG m) hvm b=some (y,[]))
  (hop:∀KV:Cb,Bo P R cf op b (AG m) hvm KV=(match Ay P op (AG m)with|some x=>KV x hvm .T|none=>Bs (Bb P op (AG m) hvm b) fun z=>z.2.length<=16/\KV z.1 (inst hvm b z.2) .M)):CK P R cf op b m hp hpm hvm K z:=
 ⟨x,y,.M,h,hr,fun KV hk=>by rw[hop,hn];simp only[hm,Am,inst];exact⟨by simp,hk⟩⟩
theorem A4T{x:Operand}(hr:RT hp tm m)(h:BJ X (.move x) b tm hpm K=some z):CK P R cf (.move x) b m hp hpm hvm K z:=by
 simp only[BJ,Jw]at h;exact A5 h (A2 hr x) rfl fun _=>rfl
theorem A1W{x:Operand}(hr:RT hp tm m)(h:BJ X (.assign x) b tm hpm K=some z):CK P R cf (.assign x) b m hp hpm hvm K z:=by
 simp only[BJ,Jw]at h;exact A5 h (A2 hr x) rfl fun _=>rfl
theorem A4Q{c x y:Operand}(hr:RT hp tm m)(h:BJ X (.pick c x y) b tm hpm K=some z):CK P R cf (.pick c x y) b m hp hpm hvm K z:=by
 simp only[BJ,Jw]at h
 split at h
 ·rename_i t ht;have hc:=A2 hr c;rw[ht]at hc;have hc:=N8 hc;cases t with
  |true=>exact A5 h (A2 hr x) (by simp[Ay,hc]) fun _=>rfl
  |false=>exact A5 h (A2 hr y) (by simp[Ay,hc]) fun _=>rfl
 ·cases h
theorem A5H{x:Operand}(hr:RT hp tm m)(h:BJ X (.nilCheck x) b tm hpm K=some z):CK P R cf (.nilCheck x) b m hp hpm hvm K z:=by
 simp only[BJ]at h;have hc:=A2 hr x
 split at h
 ·rename_i id r c hx;rw[hx]at hc;have hc':AG m x=.rf id r c:=hc;exact A5 h (y:=.rf id r c) rfl (by simp[Ay,hc']) fun _=>rfl
 ·rename_i t a c hx;rw[hx]at hc;obtain⟨row,he,hre⟩:=hc;exact A5 h (y:=.ir row c) ⟨row,rfl,hre⟩ (by simp[Ay,he]) fun _=>rfl
 ·rename_i f caps hx;rw[hx]at hc;obtain⟨us,he,hre⟩:=AJ7 hc;exact A5 h (y:=.cl f us) ⟨us,rfl,hre⟩ (by simp[Ay,he]) fun _=>rfl
 ·cases h
theorem A6c{u:UnOp}{t:TypeId}{x:Operand}(hr:RT hp tm m)(h:BJ X (.unOp u t x) b tm hpm K=some z):CK P R cf (.unOp u t x) b m hp hpm hvm K z:=by
 simp only[BJ,tUn]at h;have hc:=A2 hr x
 split at h
 ·rename_i bb hx;rw[hx]at hc;have hc:=N8 hc;exact A5 h (y:=.v (.bool !bb)) rfl (by simp only[Ay,hc];rfl) fun _=>rfl
 ·rename_i k n hx;rw[hx]at hc;have hc:=I6 hc;exact A5 h (y:=.v (.int k (k.wrap (0-n)))) rfl (by simp only[Ay,hc];rfl) fun _=>rfl
 ·cases h
theorem A1H{cs ds:List SV}{r:Bool}(h:GH cs ds=some r):∀{us vs:List V},RC (RV0 hp) cs us->RC (RV0 hp) ds vs->∃us' vs':List Value,us=us'.map .v/\vs=vs'.map .v/\
  RC EqR cs (us'.map .v)/\RC EqR ds (vs'.map .v):=by
 induction cs generalizing ds r with
 |nil=>
  intro us vs h1 h2;cases ds with
  |nil=>
   cases us with
   |nil=>cases vs with
    |nil=>exact⟨[],[],rfl,rfl,trivial,trivial⟩
    |cons a l=>exact h2.elim
   |cons a l=>exact h1.elim
  |cons a l=>simp[GH]at h
 |cons c cs ih=>
  intro us vs h1 h2;cases ds with
  |nil=>cases c<;>simp[GH]at h
  |cons d ds=>
   cases us with
   |nil=>exact h1.elim
   |cons u us=>
    cases vs with
    |nil=>exact h2.elim
    |cons v vs=>
     cases c<;>cases d<;>first|(simp[GH]at h;done)|skip
     rename_i k n k' n';have hrest:∃r',GH cs ds=some r':=by
      cases cs with
      |nil=>
       cases ds with
       |nil=>exact⟨true,rfl⟩
       |cons a l=>simp only[GH]at h;split at h<;>simp_all
      |cons a l=>
       simp only[GH]at h
       split at h
       ·cases he:GH (a::l) ds with
        |none=>rw[he]at h;cases h
        |some r'=>exact⟨r',rfl⟩
       ·cases h
     obtain⟨r',hr'⟩:=hrest;obtain⟨us',vs',e1,e2,e3,e4⟩:=ih hr' h1.2 h2.2;have q1:u=.v (.int k n):=h1.1;have q2:v=.v (.int k' n'):=h2.1;subst q1;subst q2;subst e1;subst e2;exact⟨_::us',_::vs',rfl,rfl,⟨⟨_,_,rfl,rfl⟩,e3⟩,⟨⟨_,_,rfl,rfl⟩,e4⟩⟩
theorem Er{β:Type}{t:TypeId}{d:TypeDesc}(hu:P.underlying t=some d)(f:TypeDesc->Sem β):Ao P (underlying t>>=f)=Ao P (f d):=by
 show Ao P ((match P.underlying t with|some d=>(pure d:Sem TypeDesc)|none=>stuck "no such type")>>=f)=_;rw[hu];rfl
theorem AS9{t:TypeId}(hu:P.underlying t=some .bool)(p q:Bool):Ao P (Op.equal t (.bool p) (.bool q))=some (p==q):=by
 show Ao P (Op.equalIn (9999+1) t (.bool p) (.bool q))=_;unfold Op.equalIn;rw[Er hu];rfl
theorem PZ{α β:Type}(f:α->Sem β)(s:Sem α)(a:α)(h:Ao P s=some a):Ao P (s>>=f)=Ao P (f a):=by
 induction s with
 |pure b=>simp[Ao]at h;subst h;rfl
 |program k ih=>exact ih P (by simpa[Ao]using h)
 |_=>simp[Ao]at h
theorem Lx:∀(l:List Value),CI (l.map V.v)=some l
 |[]=>rfl
 |x::l=>by simp[CI,Lx l]
theorem A5q{op:BinOp}{t yt:TypeId}{x y:Operand}(hX:XOK P X)(hr:RT hp tm m)(h:BJ X (.binOp op t x y yt) b tm hpm K=some z):CK P R cf (.binOp op t x y yt) b m hp hpm hvm K z:=by
 simp only[BJ]at h;have hx:=A2 hr x;have hy:=A2 hr y;cases hnc:A4A op y with
 |true=>
  rw[hnc]at h;simp only at h
  split at h
  case h_2=>cases h
  rename_i d ty l hd hl
  split at h
  case h_2=>cases h
  rename_i e he;obtain⟨u,hu,h2⟩:=Bh h;rw[hl]at hx;have hne:∃r rows,AG m x=.im (r::rows):=by
   cases l with
   |nil=>cases hu
   |cons a l=>
    rcases hx with⟨h0,_⟩|⟨rows,hrow,hrl⟩
    ·cases h0
    ·cases rows with
     |nil=>exact absurd hrl.1 (by simp)
     |cons r rows=>exact⟨r,rows,hrow⟩
  obtain⟨r,rows,hxv⟩:=hne;have hsl:Ps P t=true:=by unfold Ps;rw[hX.ty t d hd];simp[he]
  refine A5 h2 (y:=.v (.bool false)) rfl ?_ fun _=>rfl
  unfold A4A at hnc
  split at hnc
  ·simp only[Ay,hxv,H5,Re,hsl]
  ·cases hnc
 |false=>
 rw[hnc]at h;simp only at h;have h:(∃s e,erC op y=some s/\opT tm x=.er e/\AI8 X t=true/\K (.bool (cond s (!e) e)) hpm .T=some z)\/A2K X op t (opT tm x) (opT tm y) (fun v=>K v hpm .T)=some z:=by
  split at h
  ·rename_i s hs
   split at h
   ·rename_i e he;cases hi:AI8 X t with
    |true=>rw[hi]at h;exact .inl ⟨s,e,hs,he,rfl,h⟩
    |false=>rw[hi]at h;cases h
   ·exact .inr h
  ·exact .inr h
 rcases h with⟨s,e,hs,he,hi,h⟩|h
 ·rw[he]at hx;have hx:AG m x=.er e:=hx;have hic:Ah5 P t=true:=by
   unfold AI8 at hi
   split at hi
   ·rename_i d hd;unfold Ah5;rw[hX.ty t d hd];exact hi
   ·cases hi
  unfold erC at hs
  split at hs
  ·cases hs
   refine A5 h (y:=.v (.bool !e)) rfl ?_ fun _=>rfl
   simp only[Ay,hx,H5,Re,AP1,hic]
  ·cases hs
   refine A5 h (y:=.v (.bool e)) rfl ?_ fun _=>rfl
   simp only[Ay,hx,H5,Re,AP1,hic]
  ·cases hs
 simp only[A2K]at h
 split at h
 ·rename_i k a k' c e1 e2;rw[e1]at hx;rw[e2]at hy;have hx:=I6 hx;have hy:=I6 hy;obtain⟨v,u,q1,q2,q3⟩:=A26 (P:=P) (t:=t) (x:=x) (y:=y) h;exact A5 q3 (q2 hp) (by simp only[Ay,hx,hy,H5];exact q1) fun _=>rfl
 ·rename_i s u e1 e2;rw[e1]at hx;rw[e2]at hy;have hx:=Sf hx;have hy:=Sf hy;obtain⟨v,u,q1,q2,q3⟩:=A25 (P:=P) (t:=t) (x:=x) (y:=y) h;exact A5 q3 (q2 hp) (by simp only[Ay,hx,hy,H5];exact q1) fun _=>rfl
 ·rename_i p q e1 e2;rw[e1]at hx;rw[e2]at hy;have hx:=N8 hx;have hy:=N8 hy
  split at h
  ·rename_i hb;have hu:=hX.bools t hb;have heq:=AS9 hu p q
   split at h
   ·refine A5 h (y:=.v (.bool (p==q))) rfl ?_ fun _=>rfl
    simp only[Ay,hx,hy,H5];show((Ao P (do let r <-Op.equal t (.bool p) (.bool q);pure (.bool r))).bind AD)=_;rw[PZ _ _ _ heq];rfl
   ·refine A5 h (y:=.v (.bool !(p==q))) rfl ?_ fun _=>rfl
    simp only[Ay,hx,hy,H5];show((Ao P (do let r <-Op.equal t (.bool p) (.bool q);pure (.bool !r))).bind AD)=_;rw[PZ _ _ _ heq];rfl
   ·cases h
  ·cases h
 ·rename_i cs ds e1 e2;rw[e1]at hx;rw[e2]at hy;obtain⟨us,hx,r1⟩:=WX hx;obtain⟨vs,hy,r2⟩:=WX hy
  split at h
  ·rename_i ht
   split at h
   ·rename_i d r hd hq
    split at h
    case isFalse=>cases h
    rename_i hlen;obtain⟨us',vs',rfl,rfl,q1,q2⟩:=A1H hq r1 r2;have hl:us'.length=d.size:=by
     have:=RC.length q1;rw[zd7]at this;rw[this];exact za6 hlen
    obtain⟨p1,p2⟩:=hX.eqs t ht d (hX.ty t d hd) x y cs ds us' vs' r hl q1 q2 hq
    split at h
    ·exact A5 h (y:=.v (.bool r)) rfl (by simp only[Ay,hx,hy,H5,Lx];rw[p1];rfl) fun _=>rfl
    ·exact A5 h (y:=.v (.bool !r)) rfl (by simp only[Ay,hx,hy,H5,Lx];rw[p2];rfl) fun _=>rfl
    ·cases h
   ·cases h
  ·cases h
 ·cases h
end
end
section
open Go
variable {P:Program}
end
section
open Go
section
variable {α:Type} {P:Program} {R:Rel} {cf:Cfg} {X:TX} {b:Nat} {tm:TTm} {m:Tm} {hp hpm:THp} {hv hvm:Hp} {K:SV->THp->Cls->Option α} {z:α}
theorem Ya{β:Type}{flds:List Fld}(hr:RT hp tm m):∀{Ai:List (Nat×Operand)}{cs:List SV}{us:List V}{K:List SV->Option β}{z:β},AK0 flds tm cs Ai K=some z->RC (RV0 hp) cs us->
  ∃cs' us',Ij flds (AG m) us Ai=some us'/\RC (RV0 hp) cs' us'/\K cs'=some z
 |[],cs,us,K,z,h,hc=>⟨cs,us,rfl,hc,h⟩
 |(k,x)::rest,cs,us,K,z,h,hc=>by
  simp only[AK0,Jw]at h
  split at h
  ·rename_i f hf
   split at h
   ·rename_i hok;simp only[za2,decide_eq_true_eq]at hok
    split at h
    ·rename_i cs1 hp1;obtain⟨f1,f2⟩:=Jy (A2 hr x) hok.2;obtain⟨us1,h1,h2⟩:=RC.put hp1 hc f1;obtain⟨cs2,us2,h3,h4,h5⟩:=Ya hr h h2;refine⟨cs2,us2,?_,h4,h5⟩
     simp only[Ij,hf];have hl:=f1.length;have he:=of_decide_eq_true (by simpa using hok.1:decide ((Dl (opT tm x)).length=f.size)=true);rw[zr (by simp only[za2,decide_eq_true_eq];exact⟨by omega,f2⟩),h1];exact h3
    ·cases h
   ·cases h
  ·cases h
theorem A29{t:TypeId}{Ai:Array (Nat×Operand)}(hX:XOK P X)(hr:RT hp tm m)(h:BJ X (.build t Ai) b tm hpm K=some z):CK P R cf (.build t Ai) b m hp hpm hvm K z:=by
 simp only[BJ]at h
 split at h
 ·rename_i d hd
  split at h
  ·rename_i hc;obtain⟨cs,us,h1,h2,h3⟩:=Ya hr h (P9 d.zero);exact A5 h3 (y:=.agg us) ⟨us,rfl,h2⟩ (by simp only[Ay,hX.ty t d hd,hc,if_true,h1,zd2]) fun _=>rfl
  ·cases h
 ·cases h
theorem A24{t:TypeId}{x:Operand}{k:Nat}(hX:XOK P X)(hr:RT hp tm m)(h:BJ X (.field t x k) b tm hpm K=some z):CK P R cf (.field t x k) b m hp hpm hvm K z:=by
 simp only[BJ]at h;have hx:=A2 hr x
 split at h
 ·rename_i cs d e1 hd;rw[e1]at hx;obtain⟨us,hx,hc⟩:=WX hx
  split at h
  ·rename_i f hf;obtain⟨l,v,h1,h2,h3⟩:=Q4 h;obtain⟨vs,h4,h5⟩:=RC.seg h1 hc;obtain⟨y,h6,h7⟩:=UJ h2 h5;exact A5 h3 h7 (by simp only[Ay,hx,hX.ty t d hd,hf,h4,za0,h6]) fun _=>rfl
  ·cases h
 ·cases h
theorem As6{t:TypeId}{x:Operand}{k:Nat}(hX:XOK P X)(hr:RT hp tm m)(h:BJ X (.fieldAddr t x k) b tm hpm K=some z):CK P R cf (.fieldAddr t x k) b m hp hpm hvm K z:=by
 simp only[BJ]at h;have hx:=A2 hr x
 split at h
 ·rename_i d hd
  split at h
  ·rename_i f id r c hf e1;rw[e1]at hx;have hx:AG m x=.rf id r c:=hx;exact A5 h (y:=.rf id r (c+f.off)) rfl (by simp only[Ay,hX.ty t d hd,hf,hx]) fun _=>rfl
  ·rename_i f ty a c hf e1;rw[e1]at hx;obtain⟨row,hx,hre⟩:=hx;exact A5 h (y:=.ir row (c+f.off)) ⟨row,rfl,hre⟩ (by simp only[Ay,hX.ty t d hd,hf,hx]) fun _=>rfl
  ·cases h
 ·cases h
theorem AU8{t:TypeId}(hX:XOK P X)(h:Mc X t=true):Ej P t=true:=by
 unfold Mc at h
 split at h
 ·rename_i d hd;simp only[Ej,hX.ty t d hd];exact h
 ·cases h
theorem slX{t:TypeId}(hX:XOK P X)(h:Ap7 X t=true):Ps P t=true:=by
 unfold Ap7 at h
 split at h
 ·rename_i d hd;simp only[Ps,hX.ty t d hd];exact h
 ·cases h
theorem ZH{β:Type}{l:List β}{n:Int}{a:β}(h:AI l n=some a):0<=n/\l[n.toNat]? =some a:=by
 unfold AI at h
 split at h
 ·rename_i h0;exact⟨h0,h⟩
 ·cases h
theorem YM{n:Int}{len k:Nat}(h:A1 n len=some k):0<=n/\n.toNat<len/\k=n.toNat:=by
 unfold A1 at h
 split at h
 ·rename_i h0;cases h;exact⟨h0.1,h0.2,rfl⟩
 ·cases h
theorem A3C{t:TypeId}{x i:Operand}(hX:XOK P X)(hr:RT hp tm m)(h:BJ X (.index t x i) b tm hpm K=some z):CK P R cf (.index t x i) b m hp hpm hvm K z:=by
 simp only[BJ]at h;have hx:=A2 hr x;have hi:=A2 hr i
 split at h
 ·rename_i s k n hs e1 e2;rw[e1]at hx;rw[e2]at hi;have hx:=Sf hx;have hi:=I6 hi;obtain⟨c,h1,h2⟩:=Bh h;obtain⟨h0,hc⟩:=ZH h1;have hlt:n.toNat<s.length:=(za3.1 hc).1;refine A5 h2 (y:=.v (.int .u8 (c.toNat:Int))) rfl ?_ fun _=>rfl
  simp only[Ay,AU8 hX hs,hx,hi];have hsz:n.toNat<(ByteArray.mk s.toArray).size:=by simpa[ByteArray.size]using hlt
  rw[dif_pos ⟨h0,hsz⟩];have:(ByteArray.mk s.toArray)[n.toNat]'hsz=c:=by
   have:=(za3.1 hc).2;rw[<-this];rfl
  rw[this]
 ·cases h
structure ElemOK (P:Program) (t e:TypeId) (d:TyD) (c:Ty):Prop where
 el:(AQ P t).bind (·.elem)=some e
 ty:AQ P e=some d
 size:d.size=c.size
 flat:d.zero.all UC=Ef c
theorem OE{t e:TypeId}{d:TyD}{c:Ty}(hX:XOK P X)(h:T1 X t=some (e,d,c)):ElemOK P t e d c:=by
 unfold T1 at h
 split at h
 ·rename_i d0 hd0
  split at h
  ·rename_i e0 he0
   split at h
   ·rename_i de c0 hde hc0
    split at h
    ·rename_i hb;simp only[za2,beq_iff_eq]at hb;simp only[zx,Prod.mk.injEq]at h;obtain⟨rfl,rfl,rfl⟩:=h;exact⟨by rw[hX.ty t d0 hd0];exact he0,hX.ty _ _ hde,za6 hb.1,hb.2⟩
    ·cases h
   ·cases h
  ·cases h
 ·cases h
theorem A3N{t:TypeId}{x i:Operand}(hX:XOK P X)(hr:RT hp tm m)(hh:RHm hpm hp hvm)(h:BJ X (.indexAddr t x i) b tm hpm K=some z):CK P R cf (.indexAddr t x i) b m hp hpm hvm K z:=by
 simp only[BJ,A5j]at h;have hx:=A2 hr x;have hi:=A2 hr i
 split at h
 ·rename_i e de c he;have hE:=OE hX he
  split at h
  ·rename_i ty l k n e1 e2;rw[e1]at hx;rw[e2]at hi;have hi:=I6 hi
   split at h
   ·rename_i hsz;obtain⟨a,h1,h2⟩:=Bh h;obtain⟨h0,hc⟩:=ZH h1;rcases hx with⟨rfl,hx⟩|⟨rows,hx,hrl⟩
    ·simp at hc
    ·obtain⟨row,hrow,hre⟩:=hrl.get hc;have hlt:n.toNat<rows.length:=(za3.1 hrow).1;refine A5 h2 (y:=.ir row 0) ⟨row,rfl,hre⟩ ?_ fun _=>rfl
     simp only[Ay,hx,hi,hE.el,hE.ty];have hg:rows[n.toNat]'hlt=row:=(za3.1 hrow).2;rw[dif_pos ⟨h0,hlt⟩,hg,zr (by rw[hre.len];exact za6 hsz)]
   ·cases h
  ·rename_i id k n e1 e2;rw[e1]at hx;rw[e2]at hi;have hi:=I6 hi;obtain⟨len,hx,hlen⟩:=hx;have key:∀(ty:Ty)(l:List ty.den)(tb:TB),AF hpm id=some tb->EZ tb=some l.length->(∀kb,RB hp tb kb->kb.size=ty.size)->(Nat.beq ty.size de.size=true)->((A1 n l.length).bind fun k=>K (.rf id k 0) hpm .M)=some z->CK P R cf (.indexAddr t x i) b m hp hpm hvm K z:=by
    intro ty l tb hg hbl hks hsz h;obtain⟨hg',kb,hkb,hrb⟩:=hh id tb hg;have hlen':=hlen tb hg';rw[hbl]at hlen';cases hlen'
    obtain⟨kk,h1,h2⟩:=Bh h;obtain⟨h0,h3,rfl⟩:=YM h1;refine Ml h2 (y:=.rf id (0+n.toNat) 0) (by rw[ze4];rfl) (by simp only[Ay,hx,hi]) ?_ fun _=>rfl
    simp only[Bb,hx,hi,hE.el,hE.ty,hkb];rw[zr ⟨by rw[hks kb hrb];exact za6 hsz,h0,h3⟩]
   split at h
   ·rename_i a b' ty l hg
    split at h
    ·rename_i hsz;exact key ty l _ hg rfl (fun kb hrb=>hrb.2.2.2.1) hsz h
    ·cases h
   ·rename_i a b' ty l hg
    split at h
    ·rename_i hsz;exact key ty l _ hg rfl (fun kb hrb=>hrb.2.2.2.1) hsz h
    ·cases h
   ·cases h
  ·rename_i id lo len k n e1 e2;rw[e1]at hx;rw[e2]at hi;have hi:=I6 hi;have hx:AG m x=.ar id lo len:=hx;have key:∀(ty:Ty)(tb:TB),AF hpm id=some tb->(∀kb,RB hp tb kb->kb.size=ty.size)->(Nat.beq ty.size de.size=true)->((A1 n len).bind fun k=>K (.rf id (lo+k) 0) hpm .M)=some z->CK P R cf (.indexAddr t x i) b m hp hpm hvm K z:=by
    intro ty tb hg hks hsz h;obtain⟨hg',kb,hkb,hrb⟩:=hh id tb hg;obtain⟨kk,h1,h2⟩:=Bh h;obtain⟨h0,h3,rfl⟩:=YM h1;refine Ml h2 (y:=.rf id (lo+n.toNat) 0) rfl (by simp only[Ay,hx,hi]) ?_ fun _=>rfl
    simp only[Bb,hx,hi,hE.el,hE.ty,hkb];rw[zr ⟨by rw[hks kb hrb];exact za6 hsz,h0,h3⟩]
   split at h
   ·rename_i a b' ty l hg
    split at h
    ·rename_i hsz;exact key ty _ hg (fun kb hrb=>hrb.2.2.2.1) hsz h
    ·cases h
   ·rename_i a b' ty l hg
    split at h
    ·rename_i hsz;exact key ty _ hg (fun kb hrb=>hrb.2.2.2.1) hsz h
    ·cases h
   ·cases h
  ·cases h
 ·cases h
theorem AV3{x:Operand}{k:Nat}(hr:RT hp tm m)(h:BJ X (.extract x k) b tm hpm K=some z):CK P R cf (.extract x k) b m hp hpm hvm K z:=by
 simp only[BJ,Jw]at h;have hx:=A2 hr x
 split at h
 ·rename_i vs e1;rw[e1]at hx;obtain⟨us,hx,hc⟩:=hx
  split at h
  ·rename_i v hv;obtain⟨y,hy,hry⟩:=hc.get hv;exact A5 h hry.to2 (by simp only[Ay,hx,hy]) fun _=>rfl
  ·cases h
 ·cases h
theorem An1(hr:RT hp tm m):∀{l:List Operand},(l.map (opT tm)).all okT=true->RC (RV0 hp) (l.map (opT tm)) (l.map (AG m))/\(l.map (AG m)).all Br=true
 |[],_=>⟨trivial,rfl⟩
 |x::l,h=>by
  simp only[zb8,zc8,za2]at h;obtain⟨h1,h2⟩:=An1 hr h.2;have hx:=A2 hr x;have hfl:Dl (opT tm x)=[opT tm x]:=by
   cases he:opT tm x with
   |agg cs=>rw[he]at h;simp[okT]at h
   |_=>rfl
  obtain⟨f1,f2⟩:=Jy hx (by rw[hfl];simpa using h.1);rw[hfl]at f1;have hfv:flat (AG m x)=[AG m x]:=by
   cases he:AG m x with
   |agg cs=>
    exfalso
    rw[he]at hx;cases ho:opT tm x with
    |agg cs=>rw[ho]at h;simp[okT]at h
    |im t l=>rw[ho]at hx;rcases hx with⟨_,hx⟩|⟨_,hx,_⟩<;>cases hx
    |ow id=>rw[ho]at hx;obtain⟨_,hx,_⟩:=hx;cases hx
    |ir t a c=>rw[ho]at hx;obtain⟨_,hx,_⟩:=hx;cases hx
    |cl f cs=>rw[ho]at hx;obtain⟨_,hx,_⟩:=hx;cases hx
    |tup cs=>rw[ho]at h;simp[okT]at h
    |any=>rw[ho]at h;simp[okT]at h
    |int k n=>rw[ho]at hx;cases hx
    |bool k=>rw[ho]at hx;cases hx
    |str k=>rw[ho]at hx;cases hx
    |sc k=>rw[ho]at hx;cases hx
    |em=>rw[ho]at hx;cases hx
    |er e=>rw[ho]at hx;cases hx
    |ar a b c=>rw[ho]at hx;cases hx
    |rf a b c=>rw[ho]at hx;cases hx
   |_=>rfl
  rw[hfv]at f1 f2;simp only[zb8,zc8,List.all_nil,Bool.and_true,za2]at f2⊢
  exact⟨⟨f1.1,h1⟩,f2,h2⟩
theorem A4n{f:FuncId}{first caps:Array Operand}(hr:RT hp tm m)(h:BJ X (.makeFunc (.func f) first caps) b tm hpm K=some z):CK P R cf (.makeFunc (.func f) first caps) b m hp hpm hvm K z:=by
 simp only[BJ]at h
 split at h
 ·rename_i hc;simp only[za2]at hc;obtain⟨h1,h2⟩:=An1 hr hc.2;exact A5 h (y:=.cl f (caps.toList.map (AG m))) ⟨_,rfl,h1⟩ (by simp only[Ay,hc.1,h2,Bool.and_self,if_true]) fun _=>rfl
 ·cases h
theorem A5y{args:Array Operand}{ts:Array TypeId}(hX:XOK P X)(hr:RT hp tm m)(hh:RHm hpm hp hvm)(h:BJ X (.call {callee:=.builtin .len,args:=args,argTypes:=ts}) b tm hpm K=some z):
  CK P R cf (.call {callee:=.builtin .len,args:=args,argTypes:=ts}) b m hp hpm hvm K z:=by
 simp only[BJ]at h
 split at h
 ·rename_i x t hx0 ht0;have hx:=A2 hr x;have fin:∀n:Int,K (.int .i64 n) hpm .T=some z->Ay P (.call {callee:=.builtin .len,args:=args,argTypes:=ts}) (AG m)=some (.v (.int .i64 n))->CK P R cf (.call {callee:=.builtin .len,args:=args,argTypes:=ts}) b m hp hpm hvm K z:=
   fun n h hn=>A5 h (y:=.v (.int .i64 n)) rfl hn fun _=>rfl
  unfold A50 at h
  split at h
  ·rename_i s e1;rw[e1]at hx;have hx:=Sf hx
   split at h
   ·rename_i hc;simp only[za2,zf4]at hc;refine fin _ h ?_
    have h1:=AU8 hX hc.1;have h2:Ps P t=false:=by
     cases hs:Ps P t with
     |false=>rfl
     |true=>
      have h3:=hc.2;have h4:=hc.1;unfold Ap7 at h3;unfold Mc at h4;unfold Ps at hs
      split at h4
      ·rename_i d hd;simp only[hd]at h3;rw[hX.ty t d hd]at hs;simp only at hs;rw[h3]at hs;cases hs
      ·cases h4
    simp only[Ay,hx0,ht0,h1,h2,hx];simp[ByteArray.size]
   ·cases h
  ·rename_i hns
   split at h
   ·rename_i hc;have h1:=slX hX hc
    split at h
    ·rename_i e1;rw[e1]at hx;have hx:AG m x=.em:=hx;exact fin _ h (by simp only[Ay,hx0,ht0,h1,hx])
    ·rename_i ty l e1;rw[e1]at hx;rcases hx with⟨rfl,hx⟩|⟨rows,hx,hrl⟩
     ·exact fin _ h (by simp only[Ay,hx0,ht0,h1,hx];rfl)
     ·exact fin _ h (by simp only[Ay,hx0,ht0,h1,hx,hrl.1])
    ·rename_i id e1;rw[e1]at hx;obtain⟨n,hx,hlen⟩:=hx
     split at h
     ·rename_i a b' ty l hg;have:=hlen _ (hh id _ hg).1;cases this
      exact fin _ h (by simp only[Ay,hx0,ht0,h1,hx])
     ·rename_i a b' ty l hg;have:=hlen _ (hh id _ hg).1;cases this
      exact fin _ h (by simp only[Ay,hx0,ht0,h1,hx])
     ·cases h
    ·rename_i id lo n e1;rw[e1]at hx;have hx:AG m x=.ar id lo n:=hx;exact fin _ h (by simp only[Ay,hx0,ht0,h1,hx])
    ·cases h
   ·cases h
 ·cases h
theorem NH:∀{xs:List SV}{us:List V}{k:IntKind}{ns:List Int},N2 xs=some (k,ns)->RC (RV2 hp) xs us->CI us=some (ns.map fun n=>.int k n)/\ns≠[]
 |[],us,k,ns,h,_=>by simp[N2]at h
 |[x],us,k,ns,h,hc=>by
  cases x<;>simp[N2]at h
  obtain⟨rfl,rfl⟩:=h;cases us with
  |nil=>exact hc.elim
  |cons u us=>
   cases us with
   |nil=>have:u=_:=hc.1;subst this;exact⟨rfl,by simp⟩
   |cons a l=>exact hc.2.elim
 |x::y::l,us,k,ns,h,hc=>by
  cases x<;>simp[N2]at h
  split at h
  ·rename_i k' ns' hr
   split at h
   ·rename_i hk;simp only[zx,Prod.mk.injEq]at h;obtain⟨rfl,rfl⟩:=h;subst hk;cases us with
    |nil=>exact hc.elim
    |cons u us=>
     have:u=_:=hc.1;subst this;obtain⟨h1,_⟩:=NH hr hc.2;exact⟨by simp[CI,h1],by simp⟩
   ·cases h
  ·cases h
theorem JG(hr:RT hp tm m):∀(l:List Operand),RC (RV2 hp) (l.map (opT tm)) (l.map (AG m))
 |[]=>trivial
 |x::l=>⟨A2 hr x,JG hr l⟩
theorem An7{k:IntKind}:∀(l:List Int)(x:Int),Ao P ((l.map fun n=>Value.int k n).foldlM Builtin.min2 (.int k x))=some (.int k (l.foldl (fun a b=>if b<a then b else a) x))
 |[],x=>rfl
 |y::l,x=>by
  simp only[zb8,List.foldlM_cons,List.foldl_cons];exact An7 l (if y<x then y else x)
theorem Ah4{k:IntKind}:∀(l:List Int)(x:Int),Ao P ((l.map fun n=>Value.int k n).foldlM Builtin.max2 (.int k x))=some (.int k (l.foldl (fun a b=>if b>a then b else a) x))
 |[],x=>rfl
 |y::l,x=>by
  simp only[zb8,List.foldlM_cons,List.foldl_cons];exact Ah4 l (if y>x then y else x)
theorem A51{args:Array Operand}{ts:Array TypeId}(hr:RT hp tm m)(h:BJ X (.call {callee:=.builtin .min,args:=args,argTypes:=ts}) b tm hpm K=some z):
  CK P R cf (.call {callee:=.builtin .min,args:=args,argTypes:=ts}) b m hp hpm hvm K z:=by
 simp only[BJ,UV]at h
 split at h
 ·rename_i k ns hi;obtain⟨h1,h2⟩:=NH hi (JG hr _);simp only[zc3,if_false]at h;refine A5 h (y:=.v (.int k (A5w ns))) rfl ?_ fun _=>rfl
  simp only[Ay,h1];cases ns with
  |nil=>exact absurd rfl h2
  |cons x l=>
   show((Ao P ((l.map fun n=>Value.int k n).foldlM Builtin.min2 (.int k x))).bind AD)=_;rw[An7];rfl
 ·cases h
theorem A5z{args:Array Operand}{ts:Array TypeId}(hr:RT hp tm m)(h:BJ X (.call {callee:=.builtin .max,args:=args,argTypes:=ts}) b tm hpm K=some z):
  CK P R cf (.call {callee:=.builtin .max,args:=args,argTypes:=ts}) b m hp hpm hvm K z:=by
 simp only[BJ,UV]at h
 split at h
 ·rename_i k ns hi;obtain⟨h1,h2⟩:=NH hi (JG hr _);simp only[if_true]at h;refine A5 h (y:=.v (.int k (A2a ns))) rfl ?_ fun _=>rfl
  simp only[Ay,h1];cases ns with
  |nil=>exact absurd rfl h2
  |cons x l=>
   show((Ao P ((l.map fun n=>Value.int k n).foldlM Builtin.max2 (.int k x))).bind AD)=_;rw[Ah4];rfl
 ·cases h
theorem J1:∀{t:Ty}{a:t.den}{row:List V},Ef t=true->RE t a row->row.all Ei=true
 |.int _,_,_,_,h=>by simp only[RE]at h;subst h;rfl
 |.bool,_,_,_,h=>by simp only[RE]at h;subst h;rfl
 |.str,_,_,_,h=>by simp only[RE]at h;subst h;rfl
 |.pair a b,x,_,hf,h=>by
  obtain⟨r1,r2,rfl,h1,h2⟩:=h;simp only[Ef,za2]at hf;simp[List.all_append,J1 hf.1 h1,J1 hf.2 h2]
 |.sl e,l,_,hf,_=>by cases hf
theorem A2A{p:V->Bool}{cs l:List V}{off n:Nat}(h:seg cs off n=some l)(ha:cs.all p=true):l.all p=true:=by
 unfold seg at h
 split at h
 ·cases h
  exact za5.2 fun x hx=>za5.1 ha x (List.mem_of_mem_drop (List.mem_of_mem_take hx))
 ·cases h
theorem An5{β:Type}{t:TypeId}{v:SV}{y:V}{KS:SV->Option β}{z:β}(hX:XOK P X)(hv:RV2 hp v y)(hh:RHm hpm hp hvm)(h:AL1 X t v hpm KS=some z):
  ∃x u,KS x=some z/\RV2 hp x u/\∀(ρ:Operand->V)(a:Operand)(b:Nat),ρ a=y->Bb P (.load t a) ρ hvm b=some (u,[]):=by
 unfold AL1 at h
 split at h
 ·rename_i d ty a c hd;obtain⟨row,rfl,hre⟩:=hv;obtain⟨l,x,h1,h2,h3⟩:=Q4 h;obtain⟨vs,h4,h5⟩:=RC.seg (hp:=hp) h1 hre.cells;obtain⟨u,h6,h7⟩:=UJ h2 h5;exact⟨x,u,h3,h7,fun ρ a b he=>by simp only[Bb,hX.ty t d hd,he,h4,za0,h6]⟩
 ·rename_i d id r c hd;have hy:y=.rf id r c:=hv;subst hy;have arr:∀(ty:Ty)(l:List ty.den)(tb:TB),AF hpm id=some tb->(∀kb,RB hp tb kb->RLx (RE ty) l kb.rows/\(Ef ty=true\/kb.deep=false))->((l[r]?).bind fun a=>tMk d.agg (An6 (Ap4 ty a) c d.size) KS)=some z->
    ∃x u,KS x=some z/\RV2 hp x u/\∀(ρ:Operand->V)(a:Operand)(b:Nat),ρ a=.rf id r c->Bb P (.load t a) ρ hvm b=some (u,[]):=by
   intro ty l tb hg hks h;obtain⟨hg',kb,hkb,hrb⟩:=hh id tb hg;obtain⟨q1,q2⟩:=hks kb hrb;obtain⟨a,h0,h⟩:=Bh h;obtain⟨row,hrow,hre⟩:=q1.get h0;obtain⟨l',x,h1,h2,h3⟩:=Q4 h;obtain⟨vs,h4,h5⟩:=RC.seg (hp:=hp) h1 hre.cells;obtain⟨u,h6,h7⟩:=UJ h2 h5;have hcond:(decide (kb.kind=.box)|| !kb.deep||vs.all Ei)=true:=by
    rcases q2 with hf|hd
    ·simp[A2A h4 (J1 hf hre)]
    ·simp[hd]
   exact⟨x,u,h3,h7,fun ρ a b he=>by simp only[Bb,hX.ty t d hd,he,hkb,hrow,h4,hcond,if_true,h6]⟩
  split at h
  ·rename_i ty cs hg
   split at h
   ·rename_i hr0;obtain⟨hg',kb,hkb,hrb⟩:=hh id _ hg;obtain⟨hk1,hk2,row,hk3,hk4,hk5⟩:=hrb;obtain⟨l,x,h1,h2,h3⟩:=Q4 h;obtain⟨vs,h4,h5⟩:=RC.seg h1 hk5;obtain⟨u,h6,h7⟩:=UJ h2 h5;refine⟨x,u,h3,h7,fun ρ a b he=> ?_⟩
    simp only[Bb,hX.ty t d hd,he,hkb,hk3,List.getElem?_cons_zero,h4,hk1,decide_true,Bool.true_or,if_true,h6]
   ·cases h
  ·rename_i ty deep ty' l hg
   split at h
   ·rename_i hc;refine arr ty' l _ hg (fun kb hrb=>⟨hrb.2.2.2.2,?_⟩) h
    simp only[Bool.or_eq_true,zf4]at hc;rcases hc with hc|hc
    ·right;rw[hrb.2.2.1];exact hc
    ·left;exact hc
   ·cases h
  ·rename_i ty deep ty' l hg
   split at h
   ·rename_i hc;exact arr ty' l _ hg (fun kb hrb=>⟨hrb.2.2.2.2,.inl hc⟩) h
   ·cases h
  ·cases h
 ·cases h
theorem A0V{t:TypeId}{a:Operand}(hX:XOK P X)(hr:RT hp tm m)(hh:RHm hpm hp hvm)(h:BJ X (.load t a) b tm hpm K=some z):CK P R cf (.load t a) b m hp hpm hvm K z:=by
 simp only[BJ]at h;obtain⟨x,u,h1,h2,h3⟩:=An5 hX (A2 hr a) hh h;exact Ml h1 h2 rfl (h3 _ _ _ rfl) fun _=>rfl
end
end
section
open Go
section
variable {α:Type} {P:Program} {R:Rel} {cf:Cfg} {X:TX} {b:Nat} {tm:TTm} {m:Tm} {hp hpm:THp} {hv hvm:Hp} {K:SV->THp->Cls->Option α} {z:α}
theorem QU(hr:RT hp tm m){x:Option Operand}{d:Nat}{n:Int}(h:XG tm x (d:Int)=some n)(h0:0<=n):bnd (AG m) x d=some n.toNat:=by
 cases x with
 |none=>simp only[XG,zx]at h;subst h;simp[bnd]
 |some x=>
  simp only[XG]at h;have hx:=A2 hr x;unfold A0z at h
  split at h
  ·rename_i k n' e1;cases h
   rw[e1]at hx;have hx:=I6 hx;simp only[bnd,hx,zr h0]
  ·cases h
theorem P0{β:Type}{lo hi:Option Operand}{len:Nat}{KS:Nat->Nat->Option β}{z:β}(hr:RT hp tm m)(h:Af5 tm lo hi len KS=some z):
  ∃l r,KS l r=some z/\bnd (AG m) lo 0=some l/\bnd (AG m) hi len=some r/\l<=r/\r<=len:=by
 have main:(match XG tm lo 0,XG tm hi (len:Int)with|some l,some h=>(Kr l h len).bind fun p=>KS p.1 p.2|_,_=>none)=some z->∃l r,KS l r=some z/\bnd (AG m) lo 0=some l/\bnd (AG m) hi len=some r/\l<=r/\r<=len:=by
  intro h
  split at h
  ·rename_i l r e1 e2;obtain⟨p,h1,h2⟩:=Bh h;unfold Kr at h1
   split at h1
   ·rename_i hc;cases h1
    exact⟨l.toNat,r.toNat,h2,QU hr (d:=0) e1 hc.1,QU hr e2 (by omega),by omega,by omega⟩
   ·cases h1
  ·cases h
 unfold Af5 at h;cases lo with
 |none=>
  cases hi with
  |none=>exact⟨0,len,h,rfl,rfl,Nat.zero_le _,za7 _⟩
  |some y=>exact main h
 |some x=>exact main h
theorem A4S{t e:TypeId}(h:(AQ P t).bind (·.elem)=some e):Ej P t=false:=by
 cases hs:Ej P t with
 |false=>rfl
 |true=>
  have h1:=Bu h;have h2:=D9 hs;rw[h1]at h2;cases h2
theorem AI0{t:TypeId}{x:Operand}{lo hi:Option Operand}(hX:XOK P X)(hr:RT hp tm m)(hh:RHm hpm hp hvm)(h:BJ X (.slice t x lo hi none) b tm hpm K=some z):
  CK P R cf (.slice t x lo hi none) b m hp hpm hvm K z:=by
 simp only[BJ,A0l]at h;have hx:=A2 hr x
 split at h
 ·rename_i s e1;rw[e1]at hx;have hx:=Sf hx
  split at h
  ·rename_i hs;have hs':Ej P t=true:=AU8 hX hs;obtain⟨l,r,h1,h2,h3,h4,h5⟩:=P0 hr h;have hsz:(ByteArray.mk s.toArray).size=s.length:=by simp[ByteArray.size]
   refine⟨_,.v (.string ⟨((s.take r).drop l).toArray⟩),.M,h1,rfl,fun KV hk=> ?_⟩
   show(if Ej P t then Bs (Ay P (.slice t x lo hi none) (AG m)) fun z=>KV z hvm .M else _);rw[zr hs'];have:Ay P (.slice t x lo hi none) (AG m)=some (.v (.string ⟨((s.take r).drop l).toArray⟩)):=by
    simp only[Ay,hs',hx,h2,hsz,h3];rw[zr ⟨h4,h5⟩]
    congr 3
    apply ByteArray.ext
    simp[List.drop_take]
   rw[this];exact hk
  ·cases h
 ·rename_i hns
  split at h
  ·rename_i e de c he;have hE:=OE hX he;have hs':=A4S hE.el;have fin:∀(v:SV)(y:V),K v hpm .M=some z->RV2 hp v y->(∀KV:Cb,KV y hvm .M->Bm P t (AG m x) lo hi (AG m) hvm KV)->CK P R cf (.slice t x lo hi none) b m hp hpm hvm K z:=by
    intro v y h hv hw;refine⟨v,y,.M,h,hv,fun KV hk=> ?_⟩
    show(if Ej P t then _ else Bm P t (AG m x) lo hi (AG m) hvm KV);rw[zw (by rw[hs'];simp)];exact hw KV hk
   split at h
   ·rename_i e1;rw[e1]at hx;have hx:AG m x=.em:=hx;obtain⟨l,r,h1,h2,h3,h4,h5⟩:=P0 hr h;refine fin _ .em h1 rfl fun KV hk=> ?_
    simp only[Bm,hE.el,hE.ty,Am,hx,h2,h3];exact⟨by omega,by omega,hk⟩
   ·rename_i ty l0 e1;rw[e1]at hx
    split at h
    ·rename_i hsz;have hsz:=za6 hsz;obtain⟨l,r,h1,h2,h3,h4,h5⟩:=P0 hr h;rcases hx with⟨rfl,hx⟩|⟨rows,hx,hrl⟩
     ·refine fin _ .em h1 (.inl ⟨by simp,rfl⟩) fun KV hk=> ?_
      simp only[zf3]at h3 h5;simp only[Bm,hE.el,hE.ty,Am,hx,h2,h3];exact⟨by omega,by omega,hk⟩
     ·refine fin _ (.im ((rows.take r).drop l)) h1 (.inr ⟨_,rfl,(hrl.take r).drop l⟩) fun KV hk=> ?_
      simp only[Bm,hE.el,hE.ty,Am,hx,h2,hrl.1,h3];refine⟨h4,h5,fun row hrow=> ?_,hk⟩
      obtain⟨i,hi⟩:=List.getElem?_of_mem hrow;obtain⟨a,_,hre⟩:=hrl.get' hi;rw[hre.len];exact hsz
    ·cases h
   ·rename_i id e1;rw[e1]at hx;obtain⟨len,hx,hlen⟩:=hx;have key:∀(ty:Ty)(l0:List ty.den)(tb:TB),AF hpm id=some tb->EZ tb=some l0.length->(∀kb,RB hp tb kb->kb.size=ty.size)->(Nat.beq ty.size de.size=true)->
      A3U tm lo hi l0.length (K (.ow id) hpm .M) (fun l h=>K (.ar id l (h-l)) hpm .M)=some z->CK P R cf (.slice t x lo hi none) b m hp hpm hvm K z:=by
     intro ty l0 tb hg hbl hks hsz h;obtain⟨hg',kb,hkb,hrb⟩:=hh id tb hg;have hl:=hlen tb hg';rw[hbl]at hl;cases hl
     have hsz:kb.size=de.size:=by rw[hks kb hrb];exact za6 hsz
     have gen:(Af5 tm lo hi l0.length fun l h=>K (.ar id l (h-l)) hpm .M)=some z->CK P R cf (.slice t x lo hi none) b m hp hpm hvm K z:=by
      intro h;obtain⟨l,r,h1,h2,h3,h4,h5⟩:=P0 hr h;refine fin _ (.ar id (0+l) (r-l)) h1 (by rw[ze4];rfl) fun KV hk=> ?_
      simp only[Bm,hE.el,hE.ty,Am,hx,h2,h3,hkb];exact⟨h4,h5,hsz,hk⟩
     cases lo with
     |none=>
      cases hi with
      |none=>
       refine fin _ (.ar id (0+0) (l0.length-0)) h ⟨l0.length,by simp,hlen⟩ fun KV hk=> ?_
       simp only[Bm,hE.el,hE.ty,Am,hx,bnd,hkb];exact⟨Nat.zero_le _,za7 _,hsz,hk⟩
      |some y=>exact gen h
     |some y=>exact gen h
    split at h
    ·rename_i a b' ty l hg
     split at h
     ·rename_i hsz;exact key ty l _ hg rfl (fun kb hrb=>hrb.2.2.2.1) hsz h
     ·cases h
    ·rename_i a b' ty l hg
     split at h
     ·rename_i hsz;exact key ty l _ hg rfl (fun kb hrb=>hrb.2.2.2.1) hsz h
     ·cases h
    ·cases h
   ·rename_i id l1 n e1;rw[e1]at hx;have hx:AG m x=.ar id l1 n:=hx;have key:∀(ty:Ty)(tb:TB),AF hpm id=some tb->(∀kb,RB hp tb kb->kb.size=ty.size)->(Nat.beq ty.size de.size=true)->
      (Af5 tm lo hi n fun l h=>K (.ar id (l1+l) (h-l)) hpm .M)=some z->CK P R cf (.slice t x lo hi none) b m hp hpm hvm K z:=by
     intro ty tb hg hks hsz h;obtain⟨hg',kb,hkb,hrb⟩:=hh id tb hg;have hsz:kb.size=de.size:=by rw[hks kb hrb];exact za6 hsz
     obtain⟨l,r,h1,h2,h3,h4,h5⟩:=P0 hr h;refine fin _ (.ar id (l1+l) (r-l)) h1 rfl fun KV hk=> ?_
     simp only[Bm,hE.el,hE.ty,Am,hx,h2,h3,hkb];exact⟨h4,h5,hsz,hk⟩
    split at h
    ·rename_i a b' ty l hg
     split at h
     ·rename_i hsz;exact key ty _ hg (fun kb hrb=>hrb.2.2.2.1) hsz h
     ·cases h
    ·rename_i a b' ty l hg
     split at h
     ·rename_i hsz;exact key ty _ hg (fun kb hrb=>hrb.2.2.2.1) hsz h
     ·cases h
    ·cases h
   ·cases h
  ·cases h
theorem Aq4{t:TypeId}{x hi mx:Operand}{lo:Option Operand}(hX:XOK P X)(hr:RT hp tm m)(h:BJ X (.slice t x lo (some hi) (some mx)) b tm hpm K=some z):
  CK P R cf (.slice t x lo (some hi) (some mx)) b m hp hpm hvm K z:=by
 simp only[BJ]at h;have hx:=A2 hr x
 split at h
 ·rename_i e de c ty l he e1;rw[e1]at hx;have hE:=OE hX he
  split at h
  ·rename_i l0 h0 m0 q1 q2 q3;obtain⟨hc,h⟩:=C1 h;have hc:=of_decide_eq_true hc;obtain⟨rfl,rfl,rfl⟩:=hc;have b1:=QU hr (d:=0) q1 (by omega);have b2:=QU hr (d:=0) q2 (by omega);have b3:=QU hr (d:=0) q3 (by omega);have hel:((AQ P t).bind (·.elem)).bind (AQ P)=some de:=by rw[hE.el];exact hE.ty
   refine A5 h (y:=.em) rfl ?_ fun _=>rfl
   rcases hx with⟨rfl,hx⟩|⟨rows,hx,hrl⟩
   ·simp only[Ay,hel,hx,b1,b2,b3];rfl
   ·simp only[Ay,hel,hx,b1,b2,b3];rw[zr (by simp)]
  ·cases h
 ·cases h
theorem A0d{t:TypeId}(hX:XOK P X)(h:Qs X t=true):Hz P t=true:=by
 unfold Qs at h
 split at h
 ·rename_i d hd
  split at h
  ·rename_i e he
   split at h
   ·rename_i de hde;have:(AQ P t).bind (·.elem)=some e:=by rw[hX.ty t d hd];exact he
    simp only[Hz,this,hX.ty e de hde];exact h
   ·cases h
  ·cases h
 ·cases h
theorem WQ:∀{l:List Int}{rows:List (List V)},RLx (RE (.int .u8)) l rows->B3 rows=some (CA l)
 |[],rows,h=>by rw[h.of_nil];rfl
 |n::l,rows,h=>by
  cases rows with
  |nil=>have:=h.1;simp at this
  |cons r rows=>
   have hr:RE (.int .u8) n r:=h.2 0 n r rfl rfl;have hrest:RLx (RE (.int .u8)) l rows:=⟨by have:=h.1;simpa using this,fun i a q h1 h2=>h.2 (i+1) a q (by simpa using h1) (by simpa using h2)⟩;simp only[RE]at hr;subst hr;simp only[B3,Ob,WQ hrest,CA,zb8]
theorem A23(s:Str):RLx (RE (.int .u8)) (Z1 s) (Ha ⟨s.toArray⟩):=by
 refine⟨by simp[Ha,Z1],fun i a r h1 h2=> ?_⟩
 simp only[Ha,Z1,zd0,zb5]at h1 h2;obtain⟨c,hc,rfl⟩:=h1;obtain⟨c',hc',rfl⟩:=h2;have:c'=c:=by
  have h3:s[i]? =some c':=by simpa using hc'
  rw[hc]at h3;exact(zv h3).symm
 subst this;rfl
theorem A1N{s d:TypeId}{ds dd:TyD}{k k0:IntKind}{n:Int}(h1:AQ P s=some ds)(h2:AQ P d=some dd)(h3:dd.int=some k):(Ao P (Go.convert s d (.int k0 n))).bind AD=some (.v (.int k (k.wrap n))):=by
 obtain⟨i,u,z,hi,hu,_⟩:=BL h1;obtain⟨i',u',z',hi',hu',_,_,_,_,rfl⟩:=BL h2;have hud:u'=.int k:=by cases u'<;>simp[A3s]at h3;rw[h3]
 subst hud;unfold Go.convert;rw[Er hu,Er hu'];cases u<;>rfl
theorem A17{s d:TypeId}{x:ByteArray}(h1:Ej P s=true)(h2:Ej P d=true):(Ao P (Go.convert s d (.string x))).bind AD=some (.v (.string x)):=by
 unfold Go.convert;rw[Er (D9 h1),Er (D9 h2)];rfl
theorem AD9{s d:TypeId}{x:ByteArray}(h1:Ej P s=true)(h2:Hz P d=true):(Ao P (Go.convert s d (.string x))).bind AD=none:=by
 obtain⟨e,h3,h4⟩:=Sk h2;unfold Go.convert;rw[Er (D9 h1),Er h3];show(Ao P (underlying e>>=_)).bind AD=none;rw[Er h4];rfl
theorem V5{e:Ty}{x:SV}{l:List e.den}{y:V}(h:Gz hpm e x=some l)(hv:RV0 hp x y)(hh:RHm hpm hp hvm):
  (l=[]/\y=.em)\/(∃rows,y=.im rows/\RLx (RE e) l rows)\/∃id lo n kb,y=.ar id lo n/\hvm id=some kb/\kb.kind≠ .box/\RLx (RE e) l ((kb.rows.take (lo+n)).drop lo):=by
 unfold Gz at h
 split at h
 ·rename_i id;obtain⟨n,rfl,hlen⟩:=hv;have key:∀(t:Ty)(l0:List t.den)(tb:TB),AF hpm id=some tb->EZ tb=some l0.length->(∀kb,RB hp tb kb->kb.kind≠ .box/\RLx (RE t) l0 kb.rows)->(if h:t=e then some (Ip h l0)else none)=some l->
    (l=[]/\V.ar id 0 n=.em)\/(∃rows,V.ar id 0 n=.im rows/\RLx (RE e) l rows)\/∃id' lo n' kb,V.ar id 0 n=.ar id' lo n'/\hvm id'=some kb/\kb.kind≠ .box/\RLx (RE e) l ((kb.rows.take (lo+n')).drop lo):=by
   intro t l0 tb hg hbl hks h;obtain⟨hg',kb,hkb,hrb⟩:=hh id tb hg;have hl:=hlen tb hg';rw[hbl]at hl;cases hl
   obtain⟨q1,q2⟩:=hks kb hrb
   split at h
   ·rename_i he;cases h
    refine .inr (.inr ⟨id,0,l0.length,kb,rfl,hkb,q1,?_⟩)
    have:(kb.rows.take (0+l0.length)).drop 0=kb.rows:=by rw[ze4,<-q2.1];simp
    rw[this];exact FP he q2
   ·cases h
  split at h
  ·rename_i a b' t l0 hg;exact key t l0 _ hg rfl (fun kb hrb=>⟨by rw[hrb.1];simp,hrb.2.2.2.2⟩) h
  ·rename_i a b' t l0 hg;exact key t l0 _ hg rfl (fun kb hrb=>⟨by rw[hrb.1];simp,hrb.2.2.2.2⟩) h
  ·cases h
 ·rename_i id lo n;have hv:y=.ar id lo n:=hv;subst hv;have key:∀(t:Ty)(l0:List t.den)(tb:TB),AF hpm id=some tb->(∀kb,RB hp tb kb->kb.kind≠ .box/\RLx (RE t) l0 kb.rows)->(if h:t=e then some (((Ip h l0).take (lo+n)).drop lo)else none)=some l->
    (l=[]/\V.ar id lo n=.em)\/(∃rows,V.ar id lo n=.im rows/\RLx (RE e) l rows)\/∃id' lo' n' kb,V.ar id lo n=.ar id' lo' n'/\hvm id'=some kb/\kb.kind≠ .box/\RLx (RE e) l ((kb.rows.take (lo'+n')).drop lo'):=by
   intro t l0 tb hg hks h;obtain⟨hg',kb,hkb,hrb⟩:=hh id tb hg;obtain⟨q1,q2⟩:=hks kb hrb
   split at h
   ·rename_i he;cases h
    exact .inr (.inr ⟨id,lo,n,kb,rfl,hkb,q1,((FP he q2).take _).drop _⟩)
   ·cases h
  split at h
  ·rename_i a b' t l0 hg;exact key t l0 _ hg (fun kb hrb=>⟨by rw[hrb.1];simp,hrb.2.2.2.2⟩) h
  ·rename_i a b' t l0 hg;exact key t l0 _ hg (fun kb hrb=>⟨by rw[hrb.1];simp,hrb.2.2.2.2⟩) h
  ·cases h
 ·rcases Ad3 h hv with h1|h1
  ·exact .inl h1
  ·exact .inr (.inl h1)
theorem Zc{e:Ty}{x:SV}{l:List e.den}{y:V}(h:Gz hpm e x=some l)(hv:RV2 hp x y):RV0 hp x y:=by
 cases x with
 |agg cs=>simp[Gz,asL]at h
 |tup cs=>simp[Gz,asL]at h
 |cl f cs=>simp[Gz,asL]at h
 |_=>exact hv
theorem A0S{s d:TypeId}{x:Operand}(hX:XOK P X)(hr:RT hp tm m)(hh:RHm hpm hp hvm)(h:BJ X (.convert s d x) b tm hpm K=some z):CK P R cf (.convert s d x) b m hp hpm hvm K z:=by
 simp only[BJ,A3O]at h;have hx:=A2 hr x
 split at h
 ·rename_i k n e1;rw[e1]at hx;have hx:=I6 hx
  split at h
  ·rename_i ds dd h1 h2
   split at h
   ·rename_i k' h3;exact A5 h (y:=.v (.int k' (k'.wrap n))) rfl (by simp only[Ay,hx];exact A1N (hX.ty _ _ h1) (hX.ty _ _ h2) h3) fun _=>rfl
   ·cases h
  ·cases h
 ·rename_i v e1;rw[e1]at hx;have hx:=Sf hx
  split at h
  ·rename_i hs;have hs:=AU8 hX hs
   split at h
   ·rename_i hd;have hd:=A0d hX hd;obtain⟨hc,h⟩:=C1 h;have hc:=of_decide_eq_true hc;refine Ml h (y:=.im (Ha ⟨v.toArray⟩)) (.inr ⟨_,rfl,A23 v⟩) (by simp only[Ay,hx];exact AD9 hs hd) ?_ fun _=>rfl
    simp only[Bb,hx,hs,hd,ze1];have:(ByteArray.mk v.toArray).size<=Ab:=by simpa[ByteArray.size]using hc
    rw[zr (by simpa using this)]
   ·split at h
    ·rename_i hd;have hd:=AU8 hX hd;exact A5 h (y:=.v (.string ⟨v.toArray⟩)) rfl (by simp only[Ay,hx];exact A17 hs hd) fun _=>rfl
    ·cases h
  ·cases h
 ·rename_i hn1 hn2
  split at h
  ·rename_i hc;simp only[za2]at hc;have h1:=A0d hX hc.1;have h2:=AU8 hX hc.2
   split at h
   ·rename_i l hl;have hx0:=Zc hl hx;have hrel:=V5 hl hx0 hh
    ·rcases hrel with⟨rfl,hy⟩|⟨rows,hy,hrl⟩|⟨id,lo,n,kb,hy,hkb,hkk,hrl⟩
     ·refine Ml h (y:=.v (.string ⟨(CA []).toArray⟩)) rfl (by simp only[Ay,hy]) ?_ fun _=>rfl
      simp only[Bb,hy,h1,h2,Bool.and_self,if_true];rfl
     ·refine Ml h (y:=.v (.string ⟨(CA l).toArray⟩)) rfl (by simp only[Ay,hy]) ?_ fun _=>rfl
      simp only[Bb,hy,h1,h2,Bool.and_self,if_true,WQ hrl]
     ·refine Ml h (y:=.v (.string ⟨(CA l).toArray⟩)) rfl (by simp only[Ay,hy]) ?_ fun _=>rfl
      simp only[Bb,hy,hkb,h1,h2,Bool.and_self,WQ hrl];rw[zr (by simpa using hkk)]
   ·cases h
  ·cases h
end
end
section
open Go
section
variable {α:Type} {P:Program} {R:Rel} {cf:Cfg} {X:TX} {b:Nat} {tm:TTm} {m:Tm} {hp hpm:THp} {hv hvm:Hp} {K:SV->THp->Cls->Option α} {z:α}
def X1(P:Program)(R:Rel)(cf:Cfg)(op:Op)(b:Nat)(tm:TTm)(m:Tm)(hv:Hp)(K:SV->THp->Cls->Option α)(z:α):Prop:=
 ∃x hp' cls y hv',K x hp' cls=some z/\RV2 hp' x y/\RH hp' hv'/\RT hp' tm m/\∀KV:Cb,KV y hv' cls->Bo P R cf op b (AG m) hv KV
theorem CK.done{op:Op}(h:CK P R cf op b m hp hp hv K z)(hh:RH hp hv)(hr:RT hp tm m):X1 P R cf op b tm m hv K z:=by
 obtain⟨x,y,cls,h1,h2,h3⟩:=h;exact⟨x,hp,cls,y,hv,h1,h2,hh,hr,h3⟩
theorem RM{x:TB}{k:Blk}(hh:RH hp hv)(hr:RT hp tm m)(hf:∀t,b ∉ GC (Bt tm t))(hb:∀id y,AF hp id=some y->b ∉ Kt y)(hx:b ∉ Kt x)(hk:RB hp x k):
  RH ((b,some x)::hp) (upd hv b (some k))/\RT ((b,some x)::hp) tm m:=
 ⟨hh.put (fun id hid=>Lk fun he=>hx (he▸hid)) (fun id y _ hy i hi=>Lk fun he=>hb id y hy (he▸hi)) hk,hr.keeps fun t id hid=>Lk fun he=>hf t (he▸hid)⟩
theorem PU{l:List Nat}(h:Gi tm hp b=true){id:Nat}{k:TB}(hk:AF (DJ hp l) id=some k):b ∉ Kt k:=Rg h (Qk l hp id k hk).1
theorem Ap9:∀(l:List V),(l.map S3).flatMap EY=[]
 |[]=>rfl
 |x::l=>by
  rw[zb8,zb4,Ap9 l];unfold S3
  split<;>rfl
theorem A2C{t:TypeId}(hX:XOK P X)(hh:RH hp hv)(hr:RT hp tm m)(h:BJ X (.alloc t) b tm hp K=some z):X1 P R cf (.alloc t) b tm m hv K z:=by
 simp only[BJ]at h
 split at h
 ·rename_i d hd
  split at h
  ·rename_i hf;obtain⟨h1,h2⟩:=RM (x:=.box t (d.zero.map S3)) (k:=Nk t d.zero) hh hr (I5 hf) (fun id y hy=>Rg hf hy) (by simp only[Kt];rw[Ap9];simp) ⟨rfl,rfl,d.zero,rfl,rfl,P9 d.zero⟩;refine⟨_,_,_,.rf b 0 0,_,h,rfl,h1,h2,fun KV hk=> ?_⟩
   show Bs (Bb P (.alloc t) (AG m) hv b) (fun z=>z.2.length<=16/\KV z.1 (inst hv b z.2) .M);simp only[Bb,hX.ty t d hd,Am];exact⟨by simp,hk⟩
  ·cases h
 ·cases h
theorem A1b{x:SV}:∀id∈(Dl x).flatMap EY,id∈GC x:=by
 intro id hid;cases x with
 |agg cs=>exact hid
 |tup cs=>simp[Dl,EY]at hid
 |cl f cs=>simp[Dl,EY]at hid
 |ow id'=>simpa[Dl,EY,XA,GC]using hid
 |_=>simp[Dl,EY]at hid
theorem AX4(c:Value):GC (WG c)=[]:=by
 have h0:∀c,EY (QX c)=[]/\GC (QX c)=[]:=by
  intro c;unfold QX
  split<;>first|exact⟨rfl,rfl⟩|(split<;>exact⟨rfl,rfl⟩)
 unfold WG
 split
 ·rename_i cs;show(cs.toList.map QX).flatMap EY=[];rw[List.flatMap_eq_nil_iff];intro x hx;obtain⟨c,_,rfl⟩:=zd5.1 hx;exact(h0 c).1
 ·exact(h0 c).2
theorem A1I(h:Gi tm hp b=true)(x:Operand):b ∉ GC (opT tm x):=by
 cases x with
 |tmp t=>exact I5 h t
 |const c=>simp only[opT,AX4];simp
 |global g=>simp[opT,GC,XA,EY]
 |func f=>simp[opT,GC,XA,EY]
theorem A5m{t:TypeId}{x:Operand}(hX:XOK P X)(hh:RH hp hv)(hr:RT hp tm m)(h:BJ X (.box t x) b tm hp K=some z):X1 P R cf (.box t x) b tm m hv K z:=by
 simp only[BJ]at h
 split at h
 ·rename_i d hd
  split at h
  ·rename_i hc;simp only[za2]at hc;obtain⟨⟨c1,c2⟩,hf⟩:=hc;obtain⟨f1,f2⟩:=Jy (A2 hr x) c2;obtain⟨h1,h2⟩:=RM (x:=.box t (Dl (opT tm x))) (k:=Nk t (flat (AG m x))) hh hr (I5 hf) (fun id y hy=>Rg hf hy) (fun hi=>A1I hf x (A1b b hi)) ⟨rfl,rfl,_,rfl,rfl,f1⟩;refine⟨_,_,_,.rf b 0 0,_,h,rfl,h1,h2,fun KV hk=> ?_⟩
   show Bs (Bb P (.box t x) (AG m) hv b) (fun z=>z.2.length<=16/\KV z.1 (inst hv b z.2) .M);simp only[Bb,hX.ty t d hd];have hl:(flat (AG m x)).length=d.size:=by have:=f1.length;have:=za6 c1;omega
   rw[zr (by simp[hl,f2])];exact⟨by simp,hk⟩
  ·cases h
 ·cases h
theorem YT{n:Int}{bytes size k:Nat}(h:OM n bytes size=some k):0<=n/\n.toNat*bytes<=Ab/\n.toNat*size<=Ab/\k=n.toNat:=by
 unfold OM at h
 split at h
 ·rename_i hc;cases h;exact⟨hc.1,hc.2.1,hc.2.2,rfl⟩
 ·cases h
theorem A4N{t:TypeId}{l c:Operand}(hX:XOK P X)(hh:RH hp hv)(hr:RT hp tm m)(h:BJ X (.makeSlice t l c) b tm hp K=some z):X1 P R cf (.makeSlice t l c) b tm m hv K z:=by
 simp only[BJ,A4e]at h;have hl:=A2 hr l;have hc:=A2 hr c
 split at h
 ·rename_i e de ty k1 n k2 n2 he e1 e2;rw[e1]at hl;rw[e2]at hc;have hl:=I6 hl;have hc:=I6 hc;have hE:=OE hX he
  split at h
  ·rename_i zz hz
   split at h
   ·rename_i hq;simp only[za2]at hq;obtain⟨hf,hsc⟩:=hq;have hre:RE ty zz de.zero:=U1 (hp:=hp) hz (P9 de.zero);have fin:∀(kk:Nat),kk=n.toNat->0<=n->n<=n2->n2.toNat*de.bytes<=Ab->n2.toNat*de.size<=Ab->K (.ow b) ((b,some (.arr e true ty (List.replicate kk zz)))::hp) .M=some z->X1 P R cf (.makeSlice t l c) b tm m hv K z:=by
     intro kk hkk h0 h1 h2 h3 hK;obtain⟨g1,g2⟩:=RM (x:=.arr e true ty (List.replicate kk zz)) (k:=AN e de.size true (List.replicate n.toNat de.zero)) hh hr (I5 hf) (fun id y hy=>Rg hf hy) (by simp[Kt]) ⟨rfl,rfl,rfl,hE.size,by rw[hkk];exact RLx.replicate hre _⟩;refine⟨_,_,_,.ar b 0 n.toNat,_,hK,⟨n.toNat,rfl,fun bb hb=> ?_⟩,g1,g2,fun KV hk=> ?_⟩
     ·rw[AA,zr rfl]at hb;cases hb
      simp[EZ,hkk]
     ·show Bs (Bb P (.makeSlice t l c) (AG m) hv b) (fun z=>z.2.length<=16/\KV z.1 (inst hv b z.2) .M);simp only[Bb,hl,hc,hE.el,hE.ty];rw[zr ⟨h0,h1,h2,h3,hsc⟩];exact⟨by simp,hk⟩
    cases hs:Av4 l c with
    |true=>
     rw[hs]at h;obtain⟨kk,h1,h2⟩:=Bh (show((OM n2 de.bytes de.size).bind fun k=>K (.ow b) ((b,some (.arr e true ty (List.replicate k zz)))::hp) .M)=some z from h);obtain⟨q1,q2,q3,q4⟩:=YT h1;have hn:n=n2:=by
      have:l=c:=by
       unfold Av4 at hs
       split at hs
       ·rw[za6 hs]
       ·cases hs
      subst this;rw[e1]at e2;cases e2
      rfl
     subst hn;exact fin kk q4 q1 (Int.le_refl _) q2 q3 h2
    |false=>
     rw[hs]at h;obtain⟨kk,h1,h2⟩:=Bh (show((OM n2 de.bytes de.size).bind fun _=>cond (decide (0<=n)&&decide (n<=n2)) (K (.ow b) ((b,some (.arr e true ty (List.replicate n.toNat zz)))::hp) .M) none)=some z from h);obtain⟨q1,q2,q3,q4⟩:=YT h1;obtain⟨c1,h2⟩:=C1 h2;simp only[za2,decide_eq_true_eq]at c1;exact fin n.toNat rfl c1.1 c1.2 q2 q3 h2
   ·cases h
  ·cases h
 ·cases h
theorem As7{x x':SV}{y:V}{kills:List Nat}{deep:Bool}(hh:RH hp hv)(h:UK hp x=some (x',kills,deep))(hx:RV0 hp x y):
  ∃y',AK hv y=some (y',kills,deep)/\RV0 hp x' y'/\EY x'=[]:=by
 unfold UK at h
 split at h
 ·cases h;have:y=_:=hx;subst this;exact⟨_,rfl,rfl,rfl⟩
 ·cases h;have:y=_:=hx;subst this;exact⟨_,rfl,rfl,rfl⟩
 ·cases h;have:y=_:=hx;subst this;exact⟨_,rfl,rfl,rfl⟩
 ·cases h;have:y=_:=hx;subst this;exact⟨_,rfl,rfl,rfl⟩
 ·cases h;have:y=_:=hx;subst this;exact⟨_,rfl,rfl,rfl⟩
 ·cases h
  rcases hx with⟨rfl,rfl⟩|⟨rows,rfl,hr⟩
  ·exact⟨.em,rfl,.inl ⟨rfl,rfl⟩,rfl⟩
  ·exact⟨.im rows,rfl,.inr ⟨rows,rfl,hr⟩,rfl⟩
 ·rename_i id;obtain⟨n,rfl,hlen⟩:=hx
  split at h
  ·rename_i a dd t l hg;cases h
   obtain⟨k,hk,hrb⟩:=hh id _ hg;have:=hlen _ hg;cases this
   have hrows:(k.rows.take (0+l.length)).drop 0=k.rows:=by rw[ze4,<-hrb.2.2.2.2.1];simp
   refine⟨.im k.rows,?_,.inr ⟨_,rfl,hrb.2.2.2.2⟩,rfl⟩
   simp only[AK,hk,hrb.1,hrows,hrb.2.2.1]
  ·rename_i a dd t l hg;cases h
   obtain⟨k,hk,hrb⟩:=hh id _ hg;have:=hlen _ hg;cases this
   have hrows:(k.rows.take (0+l.length)).drop 0=k.rows:=by rw[ze4,<-hrb.2.2.2.2.1];simp
   refine⟨.im k.rows,?_,.inr ⟨_,rfl,hrb.2.2.2.2⟩,rfl⟩
   simp only[AK,hk,hrb.1,hrows]
  ·cases h
 ·rename_i id lo n;have:y=_:=hx;subst this
  split at h
  ·rename_i a dd t l hg;cases h
   obtain⟨k,hk,hrb⟩:=hh id _ hg;refine⟨.im ((k.rows.take (lo+n)).drop lo),?_,.inr ⟨_,rfl,(hrb.2.2.2.2.take _).drop _⟩,rfl⟩
   simp only[AK,hk,hrb.1,hrb.2.2.1]
  ·rename_i a dd t l hg;cases h
   obtain⟨k,hk,hrb⟩:=hh id _ hg;refine⟨.im ((k.rows.take (lo+n)).drop lo),?_,.inr ⟨_,rfl,(hrb.2.2.2.2.take _).drop _⟩,rfl⟩
   simp only[AK,hk,hrb.1]
  ·cases h
 ·cases h
theorem Nc(hh:RH hp hv):∀{xs xs':List SV}{ys:List V}{kills:List Nat}{deep:Bool},J4 hp xs=some (xs',kills,deep)->RC (RV0 hp) xs ys->
  ∃ys',AV hv ys=some (ys',kills,deep)/\RC (RV0 hp) xs' ys'/\xs'.flatMap EY=[]
 |[],xs',ys,kills,deep,h,hc=>by
  simp only[J4,zx,Prod.mk.injEq]at h;obtain⟨rfl,rfl,rfl⟩:=h;cases ys with
  |nil=>exact⟨[],rfl,trivial,rfl⟩
  |cons a l=>exact hc.elim
 |x::xs,xs',ys,kills,deep,h,hc=>by
  simp only[J4]at h
  split at h
  ·rename_i x1 a d xs1 as ds h1 h2;simp only[zx,Prod.mk.injEq]at h;obtain⟨rfl,rfl,rfl⟩:=h;cases ys with
   |nil=>exact hc.elim
   |cons y ys=>
    obtain⟨y',q1,q2,q3⟩:=As7 hh h1 hc.1;obtain⟨ys',q4,q5,q6⟩:=Nc hh h2 hc.2;exact⟨y'::ys',by simp only[AV,q1,q4],⟨q2,q5⟩,by rw[zb4,q3,q6];rfl⟩
  ·cases h
theorem Jh:∀{xs xs':List SV}{kills:List Nat}{deep:Bool},J4 hp xs=some (xs',kills,deep)->xs.all okT=true
 |[],_,_,_,_=>rfl
 |x::xs,xs',kills,deep,h=>by
  simp only[J4]at h
  split at h
  ·rename_i x1 a d xs1 as ds h1 h2;have:okT x=true:=by
    cases x<;>first|rfl|(simp[UK]at h1;done)|skip
   simp only[zc8,this,Jh h2,Bool.and_self]
  ·cases h
theorem A3l{t:TypeId}{a x:Operand}(hX:XOK P X)(hh:RH hp hv)(hr:RT hp tm m)(h:BJ X (.store t a x) b tm hp K=some z):X1 P R cf (.store t a x) b tm m hv K z:=by
 simp only[BJ,A0j]at h;have ha:=A2 hr a;have hx:=A2 hr x
 split at h
 ·rename_i d id r c hd e1;rw[e1]at ha;have ha:AG m a=.rf id r c:=ha
  split at h
  ·rename_i hlen;have hlen:=za6 hlen
   split at h
   ·rename_i ty cs hg
    split at h
    ·split at h
     ·rename_i hok
      split at h
      ·rename_i cs' hput;obtain⟨kb,hkb,hk1,hk2,row,hk3,hk4,hk5⟩:=hh id _ hg;obtain⟨f1,f2⟩:=Jy hx hok;obtain⟨row',p1,p2⟩:=RC.put hput hk5 f1;have hkeep:∀i,CN hp ((id,some (.box ty cs'))::hp) i:=fun i=>VZ (y:=.box ty cs') hg rfl i
       have hrl:row'.length=row.length:=by
        have q1:=p2.length;have q2:=hk5.length;have q3:cs'.length=cs.length:=by
         unfold AW1 at hput
         split at hput
         ·cases hput;simp;omega
         ·cases hput
        omega
       refine⟨_,_,_,.any,upd hv id (some {kb with rows:=kb.rows.set 0 row'}),h,trivial,?_,hr.keeps fun t i _=>hkeep i,fun KV hk=> ?_⟩
       ·exact hh.put (fun i _=>hkeep i) (fun _ _ _ _ i _=>hkeep i) ⟨hk1,hk2,row',by rw[hk3];rfl,by show kb.size=_;rw[hk4,hrl],p2⟩
       ·show Cq P t (AG m a) (AG m x) hv KV;have hl:(flat (AG m x)).length=d.size:=by have:=f1.length;omega
        simp only[Cq,hX.ty t d hd,ha,hkb,hk3,List.getElem?_cons_zero,hl,if_true,hk1,f2,p1];rw[hk3,hk1]at hk;exact hk
      ·cases h
     ·cases h
    ·cases h
   ·rename_i ty deep e l hg;obtain⟨y,h1,h⟩:=Bh h
    split at h
    ·rename_i cs kills deep' hcl
     split at h
     ·rename_i hnd
      split at h
      ·rename_i cs' hput
       split at h
       ·rename_i zz hz;obtain⟨kb,hkb,hk1,hk2,hk3,hk4,hk5⟩:=hh id _ hg;obtain⟨f1,f2⟩:=Jy hx (Jh hcl);obtain⟨ys,q1,q2,q3⟩:=Nc hh hcl f1;obtain⟨row,hrow,hre⟩:=hk5.get h1;obtain⟨row',p1,p2⟩:=RC.put hput hre.cells q2;have hrz:=U1 hz p2;have hidk:id ∉ kills:=by
         simp only[DT,za2,zf4,List.contains_eq_mem,decide_eq_false_iff_not]at hnd;exact hnd.1
        have hkeep:∀i,CN hp ((id,some (.arr ty (deep&&deep') e (l.set r zz)))::DJ hp kills) i:=by
         intro i bb hbb;rw[AA]at hbb
         split at hbb
         ·rename_i hi;subst hi;cases hbb;exact⟨_,hg,by simp[EZ]⟩
         ·exact Hb kills hp i bb hbb
        have hkeep':∀i,CN (DJ hp kills) ((id,some (.arr ty (deep&&deep') e (l.set r zz)))::DJ hp kills) i:=by
         intro i bb hbb;rw[AA]at hbb
         split at hbb
         ·rename_i hi;subst hi;cases hbb
          cases hgk:AF (DJ hp kills) i with
          |none=>
           exfalso
           have:∀(ks:List Nat)(hp:THp),i ∉ ks->AF (DJ hp ks) i=AF hp i:=by
            intro ks
            induction ks with
            |nil=>intro hp _;rfl
            |cons q ks ih=>
             intro hp hq;simp only[zc7,not_or]at hq;rw[DJ,ih _ hq.2,AA,zw hq.1]
           rw[this kills hp hidk,hg]at hgk;cases hgk
          |some b0=>
           have:=(Qk kills hp i b0 hgk).1;rw[hg]at this;cases this
           exact⟨_,rfl,by simp[EZ]⟩
         ·exact⟨bb,hbb,rfl⟩
        refine⟨_,_,_,.any,upd (kill hv kills) id (some {kb with rows:=kb.rows.set r row',deep:=kb.deep&&deep'}),h,trivial,?_,hr.keeps fun t i _=>hkeep i,fun KV hk=> ?_⟩
        ·exact(hh.kill kills).put (fun i _=>hkeep' i) (fun _ _ _ _ i _=>hkeep' i) ⟨hk1,hk2,by show(kb.deep&&deep')=_;rw[hk3],hk4,hk5.set r hrz⟩
        ·show Cq P t (AG m a) (AG m x) hv KV;have hl:(flat (AG m x)).length=d.size:=by have:=f1.length;omega
         simp only[Cq,hX.ty t d hd,ha,hkb,hrow,hl,if_true,hk1,q1,hnd,p1];rw[hk1]at hk;exact hk
       ·cases h
      ·cases h
     ·cases h
    ·cases h
   ·cases h
  ·cases h
 ·cases h
theorem T9{e:Ty}{size:Nat}(hr:RT hp tm m)(hh:RH hp hv)(hs:size=e.size):∀{Ai:List (Nat×Operand)}{n:Nat}{l:List e.den}{kills:List Nat}{deep:Bool},LA hp tm e n Ai=some (l,kills,deep)->
  ∃rows,A3 hv (AG m) size n Ai=some (rows,kills,deep)/\RLx (RE e) l rows
 |[],n,l,kills,deep,h=>by
  simp only[LA,zx,Prod.mk.injEq]at h;obtain⟨rfl,rfl,rfl⟩:=h;exact⟨[],rfl,RLx.nil⟩
 |(k,x)::Ai,n,l,kills,deep,h=>by
  simp only[LA]at h
  split at h
  ·rename_i hc;simp only[za2]at hc;have h1:=za6 hc.1;have h2:=za6 hc.2
   split at h
   ·rename_i cs a d ys as ds g1 g2
    split at h
    ·rename_i y hy;simp only[zx,Prod.mk.injEq]at h;obtain⟨rfl,rfl,rfl⟩:=h;obtain⟨f1,f2⟩:=Jy (A2 hr x) (Jh g1);obtain⟨us,q1,q2,q3⟩:=Nc hh g1 f1;obtain⟨rows,q4,q5⟩:=T9 hr hh hs g2;refine⟨us::rows,?_,RLx.cons (U1 hy q2) q5⟩
     simp only[A3,q1,q4];rw[zr ⟨h1,by have:=f1.length;omega⟩]
    ·cases h
   ·cases h
  ·cases h
theorem Aj6{cs:List SV}:∀{us:List V},RC (RV0 hp) cs us->cs.all okT=true->cs.all Xh=us.all UI:=by
 induction cs with
 |nil=>
  intro us h _;cases us with
  |nil=>rfl
  |cons a l=>exact h.elim
 |cons c cs ih=>
  intro us h hok;cases us with
  |nil=>exact h.elim
  |cons u us=>
   simp only[zc8,za2]at hok;simp only[zc8,ih h.2 hok.2];have h1:Xh c=UI u:=by
    have h0:=h.1;cases c with
    |int k n=>have:u=_:=h0;subst this;rfl
    |bool b=>have:u=_:=h0;subst this;rfl
    |str s=>have:u=_:=h0;subst this;rfl
    |sc x=>have:u=_:=h0;subst this;rfl
    |em=>have:u=_:=h0;subst this;rfl
    |im t l=>rcases h0 with⟨_,rfl⟩|⟨rows,rfl,_⟩<;>rfl
    |ow id=>obtain⟨n,rfl,_⟩:=h0;rfl
    |ar a b c=>have:u=_:=h0;subst this;rfl
    |rf a b c=>have:u=_:=h0;subst this;rfl
    |ir a b c=>obtain⟨row,rfl,_⟩:=h0;rfl
    |cl f caps=>
     cases caps with
     |nil=>have:u=_:=h0;subst this;rfl
     |cons a l=>simp[okT]at hok
    |er b=>simp[okT]at hok
    |agg l=>simp[okT]at hok
    |tup l=>simp[okT]at hok
    |any=>simp[okT]at hok
   rw[h1]
theorem YU{e:Ty}(hr:RT hp tm m):∀{Ai:List (Nat×Operand)}{n:Nat}{l:List e.den}{kills:List Nat}{deep:Bool},LA hp tm e n Ai=some (l,kills,deep)->AE3 tm Ai=Kx (AG m) Ai
 |[],n,l,kills,deep,h=>rfl
 |(k,x)::Ai,n,l,kills,deep,h=>by
  simp only[LA]at h
  split at h
  ·split at h
   ·rename_i cs a d ys as ds g1 g2;obtain⟨f1,f2⟩:=Jy (A2 hr x) (Jh g1);have h1:=Aj6 f1 (Jh g1);have h2:=YU hr g2;unfold AE3 Kx at h2⊢
    simp only[zc8,h1,h2]
   ·cases h
  ·cases h
theorem A3B{t:TypeId}{len:Nat}{Ai:Array (Nat×Operand)}(hX:XOK P X)(hh:RH hp hv)(hr:RT hp tm m)(h:BJ X (.buildSlice t len Ai) b tm hp K=some z):
  X1 P R cf (.buildSlice t len Ai) b tm m hv K z:=by
 simp only[BJ,Aj7]at h
 split at h
 ·rename_i e de c he;have hE:=OE hX he;generalize hps:Ai.toList=ps at h;cases len with
  |zero=>
   cases ps with
   |nil=>
    refine⟨_,_,_,.em,hv,h,rfl,hh,hr,fun KV hk=> ?_⟩
    show Av P t 0 Ai.toList (AG m) hv b KV;rw[hps];simp only[Av,hE.el,hE.ty,Am,true_and];exact hk
   |cons a l=>cases h
  |succ len=>
   simp only at h
   split at h
   ·rename_i l kills deep hcl
    split at h
    ·rename_i hc;simp only[za2]at hc;obtain⟨⟨⟨c1,c2⟩,c3⟩,hf⟩:=hc;have c1:=za6 c1;have c2:=Nat.le_of_ble_eq_true c2;obtain⟨rows,q1,q2⟩:=T9 hr hh hE.size hcl;obtain⟨g1,g2⟩:=RM (x:=.arr e deep c l) (k:=AN e de.size deep rows) (hh.kill kills) (hr.keeps fun t i _=>Hb kills hp i) (I5 hf) (fun id y hy=>PU hf hy) (by simp[Kt]) ⟨rfl,rfl,rfl,hE.size,q2⟩;refine⟨_,_,_,.ar b 0 (len+1),_,h,⟨len+1,rfl,fun bb hb=> ?_⟩,g1,g2,fun KV hk=> ?_⟩
     ·rw[AA,zr rfl]at hb;cases hb
      simp[EZ,c1]
     ·show Av P t (len+1) Ai.toList (AG m) hv b KV;rw[hps];simp only[Av,hE.el,hE.ty,Am,q1];rw[YU hr hcl]at hk;exact⟨by rw[q2.1];exact c1,by simpa using c2,c3,hk⟩
    ·cases h
   ·cases h
 ·cases h
theorem A3k{c:Ty}{d:TyD}{x:SV}{y:V}{l:List c.den}{kills:List Nat}{deep:Bool}(hh:RH hp hv)(hf:d.zero.all UC=Ef c)(h:A4M c x hp=some (l,kills,deep))(hx:RV2 hp x y):
  ∃rows,RLx (RE c) l rows/\∀KV:List (List V)->List Nat->Bool->Prop,KV rows kills deep->Bz d y hv KV:=by
 have hsc:∀rows,Ef c=true->RLx (RE c) l rows->Dp rows=true:=by
  intro rows hfl hr;refine za5.2 fun row hrow=> ?_
  obtain⟨i,hi⟩:=List.getElem?_of_mem hrow;obtain⟨a,_,hre⟩:=hr.get' hi;exact J1 hfl hre
 have im:∀rows,RLx (RE c) l rows->(d.zero.all UC&&Dp rows)=Ef c:=by
  intro rows hr;rw[hf];cases hfl:Ef c with
  |false=>rfl
  |true=>rw[hsc rows hfl hr];rfl
 unfold A4M at h
 split at h
 ·rename_i id;obtain⟨n,rfl,hlen⟩:=hx
  split at h
  ·rename_i a dd t l0 hg;obtain⟨k,hk,hk1,hk2,hk3,hk4,hk5⟩:=hh id _ hg;have:=hlen _ hg;cases this
   have hrows:(k.rows.take (0+l0.length)).drop 0=k.rows:=by rw[ze4,<-hk5.1];simp
   split at h
   ·rename_i he
    split at h
    ·rename_i hfl;simp only[zx,Prod.mk.injEq]at h;obtain⟨rfl,rfl,rfl⟩:=h;have hr:=FP he hk5;refine⟨k.rows,hr,fun KV hK=> ?_⟩
     simp only[Bz,hk,hk1,hrows];rw[zr (by rw[hf];exact hfl)];exact⟨hsc _ hfl hr,hK⟩
    ·rename_i hfl;simp only[zx,Prod.mk.injEq]at h;obtain⟨rfl,rfl,rfl⟩:=h;have hr:=FP he hk5;refine⟨k.rows,hr,fun KV hK=> ?_⟩
     simp only[Bz,hk,hk1,hrows];rw[zw (by rw[hf];exact hfl),hk3];exact hK
   ·cases h
  ·rename_i a dd t l0 hg;obtain⟨k,hk,hk1,hk2,hk3,hk4,hk5⟩:=hh id _ hg;have:=hlen _ hg;cases this
   have hrows:(k.rows.take (0+l0.length)).drop 0=k.rows:=by rw[ze4,<-hk5.1];simp
   split at h
   ·rename_i he;simp only[zx,Prod.mk.injEq]at h;obtain⟨rfl,rfl,rfl⟩:=h;have hr:=FP he hk5;refine⟨k.rows,hr,fun KV hK=> ?_⟩
    simp only[Bz,hk,hk1,hrows,im _ hr];exact hK
   ·cases h
  ·cases h
 ·rename_i id lo n;have hx:y=.ar id lo n:=hx;subst hx
  split at h
  ·rename_i a dd t l0 hg;obtain⟨k,hk,hk1,hk2,hk3,hk4,hk5⟩:=hh id _ hg
   split at h
   ·rename_i he
    split at h
    ·rename_i hfl;simp only[zx,Prod.mk.injEq]at h;obtain⟨rfl,rfl,rfl⟩:=h;have hr:=((FP he hk5).take (lo+n)).drop lo;refine⟨_,hr,fun KV hK=> ?_⟩
     simp only[Bz,hk,hk1];rw[zr (by rw[hf];exact hfl)];exact⟨hsc _ hfl hr,hK⟩
    ·rename_i hfl;simp only[zx,Prod.mk.injEq]at h;obtain⟨rfl,rfl,rfl⟩:=h;have hr:=((FP he hk5).take (lo+n)).drop lo;refine⟨_,hr,fun KV hK=> ?_⟩
     simp only[Bz,hk,hk1];rw[zw (by rw[hf];exact hfl),hk3];exact hK
   ·cases h
  ·rename_i a dd t l0 hg;obtain⟨k,hk,hk1,hk2,hk3,hk4,hk5⟩:=hh id _ hg
   split at h
   ·rename_i he;simp only[zx,Prod.mk.injEq]at h;obtain⟨rfl,rfl,rfl⟩:=h;have hr:=((FP he hk5).take (lo+n)).drop lo;refine⟨_,hr,fun KV hK=> ?_⟩
    simp only[Bz,hk,hk1,im _ hr];exact hK
   ·cases h
  ·cases h
 ·split at h
  ·rename_i hl;simp only[zx,Prod.mk.injEq]at h;obtain⟨rfl,rfl,rfl⟩:=h;rename_i l';have hx0:RV0 hp x y:=Zc (hpm:=hp) (e:=c) (l:=l') (by unfold Gz;split<;>simp_all [asL]) hx;rcases Ad3 hl hx0 with⟨rfl,rfl⟩|⟨rows,rfl,hr⟩
   ·exact⟨[],RLx.nil,fun KV hK=>by simp only[Bz];rw[hf];exact hK⟩
   ·exact⟨rows,hr,fun KV hK=>by simp only[Bz];rw[im _ hr];exact hK⟩
  ·cases h
theorem AR2{β:Type}{bytes size:Nat}{l m r:List β}(h:C3 bytes size l m=some r):r=l++m/\(l.length+m.length)*bytes<=Ab/\(l.length+m.length)*size<=Ab:=by
 unfold C3 at h
 split at h
 ·rename_i hc;cases h;exact⟨rfl,hc⟩
 ·cases h
theorem AX9 {args : Array Operand} {ts : Array TypeId} (hX : XOK P X) (hh : RH hp hv) (hr : RT hp tm m) (h : BJ X (.call { callee := .builtin .append, args := args, argTypes := ts }) b tm hp K = some z) :
    X1 P R cf (.call { callee := .builtin .append, args := args, argTypes := ts }) b tm m hv K z := by
  simp only [BJ] at h
  split at h
  · rename_i s x hargs
    unfold AF8 at h
    split at h
    · rename_i t t' hts
      split at h
      · rename_i htt
        have htt := za6 htt
        split at h
        · rename_i e de c he
          have hE := OE hX he
          split at h
          · rename_i mm kills deep hsrc
            obtain ⟨rows, r1, r2⟩ := A3k (d := de) hh hE.flat hsrc (A2 hr x);have hs := A2 hr s;have hrl : ∀ r ∈ rows, r.length = de.size := fun row hrow => by
              obtain ⟨i, hi⟩ := List.getElem?_of_mem hrow;obtain ⟨a, _, hre⟩ := r1.get' hi;rw [hre.len, hE.size]
            have step : ∀ KV : Cb, (∀ s', AG m s = s' -> Bz de (AG m x) hv fun rows kills deep =>
                match s' with
                | .em =>
                  rows.length * de.bytes <= Ab /\ rows.length * de.size <= Ab /\ (∀ r ∈ rows, r.length = de.size) /\ DT kills = true /\
                  KV (.ar b 0 rows.length) (upd (kill hv kills) b (some (AN e de.size deep rows))) (match kills with | [] => .M | _ => .E)
                | .ar id lo n =>
                  Bs (hv id) fun k =>
                    k.kind = .arr /\ lo = 0 /\ k.ty = e /\ k.size = de.size /\ DT (id :: kills) = true /\
                    (n + rows.length) * de.bytes <= Ab /\ (n + rows.length) * de.size <= Ab /\ (∀ r ∈ rows, r.length = de.size) /\
                    KV (.ar b 0 (n + rows.length)) (upd (kill hv (id :: kills)) b (some (AN e de.size (k.deep && deep) (k.rows.take n ++ rows)))) .E
                | _ => False) -> Bo P R cf (.call { callee := .builtin .append, args := args, argTypes := ts }) b (AG m) hv KV := by
              intro KV hK;show (match args.toList with | [s, x] => CE P ts.toList (AG m s) (AG m x) hv b KV | _ => False);rw [hargs, hts];simp only [CE, hE.el, hE.ty, Am];exact ⟨htt, hK _ rfl⟩
            have own : ∀ (id n ty : Nat) (d0 : Bool) (l : List c.den) (k : Blk), AG m s = .ar id 0 n -> hv id = some k -> k.kind = .arr -> k.ty = ty -> k.deep = d0 -> k.size = c.size -> RLx (RE c) l (k.rows.take n) -> l.length = n ->
                (Nat.beq ty e && DT (id :: kills) && Gi tm hp b) = true -> ((C3 de.bytes de.size l mm).bind fun r => K (.ow b) ((b, some (.arr e (d0 && deep) c r)) :: DJ hp (id :: kills)) .E) = some z ->
                X1 P R cf (.call { callee := .builtin .append, args := args, argTypes := ts }) b tm m hv K z := by
              intro id n ty d0 l k hs hk k1 k2 k3 k4 hl hln hc h;simp only [za2] at hc;obtain ⟨⟨c1, c2⟩, hf⟩ := hc;have c1 := za6 c1;obtain ⟨r, a1, a2⟩ := Bh h;obtain ⟨rfl, a3, a4⟩ := AR2 a1;obtain ⟨g1, g2⟩ := RM (x := .arr e (d0 && deep) c (l ++ mm)) (k := AN e de.size (k.deep && deep) (k.rows.take n ++ rows)) (hh.kill (id :: kills)) (hr.keeps fun t i _ => Hb (id :: kills) hp i) (I5 hf) (fun id y hy => PU hf hy) (by simp [Kt])
                ⟨rfl, rfl, by show (k.deep && deep) = _; rw [k3], hE.size, hl.append r1⟩
              refine ⟨_, _, _, .ar b 0 (n + rows.length), _, a2, ⟨n + rows.length, rfl, fun bb hb => ?_⟩, g1, g2, fun KV hk' => step KV fun s' hs' => ?_⟩
              · rw [AA, zr rfl] at hb
                cases hb
                simp [EZ, hln, r1.1]
              · rw [hs] at hs'
                subst hs';refine r2 _ ?_
                simp only [hk, Am];exact ⟨k1, trivial, by rw [k2, c1], by rw [k4, hE.size], c2, by rw [r1.1, <- hln]; exact a3, by rw [r1.1, <- hln]; exact a4, hrl, hk'⟩
            split at h
            · rename_i e1
              rw [e1] at hs;have hs : AG m s = .em := hs
              split at h
              · rename_i hc
                simp only [za2] at hc;obtain ⟨c1, hf⟩ := hc;obtain ⟨hroom, h⟩ := C1 h;simp only [Y9, za2, decide_eq_true_eq] at hroom;obtain ⟨g1, g2⟩ := RM (x := .arr e deep c mm) (k := AN e de.size deep rows) (hh.kill kills) (hr.keeps fun t i _ => Hb kills hp i) (I5 hf) (fun id y hy => PU hf hy) (by simp [Kt]) ⟨rfl, rfl, rfl, hE.size, r1⟩;refine ⟨_, _, _, .ar b 0 rows.length, _, h, ⟨rows.length, rfl, fun bb hb => ?_⟩, g1, g2, fun KV hk => step KV fun s' hs' => ?_⟩
                · rw [AA, zr rfl] at hb
                  cases hb
                  simp [EZ, r1.1]
                · rw [hs] at hs'
                  subst hs';refine r2 _ ?_
                  exact ⟨by rw [r1.1]; exact hroom.1, by rw [r1.1]; exact hroom.2, hrl, c1, hk⟩
              · cases h
            · rename_i id e1
              rw [e1] at hs;obtain ⟨n, hs, hlen⟩ := hs
              split at h
              · rename_i ty d0 t0 l hg
                split at h
                · rename_i ht0
                  split at h
                  · rename_i hc
                    obtain ⟨k, hk, k1, k2, k3, k4, k5⟩ := hh id _ hg;have := hlen _ hg;cases this
                    subst ht0
                    exact own id l.length ty d0 l k hs hk k1 k2 k3 k4 (by have : k.rows.take l.length = k.rows := by rw [<- k5.1]; simp
                                                                          rw [this]; exact k5) rfl hc h
                  · cases h
                · cases h
              · cases h
            · rename_i id n e1
              rw [e1] at hs;have hs : AG m s = .ar id 0 n := hs
              split at h
              · rename_i ty d0 t0 l hg
                split at h
                · rename_i ht0
                  split at h
                  · rename_i hc
                    obtain ⟨k, hk, k1, k2, k3, k4, k5⟩ := hh id _ hg;subst ht0;obtain ⟨hle, h⟩ := C1 h;have hle := of_decide_eq_true hle;exact own id n ty d0 (l.take n) k hs hk k1 k2 k3 k4 (k5.take n) (by simp; omega) hc h
                  · cases h
                · cases h
              · cases h
            · cases h
          · cases h
        · cases h
      · cases h
    · cases h
  · cases h
end
end
section
open Go
section
variable {tm:TTm} {m:Tm} {hp hp':THp} {hv hv':Hp}
theorem AW5{id:Nat}(hh:RH hp hv):RH ((id,(AF hp id).map AT9)::hp) (upd hv id ((hv id).map fun k=>{k with kind:=match k.kind with|.arr=>.frz|x=>x}))/\∀i,CN hp ((id,(AF hp id).map AT9)::hp) i:=by
 have hk:∀i,CN hp ((id,(AF hp id).map AT9)::hp) i:=by
  intro i b hb;rw[AA]at hb
  split at hb
  ·rename_i hi;subst hi;simp only[zb5]at hb;obtain⟨b0,h0,rfl⟩:=hb;exact⟨b0,h0,by cases b0<;>rfl⟩
  ·exact⟨b,hb,rfl⟩
 refine⟨fun i b hb=> ?_,hk⟩
 rw[AA]at hb
 split at hb
 ·rename_i hi;subst hi;simp only[zb5]at hb;obtain⟨b0,h0,rfl⟩:=hb;obtain⟨k,hk1,hrb⟩:=hh i b0 h0;refine⟨_,by simp only[upd,if_true,hk1,zd2];rfl,RB.keeps (hp:=hp) ?_ fun j _=>hk j⟩
  cases b0 with
  |box ty cs=>obtain⟨h1,h2,h3⟩:=hrb;exact⟨by simp[h1],h2,h3⟩
  |arr ty deep t l=>obtain⟨h1,h2,h3⟩:=hrb;exact⟨by simp[h1],h2,h3⟩
  |frz ty deep t l=>obtain⟨h1,h2,h3⟩:=hrb;exact⟨by simp[h1],h2,h3⟩
 ·rename_i hi;obtain⟨k,hk1,hrb⟩:=hh i b hb;exact⟨k,by simp only[upd,zw hi];exact hk1,hrb.keeps fun j _=>hk j⟩
theorem Wf:∀(l:List Nat){hp:THp}{hv:Hp},RH hp hv->RH (El hp l) (freeze hv l)/\∀i,CN hp (El hp l) i
 |[],hp,hv,h=>⟨h,fun i=>CN.refl hp i⟩
 |id::l,hp,hv,h=>by
  obtain⟨h1,h2⟩:=AW5 (id:=id) h;obtain⟨h3,h4⟩:=Wf l h1;exact⟨h3,fun i=>(h2 i).trans (h4 i)⟩
theorem TC:∀(l:List Nat)(hp:THp)(id:Nat),id ∉ l->AF (El hp l) id=AF hp id
 |[],_,_,_=>rfl
 |x::l,hp,id,h=>by
  simp only[zc7,not_or]at h;rw[El,TC l _ id h.2,AA,zw h.1]
theorem Ud:∀(l:List Nat)(hp:THp)(id:Nat)(ty:TypeId)(cs:List SV),AF hp id=some (.box ty cs)->AF (El hp l) id=some (.box ty cs)
 |[],_,_,_,_,h=>h
 |x::l,hp,id,ty,cs,h=>by
  rw[El];refine Ud l _ id ty cs ?_
  rw[AA]
  split
  ·rename_i he;subst he;rw[h];rfl
  ·exact h
theorem X8{hp:THp}{id:Nat}{b:TB}(h:AF hp id=some b):(id,some b)∈hp:=by
 induction hp with
 |nil=>cases h
 |cons a l ih=>
  obtain⟨k,x⟩:=a;rw[AA]at h
  split at h
  ·rename_i he;subst he;subst h;simp
  ·exact List.mem_cons_of_mem _ (ih h)
theorem Nu{a b:Nat}(h:Nat.blt a b=true):a<b:=Nat.lt_of_succ_le (Nat.le_of_ble_eq_true h)
def Bel(b:Nat)(hp:THp):Prop:=∀id k,AF hp id=some k->id<b/\∀i∈Kt k,i<b
theorem Bel.mono{b b':Nat}{hp:THp}(h:Bel b hp)(hb:b<=b'):Bel b' hp:=fun id k hk=>⟨zd9 (h id k hk).1 hb,fun i hi=>zd9 ((h id k hk).2 i hi) hb⟩
theorem SI{tm:TTm}{hp:THp}{b:Nat}(h:So tm hp b=true):Bel b hp/\∀t,∀i∈GC (Bt tm t),i<b:=by
 simp only[So,za2]at h;refine⟨fun id k hk=> ?_,fun t i hi=> ?_⟩
 ·have:=za5.1 h.2 _ (X8 hk);simp only[za2]at this;exact⟨Nu this.1,fun i hi=>Nu (za5.1 this.2 i hi)⟩
 ·rcases Ag3 (tm:=tm) (t:=t)with h'|⟨x,hx,h'⟩
  ·rw[h']at hi;simp[GC,XA,EY]at hi
  ·rw[<-h']at hi;exact Nu (za5.1 (za5.1 h.1 x hx) i hi)
theorem A1g{b:TB}{i:Nat}(h:i∈Kt (AT9 b)):i∈Kt b:=by
 cases b with
 |arr _ _ _ _=>simp[AT9,Kt]at h
 |_=>exact h
theorem MW:∀(l:List Nat){hp:THp}{b:Nat},Bel b hp->Bel b (El hp l)
 |[],_,_,h=>h
 |x::l,hp,b,h=>by
  rw[El];refine MW l fun id k hk=> ?_
  rw[AA]at hk
  split at hk
  ·rename_i he;subst he;simp only[zb5]at hk;obtain⟨k0,h0,rfl⟩:=hk;exact⟨(h id k0 h0).1,fun i hi=>(h id k0 h0).2 i (A1g hi)⟩
  ·exact h id k hk
theorem AU4{hp:THp}{x:SV}{y:V}(h:RV0 hp x y)(hx:okT x=true):Br y=true:=by
 cases x with
 |im t l=>rcases h with⟨_,rfl⟩|⟨_,rfl,_⟩<;>rfl
 |ow id=>obtain⟨_,rfl,_⟩:=h;rfl
 |ir t a c=>obtain⟨_,rfl,_⟩:=h;rfl
 |cl f cs=>cases cs with|nil=>have:y=_:=h;subst this;rfl|cons a l=>exact h.elim
 |any=>simp[okT]at hx
 |agg cs=>exact h.elim
 |tup cs=>exact h.elim
 |int k n=>have:y=_:=h;subst this;rfl
 |bool k=>have:y=_:=h;subst this;rfl
 |str k=>have:y=_:=h;subst this;rfl
 |sc k=>have:y=_:=h;subst this;rfl
 |em=>have:y=_:=h;subst this;rfl
 |er e=>simp[okT]at hx
 |ar a b c=>have:y=_:=h;subst this;rfl
 |rf a b c=>have:y=_:=h;subst this;rfl
structure NV (b n:Nat) (hp:THp) (hp':THp) (hv':Hp):Prop where
 rh:RH hp' hv'
 bel:Bel (b+n) hp'
 keep:∀i,i<b->CN hp hp' i
structure NT (b n:Nat) (hp:THp) (hp':THp) (hv':Hp):Prop extends NV b n hp hp' hv' where
 box:∀i ty cs,i<b->AF hp i=some (.box ty cs)->AF hp' i=some (.box ty cs)
theorem NT.refl(hh:RH hp hv){b:Nat}(hb:Bel b hp):NT b 0 hp hp hv:=⟨⟨hh,hb,fun i _=>CN.refl hp i⟩,fun _ _ _ _ h=>h⟩
theorem NT.trans{b n k:Nat}{hp1 hp2:THp}{hv1 hv2:Hp}(h:NT b n hp hp1 hv1)(g:NT (b+n) k hp1 hp2 hv2):NT b (n+k) hp hp2 hv2:=
 ⟨⟨g.rh,by have:=g.bel;rwa[Nat.add_assoc]at this,fun i hi=>(h.keep i hi).trans (g.keep i (by omega))⟩,fun i ty cs hi hg=>g.box i ty cs (by omega) (h.box i ty cs hi hg)⟩
theorem AL8{m:TM}{v v':SV}{y:V}{b n:Nat}(hh:RH hp hv)(hb:Bel b hp)(hi:∀i∈EY v,i<b)(hv0:RV0 hp v y)(h:tnC m v hp b=some (v',hp',n)):
  ∃y' hv',MA m.md y hv b=some (y',hv',n)/\NT b n hp hp' hv'/\RV0 hp' v' y'/\∀i∈EY v',i<b+n:=by
 cases m with
 |keep=>
  simp only[tnC,zx,Prod.mk.injEq]at h;obtain⟨rfl,rfl,rfl⟩:=h;exact⟨y,hv,rfl,NT.refl hh hb,hv0,hi⟩
 |own ty deep t=>
  cases v with
  |em=>
   simp only[tnC,zx,Prod.mk.injEq]at h;obtain⟨rfl,rfl,rfl⟩:=h;have:y=.em:=hv0;subst this;refine⟨.ar b 0 0,upd hv b (some (AN ty t.size deep [])),rfl,⟨⟨?_,fun id k hk=> ?_,fun i hi=>Lk (by omega)⟩,fun i ty' cs hi hg=>by rw[AA,zw (by omega)];exact hg⟩,⟨0,rfl,fun k hk=> ?_⟩,fun i hi=>by simp[EY]at hi;omega⟩
   ·exact hh.put (fun i hi=>by simp[Kt]at hi) (fun id z _ hz i hi=>Lk fun he=>by have:=(hb id z hz).2 i hi;omega) ⟨rfl,rfl,rfl,rfl,RLx.nil⟩
   ·rw[AA]at hk
    split at hk
    ·cases hk;exact⟨by omega,fun i hi=>by simp[Kt]at hi⟩
    ·exact(hb.mono (by omega)) id k hk
   ·rw[AA,zr rfl]at hk;cases hk;rfl
  |ow id=>
   simp only[tnC]at h
   split at h
   ·rename_i ty' deep' t' l hg
    split at h
    ·rename_i he
     split at h
     ·rename_i hc;simp only[za2,beq_iff_eq]at hc;simp only[zx,Prod.mk.injEq]at h;obtain⟨rfl,rfl,rfl⟩:=h;subst he;have e1:=za6 hc.1;have e2:=hc.2;subst e1;subst e2;obtain⟨k,hk,k1,k2,k3,k4,k5⟩:=hh id _ hg;obtain⟨n',rfl,hlen⟩:=hv0;have hn':=hlen _ hg;cases hn'
      refine⟨.ar id 0 l.length,hv,?_,NT.refl hh hb,⟨_,rfl,hlen⟩,hi⟩
      show(match hv id with|some k=>if k.kind=Kind.arr/\0=0/\l.length=k.rows.length/\k.ty=ty'/\k.size=t'.size/\k.deep=deep' then some (V.ar id 0 l.length,hv,0)else none|none=>none)=_;rw[hk];simp only;rw[zr ⟨k1,trivial,k5.1.symm,k2,k4,k3⟩]
     ·cases h
    ·cases h
   ·cases h
  |_=>simp[tnC]at h
 |im t=>
  simp only[tnC]at h
  split at h
  ·rename_i l hl;simp only[zx,Prod.mk.injEq]at h;obtain⟨rfl,rfl,rfl⟩:=h;obtain⟨g1,g2⟩:=Wf (frV v) hh;have nt:NT b 0 hp (El hp (frV v)) (freeze hv (frV v)):=⟨⟨g1,MW _ hb,fun i _=>g2 i⟩,fun i ty cs _ hg=>Ud _ _ _ _ _ hg⟩;rcases V5 hl hv0 hh.toM with⟨rfl,rfl⟩|⟨rows,rfl,hr⟩|⟨id,lo,n,kb,rfl,hk,hkk,hr⟩
   ·have hf:frV v=[]:=by
     cases v<;>first|rfl|(obtain⟨n,hy,_⟩:=hv0;cases hy)|(have:V.em=_:=hv0;cases this)
    exact⟨.im [],_,by rw[hf];rfl,nt,.inr ⟨[],rfl,RLx.nil⟩,fun i hi=>by simp[EY]at hi⟩
   ·have hf:frV v=[]:=by
     cases v<;>first|rfl|(obtain⟨n,hy,_⟩:=hv0;cases hy)|(have:V.im rows=_:=hv0;cases this)
    exact⟨.im rows,_,by rw[hf];rfl,nt,.inr ⟨rows,rfl,hr⟩,fun i hi=>by simp[EY]at hi⟩
   ·have hf:frV v=[id]:=by
     cases v with
     |ow id'=>obtain⟨n',hy,_⟩:=hv0;cases hy;rfl
     |ar a b c=>have:V.ar id lo n=_:=hv0;cases this;rfl
     |em=>have:V.ar id lo n=_:=hv0;cases this
     |er e=>have:V.ar id lo n=_:=hv0;cases this
     |im t' l'=>rcases hv0 with⟨_,hy⟩|⟨_,hy,_⟩<;>cases hy
     |_=>simp[Gz,asL]at hl
    refine⟨.im ((kb.rows.take (lo+n)).drop lo),_,?_,nt,.inr ⟨_,rfl,hr⟩,fun i hi=>by simp[EY]at hi⟩
    rw[hf];show(match hv id with|some k=>(match k.kind with|.box=>none|_=>some (V.im ((k.rows.take (lo+n)).drop lo),freeze hv [id],0))|none=>none)=_;rw[hk];simp only
  ·cases h
 |sub=>
  cases v with
  |ow id=>
   simp only[tnC]at h
   split at h
   ·rename_i ty' deep' t' l hg;simp only[zx,Prod.mk.injEq]at h;obtain⟨rfl,rfl,rfl⟩:=h;obtain⟨n',rfl,hlen⟩:=hv0;have hn':=hlen _ hg;cases hn'
    exact⟨_,hv,rfl,NT.refl hh hb,rfl,fun i hi=>by simp[EY]at hi⟩
   ·cases h
  |ar id lo n'=>
   simp only[tnC,zx,Prod.mk.injEq]at h;obtain⟨rfl,rfl,rfl⟩:=h;exact⟨y,hv,rfl,NT.refl hh hb,hv0,hi⟩
  |_=>simp[tnC]at h
theorem Ac7:∀{ms:List TM}{vs vs':List SV}{ys:List V}{hp hp':THp}{hv:Hp}{b n:Nat},RH hp hv->Bel b hp->(∀i∈vs.flatMap EY,i<b)->RC (RV0 hp) vs ys->tnL ms vs hp b=some (vs',hp',n)->
  ∃ys' hv',MG (ms.map TM.md) ys hv b=some (ys',hv',n)/\NT b n hp hp' hv'/\RC (RV0 hp') vs' ys'/\∀i∈vs'.flatMap EY,i<b+n
 |[],[],vs',ys,hp,hp',hv,b,n,hh,hb,hi,hc,h=>by
  simp only[tnL,zx,Prod.mk.injEq]at h;obtain⟨rfl,rfl,rfl⟩:=h;cases ys with
  |nil=>exact⟨[],hv,rfl,NT.refl hh hb,trivial,fun i hi=>by simp at hi⟩
  |cons a l=>exact hc.elim
 |m::ms,v::vs,vs',ys,hp,hp',hv,b,n,hh,hb,hi,hc,h=>by
  cases ys with
  |nil=>exact hc.elim
  |cons y ys=>
   simp only[tnL]at h
   split at h
   ·rename_i z hp1 n1 h1
    split at h
    ·rename_i zs hp2 k h2;simp only[zx,Prod.mk.injEq]at h;obtain⟨rfl,rfl,rfl⟩:=h;obtain⟨y',hv1,e1,q1,r1,s1⟩:=AL8 hh hb (fun i hi'=>hi i (by simp[hi'])) hc.1 h1;obtain⟨ys',hv2,e2,q2,r2,s2⟩:=Ac7 q1.rh q1.bel (fun i hi'=>by have:=hi i (by simp only[zb4,zb6];exact .inr hi');omega) (hc.2.mono fun x hx y hxy=>hxy.keeps fun i hi'=>q1.keep i (hi i (by simp only[zb4,zb6];exact .inr (zb1.2 ⟨x,hx,hi'⟩)))) h2;refine⟨y'::ys',hv2,by simp only[zb8,MG,e1,e2],q1.trans q2,⟨r1.keeps fun i hi'=>q2.keep i (s1 i hi'),r2⟩,fun i hi'=> ?_⟩
     rcases zb6.1 (by simpa only[zb4]using hi')with hi'|hi'
     ·have:=s1 i hi';omega
     ·have:=s2 i hi';omega
    ·cases h
   ·cases h
 |[],_::_,_,_,_,_,_,_,_,_,_,_,_,h=>by simp[tnL]at h
 |_::_,[],_,_,_,_,_,_,_,_,_,_,_,h=>by simp[tnL]at h
theorem AM6{m:TMs}{v v':SV}{y:V}{b n:Nat}(hh:RH hp hv)(hb:Bel b hp)(hi:∀i∈GC v,i<b)(hv2:RV2 hp v y)(h:tnV m v hp b=some (v',hp',n)):
  ∃y' hv',S6 m.mds y hv b=some (y',hv',n)/\NV b n hp hp' hv'/\RV2 hp' v' y'/\∀i∈GC v',i<b+n:=by
 cases m with
 |one m=>
  have h:tnC m v hp b=some (v',hp',n):=h;have cell:(∃y0,RV0 hp v y0/\y0=y)->GC v=EY v->GC v'=EY v'->(∀y',RV0 hp' v' y'->RV2 hp' v' y')->∃y' hv',S6 (TMs.one m).mds y hv b=some (y',hv',n)/\NV b n hp hp' hv'/\RV2 hp' v' y'/\∀i∈GC v',i<b+n:=by
   rintro⟨_,h0,rfl⟩ e1 e2 h2;obtain⟨y',hv',q1,q2,q3,q4⟩:=AL8 hh hb (by rw[<-e1];exact hi) h0 h;exact⟨y',hv',q1,q2.toNV,h2 y' q3,by rw[e2];exact q4⟩
  cases m with
  |keep=>
   simp only[tnC,zx,Prod.mk.injEq]at h;obtain⟨rfl,rfl,rfl⟩:=h;exact⟨y,hv,rfl,(NT.refl hh hb).toNV,hv2,hi⟩
  |own ty deep t=>
   have hw:∃i,v'=.ow i:=by
    cases v<;>simp only[tnC,reduceCtorEq]at h
    ·simp only[zx,Prod.mk.injEq]at h;exact⟨_,h.1.symm⟩
    ·repeat' (split at h)
     all_goals first|(simp only[zx,Prod.mk.injEq]at h;exact⟨_,h.1.symm⟩)|cases h
   obtain⟨i',rfl⟩:=hw;cases v<;>simp only[tnC,reduceCtorEq]at h
   ·exact cell ⟨y,hv2,rfl⟩ rfl rfl fun y' h=>h
   ·exact cell ⟨y,hv2,rfl⟩ rfl rfl fun y' h=>h
  |im t=>
   have hw:∃l,v'=.im t l:=by
    simp only[tnC]at h
    split at h
    ·simp only[zx,Prod.mk.injEq]at h;exact⟨_,h.1.symm⟩
    ·cases h
   obtain⟨l',rfl⟩:=hw;cases v<;>first|exact cell ⟨y,hv2,rfl⟩ rfl rfl fun y' h=>h|(simp[tnC,Gz,asL]at h;done)
  |sub=>
   have hw:∃i lo k,v'=.ar i lo k:=by
    cases v<;>simp only[tnC,reduceCtorEq]at h
    ·split at h
     ·simp only[zx,Prod.mk.injEq]at h;exact⟨_,_,_,h.1.symm⟩
     ·cases h
    ·simp only[zx,Prod.mk.injEq]at h;exact⟨_,_,_,h.1.symm⟩
   obtain⟨i',lo',k',rfl⟩:=hw;cases v<;>first|exact cell ⟨y,hv2,rfl⟩ rfl rfl fun y' h=>h|(simp[tnC]at h;done)
 |agg l=>
  cases v with
  |agg cs=>
   simp only[tnV]at h
   split at h
   ·rename_i cs' hp1 n1 h1;simp only[zx,Prod.mk.injEq]at h;obtain⟨rfl,rfl,rfl⟩:=h;obtain⟨us,rfl,hc⟩:=WX hv2;obtain⟨ys',hv',q1,q2,q3,q4⟩:=Ac7 hh hb hi hc h1;refine⟨.agg ys',hv',?_,q2.toNV,⟨ys',rfl,q3⟩,q4⟩
    show(MG (l.map TM.md) us hv b).map _=_;rw[q1];rfl
   ·cases h
  |_=>simp[tnV]at h
 |box l=>
  cases v with
  |rf id r c=>
   simp only[tnV]at h
   split at h
   ·rename_i ty cs hg
    split at h
    ·rename_i cs' hp1 n1 h1
     split at h
     ·rename_i hok;simp only[zx,Prod.mk.injEq]at h;obtain⟨rfl,rfl,rfl⟩:=h;have:y=.rf id r c:=hv2;subst this;obtain⟨k,hk,k1,k2,row,k3,k4,k5⟩:=hh id _ hg;obtain⟨ys',hv',q1,q2,q3,q4⟩:=Ac7 hh hb (hb id _ hg).2 k5 h1;have hlt:=(hb id _ hg).1;have hbx:=q2.box id ty cs hlt hg;have hkp:∀i,CN hp1 ((id,some (.box ty cs'))::hp1) i:=fun i=>VZ (y:=.box ty cs') hbx rfl i
      have hoc:ys'.all Br=true:=by
       have key:∀{xs:List SV}{us:List V},RC (RV0 hp1) xs us->xs.all okT=true->us.all Br=true:=by
        intro xs
        induction xs with
        |nil=>intro us h _;cases us with|nil=>rfl|cons a l=>exact h.elim
        |cons x xs ih=>
         intro us h ho;cases us with
         |nil=>exact h.elim
         |cons u us=>
          simp only[zc8,za2]at ho⊢
          exact⟨AU4 h.1 ho.1,ih h.2 ho.2⟩
       exact key q3 hok
      have hlen:cs'.length=cs.length:=by
       have:∀{ms:List TM}{vs vs':List SV}{hp hp':THp}{b n:Nat},tnL ms vs hp b=some (vs',hp',n)->vs'.length=vs.length:=by
        intro ms
        induction ms with
        |nil=>intro vs vs' hp hp' b n h;cases vs with|nil=>simp[tnL]at h;simp[h]|cons _ _=>simp[tnL]at h
        |cons m ms ih=>
         intro vs vs' hp hp' b n h;cases vs with
         |nil=>simp[tnL]at h
         |cons v vs=>
          simp only[tnL]at h
          split at h
          ·split at h
           ·rename_i h2;simp only[zx,Prod.mk.injEq]at h;obtain⟨rfl,_,_⟩:=h;simp[ih h2]
           ·cases h
          ·cases h
       exact this h1
      refine⟨.rf id r c,upd hv' id (some {k with rows:=[ys']}),?_,⟨?_,fun i z hz=> ?_,fun i hi=>(q2.keep i hi).trans (hkp i)⟩,rfl,fun i hi=>by simp[GC,XA,EY]at hi⟩
      ·show(match hv id with|some k=>(match k.kind,k.rows with|Kind.box,[row]=>(match MG (l.map TM.md) row hv b with|some (cs',hp1,n)=>if cs'.all Br then some (V.rf id r c,upd hp1 id (some {k with rows:=[cs']}),n)else none|none=>none)|_,_=>none)|none=>none)=_;rw[hk];simp only[k1,k3,q1,hoc,if_true]
      ·refine q2.rh.put (fun i _=>hkp i) (fun _ _ _ _ i _=>hkp i) ⟨k1,k2,ys',rfl,?_,q3⟩
       show k.size=ys'.length;rw[k4,k5.length,q3.length,hlen]
      ·rw[AA]at hz
       split at hz
       ·cases hz;rename_i he;subst he;exact⟨by omega,q4⟩
       ·exact q2.bel i z hz
     ·cases h
    ·cases h
   ·cases h
  |_=>simp[tnV]at h
theorem AJ0:∀{l:List (Nat×TMs)}{st st':TSt}{s:St},RS st s->Bel (16*st.c) st.hp->(∀t,∀i∈GC (Bt st.tm t),i<16*st.c)->tnS l st=some st'->
  ∃s',OY (Fi l) s=some s'/\RS st' s'/\Bel (16*st'.c) st'.hp/\∀t,∀i∈GC (Bt st'.tm t),i<16*st'.c
 |[],st,st',s,hs,hb,hi,h=>by
  simp only[tnS,zx]at h;subst h;exact⟨s,rfl,hs,hb,hi⟩
 |(k,m)::l,st,st',s,hs,hb,hi,h=>by
  simp only[tnS]at h
  split at h
  ·rename_i x hp1 n h1
   split at h
   ·rename_i hn;have hn:=Nat.le_of_ble_eq_true hn;obtain⟨y',hv1,q1,q2,q3,q4⟩:=AM6 hs.hp hb (hi k) (hs.tm k) h1;obtain⟨s',e1,e2,e3,e4⟩:=AJ0 (s:={tm:=upd s.tm k y',hp:=hv1,c:=s.c+1}) (st:={tm:=(k,x)::st.tm,hp:=hp1,c:=st.c+1}) ⟨fun t=>by
      show RV2 hp1 (Bt ((k,x)::st.tm) t) (upd s.tm k y' t);rw[E4];unfold upd
      split
      ·exact q3
      ·exact(hs.tm t).keeps fun i hi'=>q2.keep i (hi t i hi'),q2.rh,by show s.c+1=st.c+1;rw[hs.c]⟩ (q2.bel.mono (by show _<=16*(st.c+1);omega)) (fun t i hi'=>by
      have hi':i∈GC (Bt ((k,x)::st.tm) t):=hi';show i<16*(st.c+1);rw[E4]at hi'
      split at hi'
      ·have:=q4 i hi';omega
      ·have:=hi t i hi';omega) h
    refine⟨s',?_,e2,e3,e4⟩
    show OY ((k,m.mds)::Fi l) s=_;simp only[OY];rw[hs.c,q1];simp only;rw[zr hn];rw[<-hs.c];exact e1
   ·cases h
  ·cases h
theorem AH2:∀{ms:List TMs}{xs xs':List SV}{ys:List V}{hp hp':THp}{hv:Hp}{c:Nat},RH hp hv->Bel (16*c) hp->(∀i∈xs.flatMap GC,i<16*c)->RC (RV2 hp) xs ys->tnR ms xs hp c=some (xs',hp')->
  ∃ys' hv' c',JN (ms.map TMs.mds) ys hv c=some (ys',hv',c')/\RH hp' hv'/\RC (RV2 hp') xs' ys'/\(∀i,i<16*c->CN hp hp' i)
 |[],[],xs',ys,hp,hp',hv,c,hh,hb,hi,hc,h=>by
  simp only[tnR,zx,Prod.mk.injEq]at h;obtain⟨rfl,rfl⟩:=h;cases ys with
  |nil=>exact⟨[],hv,c,rfl,hh,trivial,fun i _=>CN.refl hp i⟩
  |cons a l=>exact hc.elim
 |m::ms,x::xs,xs',ys,hp,hp',hv,c,hh,hb,hi,hc,h=>by
  cases ys with
  |nil=>exact hc.elim
  |cons y ys=>
   simp only[tnR]at h
   split at h
   ·rename_i z hp1 n h1
    split at h
    ·rename_i hn;have hn:=Nat.le_of_ble_eq_true hn
     split at h
     ·rename_i zs hp2 h2;simp only[zx,Prod.mk.injEq]at h;obtain⟨rfl,rfl⟩:=h;obtain⟨y',hv1,q1,q2,q3,q4⟩:=AM6 hh hb (fun i hi'=>hi i (by simp[hi'])) hc.1 h1;obtain⟨ys',hv2,c',e1,e2,e3,e4⟩:=AH2 q2.rh (q2.bel.mono (show _<=16*(c+1) by omega)) (fun i hi'=>by have:=hi i (by simp only[zb4,zb6];exact .inr hi');omega) (hc.2.mono fun x hx y hxy=>hxy.keeps fun i hi'=>q2.keep i (hi i (by simp only[zb4,zb6];exact .inr (zb1.2 ⟨x,hx,hi'⟩)))) h2;refine⟨y'::ys',hv2,c',?_,e2,⟨q3.keeps fun i hi'=>e4 i (by have:=q4 i hi';omega),e3⟩,fun i hi'=>(q2.keep i hi').trans (e4 i (by omega))⟩
      simp only[zb8,JN,q1,zr hn,e1]
     ·cases h
    ·cases h
   ·cases h
 |[],_::_,_,_,_,_,_,_,_,_,_,_,h=>by simp[tnR]at h
 |_::_,[],_,_,_,_,_,_,_,_,_,_,h=>by simp[tnR]at h
end
end
section
open Go
section
variable {hp hp' H:THp} {hv hv':Hp}
theorem Rm{i:Nat}:∀{l:List Nat},AQ7 i l=l.contains i
 |[]=>rfl
 |x::l=>by
  simp only[AQ7,List.contains_cons];rw[Rm];cases h:Nat.beq x i with
  |true=>have:=za6 h;subst this;simp
  |false=>
   have:x≠i:=fun he=>by subst he;rw[Nat.beq_refl]at h;cases h
   have h2:(i==x)=false:=by simpa using fun he:i=x=>this he.symm
   rw[h2];rfl
theorem Lj:∀{l m:List Nat},Az3 l m=true->l=m
 |[],[],_=>rfl
 |x::l,y::m,h=>by
  simp only[Az3,za2]at h;rw[za6 h.1,Lj h.2]
 |[],_::_,h=>by cases h
 |_::_,[],h=>by cases h
theorem A22{v:SV}{y:V}(hs:JB v=true)(h:RV0 hp v y):Ag y=rf0 v:=by
 cases v with
 |im t l=>rcases h with⟨_,rfl⟩|⟨_,rfl,_⟩<;>rfl
 |ow id=>obtain⟨_,rfl,_⟩:=h;rfl
 |ir t a c=>obtain⟨_,rfl,_⟩:=h;rfl
 |cl f cs=>cases cs with|nil=>have:y=_:=h;subst this;rfl|cons a l=>exact h.elim
 |any=>cases hs
 |agg cs=>exact h.elim
 |tup cs=>exact h.elim
 |_=>have:y=_:=h;subst this;rfl
theorem U0:∀{vs:List SV}{ys:List V},vs.all JB=true->RC (RV0 hp) vs ys->ys.flatMap Ag=vs.flatMap rf0
 |[],[],_,_=>rfl
 |v::vs,y::ys,hs,h=>by
  simp only[zc8,za2]at hs;rw[zb4,zb4,A22 hs.1 h.1,U0 hs.2 h.2]
 |[],_::_,_,h=>h.elim
 |_::_,[],_,h=>h.elim
theorem HG{v:SV}{y:V}(hs:EM v=true)(h:RV2 hp v y):RV1 hp v y/\Af y=rf1 v/\Ak y=rf1 v/\Fh y=true:=by
 have cell:∀{v:SV}{y:V},JB v=true->RV0 hp v y->RV1 hp v y/\Af y=rf0 v/\Ak y=rf0 v/\Fh y=true:=by
  intro v y hs h;refine⟨h.to1,?_⟩
  cases v with
  |im t l=>rcases h with⟨_,rfl⟩|⟨_,rfl,_⟩<;>exact⟨rfl,rfl,rfl⟩
  |ow id=>obtain⟨_,rfl,_⟩:=h;exact⟨rfl,rfl,rfl⟩
  |ir t a c=>obtain⟨_,rfl,_⟩:=h;exact⟨rfl,rfl,rfl⟩
  |cl f cs=>cases cs with|nil=>have:y=_:=h;subst this;exact⟨rfl,rfl,rfl⟩|cons a l=>exact h.elim
  |any=>cases hs
  |agg cs=>exact h.elim
  |tup cs=>exact h.elim
  |_=>have:y=_:=h;subst this;exact⟨rfl,rfl,rfl⟩
 cases v with
 |agg cs=>
  obtain⟨us,rfl,hc⟩:=h;have:=U0 hs hc;exact⟨⟨us,rfl,hc⟩,this,this,rfl⟩
 |cl f cs=>
  obtain⟨us,rfl,hc⟩:=h;have:=U0 hs hc;exact⟨⟨us,rfl,hc⟩,this,this,rfl⟩
 |tup vs=>cases hs
 |any=>cases hs
 |int k n=>exact cell (v:=.int k n) hs h
 |bool b=>exact cell (v:=.bool b) hs h
 |str s=>exact cell (v:=.str s) hs h
 |sc x=>exact cell (v:=.sc x) hs h
 |em=>exact cell (v:=.em) hs h
 |er e=>exact cell (v:=.er e) hs h
 |im t l=>exact cell (v:=.im t l) hs h
 |ow id=>exact cell (v:=.ow id) hs h
 |ar a b c=>exact cell (v:=.ar a b c) hs h
 |rf a b c=>exact cell (v:=.rf a b c) hs h
 |ir a b c=>exact cell (v:=.ir a b c) hs h
theorem AK6{b:TB}{k:Blk}(hs:VT b=true)(h:RB hp b k):CO k=rfB b:=by
 cases b with
 |arr ty deep t l=>obtain⟨h1,_⟩:=h;simp only[CO,h1,rfB]
 |frz ty deep t l=>obtain⟨h1,_⟩:=h;simp only[CO,h1,rfB]
 |box ty cs=>
  obtain⟨h1,h2,row,h3,h4,h5⟩:=h;unfold CO;rw[h1,h3];simp only[zb4,List.flatMap_nil,ze8];exact U0 hs h5
theorem Hn(hh:RH hp hv):∀(k:Nat)(l acc:List Nat){o:List Nat},Gc hp k l acc=some o->ER hv k l acc=some o
 |0,_,_,_,h=>by cases h
 |k+1,[],acc,o,h=>h
 |k+1,id::l,acc,o,h=>by
  simp only[Gc]at h;simp only[ER];rw[Rm]at h;cases hc:acc.contains id with
  |true=>
   rw[hc]at h;rw[zr rfl];exact Hn hh k l acc h
  |false=>
   rw[hc]at h;rw[zw (by simp)];simp only[cond_false]at h
   split at h
   ·cases h
   ·rename_i b hb;obtain⟨hs,h⟩:=C1 h;obtain⟨kb,hk,hr⟩:=hh id b hb;simp only[hk,AK6 hs hr];exact Hn hh k _ _ h
theorem Oy:∀(o:List Nat)(id:Nat),C5 o id=idx o id
 |[],_=>rfl
 |x::l,id=>by
  unfold idx;rw[List.idxOf?_cons];simp only[C5];cases h:Nat.beq x id with
  |true=>have:=za6 h;subst this;simp
  |false=>
   have:x≠id:=fun he=>by subst he;rw[Nat.beq_refl]at h;cases h
   have h2:(x==id)=false:=by simpa using this
   rw[h2];simp only[cond_false,zc3,if_false];rw[Oy l id];unfold idx;cases List.idxOf? id l<;>rfl
theorem AC5:∀{o:List Nat}{id j:Nat},idx o id=some j->o[j]? =some id:=by
 intro o id j h;rw[<-Oy]at h
 induction o generalizing j with
 |nil=>cases h
 |cons x l ih=>
  simp only[C5]at h;cases hx:Nat.beq x id with
  |true=>
   rw[hx]at h;have:=za6 hx;subst this;cases h
   rfl
  |false=>
   rw[hx]at h;simp only[cond_false]at h
   split at h
   ·rename_i j' hj;cases h
    rw[List.getElem?_cons_succ];exact ih hj
   ·cases h
section
variable {f:Nat->Option Nat} (hlen:∀id j,f id=some j->∀b',AF H j=some b'->∃b,AF hp id=some b/\EZ b=EZ b')
include hlen
theorem AG2{v:SV}{y:V}(h:RV0 hp v y):RV0 H (Ek f v) (Cd f y):=by
 cases v with
 |im t l=>rcases h with⟨h1,rfl⟩|⟨rows,rfl,h1⟩;exact .inl ⟨h1,rfl⟩;exact .inr ⟨rows,rfl,h1⟩
 |ow id=>
  obtain⟨n,rfl,h1⟩:=h;simp only[Ek,Cd];cases hf:f id with
  |none=>trivial
  |some j=>
   refine⟨n,rfl,fun b' hb'=> ?_⟩
   obtain⟨b,q1,q2⟩:=hlen id j hf b' hb';rw[<-q2];exact h1 b q1
 |ar id lo n=>
  have:y=_:=h;subst this;simp only[Ek,Cd];cases hf:f id with
  |none=>trivial
  |some j=>rfl
 |rf id r c=>
  have:y=_:=h;subst this;simp only[Ek,Cd];cases hf:f id with
  |none=>trivial
  |some j=>rfl
 |ir t a c=>obtain⟨row,rfl,h1⟩:=h;exact⟨row,rfl,h1⟩
 |cl g cs=>cases cs with|nil=>have:y=_:=h;subst this;rfl|cons a l=>exact h.elim
 |any=>trivial
 |agg cs=>exact h.elim
 |tup cs=>exact h.elim
 |_=>have:y=_:=h;subst this;rfl
theorem UF:∀{vs:List SV}{ys:List V},RC (RV0 hp) vs ys->RC (RV0 H) (vs.map (Ek f)) (ys.map (Cd f))
 |[],[],_=>trivial
 |v::vs,y::ys,h=>⟨AG2 hlen h.1,UF h.2⟩
 |[],_::_,h=>h.elim
 |_::_,[],h=>h.elim
theorem Aa3{v:SV}{y:V}(h:RV1 hp v y)(hs:EM v=true):RV1 H (BB f v) (CR f y):=by
 have cell:∀{v:SV}{y:V},RV0 hp v y->BB f v=Ek f v->CR f y=Cd f y->RV1 H (BB f v) (CR f y):=by
  intro v y h e1 e2;rw[e1,e2];exact(AG2 hlen h).to1
 cases v with
 |agg cs=>obtain⟨us,rfl,hc⟩:=h;exact⟨_,rfl,UF hlen hc⟩
 |cl g cs=>obtain⟨us,rfl,hc⟩:=h;exact⟨_,rfl,UF hlen hc⟩
 |im t l=>rcases h with⟨h1,rfl⟩|⟨rows,rfl,h1⟩;exact .inl ⟨h1,rfl⟩;exact .inr ⟨rows,rfl,h1⟩
 |ow id=>obtain⟨n,rfl,h1⟩:=h;exact cell (v:=.ow id) ⟨n,rfl,h1⟩ rfl rfl
 |ir t a c=>obtain⟨row,rfl,h1⟩:=h;exact⟨row,rfl,h1⟩
 |any=>trivial
 |tup cs=>exact h.elim
 |ar id lo n=>have:y=_:=h;subst this;exact cell (v:=.ar id lo n) rfl rfl rfl
 |rf id lo n=>have:y=_:=h;subst this;exact cell (v:=.rf id lo n) rfl rfl rfl
 |_=>have:y=_:=h;subst this;rfl
theorem A07{b:TB}{k:Blk}(h:RB hp b k):RB H (Xm f b) (EA f k):=by
 cases b with
 |arr ty deep t l=>
  obtain⟨h1,h2,h3,h4,h5⟩:=h;have:EA f k=k:=by unfold EA;rw[h1]
  rw[this];exact⟨h1,h2,h3,h4,h5⟩
 |frz ty deep t l=>
  obtain⟨h1,h2,h3,h4,h5⟩:=h;have:EA f k=k:=by unfold EA;rw[h1]
  rw[this];exact⟨h1,h2,h3,h4,h5⟩
 |box ty cs=>
  obtain⟨h1,h2,row,h3,h4,h5⟩:=h;have e:EA f k={k with rows:=k.rows.map (·.map (Cd f))}:=by unfold EA;rw[h1]
  rw[e];refine⟨h1,h2,row.map (Cd f),by simp[h3],by simpa using h4,UF hlen h5⟩
end
theorem Aj1{f:Nat->Option Nat}(b:TB):EZ (Xm f b)=EZ b:=by cases b<;>rfl
theorem VG{f:Nat->Option Nat}:∀(o:List Nat)(k j:Nat),AF (Em hp f k o) j=if k<=j then(o[j-k]?).bind fun id=>(AF hp id).map (Xm f)else none
 |[],k,j=>by simp[Em,AF]
 |id::o,k,j=>by
  simp only[Em];rw[AA,VG o (k+1) j];by_cases h:j=k
  ·subst h;rw[zr rfl,zr (za7 _)];simp;cases AF hp id<;>rfl
  ·rw[zw h];by_cases h2:k<=j
   ·rw[zr h2,zr (by omega),show j-k=(j-(k+1))+1 by omega,List.getElem?_cons_succ]
   ·rw[zw h2,zw (by omega)]
theorem Sc(hh:RH hp hv)(o:List Nat):RH (Em hp (C5 o) 0 o) (lkB (AL hv o))/\∀id j,idx o id=some j->∀b',AF (Em hp (C5 o) 0 o) j=some b'->∃b,AF hp id=some b/\EZ b=EZ b':=by
 have hf:C5 o=idx o:=funext fun id=>Oy o id
 have hget:∀j b',AF (Em hp (C5 o) 0 o) j=some b'->∃id b,o[j]? =some id/\AF hp id=some b/\b'=Xm (idx o) b:=by
  intro j b' hb;rw[VG,zr (Nat.zero_le _),Nat.sub_zero,hf]at hb;obtain⟨id,h1,h2⟩:=Bh hb;simp only[zb5]at h2;obtain⟨b,h3,h4⟩:=h2;exact⟨id,b,h1,h3,h4.symm⟩
 have hlen:∀id j,idx o id=some j->∀b',AF (Em hp (C5 o) 0 o) j=some b'->∃b,AF hp id=some b/\EZ b=EZ b':=by
  intro id j hj b' hb;obtain⟨id',b,h1,h2,rfl⟩:=hget j b' hb;rw[AC5 hj]at h1;cases h1
  exact⟨b,h2,(Aj1 b).symm⟩
 refine⟨fun j b' hb=> ?_,hlen⟩
 obtain⟨id,b,h1,h2,rfl⟩:=hget j b' hb;obtain⟨k,hk,hr⟩:=hh id b h2;refine⟨EA (idx o) k,?_,A07 hlen hr⟩
 show(AL hv o)[j]? =_;unfold AL;rw[zd0,h1];simp only[zd2,hk,zf5]
theorem A06{f:Nat->Option Nat}{y:V}(h:Fh y=true):Fu f y=CR f y:=by
 cases y<;>first|rfl|cases h
theorem Aw3{e:Nat}{keep:List Nat}{st st2:TSt}{s:St}(hs:RS st s)(h:MM e keep st=some st2):∃s2,(∀K:St->Prop,K s2->Jz e keep s K)/\RS st2 s2:=by
 unfold MM at h
 split at h
 ·rename_i hsure
  split at h
  ·rename_i o ho
   split at h
   ·rename_i hc;simp only[za2]at hc;simp only[zx]at h;subst h;have hrefs:∀t∈keep,Ak (s.tm t)=rf1 (Bt st.tm t):=fun t ht=>(HG (za5.1 hsure t ht) (hs.tm t)).2.2.1
    have hfl:(keep.flatMap fun t=>Ak (s.tm t))=keep.flatMap fun t=>rf1 (Bt st.tm t):=by
     have:∀(l:List Nat),(∀t∈l,Ak (s.tm t)=rf1 (Bt st.tm t))->(l.flatMap fun t=>Ak (s.tm t))=l.flatMap fun t=>rf1 (Bt st.tm t):=by
      intro l
      induction l with
      |nil=>intro _;rfl
      |cons a l ih=>intro h;rw[zb4,zb4,h a (by simp),ih fun t ht=>h t (by simp[ht])]
     exact this keep hrefs
    have hcl:=Hn hs.hp _ _ _ ho;obtain⟨h1,hlen⟩:=Sc hs.hp o;have hf:C5 o=idx o:=funext fun id=>Oy o id
    refine⟨{tm:=lk .any (keep.map fun t=>(t,Fu (idx o) (s.tm t))),hp:=lkB (AL s.hp o),c:=1},fun K hK=> ?_,⟨?_,h1,rfl⟩⟩
    ·unfold Jz;rw[hfl,hcl];exact⟨Nat.le_of_ble_eq_true hc.1,Lj hc.2,hK⟩
    ·have key:∀(l:List Nat),(∀t∈l,t∈keep)->RT (Em st.hp (C5 o) 0 o) (l.map fun t=>(t,BB (C5 o) (Bt st.tm t))) (lk .any (l.map fun t=>(t,Fu (idx o) (s.tm t)))):=by
      intro l
      induction l with
      |nil=>intro _ t;trivial
      |cons a l ih=>
       intro hl t;show RV2 _ (Bt ((a,_)::l.map _) t) (if t=a then _ else lk .any (l.map _) t);rw[E4]
       split
       ·obtain⟨q1,_,_,q4⟩:=HG (za5.1 hsure a (hl a (by simp))) (hs.tm a);rw[A06 q4,hf];rw[hf]at hlen;exact(Aa3 hlen q1 (za5.1 hsure a (hl a (by simp)))).to2
       ·exact ih (fun t ht=>hl t (by simp[ht])) t
     exact key keep fun t ht=>ht
   ·cases h
  ·cases h
 ·cases h
end
end
section
open Go
theorem A5b:∀(u v:Bool)(A B:Type)(a0:u=true->A)(a:A)(b:B),(u=true->∀x y:A,x=y)->A5Y u v A B a0 (mkP u v A B a b)=a
 |true,_,_,_,_,_,_,h=>h rfl _ _
 |false,true,_,_,_,_,_,_=>rfl
 |false,false,_,_,_,_,_,_=>rfl
theorem A5a:∀(u v:Bool)(A B:Type)(b0:v=true->B)(a:A)(b:B),(v=true->∀x y:B,x=y)->A5I u v A B b0 (mkP u v A B a b)=b
 |true,_,_,_,_,_,_,_=>rfl
 |false,true,_,_,_,_,_,h=>h rfl _ _
 |false,false,_,_,_,_,_,_=>rfl
theorem A3h:∀(u v:Bool)(A B:Type),u=true->(v=true->∀x y:B,x=y)->v=true->∀x y:Ar8 u v A B,x=y
 |true,true,_,_,_,h,_,x,y=>h rfl x y
 |false,_,_,_,h,_,_,_,_=>by cases h
 |true,false,_,_,_,_,h,_,_=>by cases h
section
variable {ι:Type} {den:ι->Type} {u:ι->Bool} {un:∀x,u x=true->den x} (hu:∀x,u x=true->∀a b:den x,a=b)
include hu
theorem Qn:∀(l:List ι),l.all u=true->∀a b:Nq den u l,a=b
 |[],_,_,_=>rfl
 |x::l,h,a,b=>by
  simp only[zc8,za2]at h;exact A3h (u x) (l.all u) (den x) (Nq den u l) h.1 (fun hl=>Qn l hl) h.2 a b
theorem Ak1(x:ι)(l:List ι)(a:den x)(d:Nq den u l):hdL den u un x l (AL3 den u x l a d)=a:=A5b _ _ _ _ _ _ _ fun h=>hu x h
theorem As5(x:ι)(l:List ι)(a:den x)(d:Nq den u l):tlL den u un x l (AL3 den u x l a d)=d:=A5a _ _ _ _ _ _ _ fun h=>Qn hu l h
end
theorem M8:∀(c:AC),c.isU=true->∀a b:c.den,a=b
 |.at _,_,_,_=>rfl
 |.int _,h,_,_=>by cases h
 |.bool,h,_,_=>by cases h
 |.str,h,_,_=>by cases h
 |.im _,h,_,_=>by cases h
theorem Xp(c:AC)(cs:List AC)(a:c.den)(d:PC cs):hdC c cs (Zj c cs a d)=a:=Ak1 M8 c cs a d
theorem WP(c:AC)(cs:List AC)(a:c.den)(d:PC cs):tlC c cs (Zj c cs a d)=d:=As5 M8 c cs a d
theorem As3:∀(x:Item),x.isU=true->∀a b:x.den,a=b
 |.blk (.box _ cs),h,a,b=>Qn M8 cs h a b
 |.blk (.arr _ _ _),h,_,_=>by cases h
 |.slot _ (.cell c),h,a,b=>M8 c h a b
 |.slot _ (.agg cs),h,a,b=>Qn M8 cs h a b
 |.slot _ (.ref _ _),_,_,_=>rfl
 |.slot _ (.clo _),_,_,_=>rfl
 |.slot _ (.cap _ _),_,_,_=>rfl
 |.slot _ (.sub _),h,_,_=>by cases h
theorem UM(x:Item)(l:List Item)(a:x.den)(d:B9 l):hdI x l (HW x l a d)=a:=Ak1 As3 x l a d
theorem Rq(x:Item)(l:List Item)(a:x.den)(d:B9 l):tlI x l (HW x l a d)=d:=As5 As3 x l a d
theorem A2d{c:AC}{v:SV}{x:c.den}(h:rdC c v=some x):v=Ab5 c x:=by
 cases c with
 |int k=>
  cases v<;>simp only[rdC,reduceCtorEq]at h
  split at h
  ·rename_i hk;cases h;subst hk;rfl
  ·cases h
 |bool=>cases v<;>simp only[rdC,reduceCtorEq]at h;cases h;rfl
 |str=>cases v<;>simp only[rdC,reduceCtorEq]at h;cases h;rfl
 |err=>cases v<;>simp only[rdC,reduceCtorEq]at h;cases h;rfl
 |im t=>
  cases v<;>simp only[rdC,reduceCtorEq]at h
  split at h
  ·rename_i he;cases h;subst he;rfl
  ·cases h
 | «at» j=>
  cases v<;>simp only[rdC,reduceCtorEq]at h
  split at h
  ·rename_i he;have:=za6 he;subst this;rfl
  ·cases h
theorem Ae8:∀{cs:List AC}{vs:List SV}{x:PC cs},A0F cs vs=some x->vs=Ru cs x
 |[],[],_,_=>rfl
 |[],_::_,_,h=>by cases h
 |_::_,[],_,h=>by cases h
 |c::cs,v::vs,x,h=>by
  simp only[A0F]at h
  split at h
  ·rename_i a ha
   split at h
   ·rename_i d hd;cases h
    rw[Ru,Xp,WP,<-A2d ha,<-Ae8 hd]
   ·cases h
  ·cases h
theorem A4I{b:AB}{tb:TB}{x:b.den}(h:rdB b tb=some x):tb=A4t b x:=by
 cases b with
 |arr ty deep t=>
  cases tb<;>simp only[rdB,reduceCtorEq]at h
  split at h
  ·rename_i he
   split at h
   ·rename_i hc;simp only[za2,beq_iff_eq]at hc;cases h
    subst he;rw[za6 hc.1,hc.2];rfl
   ·cases h
  ·cases h
 |box ty cs=>
  cases tb<;>simp only[rdB,reduceCtorEq]at h
  split at h
  ·rename_i hc;rw[za6 hc,Ae8 h];rfl
  ·cases h
theorem AI6:∀{js:List Nat}{vs:List SV},ZQ js vs=true->vs=js.map fun j=>.rf j 0 0
 |[],[],_=>rfl
 |[],_::_,h=>by simp[ZQ]at h
 |j::js,v::vs,h=>by
  cases v with
  |rf i r c=>
   cases r with
   |zero=>
    cases c with
    |zero=>
     simp only[ZQ]at h;cases hb:Nat.beq i j with
     |false=>rw[hb]at h;cases h
     |true=>
      rw[hb]at h;have:=za6 hb;subst this;rw[zb8,<-AI6 (vs:=vs) h]
    |succ _=>simp[ZQ]at h
   |succ _=>simp[ZQ]at h
  |_=>simp[ZQ]at h
 |_::_,[],h=>by simp[ZQ]at h
theorem A4z{a:AS}{v:SV}{x:a.den}(h:rdS a v=some x):v=Yv a x:=by
 cases a with
 |cell c=>exact A2d (by cases v<;>exact h)
 |agg cs=>cases v<;>simp only[rdS,reduceCtorEq]at h;rw[Ae8 h];rfl
 |ref j isb=>
  cases isb with
  |false=>
   cases v<;>simp only[rdS,reduceCtorEq]at h
   split at h
   ·rename_i he;have:=za6 he;subst this;rfl
   ·cases h
  |true=>
   cases v with
   |rf i r c=>
    cases r with
    |zero=>
     cases c with
     |zero=>
      simp only[rdS]at h
      split at h
      ·rename_i he;have:=za6 he;subst this;rfl
      ·cases h
     |succ _=>simp[rdS]at h
    |succ _=>simp[rdS]at h
   |_=>simp[rdS]at h
 |sub j=>
  cases v<;>simp only[rdS,reduceCtorEq]at h
  split at h
  ·rename_i he;have:=za6 he;subst this;cases h;rfl
  ·cases h
 |clo f=>
  cases v with
  |cl g cs=>
   cases cs with
   |nil=>
    simp only[rdS]at h
    split at h
    ·rename_i he;have:=za6 he;subst this;rfl
    ·cases h
   |cons _ _=>simp[rdS]at h
  |_=>simp[rdS]at h
 |cap f js=>
  cases v with
  |cl g cs=>
   simp only[rdS]at h
   split at h
   ·rename_i he;rw[za2]at he;have:=za6 he.1;subst this;rw[AI6 he.2];rfl
   ·cases h
  |_=>simp[rdS]at h
theorem Af1:∀{l:List Item}{k:Nat}{tm:TTm}{hp:THp}{d:B9 l},rdI k l tm hp=some d->tm=(Bk k l d).1/\hp=(Bk k l d).2
 |[],k,[],[],d,_=>⟨rfl,rfl⟩
 |[],k,_::_,_,_,h=>by simp[rdI]at h
 |[],k,[],_::_,_,h=>by simp[rdI]at h
 |.blk b::l,k,tm,[],_,h=>by simp[rdI]at h
 |.blk b::l,k,tm,(i,none)::hp,_,h=>by simp[rdI]at h
 |.blk b::l,k,tm,(i,some tb)::hp,d,h=>by
  simp only[rdI]at h
  split at h
  ·rename_i hi;have:=za6 hi;subst this
   split at h
   ·rename_i x hx
    split at h
    ·rename_i y hy;cases h
     obtain⟨e1,e2⟩:=Af1 hy;rw[Bk,UM,Rq,<-A4I hx,<-e1,<-e2];exact⟨rfl,rfl⟩
    ·cases h
   ·cases h
  ·cases h
 |.slot s a::l,k,[],hp,_,h=>by simp[rdI]at h
 |.slot s a::l,k,(i,v)::tm,hp,d,h=>by
  simp only[rdI]at h
  split at h
  ·rename_i hi;have:=za6 hi;subst this
   split at h
   ·rename_i x hx
    split at h
    ·rename_i y hy;cases h
     obtain⟨e1,e2⟩:=Af1 hy;rw[Bk,UM,Rq,<-A4z hx,<-e1,<-e2];exact⟨rfl,rfl⟩
    ·cases h
   ·cases h
  ·cases h
theorem Pz(bl:List AB):∀(l:List Item),(Fi (JJ bl l)).map (·.1)=ES l
 |[]=>rfl
 |.blk b::l=>Pz bl l
 |.slot s a::l=>by
  have:=Pz bl l;unfold Fi at this⊢
  simp only[JJ,ES,zb8,this]
theorem La{e:Nat}{l:List Item}{st:TSt}{s:St}{d:B9 l}(hs:RS st s)(h:Ff e l st=some d):∃s',(∀K:St->Prop,K s'->EU e (Ce l) s K)/\RS (HM l d) s':=by
 unfold Ff at h
 split at h
 ·rename_i hb;obtain⟨b1,b2⟩:=SI hb
  split at h
  ·rename_i st1 h1;obtain⟨s1,n1,n2,n3,n4⟩:=AJ0 hs b1 b2 h1
   split at h
   ·rename_i st2 h2;obtain⟨s2,c1,c2⟩:=Aw3 n2 h2;obtain⟨e1,e2⟩:=Af1 h;have hc:st2.c=1:=by
     unfold MM at h2
     split at h2
     ·split at h2
      ·split at h2
       ·simp only[zx]at h2;subst h2;rfl
       ·cases h2
      ·cases h2
     ·cases h2
    have:st2=HM l d:=by
     cases st2 with
     |mk tm hp c=>
      simp only at e1 e2 hc;subst e1;subst e2;subst hc;rfl
    rw[this]at c2;refine⟨s2,fun K hK=> ?_,c2⟩
    unfold EU;rw[show Ce l=Fi (JJ (CD l) l)from rfl,n1];simp only[Am,Pz];exact c1 K hK
   ·cases h
  ·cases h
 ·cases h
end
section
open Go
structure ResRel (res:List Item) (y:B9 res) (r:V) (blks:List Blk):Prop where
 val:RV2 (Bk 0 res y).2 (AZ8 ((Bk 0 res y).1.map (·.2))) r
 blk:RH (Bk 0 res y).2 (lkB blks)
 len:blks.length=(Bk 0 res y).2.length
def CB(R:Rel)(E:Ent):Prop:=∀x y args blks st,E.F x=some y->RS st (V3 args blks)->Ff E.a.e E.a.params st=some x->HL args blks=true->args.length=(ES E.a.params).length->(args.flatMap Af).eraseDups.length=E.a.e->(E.a.e=0->blks=[])->
 ∃r blks',R E.a.g args blks r blks'/\ResRel E.a.res y r blks'
section
variable {P:Program} {X:TX} {g:FuncId}
theorem VI{α:Type}(hX:XOK P X){st:TSt}{s:St}(hs:RS st s):∀(l:List ResultVar){K:List SV->Option α}{z:α},Ay2 X st.tm st.hp l K=some z->
  ∃xs ys,K xs=some z/\RC (RV2 st.hp) xs ys/\∀KV:List V->Prop,KV ys->MF P s l KV
 |[],K,z,h=>⟨[],[],h,trivial,fun KV hk=>hk⟩
 |.tmp t::l,K,z,h=>by
  obtain⟨xs,ys,h1,h2,h3⟩:=VI hX hs l h;exact⟨_,_::ys,h1,⟨hs.tm t,h2⟩,fun KV hk=>h3 _ hk⟩
 |.cell a t::l,K,z,h=>by
  simp only[Ay2]at h;obtain⟨x,u,h1,h2,h3⟩:=An5 hX (hs.tm a) hs.hp.toM h;obtain⟨xs,ys,q1,q2,q3⟩:=VI hX hs l h1;refine⟨_,u::ys,q1,⟨h2,q2⟩,fun KV hk=> ?_⟩
  show(match Bb P (.load t (.tmp a)) (AG s.tm) s.hp 0 with|some (x,_)=>MF P s l fun xs=>KV (x::xs)|none=>False);rw[h3 (AG s.tm) (.tmp a) 0 rfl];exact q3 _ hk
theorem YQ{hp:THp}:∀{xs:List SV}{ys:List V}(k:Nat),RC (RV2 hp) xs ys->RT hp (Rs k xs) (lk .any (Ql k ys))
 |[],[],k,_=>fun t=>trivial
 |x::xs,y::ys,k,h=>by
  intro t;show RV2 hp (Bt ((k,x)::Rs (k+1) xs) t) (if t=k then y else lk .any (Ql (k+1) ys) t);rw[E4]
  split
  ·exact h.1
  ·exact YQ (k+1) h.2 t
 |[],_::_,_,h=>h.elim
 |_::_,[],_,h=>h.elim
theorem O5:∀(xs:List SV)(k:Nat),(Rs k xs).map (·.2)=xs
 |[],_=>rfl
 |x::xs,k=>by simp[Rs,O5 xs (k+1)]
theorem Zs{hp:THp}{f:Nat->Option Nat}:∀(o:List Nat)(k:Nat),(Em hp f k o).length=o.length
 |[],_=>rfl
 |id::o,k=>by simp[Em,Zs o (k+1)]
theorem RC.all1{hp:THp}:∀{vs:List SV}{ys:List V},vs.all EM=true->RC (RV2 hp) vs ys->RC (RV1 hp) vs ys/\ys.flatMap Af=vs.flatMap rf1/\ys.flatMap Ak=vs.flatMap rf1/\ys.all Fh=true
 |[],[],_,_=>⟨trivial,rfl,rfl,rfl⟩
 |v::vs,y::ys,hs,h=>by
  simp only[zc8,za2]at hs;obtain⟨q1,q2,q3,q4⟩:=HG hs.1 h.1;obtain⟨e1,e2,e3,e4⟩:=RC.all1 hs.2 h.2;exact⟨⟨q1,e1⟩,by simp only[zb4,q2,e2],by simp only[zb4,q3,e3],by simp[q4,e4]⟩
 |[],_::_,_,h=>h.elim
 |_::_,[],_,h=>h.elim
theorem RC.ren{hp H:THp}{f:Nat->Option Nat}(hlen:∀id j,f id=some j->∀b',AF H j=some b'->∃b,AF hp id=some b/\EZ b=EZ b'):∀{vs:List SV}{ys:List V},vs.all EM=true->RC (RV1 hp) vs ys->RC (RV1 H) (vs.map (BB f)) (ys.map (CR f))
 |[],[],_,_=>trivial
 |v::vs,y::ys,hs,h=>by
  simp only[zc8,za2]at hs;exact⟨Aa3 hlen h.1 hs.1,RC.ren hlen hs.2 h.2⟩
 |[],_::_,_,h=>h.elim
 |_::_,[],_,h=>h.elim
theorem AH6(l:List (Nat×TMs)):(Fi l).map (·.2)=(l.map (·.2)).map TMs.mds/\CT (Fi l)=l.map (fun p=>V.rf p.1 0 0)/\(Fi l).length=l.length:=by
 refine⟨?_,?_,?_⟩
 ·simp[Fi]
 ·unfold CT Fi;simp
 ·simp[Fi]
theorem A01{e:Nat}{st:TSt}{s:St}{res:List Item}{rs:List ResultVar}{y:B9 res}(hX:XOK P X)(hs:RS st s)
  (h:(Ay2 X st.tm st.hp rs fun xs=>A2M res e st xs)=some y):
  ∃r blks',(Gh (Fi (Uu (CD res) e 0 (CD res))) s.hp=true/\MF P s rs fun xs=>Bs (JN ((Fi (Uu (CD res) e 0 (CD res))).map (·.2)++(Ce res).map (·.2)) (CT (Fi (Uu (CD res) e 0 (CD res)))++xs) s.hp (s.c+1)) fun z=>Ae5 z.2.1 e r blks' (z.1.drop (Fi (Uu (CD res) e 0 (CD res))).length))/\ResRel res y r blks':=by
 obtain⟨xs,ys,h1,h2,h3⟩:=VI hX hs rs h;unfold A2M at h1;simp only at h1;generalize Uu (CD res) e 0 (CD res)=rts at h1⊢
 split at h1
 case isFalse=>cases h1
 rename_i hc;simp only[za2]at hc;obtain⟨⟨c1,c2⟩,c3⟩:=hc
 split at h1
 case h_2=>cases h1
 rename_i zs0 hp1 hn
 split at h1
 case isFalse=>cases h1
 rename_i hz
 split at h1
 case h_2=>cases h1
 rename_i o ho
 split at h1
 case isFalse=>cases h1
 rename_i he;obtain⟨m1,m2,m3⟩:=AH6 rts;have hroot:Gh (Fi rts) s.hp=true:=by
  unfold A1z at c1;unfold Gh Fi;rw[List.all_map];refine za5.2 fun p hp=> ?_
  have:=za5.1 c1 p hp;simp only[za2]at this;simp only[Function.comp,za2,decide_eq_true_eq];refine⟨Nu this.1,?_⟩
  have h4:=this.2
  split at h4
  ·rename_i ty cs hg;obtain⟨k,hk,k1,_⟩:=hs.hp p.1 _ hg;rw[hk];simp[k1]
  ·cases h4
 have hsc:s.c=st.c:=hs.c;obtain⟨b1,_⟩:=SI c3;have hids:∀i∈(rts.map (fun p=>SV.rf p.1 0 0)++xs).flatMap GC,i<16*(s.c+1):=by
  intro i hi;rw[List.flatMap_append,zb6]at hi;rcases hi with hi|hi
  ·obtain⟨v,hv,hi⟩:=zb1.1 hi;obtain⟨p,_,rfl⟩:=zd5.1 hv;simp[GC,XA,EY]at hi
  ·obtain⟨v,hv,hi⟩:=zb1.1 hi;simp only[So,za2]at c3;rw[<-O5 xs 0]at hv;obtain⟨p,hp,rfl⟩:=zd5.1 hv;have:=Nu (za5.1 (za5.1 c3.1 p hp) i hi);omega
 have hrc:RC (RV2 st.hp) (rts.map (fun p=>SV.rf p.1 0 0)++xs) (CT (Fi rts)++ys):=by
  rw[m2];refine RC.append (RC.map fun p _=>rfl) h2
 obtain⟨ys',hv',c',n1,n2,n3,_⟩:=AH2 (c:=s.c+1) hs.hp (by rw[hsc];exact b1) hids hrc (by rw[hsc];exact hn);have hzc:=n3.drop rts.length;obtain⟨a1,a2,a3,a4⟩:=RC.all1 hz hzc;have hcl:=Hn n2 _ _ _ ho;obtain⟨r1,r2⟩:=Sc n2 o;have hf:C5 o=idx o:=funext fun id=>Oy o id
 obtain⟨e1,e2⟩:=Af1 h1;have hvals:(Bk 0 res y).1.map (·.2)=(zs0.drop rts.length).map (BB (C5 o)):=by rw[<-e1,O5]
 have htake:=Lj he;have hrv:RC (RV1 (Em hp1 (C5 o) 0 o)) ((zs0.drop rts.length).map (BB (C5 o))) ((ys'.drop rts.length).map (CR (idx o))):=by
  rw[hf]at r2⊢
  exact RC.ren r2 hz a1
 have fin:∀r,Ae5 hv' e r (AL hv' o) (ys'.drop rts.length)->RV2 (Em hp1 (C5 o) 0 o) (AZ8 ((zs0.drop rts.length).map (BB (C5 o)))) r->∃r blks',(Gh (Fi rts) s.hp=true/\MF P s rs fun xs=>Bs (JN ((Fi rts).map (·.2)++(Ce res).map (·.2)) (CT (Fi rts)++xs) s.hp (s.c+1)) fun z=>Ae5 z.2.1 e r blks' (z.1.drop (Fi rts).length))/\ResRel res y r blks':=by
  intro r hr hv;refine⟨r,AL hv' o,⟨hroot,h3 _ ?_⟩,⟨by rw[hvals,<-e2];exact hv,by rw[<-e2];exact r1,by rw[<-e2,Zs];simp[AL]⟩⟩
  have:(Fi rts).map (·.2)++(Ce res).map (·.2)=(rts.map (·.2)++(JJ (CD res) res).map (·.2)).map TMs.mds:=by
   rw[m1,show Ce res=Fi (JJ (CD res) res)from rfl,(AH6 (JJ (CD res) res)).1,List.map_append]
  rw[this,n1];simp only[Am,m3];exact hr
 generalize ys'.drop rts.length=zs at a1 a2 a3 a4 hrv fin;generalize zs0.drop rts.length=vs at hrv fin a2 a3 hcl;have many:(AZ8 (vs.map (BB (C5 o)))=.tup (vs.map (BB (C5 o))))->(∀r,Ae5 hv' e r (AL hv' o) zs=(zs.all Fh=true/\Vh hv' e (.tup zs) r (AL hv' o)))->∃r blks',(Gh (Fi rts) s.hp=true/\MF P s rs fun xs=>Bs (JN ((Fi rts).map (·.2)++(Ce res).map (·.2)) (CT (Fi rts)++xs) s.hp (s.c+1)) fun z=>Ae5 z.2.1 e r blks' (z.1.drop (Fi rts).length))/\ResRel res y r blks':=by
  intro ht ho';refine fin (.tup (zs.map (CR (idx o)))) ?_ ?_
  ·rw[ho'];refine⟨a4,?_⟩
   unfold Vh;rw[show Ak (.tup zs)=zs.flatMap Af from rfl,a2,hcl];exact⟨htake,rfl,rfl⟩
  ·rw[ht];exact⟨_,rfl,hrv⟩
 match zs,vs,a2,a3,a4,hrv,hcl,fin,many with
 |[z],[v],a2,a3,a4,hrv,hcl,fin,_=>
  refine fin (Fu (idx o) z) ?_ ?_
  ·show Vh _ _ _ _ _;unfold Vh;have:Ak z=[v].flatMap rf1:=by simpa using a3
   rw[this,hcl];exact⟨htake,rfl,rfl⟩
  ·have:Fh z=true:=by simpa using a4
   rw[A06 this];exact hrv.1.to2
 |[],[],_,_,_,_,_,_,many=>exact many rfl fun r=>rfl
 |_::_::_,_::_::_,_,_,_,_,_,_,many=>exact many rfl fun r=>rfl
 |[],_::_,_,_,_,h,_,_,_=>exact h.elim
 |_::_,[],_,_,_,h,_,_,_=>exact h.elim
 |[_],_::_::_,_,_,_,h,_,_,_=>exact h.2.elim
 |_::_::_,[_],_,_,_,h,_,_,_=>exact h.2.elim
end
end
section
open Go
theorem Wo{hp:THp}{hv:Hp}{c:AC}{v x:SV}{y:V}(hh:RH hp hv)(h:Ee hp c v=some x)(hv':RV0 hp v y):
  ∃y',KQ hv y=some y'/\RV0 hp x y'/\DG y=Vj v:=by
 cases c with
 |int k=>
  cases v<;>simp only[Ee,reduceCtorEq]at h
  cases h;have:y=_:=hv';subst this;exact⟨_,rfl,rfl,rfl⟩
 |bool=>cases v<;>simp only[Ee,reduceCtorEq]at h;cases h;have:y=_:=hv';subst this;exact⟨_,rfl,rfl,rfl⟩
 |str=>cases v<;>simp only[Ee,reduceCtorEq]at h;cases h;have:y=_:=hv';subst this;exact⟨_,rfl,rfl,rfl⟩
 |err=>cases v<;>simp only[Ee,reduceCtorEq]at h
 | «at» j=>cases v<;>simp[Ee]at h
 |im t=>
  have h':∃l,Gz hp t v=some l/\x=.im t l:=by
   simp only[Ee]at h
   split at h
   ·rename_i l hl;cases h;exact⟨l,hl,rfl⟩
   ·cases h
  obtain⟨l,h',rfl⟩:=h';have hids:DG y=Vj v:=by
   cases v with
   |ow id=>obtain⟨n,rfl,_⟩:=hv';rfl
   |ar a b c=>have:y=_:=hv';subst this;rfl
   |em=>have:y=_:=hv';subst this;rfl
   |er e=>have:y=_:=hv';subst this;rfl
   |im t' l'=>rcases hv' with⟨_,rfl⟩|⟨_,rfl,_⟩<;>rfl
   |_=>simp[Gz,asL]at h'
  rcases V5 h' hv' hh.toM with⟨rfl,rfl⟩|⟨rows,rfl,hr⟩|⟨id,lo,n,kb,rfl,hk,hkk,hr⟩
  ·exact⟨.im [],rfl,.inr ⟨[],rfl,RLx.nil⟩,hids⟩
  ·exact⟨.im rows,rfl,.inr ⟨rows,rfl,hr⟩,hids⟩
  ·refine⟨.im ((kb.rows.take (lo+n)).drop lo),?_,.inr ⟨_,rfl,hr⟩,hids⟩
   simp only[KQ,hk]
theorem TS{hp:THp}{hv:Hp}(hh:RH hp hv):∀{cs:List AC}{vs xs:List SV}{ys:List V},Qf hp cs vs=some xs->RC (RV0 hp) vs ys->
  ∃ys',K1 hv ys=some ys'/\RC (RV0 hp) xs ys'/\ys.flatMap DG=vs.flatMap Vj
 |[],[],xs,ys,h,hc=>by
  simp only[Qf,zx]at h;subst h;cases ys with
  |nil=>exact⟨[],rfl,trivial,rfl⟩
  |cons a l=>exact hc.elim
 |[],_::_,_,_,h,_=>by cases h
 |_::_,[],_,_,h,_=>by cases h
 |c::cs,v::vs,xs,ys,h,hc=>by
  simp only[Qf]at h
  split at h
  ·rename_i x1 hx1
   split at h
   ·rename_i x2 hx2;cases h
    cases ys with
    |nil=>exact hc.elim
    |cons y ys=>
     obtain⟨y',h1,h2,h3⟩:=Wo hh hx1 hc.1;obtain⟨ys',g1,g2,g3⟩:=TS hh hx2 hc.2;exact⟨y'::ys',by simp only[K1,h1,g1],⟨h2,g2⟩,by rw[zb4,zb4,h3,g3]⟩
   ·cases h
  ·cases h
theorem Ay3{hp:THp}{hv:Hp}{a:AS}{v x:SV}{y:V}(hh:RH hp hv)(h:Jn hp a v=some x)(hv2:RV2 hp v y):
  ∃y',GX hv y=some y'/\RV2 hp x y'/\Mt y=Ac9 v:=by
 have cell:∀(c:AC),Ee hp c v=some x->RV0 hp v y->Ac9 v=Vj v->(∀y',RV0 hp x y'->RV2 hp x y')->GX hv y=KQ hv y->Mt y=DG y->∃y',GX hv y=some y'/\RV2 hp x y'/\Mt y=Ac9 v:=by
  intro c hc h0 e1 e2 e3 e4;obtain⟨y',q1,q2,q3⟩:=Wo hh hc h0;exact⟨y',by rw[e3];exact q1,e2 y' q2,by rw[e4,e1];exact q3⟩
 cases a with
 |cell c=>
  have h:Ee hp c v=some x:=by cases v<;>exact h
  have hx:∀y',RV0 hp x y'->RV2 hp x y':=fun y' h=>h.to1.to2
  cases v with
  |int k n=>have:y=_:=hv2;subst this;exact cell c h rfl rfl hx rfl rfl
  |bool b=>have:y=_:=hv2;subst this;exact cell c h rfl rfl hx rfl rfl
  |str s=>have:y=_:=hv2;subst this;exact cell c h rfl rfl hx rfl rfl
  |em=>have:y=_:=hv2;subst this;exact cell c h rfl rfl hx rfl rfl
  |er e=>have:y=_:=hv2;subst this;exact cell c h rfl rfl hx rfl rfl
  |im t l=>rcases hv2 with⟨e,rfl⟩|⟨r,rfl,e⟩;exact cell c h (.inl ⟨e,rfl⟩) rfl hx rfl rfl;exact cell c h (.inr ⟨r,rfl,e⟩) rfl hx rfl rfl
  |ow id=>obtain⟨n,rfl,e⟩:=hv2;exact cell c h ⟨n,rfl,e⟩ rfl hx rfl rfl
  |ar a b d=>have:y=_:=hv2;subst this;exact cell c h rfl rfl hx rfl rfl
  |sc a=>cases c<;>simp[Ee,Gz,asL]at h
  |rf a b d=>cases c<;>simp[Ee,Gz,asL]at h
  |ir a b d=>cases c<;>simp[Ee,Gz,asL]at h
  |agg cs=>cases c<;>simp[Ee,Gz,asL]at h
  |tup cs=>cases c<;>simp[Ee,Gz,asL]at h
  |cl f cs=>cases c<;>simp[Ee,Gz,asL]at h
  |any=>cases c<;>simp[Ee,Gz,asL]at h
 |agg cs=>
  cases v with
  |agg vs=>
   simp only[Jn]at h
   split at h
   ·rename_i l hl;cases h
    obtain⟨us,rfl,hc⟩:=WX hv2;obtain⟨ys',q1,q2,q3⟩:=TS hh hl hc;exact⟨.agg ys',by simp only[GX,q1],⟨ys',rfl,q2⟩,q3⟩
   ·cases h
  |_=>simp[Jn]at h
 |ref j isb=>
  cases isb with
  |true=>
   cases v<;>simp only[Jn,reduceCtorEq]at h
   cases h
   have:y=_:=hv2;subst this;exact⟨_,rfl,rfl,rfl⟩
  |false=>cases v<;>simp[Jn]at h
 |sub j=>cases v<;>simp[Jn]at h
 |clo f=>
  cases v with
  |cl g cs=>
   cases cs with
   |nil=>
    simp only[Jn,zx]at h;subst h;obtain⟨us,rfl,hc⟩:=AJ7 hv2;cases us with
    |nil=>exact⟨.cl g [],rfl,⟨[],rfl,trivial⟩,rfl⟩
    |cons a l=>exact hc.elim
   |cons a l=>simp[Jn]at h
  |_=>simp[Jn]at h
 |cap f js=>cases v<;>simp[Jn]at h
theorem Pm{hp:THp}{hv:Hp}(hh:RH hp hv):∀{l:List AS}{vs xs:List SV}{ys:List V},SA hp l vs=some xs->RC (RV2 hp) vs ys->
  ∃ys',Fe hv (l.map Xe) ys=some ys'/\RC (RV2 hp) xs ys'/\D5 (l.map Xe) ys=Kw l vs
 |[],[],xs,ys,h,hc=>by
  simp only[SA,zx]at h;subst h;cases ys with
  |nil=>exact⟨[],rfl,trivial,rfl⟩
  |cons a l=>exact hc.elim
 |[],_::_,_,_,h,_=>by cases h
 |_::_,[],_,_,h,_=>by cases h
 |a::l,v::vs,xs,ys,h,hc=>by
  simp only[SA]at h
  split at h
  ·rename_i x1 hx1
   split at h
   ·rename_i x2 hx2;cases h
    cases ys with
    |nil=>exact hc.elim
    |cons y ys=>
     obtain⟨ys',g1,g2,g3⟩:=Pm hh hx2 hc.2;cases hra:Xe a with
     |true=>
      rw[hra]at hx1;simp only[cond_true]at hx1;obtain⟨hsv,hx1⟩:=C1 hx1;cases hx1
      obtain⟨_,_,_,hnt⟩:=HG hsv hc.1;refine⟨y::ys',?_,⟨hc.1,g2⟩,?_⟩
      ·simp only[Fe,zb8,List.headD_cons,List.tail_cons,hra,if_true,hnt,g1]
      ·simp only[D5,Kw,zb8,List.headD_cons,List.tail_cons,hra,if_true,cond_true,g3]
     |false=>
      rw[hra]at hx1;simp only[cond_false]at hx1;obtain⟨y',h1,h2,h3⟩:=Ay3 hh hx1 hc.1;refine⟨y'::ys',?_,⟨h2,g2⟩,?_⟩
      ·simp only[Fe,zb8,List.headD_cons,List.tail_cons,hra,zc3,if_false,h1,g1]
      ·simp only[D5,Kw,zb8,List.headD_cons,List.tail_cons,hra,zc3,if_false,cond_false,h3,g3]
   ·cases h
  ·cases h
theorem VE:∀(l acc:List Nat),ddN acc l=acc++(l.filter fun i=> !acc.contains i).eraseDups
 |[],acc=>by simp[ddN]
 |id::l,acc=>by
  simp only[ddN];rw[Rm];cases h:acc.contains id with
  |true=>
   simp only[cond_true];rw[VE l acc,List.filter_cons,h];rfl
  |false=>
   simp only[cond_false];rw[VE l (acc++[id]),List.filter_cons,h];simp only[Bool.not_false,if_true];rw[List.eraseDups_cons,List.append_assoc,List.singleton_append,List.filter_filter]
   congr 3
   apply List.filter_congr
   intro x _;simp only[List.contains_append,List.contains_cons,List.contains_nil,Bool.or_false,Bool.not_or];rw[Bool.and_comm]
theorem Aw1(l:List Nat):ddN [] l=l.eraseDups:=by
 rw[VE];simp only[List.contains_nil,Bool.not_false,List.nil_append];rw[List.filter_eq_self.2 (fun _ _=>rfl)]
theorem AO1{hp:THp}{f:Nat->Option Nat}{v:SV}{y:V}(hs:JB v=true)(h0:rf0 v=[])(h:RV0 hp v y):Cd f y=y:=by
 cases v with
 |im t l=>rcases h with⟨_,rfl⟩|⟨_,rfl,_⟩<;>rfl
 |ow id=>simp[rf0]at h0
 |ar a b c=>simp[rf0]at h0
 |rf a b c=>simp[rf0]at h0
 |ir t a c=>obtain⟨_,rfl,_⟩:=h;rfl
 |cl f cs=>cases cs with|nil=>have:y=_:=h;subst this;rfl|cons a l=>exact h.elim
 |any=>cases hs
 |agg cs=>exact h.elim
 |tup cs=>exact h.elim
 |_=>have:y=_:=h;subst this;rfl
theorem Ry{hp:THp}{f:Nat->Option Nat}:∀{vs:List SV}{ys:List V},vs.all JB=true->vs.flatMap rf0=[]->RC (RV0 hp) vs ys->ys.map (Cd f)=ys
 |[],[],_,_,_=>rfl
 |v::vs,y::ys,hs,h0,h=>by
  simp only[zc8,za2]at hs;rw[zb4,List.append_eq_nil_iff]at h0;rw[zb8,AO1 hs.1 h0.1 h.1,Ry hs.2 h0.2 h.2]
 |[],_::_,_,_,h=>h.elim
 |_::_,[],_,_,h=>h.elim
theorem AS4{hp:THp}{f:Nat->Option Nat}{v:SV}{y:V}(hs:EM v=true)(h0:rf1 v=[])(h:RV1 hp v y):CR f y=y:=by
 cases v with
 |agg cs=>obtain⟨us,rfl,hc⟩:=h;show V.agg _=_;rw[Ry hs h0 hc]
 |cl g cs=>obtain⟨us,rfl,hc⟩:=h;show V.cl _ _=_;rw[Ry hs h0 hc]
 |im t l=>rcases h with⟨_,rfl⟩|⟨_,rfl,_⟩<;>rfl
 |ow id=>simp[rf1,rf0]at h0
 |ar a b c=>simp[rf1,rf0]at h0
 |rf a b c=>simp[rf1,rf0]at h0
 |ir t a c=>obtain⟨_,rfl,_⟩:=h;rfl
 |any=>cases hs
 |tup cs=>exact h.elim
 |_=>have:y=_:=h;subst this;rfl
theorem Zy{hp:THp}{f:Nat->Option Nat}:∀{vs:List SV}{ys:List V},vs.all EM=true->vs.flatMap rf1=[]->RC (RV1 hp) vs ys->ys.map (CR f)=ys
 |[],[],_,_,_=>rfl
 |v::vs,y::ys,hs,h0,h=>by
  simp only[zc8,za2]at hs;rw[zb4,List.append_eq_nil_iff]at h0;rw[zb8,AS4 hs.1 h0.1 h.1,Zy hs.2 h0.2 h.2]
 |[],_::_,_,_,h=>h.elim
 |_::_,[],_,_,h=>h.elim
theorem AX2(c:AC)(x:c.den):JB (Ab5 c x)=true:=by cases c<;>rfl
theorem Py:∀(cs:List AC)(x:PC cs),(Ru cs x).all JB=true
 |[],_=>rfl
 |c::cs,x=>by rw[Ru,zc8,AX2,Py cs];rfl
theorem AB0(a:AS)(x:a.den):EM (Yv a x)=true:=by
 cases a with
 |cell c=>cases c<;>rfl
 |agg cs=>exact Py cs x
 |ref j isb=>cases isb<;>rfl
 |sub j=>rfl
 |clo f=>rfl
 |cap f js=>show(js.map fun j=>SV.rf j 0 0).all JB=true;simp[JB]
theorem AW7(b:AB)(x:b.den):VT (A4t b x)=true:=by
 cases b with
 |arr ty deep t=>rfl
 |box ty cs=>exact Py cs x
theorem Oq:∀(l:List Item)(k:Nat)(d:B9 l),((Bk k l d).1.map (·.2)).all EM=true
 |[],_,_=>rfl
 |.blk b::l,k,d=>by simp only[Bk];exact Oq l _ _
 |.slot s a::l,k,d=>by simp only[Bk,zb8,zc8,AB0,ze1];exact Oq l _ _
theorem NJ:∀(l:List Item)(k:Nat)(d:B9 l)(i:Nat),i<(Bk k l d).2.length->∃b,(Bk k l d).2[i]? =some (k+i,some b)/\VT b=true
 |[],_,_,i,h=>by simp[Bk]at h
 |.blk b::l,k,d,i,h=>by
  simp only[Bk,zb9]at h⊢
  cases i with
  |zero=>exact⟨_,rfl,AW7 _ _⟩
  |succ i=>
   obtain⟨b',h1,h2⟩:=NJ l (k+1) (tlI _ l d) i (by omega);exact⟨b',by rw[List.getElem?_cons_succ,h1];congr 2;omega,h2⟩
 |.slot s a::l,k,d,i,h=>by simp only[Bk]at h⊢;exact NJ l k _ i h
theorem Tt:∀{l:THp}{k:Nat},(∀i,i<l.length->∃b,l[i]? =some (k+i,some b))->∀i,i<l.length->∃b,l[i]? =some (k+i,some b)/\AF l (k+i)=some b
 |[],_,_,i,h=>by simp at h
 |a::l,k,hl,i,h=>by
  obtain⟨b0,h0⟩:=hl 0 (by simp);simp at h0;subst h0;cases i with
  |zero=>exact⟨b0,rfl,by rw[Nat.add_zero,AA,zr rfl]⟩
  |succ i=>
   obtain⟨b,h1,h2⟩:=Tt (l:=l) (k:=k+1) (fun j hj=>by
    obtain⟨b,hb⟩:=hl (j+1) (by simpa using hj);exact⟨b,by rw[List.getElem?_cons_succ]at hb;rw[hb];congr 2;omega⟩) i (by simpa using h)
   exact⟨b,by rw[List.getElem?_cons_succ,h1];congr 2;omega,by rw[AA,zw (by omega),show k+(i+1)=k+1+i by omega];exact h2⟩
theorem AL6{l:List Item}{d:B9 l}{i:Nat}(h:i<(Bk 0 l d).2.length):∃b,(Bk 0 l d).2[i]? =some (i,some b)/\AF (Bk 0 l d).2 i=some b/\VT b=true:=by
 obtain⟨b,h1,h2⟩:=Tt (l:=(Bk 0 l d).2) (k:=0) (fun i hi=>by obtain⟨b,h1,_⟩:=NJ l 0 d i hi;exact⟨b,h1⟩) i h;obtain⟨b',h3,h4⟩:=NJ l 0 d i h;simp only[ze4]at h1 h2 h3;rw[h3]at h1;cases h1
 exact⟨b,h3,h2,h4⟩
theorem A1R{l:List Item}{d:B9 l}{i:Nat}{b:TB}(h:AF (Bk 0 l d).2 i=some b):i<(Bk 0 l d).2.length:=by
 obtain⟨j,hj⟩:=List.getElem?_of_mem (X8 h);have hl:=(za3.1 hj).1;obtain⟨b',h1,_⟩:=NJ l 0 d j hl;rw[hj]at h1;simp only[ze4,zx,Prod.mk.injEq]at h1;rw[h1.1];exact hl
theorem AU6{hp:THp}{v:SV}{y:V}(hs:JB v=true)(h:RV0 hp v y):F0 y=Vd v:=by
 cases v with
 |im t l=>rcases h with⟨_,rfl⟩|⟨_,rfl,_⟩<;>rfl
 |ow id=>obtain⟨_,rfl,_⟩:=h;rfl
 |ir t a c=>obtain⟨_,rfl,_⟩:=h;rfl
 |cl f cs=>cases cs with|nil=>have:y=_:=h;subst this;rfl|cons a l=>exact h.elim
 |any=>cases hs
 |agg cs=>exact h.elim
 |tup cs=>exact h.elim
 |_=>have:y=_:=h;subst this;rfl
theorem SH{hp:THp}:∀{vs:List SV}{ys:List V},vs.all JB=true->RC (RV0 hp) vs ys->ys.all F0=vs.all Vd
 |[],[],_,_=>rfl
 |v::vs,y::ys,hs,h=>by
  simp only[zc8,za2]at hs⊢
  rw[AU6 hs.1 h.1,SH hs.2 h.2]
 |[],_::_,_,h=>h.elim
 |_::_,[],_,h=>h.elim
def niV:V->Bool
 |.agg cs=>cs.all F0
 |x=>F0 x
theorem Al4(vs:List V):Kv (.tup vs)=vs.all niV:=by
 show(vs.all fun|.agg cs=>cs.all F0|x=>F0 x)=_
 congr 1
theorem ZO{hp:THp}{v:SV}{y:V}(hs:EM v=true)(h:RV1 hp v y):niV y=Z6 v/\Kv y=Z6 v:=by
 cases v with
 |agg cs=>obtain⟨us,rfl,hcs⟩:=h;have:=SH hs hcs;exact⟨this,this⟩
 |cl f cs=>
  obtain⟨us,rfl,hcs⟩:=h;cases cs with
  |nil=>cases us with|nil=>exact⟨rfl,rfl⟩|cons a l=>exact hcs.elim
  |cons a l=>cases us with|nil=>exact hcs.elim|cons b m=>exact⟨rfl,rfl⟩
 |im t l=>rcases h with⟨_,rfl⟩|⟨_,rfl,_⟩<;>exact⟨rfl,rfl⟩
 |ow id=>obtain⟨_,rfl,_⟩:=h;exact⟨rfl,rfl⟩
 |ir t a c=>obtain⟨_,rfl,_⟩:=h;exact⟨rfl,rfl⟩
 |any=>cases hs
 |tup cs=>exact h.elim
 |_=>have:y=_:=h;subst this;exact⟨rfl,rfl⟩
theorem AP9{hp:THp}{b:TB}{k:Blk}(hs:VT b=true)(h:RB hp b k):D2 k=A16 b:=by
 cases b with
 |arr ty deep t l=>obtain⟨h1,h2,h3,_⟩:=h;unfold D2;rw[h1];exact h3
 |frz ty deep t l=>obtain⟨h1,h2,h3,_⟩:=h;unfold D2;rw[h1];rfl
 |box ty cs=>
  obtain⟨h1,h2,row,h3,h4,h5⟩:=h;unfold D2;rw[h1,h3];simp only[zc8,List.all_nil,Bool.and_true];exact SH hs h5
end
section
open Go
theorem Ag1:∀(l:List Blk)(hp:Hp)(b i:Nat),inst hp b l i=if b<=i/\i<b+l.length then l[i-b]? else hp i
 |[],hp,b,i=>by rw[zw (by simp)];rfl
 |x::l,hp,b,i=>by
  simp only[inst];rw[Ag1 l];by_cases h:b+1<=i/\i<b+1+l.length
  ·rw[zr h,zr (by simp only[zb9];omega)];rw[show i-b=(i-(b+1))+1 by omega];rfl
  ·rw[zw h];unfold upd;by_cases hi:i=b
   ·subst hi;rw[zr rfl,zr (by simp)];simp
   ·rw[zw hi,zw (by simp only[zb9];omega)]
theorem Nz:∀(ids:List Nat)(ks:List Blk)(hp:Hp)(i:Nat),i ∉ ids->setAt hp ids ks i=hp i
 |[],ks,hp,i,_=>by cases ks<;>rfl
 |_::_,[],hp,i,_=>rfl
 |id::ids,k::ks,hp,i,h=>by
  simp only[zc7,not_or]at h;simp only[setAt];rw[Nz ids ks _ i h.2];simp[upd,h.1]
theorem As2:∀(ids:List Nat)(ks:List Blk)(hp:Hp)(j:Nat)(id:Nat),ids.Nodup->ids[j]? =some id->j<ks.length->setAt hp ids ks id=ks[j]?
 |[],_,_,_,_,_,h,_=>by simp at h
 |_::_,[],_,_,_,_,_,h=>by simp at h
 |i::ids,k::ks,hp,j,id,hn,h,hl=>by
  simp only[List.nodup_cons]at hn;simp only[setAt];cases j with
  |zero=>
   simp at h;subst h;rw[Nz ids ks _ i hn.1];simp[upd]
  |succ j=>
   simp only[List.getElem?_cons_succ]at h⊢
   exact As2 ids ks _ j id hn.2 h (by simpa using hl)
theorem Nn{l m:THp}{i:Nat}:AF (l++m) i=if i∈l.map (·.1)then AF l i else AF m i:=by
 induction l with
 |nil=>simp
 |cons a l ih=>
  obtain⟨k,x⟩:=a;rw[List.cons_append,AA,ih,AA];by_cases h:i=k
  ·simp[h]
  ·simp only[zb8,zc7,h,false_or,if_false]
theorem Pc{α:Type}{hp out:THp}:∀{l:List Nat}{A:Option α}{z:α},Ar0 hp out l A=some z->A=some z/\∀id∈l,∃b b',AF hp id=some b/\AF out id=some b'/\EZ b=EZ b'
 |[],A,z,h=>⟨h,fun id hid=>by simp at hid⟩
 |id::l,A,z,h=>by
  simp only[Ar0]at h
  split at h
  ·rename_i t1 d1 e1 l1 t2 d2 e2 l2 g1 g2;obtain⟨hc,h⟩:=C1 h;obtain⟨q1,q2⟩:=Pc h;refine⟨q1,fun i hi=> ?_⟩
   rcases zc7.1 hi with rfl|hi
   ·exact⟨_,_,g2,g1,by simp only[EZ];rw[of_decide_eq_true hc]⟩
   ·exact q2 i hi
  ·rename_i t1 c1 t2 c2 g1 g2;obtain⟨q1,q2⟩:=Pc h;refine⟨q1,fun i hi=> ?_⟩
   rcases zc7.1 hi with rfl|hi
   ·exact⟨_,_,g2,g1,rfl⟩
   ·exact q2 i hi
  ·cases h
theorem PP:∀(l:List Nat)(hp:THp)(i:Nat),AF (DJ hp l) i=if i∈l then none else AF hp i
 |[],hp,i=>by simp[DJ]
 |id::l,hp,i=>by
  rw[DJ,PP l,AA];by_cases h1:i∈l
  ·simp[h1]
  ·by_cases h2:i=id
   ·subst h2;simp
   ·simp[h1,h2]
theorem AY1(o:List Nat)(e n b:Nat):QP o e n b=BR o e n b:=by
 funext j
 unfold QP BR;by_cases h:j<e
 ·have:Nat.blt j e=true:=Nat.ble_eq_true_of_le h;rw[this,zr h];rfl
 ·have:Nat.blt j e=false:=by cases hb:Nat.blt j e with|false=>rfl|true=>exact absurd (Nu hb) h
  rw[this,zw h];by_cases h2:j<n
  ·have:Nat.blt j n=true:=Nat.ble_eq_true_of_le h2;rw[this,zr h2];rfl
  ·have:Nat.blt j n=false:=by cases hb:Nat.blt j n with|false=>rfl|true=>exact absurd (Nu hb) h2
   rw[this,zw h2];rfl
theorem Jb{f:Nat->Option Nat}:∀{L:THp}{i:Nat}{bb:TB},AF (DQ f L) i=some bb->∃j b0,(j,some b0)∈L/\f j=some i/\bb=Xm f b0
 |[],_,_,h=>by cases h
 |(k,x)::L,i,bb,h=>by
  simp only[DQ]at h
  split at h
  ·rename_i i' hk;rw[AA]at h
   split at h
   ·rename_i he;subst he;cases x with
    |none=>cases h
    |some b0=>cases h;exact⟨k,b0,by simp,hk,rfl⟩
   ·obtain⟨j,b0,h1,h2,h3⟩:=Jb h;exact⟨j,b0,by simp[h1],h2,h3⟩
  ·obtain⟨j,b0,h1,h2,h3⟩:=Jb h;exact⟨j,b0,by simp[h1],h2,h3⟩
theorem WL{f:Nat->Option Nat}:∀{L:THp}{j i:Nat}{x:Option TB},(j,x)∈L->f j=some i->i∈(DQ f L).map (·.1)
 |(k,x')::L,j,i,x,h,hf=>by
  simp only[DQ];rcases zc7.1 h with h|h
  ·cases h
   rw[hf];simp
  ·have:=WL h hf
   split
   ·simp only[zb8,zc7];exact .inr this
   ·exact this
section
variable {hp1:Hp} {o:List Nat} {e b:Nat} {blks:List Blk}
theorem AQ5{i j:Nat}{k:Blk}(hn:o.Nodup)(hlow:∀id∈o,id<b)(heo:e<=o.length)(hen:e<=blks.length)(hj:blks[j]? =some k)(hf:BR o e blks.length b j=some i):
  Ci hp1 o e b blks i=some (EA (BR o e blks.length b) k):=by
 have hjl:=(za3.1 hj).1;unfold Ci;rw[Ag1];unfold BR at hf;by_cases h:j<e
 ·rw[zr h]at hf;have hlt:=hlow i (za4 hf);rw[zw (by omega)];rw[As2 _ _ _ j _ (hn.sublist (List.take_sublist _ _)) (by rw[zc0,zr h];exact hf) (by simp;omega)];rw[zc0,zr h,zd0,hj];rfl
 ·rw[zw h,zr hjl]at hf;cases hf
  rw[zr (by simp;omega)];rw[zd3,zd0,show e+(b+(j-e)-b)=j by omega,hj];rfl
theorem ZZ{i:Nat}(h1:i ∉ o)(h2:¬(b<=i/\i<b+(blks.length-e))):Ci hp1 o e b blks i=hp1 i:=by
 unfold Ci;rw[Ag1,zw (by simpa using h2),Nz _ _ _ _ (fun h=>h1 (List.mem_of_mem_take h)),JQ _ _ _ h1]
end
section
variable {α:Type} {P:Program} {R:Rel} {cf:Cfg} {X:TX} {b:Nat} {tm:TTm} {m:Tm} {hp:THp} {hv:Hp} {K:SV->THp->Cls->Option α} {z:α}
theorem Yw{E:Ent}{y:B9 E.a.res}{o:List Nat}{r:V}{blks':List Blk}(hres:ResRel E.a.res y r blks')(hn:o.Nodup)(hlow:∀id∈o,id<b)(heo:E.a.e<=o.length)(hen:E.a.e<=(Bk 0 E.a.res y).2.length)
  (hlens:∀id∈o.take E.a.e,∃b0 b1,AF hp id=some b0/\AF (DQ (QP o E.a.e (Bk 0 E.a.res y).2.length b) (Bk 0 E.a.res y).2) id=some b1/\EZ b0=EZ b1)
  {hp1:THp} {hv1:Hp} (hh1:RH hp1 hv1) (hold:∀id∈o,AF hp1 id=AF hp id) (hids:∀i bb,AF hp1 i=some bb->∀q∈Kt bb,q<b) (hr:RT hp1 tm m) (htm:∀t,∀i∈GC (Bt tm t),i<b):
  RV2 (DQ (QP o E.a.e (Bk 0 E.a.res y).2.length b) (Bk 0 E.a.res y).2++DJ hp1 (o.drop E.a.e)) (AZ8 ((Bk 0 E.a.res y).1.map fun p=>BB (QP o E.a.e (Bk 0 E.a.res y).2.length b) p.2)) (Fu (BR o E.a.e blks'.length b) r)/\
  RH (DQ (QP o E.a.e (Bk 0 E.a.res y).2.length b) (Bk 0 E.a.res y).2++DJ hp1 (o.drop E.a.e)) (Ci hv1 o E.a.e b blks')/\
  RT (DQ (QP o E.a.e (Bk 0 E.a.res y).2.length b) (Bk 0 E.a.res y).2++DJ hp1 (o.drop E.a.e)) tm m:=by
 have hlen:=hres.len;have hsure:=Oq E.a.res 0 y;have hval:=hres.val;have hblk:=hres.blk;have hget:=fun i (h:i<(Bk 0 E.a.res y).2.length)=>AL6 h
 have hnone:=fun i bb (h:AF (Bk 0 E.a.res y).2 i=some bb)=>A1R h
 have hmem:∀j x,(j,x)∈(Bk 0 E.a.res y).2->j<(Bk 0 E.a.res y).2.length/\∃b0,x=some b0/\AF (Bk 0 E.a.res y).2 j=some b0:=by
  intro j x h;obtain⟨i,hi⟩:=List.getElem?_of_mem h;have hl:=(za3.1 hi).1;obtain⟨b0,h1,h2,_⟩:=hget i hl;rw[hi]at h1;simp only[zx,Prod.mk.injEq]at h1;obtain⟨rfl,rfl⟩:=h1;exact⟨hl,b0,rfl,h2⟩
 rw[hlen];generalize hvs:(Bk 0 E.a.res y).1=vs0 at*
 generalize (Bk 0 E.a.res y).2=L at*
 rw[AY1]at*
 generalize hn':L.length=n at*
 have hinj:∀i j k,i<n->j<n->BR o E.a.e n b i=some k->BR o E.a.e n b j=some k->i=j:=by
  intro i j k hi hj h1 h2;unfold BR at h1 h2;by_cases a1:i<E.a.e
  ·rw[zr a1]at h1;by_cases a2:j<E.a.e
   ·rw[zr a2]at h2;have g1:=N9 hn h1;have g2:=N9 hn h2;rw[g1]at g2;exact zv g2
   ·rw[zw a2,zr hj]at h2;cases h2
    have:=hlow _ (za4 h1);omega
  ·rw[zw a1,zr hi]at h1;cases h1
   by_cases a2:j<E.a.e
   ·rw[zr a2]at h2;have:=hlow _ (za4 h2);omega
   ·rw[zw a2,zr hj]at h2;have:=zv h2;omega
 have hfn:∀i k,BR o E.a.e n b i=some k->i<n:=by
  intro i k h;unfold BR at h;by_cases a1:i<E.a.e
  ·omega
  ·rw[zw a1]at h
   split at h
   ·assumption
   ·cases h
 have hkey:∀j i,BR o E.a.e n b j=some i->i∈(DQ (BR o E.a.e n b) L).map (·.1):=by
  intro j i h;obtain⟨b0,h1,_⟩:=hget j (by rw[<-hn']at*;exact hfn j i h);exact WL (za4 h1) h
 have hlow2:∀j i,BR o E.a.e n b j=some i->i<b->j<E.a.e/\i∈o.take E.a.e:=by
  intro j i h hi;unfold BR at h;by_cases a1:j<E.a.e
  ·rw[zr a1]at h;exact⟨a1,za4 (i:=j) (by rw[zc0,zr a1];exact h)⟩
  ·rw[zw a1]at h
   split at h
   ·cases h;omega
   ·cases h
 have hlenT:∀id j,BR o E.a.e n b id=some j->∀b',AF (DQ (BR o E.a.e n b) L++DJ hp1 (o.drop E.a.e)) j=some b'->∃b0,AF L id=some b0/\EZ b0=EZ b':=by
  intro id j hj b' hb';rw[Nn,zr (hkey id j hj)]at hb';obtain⟨j',b0,h1,h2,rfl⟩:=Jb hb';obtain⟨q1,b1,q2,q3⟩:=hmem j' _ h1;cases q2
  have:=hinj id j' j (hfn _ _ hj) q1 hj h2;subst this;exact⟨b0,q3,(Aj1 b0).symm⟩
 have hkn:∀i,i<b->CN hp1 (DQ (BR o E.a.e n b) L++DJ hp1 (o.drop E.a.e)) i:=by
  intro i hi b' hb';rw[Nn]at hb'
  split at hb'
  ·rename_i hm;obtain⟨j,b0,h1,h2,rfl⟩:=Jb hb';obtain⟨_,hto⟩:=hlow2 j i h2 hi;obtain⟨c0,c1,q1,q2,q3⟩:=hlens i hto;rw[hb']at q2;cases q2
   exact⟨c0,by rw[hold i (List.mem_of_mem_take hto)];exact q1,q3⟩
  ·rw[PP]at hb'
   split at hb'
   ·cases hb'
   ·exact⟨b',hb',rfl⟩
 refine⟨?_,fun i bb hb=> ?_,hr.keeps fun t i hi=>hkn i (htm t i hi)⟩
 ·
  have e1:(vs0.map fun p=>BB (BR o E.a.e n b) p.2)=(vs0.map (·.2)).map (BB (BR o E.a.e n b)):=by simp
  rw[e1];generalize vs0.map (·.2)=vs at hval hsure⊢
  match vs,hval,hsure with
  |[v],hval,hsure=>
   have hs1:EM v=true:=by simpa using hsure
   obtain⟨q1,_,_,q4⟩:=HG hs1 (show RV2 L v r from hval);rw[A06 q4];exact(Aa3 hlenT q1 hs1).to2
  |[],hval,hsure=>
   obtain⟨us,rfl,hc⟩:=(show ∃us,r=.tup us/\RC (RV1 L) [] us from hval);cases us with
   |nil=>exact⟨[],rfl,trivial⟩
   |cons a l=>exact hc.elim
  |v1::v2::vs,hval,hsure=>
   obtain⟨us,rfl,hc⟩:=(show ∃us,r=.tup us/\RC (RV1 L) (v1::v2::vs) us from hval);exact⟨us.map (CR (BR o E.a.e n b)),rfl,RC.ren hlenT hsure hc⟩
 ·rw[Nn]at hb
  split at hb
  ·obtain⟨j,b0,h1,h2,rfl⟩:=Jb hb;obtain⟨q1,b1,q2,q3⟩:=hmem j _ h1;cases q2
   obtain⟨kj,hkj,hrb⟩:=hblk j b0 q3;have hkj:blks'[j]? =some kj:=hkj;refine⟨EA (BR o E.a.e n b) kj,?_,A07 hlenT hrb⟩
   have:=AQ5 (hp1:=hv1) (e:=E.a.e) hn hlow heo (by omega) hkj (by rw[hlen];exact h2);rw[hlen]at this;exact this
  ·rename_i hm;rw[PP]at hb
   split at hb
   ·cases hb
   ·rename_i hd;obtain⟨k,hk,hrb⟩:=hh1 i bb hb;refine⟨k,?_,hrb.keeps fun q hq=>hkn q (hids i bb hb q hq)⟩
    rw[ZZ ?_ ?_]
    ·exact hk
    ·intro hio;rw[<-List.take_append_drop E.a.e o]at hio;rcases zb6.1 hio with hio|hio
     ·obtain⟨j,hj⟩:=List.getElem?_of_mem hio;rw[zc0]at hj
      split at hj
      ·rename_i hje;exact hm (hkey j i (by unfold BR;rw[zr hje];exact hj))
      ·cases hj
     ·exact hd hio
    ·rintro⟨h1,h2⟩;rw[hlen]at h2;exact hm (hkey (E.a.e+(i-b)) i (by unfold BR;rw[zw (by omega),zr (by omega)];congr 1;omega))
theorem SM{H:THp}:∀{vs:List SV}{us:List V},vs.all EM=true->RC (RV1 H) vs us->us.all niV=vs.all Z6
 |[],[],_,_=>rfl
 |v::vs,u::us,hs,h=>by
  simp only[zc8,za2]at hs⊢
  rw[(ZO hs.1 h.1).1,SM hs.2 h.2]
 |[],_::_,_,h=>h.elim
 |_::_,[],_,h=>h.elim
theorem A15{res:List Item}{y:B9 res}{r:V}{blks':List Blk}(hres:ResRel res y r blks'):Af7 ((Bk 0 res y).1.map (·.2)) (Bk 0 res y).2=(Kv r&&blks'.all D2):=by
 have hsure:=Oq res 0 y;have hval:=hres.val;unfold Af7
 congr 1
 ·generalize (Bk 0 res y).1.map (·.2)=vs at hval hsure
  match vs,hval,hsure with
  |[v],hval,hsure=>
   have hs1:EM v=true:=by simpa using hsure
   obtain⟨q1,_⟩:=HG hs1 (show RV2 _ v r from hval);simp only[zc8,List.all_nil,Bool.and_true];exact(ZO hs1 q1).2.symm
  |[],hval,hsure=>
   obtain⟨us,rfl,hc⟩:=(show ∃us,r=.tup us/\RC (RV1 (Bk 0 res y).2) [] us from hval);rw[Al4,SM hsure hc]
  |v1::v2::vs,hval,hsure=>
   obtain⟨us,rfl,hc⟩:=(show ∃us,r=.tup us/\RC (RV1 (Bk 0 res y).2) (v1::v2::vs) us from hval);rw[Al4,SM hsure hc]
 ·have h3:(Bk 0 res y).2.map A0a=blks'.map D2:=by
   apply List.ext_getElem?
   intro j;rw[zd0,zd0];by_cases hj:j<(Bk 0 res y).2.length
   ·obtain⟨b0,h1,h2,h3⟩:=AL6 hj;obtain⟨kj,hkj,hrb⟩:=hres.blk j b0 h2;have hkj:blks'[j]? =some kj:=hkj;rw[h1,hkj];simp only[zd2,AP9 h3 hrb,A0a]
   ·rw[List.getElem?_eq_none (by omega),List.getElem?_eq_none (by have:=hres.len;omega)];rfl
  have h4:∀{γ:Type}(l:List γ)(f:γ->Bool),l.all f=(l.map f).all id:=by
   intro γ l f
   induction l with
   |nil=>rfl
   |cons a l ih=>simp only[zc8,zb8,ih];rfl
  rw[h4 (Bk 0 res y).2,h4 blks',h3]
theorem Pk{hp:THp}:∀(n:Nat)(l acc o:List Nat),Gc hp n l acc=some o->(∀i∈l,i∈o)/\(∀i∈acc,i∈o)/\∀i∈o,i∈acc\/∃b,AF hp i=some b/\VT b=true/\∀j∈rfB b,j∈o
 |0,_,_,_,h=>by simp[Gc]at h
 |n+1,[],acc,o,h=>by
  simp only[Gc,zx]at h;subst h;exact⟨fun _ h=>by simp at h,fun _ h=>h,fun _ h=>.inl h⟩
 |n+1,id::l,acc,o,h=>by
  simp only[Gc]at h;cases hm:AQ7 id acc with
  |true=>
   rw[hm]at h;simp only[cond_true]at h;obtain⟨h1,h2,h3⟩:=Pk n l acc o h;refine⟨fun i hi=> ?_,h2,h3⟩
   rcases zc7.1 hi with rfl|hi
   ·exact h2 _ (by rw[Rm]at hm;simpa using hm)
   ·exact h1 i hi
  |false=>
   rw[hm]at h;simp only[cond_false]at h;cases hb:AF hp id with
   |none=>rw[hb]at h;cases h
   |some b=>
    rw[hb]at h;simp only at h;obtain⟨hs,h⟩:=C1 h;obtain⟨h1,h2,h3⟩:=Pk n _ _ o h;refine⟨fun i hi=> ?_,fun i hi=>h2 i (by simp[hi]),fun i hi=> ?_⟩
    ·rcases zc7.1 hi with rfl|hi
     ·exact h2 _ (by simp)
     ·exact h1 i (by simp[hi])
    ·rcases h3 i hi with h4|h4
     ·rcases zb6.1 h4 with h4|h4
      ·exact .inl h4
      ·simp only[zf2]at h4;subst h4;exact .inr ⟨b,hb,hs,fun j hj=>h1 j (by simp[hj])⟩
     ·exact .inr h4
theorem Rd{l o:List Nat}(hh:RH hp hv)(h:Gc hp 64 l []=some o):SK hv l o=true:=by
 obtain⟨h1,_,h3⟩:=Pk 64 l [] o h;unfold SK;simp only[za2,za5];refine⟨fun i hi=>by simpa using h1 i hi,fun i hi=> ?_⟩
 rcases h3 i hi with h4|⟨b,hb,hs,hr⟩
 ·simp at h4
 ·obtain⟨k,hk,hrb⟩:=hh i b hb;rw[hk];simp only;refine za5.2 fun j hj=> ?_
  rw[AK6 hs hrb]at hj;simpa using hr j hj
theorem Yq{g:FuncId}{ys ys':List V}{lent:List Nat}{KV:Cb}(h1:Fe hv (cf.byref g) ys=some ys')(h2:Eg hv (ys'.flatMap Af)=some [])(h3:D5 (cf.byref g) ys=lent):
  DZ R cf g ys hv b KV=Ju R g ys' lent hv b KV:=by
 unfold DZ;rw[h1]
 dsimp only
 rw[h2,h3]
theorem Wz{g:FuncId}{ys ys':List V}{lent:List Nat}{KV:Cb}{i:Nat}{l:List Nat}(h1:Fe hv (cf.byref g) ys=some ys')(h2:Eg hv (ys'.flatMap Af)=some (i::l))(h3:D5 (cf.byref g) ys=lent):
  DZ R cf g ys hv b KV=MD R g ys' lent (ys'.flatMap Af).eraseDups (i::l) hv b KV:=by
 unfold DZ;rw[h1]
 dsimp only
 rw[h2,h3]
theorem AM8{g:FuncId}{args:List SV}{ys:List V}(hE:∀g E,ZF X.ents g=some E->CB R E/\E.a.g=g/\cf.byref g=(Fj E.a.params).map Xe)(hh:RH hp hv)(hr:RT hp tm m)(hargs:RC (RV2 hp) args ys)(h:A1X X g args tm hp b K=some z):
  ∃x hp' cls y hv',K x hp' cls=some z/\RV2 hp' x y/\RH hp' hv'/\RT hp' tm m/\∀KV:Cb,KV y hv' cls->DZ R cf g ys hv b KV:=by
 unfold A1X at h
 split at h
 case h_2=>cases h
 rename_i E hfe;obtain⟨hEnt,hEg,hbr⟩:=hE g E hfe
 split at h
 case h_2=>cases h
 rename_i args' hargs'
 split at h
 case h_2=>cases h
 rename_i o ho
 split at h
 case h_2=>cases h
 rename_i x hx
 split at h
 case isFalse=>cases h
 rename_i hc;simp only[za2]at hc;obtain⟨⟨⟨⟨⟨⟨⟨⟨s1,s2⟩,d1⟩,d2⟩,d3⟩,o16⟩,bel⟩,sl⟩,oall⟩:=hc;obtain⟨y,hFy,h⟩:=Bh h;simp only at h
 split at h
 case isFalse=>cases h
 rename_i hle;simp only[za2]at hle;have hen:=Nat.le_of_ble_eq_true hle.1;have hen16:=Nat.le_of_ble_eq_true hle.2;obtain⟨h,hlens⟩:=Pc h;rw[Jw]at h;have o16:=Nat.le_of_ble_eq_true o16;obtain⟨bel1,bel2⟩:=SI bel;obtain⟨ys',hV,hargs2,hlent⟩:=Pm hh hargs' hargs;rw[<-hbr]at hV hlent;generalize Kw (Fj E.a.params) args=lent at h oall hlent;have hnl:∀id∈o,id ∉ lent:=fun id hid=>by
  have:=za5.1 oall id hid;simp only[za2]at this;exact Sm this.2
 obtain⟨a1,a2,a3,a4⟩:=RC.all1 s1 hargs2;have hlow:∀id∈o,id<b:=fun id hid=>by
  have:=za5.1 oall id hid;simp only[za2]at this;exact Nu this.1
 have hclose:ER hv 64 (ys'.flatMap Af) []=some o:=by rw[a2];exact Hn hh _ _ _ ho
 have hcloseC:Eg hv (ys'.flatMap Af)=some o:=by
  unfold Eg;rw[hclose];simp only;rw[zr (by rw[a2];exact Rd hh ho)]
 obtain⟨c1,c2,_,_⟩:=FG hv 64 _ _ _ hclose (by simp) (fun id hid=>by simp at hid);have hdir:(ys'.flatMap Af).eraseDups=o.take E.a.e:=by rw[a2,<-Aw1];exact(Lj d2).symm
 have hdl:(o.take E.a.e).length=E.a.e:=by rw[Lj d2];exact za6 d3
 have heo:E.a.e<=o.length:=by rw[List.length_take]at hdl;omega
 obtain⟨r1,r2⟩:=Sc hh o;have hf:C5 o=idx o:=funext fun id=>Oy o id
 have hren:RC (RV1 (Em hp (C5 o) 0 o)) (args'.map (BB (C5 o))) (ys'.map (CR (idx o))):=by
  rw[hf]at r2⊢
  exact RC.ren r2 s1 a1
 obtain⟨_,e2,_,_⟩:=RC.all1 s2 (hren.mono fun _ _ _ h=>h.to2);have hed:((ys'.map (CR (idx o))).flatMap Af).eraseDups=List.range E.a.e:=by rw[e2,<-Aw1];exact Lj d1
 have hids:HL (ys'.map (CR (idx o))) (AL hv o)=true:=by
  unfold HL;simp only[za2,decide_eq_true_eq,beq_iff_eq];refine⟨⟨⟨za5.2 fun i hi=> ?_,za5.2 fun i hi=> ?_⟩,by simpa[AL]using o16⟩,by rw[hed,List.length_range]⟩
  ·obtain⟨u,hu,hi⟩:=zb1.1 hi;obtain⟨u0,_,rfl⟩:=zd5.1 hu;obtain⟨j,hj,_⟩:=NZ hi;have:=(za3.1 (AC5 hj)).1;simp;omega
  ·obtain⟨k,hk,hi⟩:=zb1.1 hi;unfold AL at hk;obtain⟨id,_,rfl⟩:=zd5.1 hk;obtain⟨j,hj,_⟩:=ZM hi;have:=(za3.1 (AC5 hj)).1;simp;omega
 have hRS:RS {tm:=Rs 0 (args'.map (BB (C5 o))),hp:=Em hp (C5 o) 0 o,c:=1} (V3 (ys'.map (CR (idx o))) (AL hv o)):=
  ⟨YQ 0 (hren.mono fun _ _ _ h=>h.to2),r1,rfl⟩
 have hno:E.a.e=0->o=[]:=by
  intro h0;have h1:(ddN [] (args'.flatMap rf1)).length=0:=by rw[za6 d3,h0]
  have h2:args'.flatMap rf1=[]:=by
   cases hl:args'.flatMap rf1 with
   |nil=>rfl
   |cons i l=>
    rw[hl,Aw1]at h1;simp[List.eraseDups_cons]at h1
  rw[h2]at ho;simpa[Gc]using ho.symm
 obtain⟨r,blks',hR,hres⟩:=hEnt x y _ _ _ hFy hRS hx hids (by rw[zd7,hargs2.length];exact(za6 sl).symm) (by rw[hed,List.length_range]) (fun h0=>by rw[hno h0];rfl);rw[hEg]at hR;have hlenB:=hres.len;have hlens':∀id∈o.take E.a.e,∃b0 b1,AF hp id=some b0/\AF (DQ (QP o E.a.e (Bk 0 E.a.res y).2.length b) (Bk 0 E.a.res y).2) id=some b1/\EZ b0=EZ b1:=hlens;obtain⟨f1,f2⟩:=Wf lent hh;have hpl:=Yw (E:=E) hres c1 hlow heo hen hlens' hh (fun _ _=>rfl) (fun i bb hb=>(bel1 i bb hb).2) hr bel2
 have hfz:=Yw (E:=E) hres c1 hlow heo hen hlens' f1 (fun i hi=>TC _ _ _ (hnl i hi)) (fun i bb hb=>(MW lent bel1 i bb hb).2) (hr.keeps fun _ i _=>f2 i) bel2;rw[A15 hres]at h;have hcallR:∀F:V->List Blk->Prop,F r blks'->H0 R g (ys'.map (CR (idx o))) (AL hv o) F:=fun F hF=>⟨r,blks',hR,hF⟩
 cases o with
 |nil=>
  have he0:E.a.e=0:=by simpa using heo
  have hno:args'.flatMap rf1=[]:=by
   rw[<-a2];cases hL:ys'.flatMap Af with
   |nil=>rfl
   |cons i l=>
    exfalso
    have:=hdir;rw[hL,List.eraseDups_cons,he0]at this;simp at this
  have hsame:ys'.map (CR (idx []))=ys':=Zy s1 hno a1;rw[hsame]at hcallR hids;rw[he0]at hpl hfz hen16 h;simp only[List.drop_nil]at hpl hfz;cases hc:(lent.isEmpty||(Kv r&&blks'.all D2))with
  |true=>
   rw[hc]at h;obtain⟨m1,m2,m3⟩:=hpl;refine⟨_,_,_,_,_,h,m1,m2,m3,fun KV hK=> ?_⟩
   rw[Yq hV hcloseC hlent];refine hcallR _ ⟨by omega,hids,?_⟩
   rw[zr hc];exact hK
  |false=>
   rw[hc]at h;obtain⟨m1,m2,m3⟩:=hfz;refine⟨_,_,_,_,_,h,m1,m2,m3,fun KV hK=> ?_⟩
   rw[Yq hV hcloseC hlent];refine hcallR _ ⟨by omega,hids,?_⟩
   rw[zw (by rw[hc];simp)];exact hK
 |cons i l=>
  have hall:((i::l).all fun id=> !lent.contains id)=true:=za5.2 fun id hid=>by simpa using hnl id hid
  cases hc:(lent.isEmpty||(Kv r&&blks'.all D2))with
  |true=>
   rw[hc]at h;obtain⟨m1,m2,m3⟩:=hpl;refine⟨_,_,_,_,_,h,m1,m2,m3,fun KV hK=> ?_⟩
   rw[Wz hV hcloseC hlent,hdir];unfold MD;rw[hdl];refine⟨hall,rfl,hids,hcallR _ ⟨by omega,by omega,?_⟩⟩
   rw[zr hc];exact hK
  |false=>
   rw[hc]at h;obtain⟨m1,m2,m3⟩:=hfz;refine⟨_,_,_,_,_,h,m1,m2,m3,fun KV hK=> ?_⟩
   rw[Wz hV hcloseC hlent,hdir];unfold MD;rw[hdl];refine⟨hall,rfl,hids,hcallR _ ⟨by omega,by omega,?_⟩⟩
   rw[zw (by rw[hc];simp)];exact hK
end
end
end Go.Proofs.YtiijheppiboglaaGreatDoor.Ev
