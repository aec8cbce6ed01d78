/- What the theorem of this claim leans on, part 3. -/
import Derived.Test.YtiijheppiboglaaDoorKB
import Derived.Laws.Strings
import Derived.Laws.StructEq
set_option maxHeartbeats 2000000
open List renaming getElem?_eq_some_iff → za0, getElem?_eq_getElem → za2, all_eq_true → za3, mem_of_getElem? → za5, mem_flatMap → za6, flatMap_cons → za7, map_cons → zb0, mem_append → zb1, getElem?_take → zb3, all_cons → zb5, eq_nil_of_length_eq_zero → zb7, getElem?_drop → zb8, mem_cons → zb9, mem_map → zc2, getElem?_append → zc4, getElem?_map → zc5, getElem?_append_left → zc6, length_cons → zc8, getElem?_of_mem → zd1, length_append → zd6, mem_range → zd7
open Bool renaming and_eq_true → za1, false_eq_true → zb4, not_eq_true' → zd5
open Nat renaming eq_of_beq_eq_true → za4, le_refl → zb6, lt_of_lt_of_le → zc0, mul_le_mul_right → zc3, zero_add → zd0, add_mul → zd3, le_of_ble_eq_true → zd4, lt_or_ge → zd8
open Option renaming map_eq_some_iff → za8, bind_some → za9, map_some → zc1, getD_some → zd2
open Array renaming getD_eq_getD_getElem? → zb2, getElem?_eq_some_iff → zc7, getElem?_eq_getElem → zc9
open Go.IntKind renaming wrap → zi, i64 → zj, u64 → zk
open Option.some renaming inj → zv, injEq → zx
noncomputable section
set_option linter.unusedVariables false
set_option linter.unusedSimpArgs false
set_option linter.unusedSectionVars false
namespace Go.Proofs.YtiijheppiboglaaDoor.Ev
section
open Go
inductive Ty where
 |int (k:IntKind)
 |bool
 |str
 |pair (a b:Ty)
 |sl (e:Ty)
 deriving DecidableEq
abbrev Str:=List UInt8
@[reducible] def Ty.den:Ty->Type
 |.int _=>Int
 |.bool=>Bool
 |.str=>Str
 |.pair a b=>a.den×b.den
 |.sl e=>List e.den
def Ty.size:Ty->Nat
 |.pair a b=>a.size+b.size
 |_=>1
inductive SV where
 |int (k:IntKind) (n:Int)
 |bool (b:Bool)
 |str (s:Str)
 |sc (x:Value)
 |er (b:Bool)
 |em
 |im (t:Ty) (l:List t.den)
 |ow (id:Nat)
 |ar (id lo n:Nat)
 |rf (id r c:Nat)
 |ir (t:Ty) (a:t.den) (c:Nat)
 |agg (cs:List SV)
 |tup (vs:List SV)
 |cl (f:FuncId) (caps:List SV)
 |any
 deriving Inhabited
inductive TB where
 |box (ty:TypeId) (cs:List SV)
 |arr (ty:TypeId) (deep:Bool) (t:Ty) (l:List t.den)
 |frz (ty:TypeId) (deep:Bool) (t:Ty) (l:List t.den)
abbrev TTm:=List (Nat×SV)
abbrev THp:=List (Nat×Option TB)
structure TSt where
 tm:TTm
 hp:THp
 c:Nat
def AW:TTm->Nat->SV
 |[],_=>.any
 |(k,x)::l,i=>cond (Nat.beq i k) x (AW l i)
def An:THp->Nat->Option TB
 |[],_=>none
 |(k,x)::l,i=>cond (Nat.beq i k) x (An l i)
def getD:List (Nat×TyD)->Nat->Option TyD
 |[],_=>none
 |(k,x)::l,i=>cond (Nat.beq i k) (some x) (getD l i)
def HC:Value->SV
 |.int k n=>.int k n
 |.bool b=>.bool b
 |.string s=>.str s.data.toList
 |.slice none 0 0=>.em
 |x=>if Dm x then .sc x else .any
def Jp:Value->SV
 |.agg cs=>.agg (cs.toList.map HC)
 |x=>HC x
def IL:V->SV
 |.v (.int k n)=>.int k n
 |.v (.bool b)=>.bool b
 |.v (.string s)=>.str s.data.toList
 |.v x=>.sc x
 |.em=>.em
 |_=>.any
def opT(tm:TTm):Operand->SV
 |.tmp t=>AW tm t
 |.const c=>Jp c
 |.global _=>.any
 |.func f=>.cl f []
def IZ{α:Type}(x:SV)(F:SV->α):α:=
 match x with
 |.int k n=>F (.int k n)
 |.bool b=>F (.bool b)
 |.str s=>F (.str s)
 |.sc x=>F (.sc x)
 |.er b=>F (.er b)
 |.em=>F .em
 |.im t l=>F (.im t l)
 |.ow id=>F (.ow id)
 |.ar id lo n=>F (.ar id lo n)
 |.rf id r c=>F (.rf id r c)
 |.ir t a c=>F (.ir t a c)
 |.agg cs=>F (.agg cs)
 |.tup vs=>F (.tup vs)
 |.cl f caps=>F (.cl f caps)
 |.any=>F .any
def M6:(t:Ty)->t.den->List SV
 |.int k,n=>[.int k n]
 |.bool,b=>[.bool b]
 |.str,s=>[.str s]
 |.pair a b,x=>M6 a x.1++M6 b x.2
 |.sl e,l=>[.im e l]
def DJ{t e:Ty}(h:t=e)(l:List t.den):List e.den:=h▸l
def asL(e:Ty):SV->Option (List e.den)
 |.em=>some []
 |.im t l=>if h:t=e then some (DJ h l)else none
 |_=>none
def H1:(t:Ty)->List SV->Option (t.den×List SV)
 |.int k,.int k' n::r=>if k'=k then some (n,r)else none
 |.bool,.bool b::r=>some (b,r)
 |.str,.str s::r=>some (s,r)
 |.pair a b,cs=>
  match H1 a cs with
  |some (x,r)=>(match H1 b r with|some (y,r')=>some ((x,y),r')|none=>none)
  |none=>none
 |.sl e,v::r=>(match asL e v with|some l=>some (l,r)|none=>none)
 |_,_=>none
def RX(t:Ty)(cs:List SV):Option t.den:=
 match H1 t cs with
 |some (x,[])=>some x
 |_=>none
def BA:SV->List SV
 |.agg cs=>cs
 |x=>[x]
def okT:SV->Bool
 |.int .. |.bool _|.str _|.sc _|.em|.im .. |.ow _|.ar .. |.rf .. |.ir .. =>true
 |.cl _ []=>true
 |_=>false
def mkT(g:Bool)(cs:List SV):Option SV:=
 if g then some (.agg cs)else match cs with|[x]=>some x|_=>none
def Nv(cs:List SV)(off n:Nat):Option (List SV):=if off+n<=cs.length then some ((cs.drop off).take n)else none
def QJ(cs:List SV)(off:Nat)(new:List SV):Option (List SV):=
 if off+new.length<=cs.length then some (cs.take off++new++cs.drop (off+new.length))else none
def R9{β:Type}(l:List β)(n:Nat):Option β:=l[n]?
def Ej{α:Type}(l:List α)(n:Int):Option α:=if 0<=n then l[n.toNat]? else none
def neL{α:Type}(l:List α):Option Unit:=match l with|[]=>none|_::_=>some ()
def LM(n:Int)(len:Nat):Option Nat:=if 0<=n/\n.toNat<len then some n.toNat else none
def DH(lo hi:Int)(len:Nat):Option (Nat×Nat):=if 0<=lo/\lo<=hi/\hi<=len then some (lo.toNat,hi.toNat)else none
def Fy(s t:Str):Option Str:=if s.length+t.length<=9223372036854775807 then some (s++t)else none
def QL(n:Int)(bytes size:Nat):Option Nat:=if 0<=n/\n.toNat*bytes<=Af/\n.toNat*size<=Af then some n.toNat else none
def T1(n bytes size:Nat):Bool:=decide (n*bytes<=Af)&&decide (n*size<=Af)
def Vt(k:IntKind)(a b:Int):Int:=k.wrap (a*2^(min b.toNat k.bits))
def UC(k:IntKind)(a b:Int):Int:=a.fdiv (2^(min b.toNat k.bits))
def R6(k:IntKind)(a b:Int):Int:=k.wrap ((BitVec.ofInt k.bits a&&& BitVec.ofInt k.bits b).toNat:Int)
def orI(k:IntKind)(a b:Int):Int:=k.wrap ((BitVec.ofInt k.bits a|||BitVec.ofInt k.bits b).toNat:Int)
def VA(k:IntKind)(a b:Int):Int:=k.wrap ((BitVec.ofInt k.bits a^^^BitVec.ofInt k.bits b).toNat:Int)
def A3(s:Str):List Int:=s.map fun c=>(c.toNat:Int)
def AK(l:List Int):Str:=l.map fun n=>UInt8.ofNat n.toNat
section
variable {α:Type}
def CL(op:BinOp)(k k':IntKind)(a b:Int)(K:SV->Option α):Option α:=
 match op with
 |.shl=>cond (decide (b<0)) none (K (.int k (Vt k a b)))
 |.shr=>cond (decide (b<0)) none (K (.int k (UC k a b)))
 |_=>
  if k=k' then
   match op with
   |.add=>K (.int k (k.wrap (a+b)))
   |.sub=>K (.int k (k.wrap (a-b)))
   |.mul=>K (.int k (k.wrap (a*b)))
   |.quo=>cond (b==0) none (K (.int k (k.wrap (a.tdiv b))))
   |.rem=>cond (b==0) none (K (.int k (a.tmod b)))
   |.and=>K (.int k (R6 k a b))
   |.or=>K (.int k (orI k a b))
   |.xor=>K (.int k (VA k a b))
   |.eql=>K (.bool (a==b))
   |.neq=>K (.bool (a != b))
   |.lss=>K (.bool (decide (a<b)))
   |.leq=>K (.bool (decide (a<=b)))
   |.gtr=>K (.bool (decide (a>b)))
   |.geq=>K (.bool (decide (a>=b)))
   |_=>none
  else none
def RY(op:BinOp)(s t:Str)(K:SV->Option α):Option α:=
 match op with
 |.add=>(Fy s t).bind fun u=>K (.str u)
 |.eql=>K (.bool (s==t))
 |.neq=>K (.bool (!(s==t)))
 |.lss=>K (.bool (Op.bytesLess s t))
 |.leq=>K (.bool (Op.bytesLess s t||s==t))
 |.gtr=>K (.bool (!(Op.bytesLess s t||s==t)))
 |.geq=>K (.bool (!(Op.bytesLess s t)))
 |_=>none
def CU:List SV->List SV->Option Bool
 |[],[]=>some true
 |[.int k a],[.int k' b]=>if k=k' then some (a==b)else none
 |.int k a::x,.int k' b::y=>if k=k' then(match CU x y with|some r=>some ((a==b)&&r)|none=>none)else none
 |_,_=>none
def tUn(u:UnOp)(x:SV)(K:SV->Option α):Option α:=
 match u,x with
 |.not,.bool b=>K (.bool (!b))
 |.neg,.int k n=>K (.int k (k.wrap (0-n)))
 |_,_=>none
def Pf(flds:List Fld)(tm:TTm):List SV->List (Nat×Operand)->(List SV->Option α)->Option α
 |cs,[],K=>K cs
 |cs,(k,x)::rest,K=>
  match flds[k]? with
  |some f=>IZ (opT tm x) fun v=>if(BA v).length=f.size&&(BA v).all okT then(match QJ cs f.off (BA v)with|some cs=>Pf flds tm cs rest K|none=>none)else none
  |none=>none
def QX:SV->Option Int
 |.int _ n=>some n
 |_=>none
def KL(tm:TTm):Option Operand->Int->Option Int
 |none,d=>some d
 |some x,_=>QX (opT tm x)
def Gy:List SV->Option (IntKind×List Int)
 |[.int k n]=>some (k,[n])
 |.int k n::l=>match Gy l with|some (k',ns)=>if k=k' then some (k,n::ns)else none|none=>none
 |_=>none
def U6:List Int->Int
 |[]=>0
 |x::l=>l.foldl (fun a b=>if b<a then b else a) x
def UY:List Int->Int
 |[]=>0
 |x::l=>l.foldl (fun a b=>if b>a then b else a) x
end
def Cn:SV->List Nat
 |.ow id=>[id]
 |_=>[]
def KC:SV->List Nat
 |.agg cs=>cs.flatMap Cn
 |.cl _ cs=>cs.flatMap Cn
 |x=>Cn x
def C4:SV->List Nat
 |.tup vs=>vs.flatMap KC
 |x=>KC x
def EN:TB->List Nat
 |.box _ cs=>cs.flatMap Cn
 |_=>[]
def Pm(b:Nat)(l:List Nat):Bool:=l.all fun i=> !Nat.beq i b
def C2(tm:TTm)(hp:THp)(b:Nat):Bool:=
 tm.all (fun x=>Pm b (C4 x.2))&&hp.all fun x=>match x.2 with|some k=>Pm b (EN k)|none=>true
def BN(hp:THp):List Nat->THp
 |[]=>hp
 |id::l=>BN ((id,none)::hp) l
def QO:TB->TB
 |.arr ty deep t l=>.frz ty deep t l
 |x=>x
def Cp(hp:THp):List Nat->THp
 |[]=>hp
 |id::l=>Cp ((id,(An hp id).map QO)::hp) l
def NL(b:Nat)(hp:THp):THp:=hp.filter fun x=>Nat.blt x.1 b
inductive AC where
 |int (k:IntKind)
 |bool
 |str
 |err
 |im (t:Ty)
 |at (j:Nat)
inductive AB where
 |arr (ty:TypeId) (deep:Bool) (t:Ty)
 |box (ty:TypeId) (cs:List AC)
inductive AS where
 |cell (c:AC)
 |agg (cs:List AC)
 |ref (j:Nat) (isbox:Bool)
 |sub (j:Nat)
 |clo (f:FuncId)
 |cap (f:FuncId) (js:List Nat)
inductive Item where
 |blk (b:AB)
 |slot (s:Nat) (a:AS)
@[reducible] def NB(u v:Bool)(A B:Type):Type:=
 match u,v with
 |true,_=>B
 |false,true=>A
 |false,false=>A×B
def mkP:(u v:Bool)->(A B:Type)->A->B->NB u v A B
 |true,_,_,_,_,b=>b
 |false,true,_,_,a,_=>a
 |false,false,_,_,a,b=>(a,b)
def Vd:(u v:Bool)->(A B:Type)->(u=true->A)->NB u v A B->A
 |true,_,_,_,a,_=>a rfl
 |false,true,_,_,_,x=>x
 |false,false,_,_,_,x=>x.1
def Va:(u v:Bool)->(A B:Type)->(v=true->B)->NB u v A B->B
 |true,_,_,_,_,x=>x
 |false,true,_,_,b,_=>b rfl
 |false,false,_,_,_,x=>x.2
section
variable {ι:Type} (den:ι->Type) (u:ι->Bool)
@[reducible] def F9:List ι->Type
 |[]=>Unit
 |x::l=>NB (u x) (l.all u) (den x) (F9 l)
variable (un:∀x,u x=true->den x)
def PQ:(l:List ι)->l.all u=true->F9 den u l
 |[],_=>()
 |x::l,h=>mkP (u x) (l.all u) (den x) (F9 den u l) (un x (by simp at h;exact h.1)) (PQ l (by simp at h⊢;exact h.2))
def hdL(x:ι)(l:List ι)(d:F9 den u (x::l)):den x:=Vd (u x) (l.all u) (den x) (F9 den u l) (un x) d
def tlL(x:ι)(l:List ι)(d:F9 den u (x::l)):F9 den u l:=Va (u x) (l.all u) (den x) (F9 den u l) (PQ den u un l) d
def PJ(x:ι)(l:List ι)(a:den x)(d:F9 den u l):F9 den u (x::l):=mkP (u x) (l.all u) (den x) (F9 den u l) a d
end
@[reducible] def AC.den:AC->Type
 |.int _=>Int
 |.bool=>Bool
 |.str=>Str
 |.err=>Bool
 |.im t=>List t.den
 |.at _=>Unit
def AC.isU:AC->Bool
 |.at _=>true
 |_=>false
def Mx:(c:AC)->c.isU=true->c.den
 |.at _,_=>()
 |.int _,h=>by cases h
 |.bool,h=>by cases h
 |.str,h=>by cases h
 |.err,h=>by cases h
 |.im _,h=>by cases h
@[reducible] def HY(cs:List AC):Type:=F9 AC.den AC.isU cs
def hdC(c:AC)(cs:List AC)(d:HY (c::cs)):c.den:=hdL AC.den AC.isU Mx c cs d
def tlC(c:AC)(cs:List AC)(d:HY (c::cs)):HY cs:=tlL AC.den AC.isU Mx c cs d
def Rj(c:AC)(cs:List AC)(a:c.den)(d:HY cs):HY (c::cs):=PJ AC.den AC.isU c cs a d
@[reducible] def AB.den:AB->Type
 |.arr _ _ t=>List t.den
 |.box _ cs=>HY cs
@[reducible] def AS.den:AS->Type
 |.cell c=>c.den
 |.agg cs=>HY cs
 |.ref _ _=>Unit
 |.sub _=>Nat×Nat
 |.clo _=>Unit
 |.cap _ _=>Unit
@[reducible] def Item.den:Item->Type
 |.blk b=>b.den
 |.slot _ a=>a.den
def AB.isU:AB->Bool
 |.arr _ _ _=>false
 |.box _ cs=>cs.all AC.isU
def AS.isU:AS->Bool
 |.cell c=>c.isU
 |.agg cs=>cs.all AC.isU
 |.ref _ _=>true
 |.sub _=>false
 |.clo _=>true
 |.cap _ _=>true
def Item.isU:Item->Bool
 |.blk b=>b.isU
 |.slot _ a=>a.isU
def U8:(b:AB)->b.isU=true->b.den
 |.box _ cs,h=>PQ AC.den AC.isU Mx cs h
 |.arr _ _ _,h=>by cases h
def Vo:(a:AS)->a.isU=true->a.den
 |.cell c,h=>Mx c h
 |.agg cs,h=>PQ AC.den AC.isU Mx cs h
 |.ref _ _,_=>()
 |.clo _,_=>()
 |.cap _ _,_=>()
 |.sub _,h=>by cases h
def TZ:(x:Item)->x.isU=true->x.den
 |.blk b,h=>U8 b h
 |.slot _ a,h=>Vo a h
@[reducible] def Bb(l:List Item):Type:=F9 Item.den Item.isU l
def hdI(x:Item)(l:List Item)(d:Bb (x::l)):x.den:=hdL Item.den Item.isU TZ x l d
def tlI(x:Item)(l:List Item)(d:Bb (x::l)):Bb l:=tlL Item.den Item.isU TZ x l d
def Dv(x:Item)(l:List Item)(a:x.den)(d:Bb l):Bb (x::l):=PJ Item.den Item.isU x l a d
def QB:(c:AC)->c.den->SV
 |.int k,n=>.int k n
 |.bool,b=>.bool b
 |.str,s=>.str s
 |.err,b=>.er b
 |.im t,l=>.im t l
 |.at j,_=>.ow j
def Kt:(cs:List AC)->HY cs->List SV
 |[],_=>[]
 |c::cs,d=>QB c (hdC c cs d)::Kt cs (tlC c cs d)
def Un:(b:AB)->b.den->TB
 |.arr ty deep t,l=>.arr ty deep t l
 |.box ty cs,x=>.box ty (Kt cs x)
def Ng:(a:AS)->a.den->SV
 |.cell c,x=>QB c x
 |.agg cs,x=>.agg (Kt cs x)
 |.ref j false,_=>.ow j
 |.ref j true,_=>.rf j 0 0
 |.sub j,x=>.ar j x.1 x.2
 |.clo g,_=>.cl g []
 |.cap g js,_=>.cl g (js.map fun j=>.rf j 0 0)
def AG:Nat->(l:List Item)->Bb l->TTm×THp
 |_,[],_=>([],[])
 |k,.blk b::l,d=>((AG (k+1) l (tlI (.blk b) l d)).1,(k,some (Un b (hdI (.blk b) l d)))::(AG (k+1) l (tlI (.blk b) l d)).2)
 |k,.slot s a::l,d=>((s,Ng a (hdI (.slot s a) l d))::(AG k l (tlI (.slot s a) l d)).1,(AG k l (tlI (.slot s a) l d)).2)
def Dw(l:List Item)(d:Bb l):TSt:={tm:=(AG 0 l d).1,hp:=(AG 0 l d).2,c:=1}
def Cu:List Item->List Nat
 |[]=>[]
 |.blk _::l=>Cu l
 |.slot s _::l=>s::Cu l
def Ct:List Item->List AS
 |[]=>[]
 |.blk _::l=>Ct l
 |.slot _ a::l=>a::Ct l
def BH:List Item->List AB
 |[]=>[]
 |.blk b::l=>b::BH l
 |.slot _ _::l=>BH l
inductive TM where
 |keep
 |own (ty:TypeId) (deep:Bool) (t:Ty)
 |im (t:Ty)
 |sub
inductive TMs where
 |one (m:TM)
 |agg (l:List TM)
 |box (l:List TM)
def UV(bl:List AB)(j:Nat):TM:=match bl[j]? with|some (.arr ty deep t)=>.own ty deep t|_=>.keep
def tmC(bl:List AB):AC->TM
 |.im t=>.im t
 |.at j=>UV bl j
 |_=>.keep
def tmS(bl:List AB):AS->TMs
 |.cell c=>.one (tmC bl c)
 |.agg cs=>.agg (cs.map (tmC bl))
 |.ref j false=>.one (UV bl j)
 |.ref j true=>match bl[j]? with|some (.box _ cs)=>.box (cs.map (tmC bl))|_=>.one .keep
 |.sub _=>.one .sub
 |.clo _=>.one .keep
 |.cap _ _=>.one .keep
def TM.md:TM->Md
 |.keep=>.keep
 |.own ty deep t=>.own ty t.size deep
 |.im _=>.im
 |.sub=>.keep
def TMs.mds:TMs->Mds
 |.one m=>.one m.md
 |.agg l=>.agg (l.map TM.md)
 |.box l=>.box (l.map TM.md)
def EE(bl:List AB):List Item->List (Nat×TMs)
 |[]=>[]
 |.blk _::l=>EE bl l
 |.slot s a::l=>(s,tmS bl a)::EE bl l
def CG(l:List (Nat×TMs)):List (Nat×Mds):=l.map fun p=>(p.1,p.2.mds)
def DE(l:List Item):List (Nat×Mds):=CG (EE (BH l) l)
def DF(hp:THp)(e:Ty):SV->Option (List e.den)
 |.ow id=>
  match An hp id with
  |some (.arr _ _ t l)|some (.frz _ _ t l)=>if h:t=e then some (DJ h l)else none
  |_=>none
 |.ar id lo n=>
  match An hp id with
  |some (.arr _ _ t l)|some (.frz _ _ t l)=>if h:t=e then some (((DJ h l).take (lo+n)).drop lo)else none
  |_=>none
 |v=>asL e v
def frV:SV->List Nat
 |.ow id=>[id]
 |.ar id _ _=>[id]
 |_=>[]
def tnC(m:TM)(v:SV)(hp:THp)(b:Nat):Option (SV×THp×Nat):=
 match m with
 |.keep=>some (v,hp,0)
 |.own ty deep t=>
  match v with
  |.em=>some (.ow b,(b,some (.arr ty deep t []))::hp,1)
  |.ow id=>
   match An hp id with
   |some (.arr ty' deep' t' _)=>if t'=t then(if Nat.beq ty' ty&&(deep'==deep)then some (.ow id,hp,0)else none)else none
   |_=>none
  |_=>none
 |.im t=>match DF hp t v with|some l=>some (.im t l,Cp hp (frV v),0)|none=>none
 |.sub=>
  match v with
  |.ow id=>match An hp id with|some (.arr _ _ _ l)=>some (.ar id 0 l.length,hp,0)|_=>none
  |.ar id lo n=>some (.ar id lo n,hp,0)
  |_=>none
def tnL:List TM->List SV->THp->Nat->Option (List SV×THp×Nat)
 |[],[],hp,_=>some ([],hp,0)
 |m::ms,x::xs,hp,b=>
  match tnC m x hp b with
  |some (y,hp1,n)=>
   match tnL ms xs hp1 (b+n)with
   |some (ys,hp2,k)=>some (y::ys,hp2,n+k)
   |none=>none
  |none=>none
 |_,_,_,_=>none
def tnV(m:TMs)(v:SV)(hp:THp)(b:Nat):Option (SV×THp×Nat):=
 match m with
 |.one m=>tnC m v hp b
 |.agg l=>match v with|.agg cs=>(match tnL l cs hp b with|some (cs',hp',n)=>some (.agg cs',hp',n)|none=>none)|_=>none
 |.box l=>
  match v with
  |.rf id r c=>
   match An hp id with
   |some (.box ty cs)=>(match tnL l cs hp b with|some (cs',hp',n)=>if cs'.all okT then some (.rf id r c,(id,some (.box ty cs'))::hp',n)else none|none=>none)
   |_=>none
  |_=>none
def tnS:List (Nat×TMs)->TSt->Option TSt
 |[],st=>some st
 |(s,m)::l,st=>
  match tnV m (AW st.tm s) st.hp (16*st.c)with
  |some (x,hp,n)=>if Nat.ble n 16 then tnS l {tm:=(s,x)::st.tm,hp:=hp,c:=st.c+1}else none
  |none=>none
def HV(tm:TTm)(hp:THp)(b:Nat):Bool:=
 tm.all (fun x=>(C4 x.2).all fun i=>Nat.blt i b)&&hp.all fun x=>match x.2 with|some k=>Nat.blt x.1 b&&(EN k).all fun i=>Nat.blt i b|none=>true
def rf0:SV->List Nat
 |.ow id=>[id]
 |.ar id _ _=>[id]
 |.rf id _ _=>[id]
 |_=>[]
def rf1:SV->List Nat
 |.agg cs=>cs.flatMap rf0
 |.cl _ caps=>caps.flatMap rf0
 |x=>rf0 x
def rfB:TB->List Nat
 |.box _ cs=>cs.flatMap rf0
 |_=>[]
def D3:SV->Bool
 |.agg _|.tup _|.any=>false
 |.cl _ caps=>caps.isEmpty
 |_=>true
def Cd:SV->Bool
 |.agg cs=>cs.all D3
 |.cl _ caps=>caps.all D3
 |x=>D3 x
def Jw:TB->Bool
 |.box _ cs=>cs.all D3
 |_=>true
def QA(i:Nat):List Nat->Bool
 |[]=>false
 |x::l=>cond (Nat.beq x i) true (QA i l)
def CY(hp:THp):Nat->List Nat->List Nat->Option (List Nat)
 |0,_,_=>none
 |_+1,[],acc=>some acc
 |k+1,id::l,acc=>
  cond (QA id acc) (CY hp k l acc)
   (match An hp id with
   |none=>none
   |some b=>cond (Jw b) (CY hp k (l++rfB b) (acc++[id])) none)
def Bs:List Nat->Nat->Option Nat
 |[],_=>none
 |x::l,id=>cond (Nat.beq x id) (some 0) (match Bs l id with|some j=>some (j+1)|none=>none)
def Ou:List Nat->List Nat->Bool
 |[],[]=>true
 |x::l,y::m=>Nat.beq x y&&Ou l m
 |_,_=>false
def B9(f:Nat->Option Nat):SV->SV
 |.ow id=>match f id with|some j=>.ow j|none=>.any
 |.ar id lo n=>match f id with|some j=>.ar j lo n|none=>.any
 |.rf id r c=>match f id with|some j=>.rf j r c|none=>.any
 |.cl g []=>.cl g []
 |.cl _ _|.agg _|.tup _=>.any
 |x=>x
def AP(f:Nat->Option Nat):SV->SV
 |.agg cs=>.agg (cs.map (B9 f))
 |.cl g caps=>.cl g (caps.map (B9 f))
 |x=>B9 f x
def JS(f:Nat->Option Nat):TB->TB
 |.box ty cs=>.box ty (cs.map (B9 f))
 |x=>x
def Ca(hp:THp)(f:Nat->Option Nat):Nat->List Nat->THp
 |_,[]=>[]
 |k,id::l=>(k,match An hp id with|some b=>some (JS f b)|none=>none)::Ca hp f (k+1) l
def GR(e:Nat)(keep:List Nat)(st:TSt):Option TSt:=
 if keep.all (fun s=>Cd (AW st.tm s))then
  match CY st.hp 64 (List.range e++keep.flatMap fun s=>rf1 (AW st.tm s)) []with
  |some o=>
   if Nat.ble o.length 16&&Ou (o.take e) (List.range e)then
    some {tm:=keep.map fun s=>(s,AP (Bs o) (AW st.tm s)),hp:=Ca st.hp (Bs o) 0 o,c:=1}
   else none
  |none=>none
 else none
def rdC:(c:AC)->SV->Option c.den
 |.int k,.int k' n=>if k'=k then some n else none
 |.bool,.bool b=>some b
 |.str,.str s=>some s
 |.err,.er b=>some b
 |.im t,.im t' l=>if h:t'=t then some (DJ h l)else none
 |.at j,.ow i=>if Nat.beq i j then some ()else none
 |_,_=>none
def Ra:(cs:List AC)->List SV->Option (HY cs)
 |[],[]=>some ()
 |c::cs,v::vs=>(match rdC c v with|some x=>(match Ra cs vs with|some y=>some (Rj c cs x y)|none=>none)|none=>none)
 |_,_=>none
def rdB:(b:AB)->TB->Option b.den
 |.arr ty deep t,.arr ty' deep' t' l=>if h:t'=t then(if Nat.beq ty' ty&&(deep'==deep)then some (DJ h l)else none)else none
 |.box ty cs,.box ty' vs=>if Nat.beq ty' ty then Ra cs vs else none
 |_,_=>none
def Mh:List Nat->List SV->Bool
 |[],[]=>true
 |j::js,.rf i 0 0::vs=>cond (Nat.beq i j) (Mh js vs) false
 |_,_=>false
def rdS:(a:AS)->SV->Option a.den
 |.cell c,v=>rdC c v
 |.agg cs,.agg vs=>Ra cs vs
 |.ref j false,.ow i=>if Nat.beq i j then some ()else none
 |.ref j true,.rf i 0 0=>if Nat.beq i j then some ()else none
 |.sub j,.ar i lo n=>if Nat.beq i j then some (lo,n)else none
 |.clo f,.cl g []=>if Nat.beq g f then some ()else none
 |.cap f js,.cl g vs=>if Nat.beq g f&&Mh js vs then some ()else none
 |_,_=>none
def rdI:Nat->(l:List Item)->TTm->THp->Option (Bb l)
 |_,[],[],[]=>some ()
 |k,.blk b::l,tm,(i,some tb)::hp=>
  if Nat.beq i k then(match rdB b tb with|some x=>(match rdI (k+1) l tm hp with|some y=>some (Dv (.blk b) l x y)|none=>none)|none=>none)else none
 |k,.slot s a::l,(i,v)::tm,hp=>
  if Nat.beq i s then(match rdS a v with|some x=>(match rdI k l tm hp with|some y=>some (Dv (.slot s a) l x y)|none=>none)|none=>none)else none
 |_,_,_,_=>none
def CP(e:Nat)(l:List Item)(st:TSt):Option (Bb l):=
 if HV st.tm st.hp (16*st.c)then
  match tnS (EE (BH l) l) st with
  |some st1=>(match GR e (Cu l) st1 with|some st2=>rdI 0 l st2.tm st2.hp|none=>none)
  |none=>none
 else none
structure FAnn where
 g:FuncId
 e:Nat:=0
 params:List Item
 res:List Item
 heads:List (Nat×List Item):=[]
 outs:List (Nat×List (Ex×List Item)):=[]
 joins:List (Nat×List Item):=[]
def GJ:List FAnn->FuncId->Option FAnn
 |[],_=>none
 |a::l,g=>cond (Nat.beq a.g g) (some a) (GJ l g)
def E5{α:Type}:List (Nat×α)->Nat->Option α
 |[],_=>none
 |(k,x)::l,i=>cond (Nat.beq k i) (some x) (E5 l i)
def L2:Ex->Ex->Bool
 |.normal,.normal=>true
 |.ret,.ret=>true
 |.exit i,.exit j=>Nat.beq i j
 |_,_=>false
def Mw:List (Ex×List Item)->Ex->Option (List Item)
 |[],_=>none
 |(e,x)::l,i=>cond (L2 e i) (some x) (Mw l i)
def KP(bl:List AB):Nat->Nat->List AB->List (Nat×TMs)
 |0,_,_=>[]
 |_,_,[]=>[]
 |e+1,k,.box _ cs::l=>(k,.box (cs.map (tmC bl)))::KP bl e (k+1) l
 |e+1,k,_::l=>KP bl e (k+1) l
def Vv:AC->Bool
 |.at _=>true
 |_=>false
def Jl:AS->Bool
 |.ref _ false=>true
 |.sub _=>true
 |.agg cs=>cs.any Vv
 |.clo _=>true
 |.cap _ _=>true
 |_=>false
def Mg(tab:List FAnn)(ext:FuncId->Bool):Cfg where
 live g r:=match (GJ tab g).bind fun a=>E5 a.heads r with|some l=>DE l|none=>[]
 out g r ex:=match ((GJ tab g).bind fun a=>E5 a.outs r).bind fun l=>Mw l ex with|some l=>DE l|none=>[]
 join g r:=match (GJ tab g).bind fun a=>E5 a.joins r with|some l=>some (DE l)|none=>none
 res g:=match GJ tab g with|some a=>(DE a.res).map (·.2)|none=>[]
 par g:=match GJ tab g with|some a=>DE a.params|none=>[]
 rts g:=match GJ tab g with|some a=>CG (KP (BH a.res) a.e 0 (BH a.res))|none=>[]
 byref g:=match GJ tab g with|some a=>(Ct a.params).map Jl|none=>[]
 isExt:=ext
structure Ent where
 a:FAnn
 F:Bb a.params->Option (Bb a.res)
def Lu:List Ent->FuncId->Option Ent
 |[],_=>none
 |x::l,g=>cond (Nat.beq x.a.g g) (some x) (Lu l g)
structure TX where
 ty:List (Nat×TyD)
 cod:List (Nat×Ty)
 eqs:List Nat
 bools:List Nat
 ents:List Ent
 ann:FAnn
def B7:Ty->Bool
 |.sl _=>false
 |.pair a b=>B7 a&&B7 b
 |_=>true
section
variable {α:Type} (X:TX)
def IG(t:TypeId):Option (TypeId×TyD×Ty):=
 match getD X.ty t with
 |some d=>
  match d.elem with
  |some e=>
   match getD X.ty e,E5 X.cod e with
   |some de,some c=>if Nat.beq de.size c.size&&(de.zero.all KI==B7 c)then some (e,de,c)else none
   |_,_=>none
  |none=>none
 |none=>none
def Pw(t:TypeId):Bool:=match getD X.ty t with|some d=>d.ifc|none=>false
def FA(t:TypeId):Bool:=match getD X.ty t with|some d=>d.str|none=>false
def SR(op:BinOp)(t:TypeId)(x y:SV)(K:SV->Option α):Option α:=
 match x,y with
 |.int k a,.int k' b=>CL op k k' a b K
 |.str s,.str u=>RY op s u K
 |.bool a,.bool b=>
  if X.bools.contains t then(match op with|.eql=>K (.bool (a==b))|.neq=>K (.bool (!(a==b)))|_=>none)else none
 |.agg cs,.agg ds=>
  if X.eqs.contains t then
   match getD X.ty t,CU cs ds with
   |some d,some r=>if Nat.beq cs.length d.size then(match op with|.eql=>K (.bool r)|.neq=>K (.bool (!r))|_=>none)else none
   |_,_=>none
  else none
 |_,_=>none
def tMk(g:Bool)(cs:Option (List SV))(K:SV->Option α):Option α:=
 match cs with
 |some cs=>(match mkT g cs with|some x=>IZ x K|none=>none)
 |none=>none
def PE(t:TypeId)(v:SV)(hp:THp)(K:SV->Option α):Option α:=
 match getD X.ty t,v with
 |some d,.ir ty a c=>tMk d.agg (Nv (M6 ty a) c d.size) K
 |some d,.rf id r c=>
  match An hp id with
  |some (.box _ cs)=>(match r with|0=>tMk d.agg (Nv cs c d.size) K|_=>none)
  |some (.arr _ deep ty l)=>if !deep||B7 ty then(R9 l r).bind fun a=>tMk d.agg (Nv (M6 ty a) c d.size) K else none
  |some (.frz _ _ ty l)=>if B7 ty then(R9 l r).bind fun a=>tMk d.agg (Nv (M6 ty a) c d.size) K else none
  |none=>none
 |_,_=>none
def I6(hp:THp):SV->Option (SV×List Nat×Bool)
 |.int k n=>some (.int k n,[],true)
 |.bool b=>some (.bool b,[],true)
 |.str s=>some (.str s,[],true)
 |.sc x=>some (.sc x,[],true)
 |.em=>some (.em,[],false)
 |.im t l=>some (.im t l,[],false)
 |.ow id=>
  match An hp id with
  |some (.arr _ deep t l)=>some (.im t l,[id],deep)
  |some (.frz _ _ t l)=>some (.im t l,[],false)
  |_=>none
 |.ar id lo n=>
  match An hp id with
  |some (.arr _ deep t l)=>some (.im t ((l.take (lo+n)).drop lo),[id],deep)
  |some (.frz _ _ t l)=>some (.im t ((l.take (lo+n)).drop lo),[],false)
  |_=>none
 |_=>none
def EC(hp:THp):List SV->Option (List SV×List Nat×Bool)
 |[]=>some ([],[],true)
 |x::l=>
  match I6 hp x,EC hp l with
  |some (y,a,d),some (ys,as,ds)=>some (y::ys,a++as,d&&ds)
  |_,_=>none
def Ro(t:TypeId)(a x:SV)(hp:THp)(K:SV->THp->Cls->Option α):Option α:=
 match getD X.ty t,a with
 |some d,.rf id r c=>
  if Nat.beq (BA x).length d.size then
   match An hp id with
   |some (.box ty cs)=>
    match r with
    |0=>if(BA x).all okT then(match QJ cs c (BA x)with|some cs=>K .any ((id,some (.box ty cs))::hp) .E|none=>none)else none
    |_=>none
   |some (.arr ty deep e l)=>
    (R9 l r).bind fun y=>
    match EC hp (BA x)with
    |some (cs,kills,deep')=>
     if B5 (id::kills)then
      match QJ (M6 e y) c cs with
      |some cs=>(match RX e cs with|some z=>K .any ((id,some (.arr ty (deep&&deep') e (l.set r z)))::BN hp kills) .E|none=>none)
      |none=>none
     else none
    |none=>none
   |_=>none
  else none
 |_,_=>none
def Fw(hp:THp)(tm:TTm)(e:Ty):Nat->List (Nat×Operand)->Option (List e.den×List Nat×Bool)
 |_,[]=>some ([],[],true)
 |n,(k,x)::l=>
  if Nat.beq k n&&Nat.beq (BA (opT tm x)).length e.size then
   match EC hp (BA (opT tm x)),Fw hp tm e (n+1) l with
   |some (cs,a,d),some (ys,as,ds)=>(match RX e cs with|some y=>some (y::ys,a++as,d&&ds)|none=>none)
   |_,_=>none
  else none
def Jx:SV->Bool
 |.int .. |.bool _|.str _|.sc _|.em|.im .. =>true
 |_=>false
def Ow(tm:TTm)(parts:List (Nat×Operand)):Bool:=parts.all fun p=>(BA (opT tm p.2)).all Jx
def Nm(t:TypeId)(len:Nat)(parts:List (Nat×Operand))(tm:TTm)(hp:THp)(b:Nat)(K:SV->THp->Cls->Option α):Option α:=
 match IG X t with
 |some (e,de,c)=>
  match len,parts with
  |0,[]=>K .em hp .M
  |0,_::_=>none
  |len+1,parts=>
   match Fw hp tm c 0 parts with
   |some (l,kills,deep)=>
    if Nat.beq l.length (len+1)&&Nat.ble ((len+1)*de.size) 16777216&&B5 kills&&C2 tm hp b then
     K (.ow b) ((b,some (.arr e deep c l))::BN hp kills) (Rc kills (Ow tm parts))
    else none
   |none=>none
 |none=>none
def UG(c:Ty)(x:SV)(hp:THp):Option (List c.den×List Nat×Bool):=
 match x with
 |.ow id=>
  match An hp id with
  |some (.arr _ deep t l)=>if h:t=c then(if B7 c then some (DJ h l,[],true)else some (DJ h l,[id],deep))else none
  |some (.frz _ _ t l)=>if h:t=c then some (DJ h l,[],B7 c)else none
  |_=>none
 |.ar id lo n=>
  match An hp id with
  |some (.arr _ deep t l)=>if h:t=c then(if B7 c then some (((DJ h l).take (lo+n)).drop lo,[],true)else some (((DJ h l).take (lo+n)).drop lo,[id],deep))else none
  |some (.frz _ _ t l)=>if h:t=c then some (((DJ h l).take (lo+n)).drop lo,[],B7 c)else none
  |_=>none
 |v=>match asL c v with|some l=>some (l,[],B7 c)|none=>none
def Jz{β:Type}(bytes size:Nat)(l m:List β):Option (List β):=if(l.length+m.length)*bytes<=Af/\(l.length+m.length)*size<=Af then some (l++m)else none
def Pt(ts:List TypeId)(s x:SV)(tm:TTm)(hp:THp)(b:Nat)(K:SV->THp->Cls->Option α):Option α:=
 match ts with
 |[t,t']=>
  if Nat.beq t' t then
   match IG X t with
   |some (e,de,c)=>
    match UG c x hp with
    |some (m,kills,deep)=>
     match s with
     |.em=>if B5 kills&&C2 tm hp b then cond (T1 m.length de.bytes de.size) (K (.ow b) ((b,some (.arr e deep c m))::BN hp kills) (match kills with|[]=>.M|_=>.E)) none else none
     |.ow id=>
      match An hp id with
      |some (.arr ty d0 t0 l)=>
       if h:t0=c then
        if Nat.beq ty e&&B5 (id::kills)&&C2 tm hp b then
         (Jz de.bytes de.size (DJ h l) m).bind fun r=>K (.ow b) ((b,some (.arr e (d0&&deep) c r))::BN hp (id::kills)) .E
        else none
       else none
      |_=>none
     |.ar id 0 n=>
      match An hp id with
      |some (.arr ty d0 t0 l)=>
       if h:t0=c then
        if Nat.beq ty e&&B5 (id::kills)&&C2 tm hp b then
         cond (decide (n<=l.length)) ((Jz de.bytes de.size ((DJ h l).take n) m).bind fun r=>K (.ow b) ((b,some (.arr e (d0&&deep) c r))::BN hp (id::kills)) .E) none
        else none
       else none
      |_=>none
     |_=>none
    |none=>none
   |none=>none
  else none
 |_=>none
def Mt(tm:TTm)(lo hi:Option Operand)(len:Nat)(K:Nat->Nat->Option α):Option α:=
 match lo,hi with
 |none,none=>K 0 len
 |_,_=>
  match KL tm lo 0,KL tm hi (len:Int)with
  |some l,some h=>(DH l h len).bind fun p=>K p.1 p.2
  |_,_=>none
def TO(tm:TTm)(lo hi:Option Operand)(len:Nat)(A:Option α)(K:Nat->Nat->Option α):Option α:=
 match lo,hi with
 |none,none=>A
 |_,_=>Mt tm lo hi len K
def Ri(t:TypeId)(x:SV)(lo hi:Option Operand)(tm:TTm)(hp:THp)(K:SV->Option α):Option α:=
 match x with
 |.str s=>if FA X t then Mt tm lo hi s.length fun l h=>K (.str ((s.take h).drop l))else none
 |x=>
  match IG X t with
  |some (e,de,c)=>
   match x with
   |.em=>Mt tm lo hi 0 fun _ _=>K .em
   |.im ty l=>if Nat.beq ty.size de.size then Mt tm lo hi l.length fun lo hi=>K (.im ty ((l.take hi).drop lo))else none
   |.ow id=>
    match An hp id with
    |some (.arr _ _ ty l)|some (.frz _ _ ty l)=>if Nat.beq ty.size de.size then TO tm lo hi l.length (K (.ow id)) fun l h=>K (.ar id l (h-l))else none
    |_=>none
   |.ar id l0 n=>
    match An hp id with
    |some (.arr _ _ ty l)|some (.frz _ _ ty l)=>if Nat.beq ty.size de.size then Mt tm lo hi n fun l h=>K (.ar id (l0+l) (h-l))else none
    |_=>none
   |_=>none
  |none=>none
def Vc(t:TypeId)(x i:SV)(hp:THp)(K:SV->Cls->Option α):Option α:=
 match IG X t with
 |some (_,de,_)=>
  match x,i with
  |.im ty l,.int _ n=>if Nat.beq ty.size de.size then(Ej l n).bind fun a=>K (.ir ty a 0) .T else none
  |.ow id,.int _ n=>
   match An hp id with
   |some (.arr _ _ ty l)|some (.frz _ _ ty l)=>if Nat.beq ty.size de.size then(LM n l.length).bind fun k=>K (.rf id k 0) .M else none
   |_=>none
  |.ar id lo len,.int _ n=>
   match An hp id with
   |some (.arr _ _ ty l)|some (.frz _ _ ty l)=>if Nat.beq ty.size de.size then(LM n len).bind fun k=>K (.rf id (lo+k) 0) .M else none
   |_=>none
  |_,_=>none
 |none=>none
def TY(t:TypeId)(same:Bool)(l c:SV)(tm:TTm)(hp:THp)(b:Nat)(K:SV->THp->Cls->Option α):Option α:=
 match IG X t,l,c with
 |some (e,de,ty),.int _ n,.int _ m=>
  match RX ty (de.zero.map IL)with
  |some z=>
   if C2 tm hp b&&de.zero.all B8 then
    cond same
     ((QL m de.bytes de.size).bind fun k=>K (.ow b) ((b,some (.arr e true ty (List.replicate k z)))::hp) .M)
     ((QL m de.bytes de.size).bind fun _=>cond (decide (0<=n)&&decide (n<=m)) (K (.ow b) ((b,some (.arr e true ty (List.replicate n.toNat z)))::hp) .M) none)
   else none
  |none=>none
 |_,_,_=>none
def MQ(t:TypeId):Bool:=match getD X.ty t with|some d=>d.elem.isSome|none=>false
def Ht(t:TypeId):Bool:=match getD X.ty t with|some d=>(match d.elem with|some e=>(match getD X.ty e with|some de=>de.int==some .u8|none=>false)|none=>false)|none=>false
def TN(s d:TypeId)(x:SV)(hp:THp)(K:SV->Cls->Option α):Option α:=
 match x with
 |.int _ n=>(match getD X.ty s,getD X.ty d with|some _,some dd=>(match dd.int with|some k=>K (.int k (k.wrap n)) .T|none=>none)|_,_=>none)
 |.str v=>
  if FA X s then
   if Ht X d then cond (decide (v.length<=Af)) (K (.im (.int .u8) (A3 v)) .M) none
   else if FA X d then K (.str v) .T else none
  else none
 |x=>
  if Ht X s&&FA X d then
   match DF hp (.int .u8) x with
   |some l=>K (.str (AK l)) .M
   |none=>none
  else none
def Vk(t:TypeId)(x:SV)(hp:THp)(K:SV->Option α):Option α:=
 match x with
 |.str s=>if FA X t&& !MQ X t then K (.int .i64 (s.length:Int))else none
 |x=>
  if MQ X t then
   match x with
   |.em=>K (.int .i64 0)
   |.im _ l=>K (.int .i64 (l.length:Int))
   |.ow id=>
    match An hp id with
    |some (.arr _ _ _ l)|some (.frz _ _ _ l)=>K (.int .i64 (l.length:Int))
    |_=>none
   |.ar _ _ n=>K (.int .i64 (n:Int))
   |_=>none
  else none
def I3(mx:Bool)(xs:List SV)(K:SV->Option α):Option α:=
 match Gy xs with
 |some (k,ns)=>K (.int k (if mx then UY ns else U6 ns))
 |none=>none
def Kq:SV->List Nat
 |.ow id=>[id]
 |.ar id _ _=>[id]
 |_=>[]
def Mr:SV->List Nat
 |.agg cs=>cs.flatMap Kq
 |.cl _ cs=>cs.flatMap Kq
 |x=>Kq x
def B3(hp:THp):AC->SV->Option SV
 |.im t,v=>match DF hp t v with|some l=>some (.im t l)|none=>none
 |.int _,.int k n=>some (.int k n)
 |.bool,.bool b=>some (.bool b)
 |.str,.str s=>some (.str s)
 |_,_=>none
def HE(hp:THp):List AC->List SV->Option (List SV)
 |[],[]=>some []
 |c::cs,v::vs=>(match B3 hp c v with|some x=>(match HE hp cs vs with|some y=>some (x::y)|none=>none)|none=>none)
 |_,_=>none
def Ep(hp:THp):AS->SV->Option SV
 |.cell c,v=>B3 hp c v
 |.agg cs,.agg vs=>(match HE hp cs vs with|some l=>some (.agg l)|none=>none)
 |.ref _ true,.rf id r c=>some (.rf id r c)
 |.clo _,.cl g []=>some (.cl g [])
 |_,_=>none
def EI:List AS->List SV->List Nat
 |a::l,v::vs=>(cond (Jl a) [] (Mr v))++EI l vs
 |_,_=>[]
def HK(hp:THp):List AS->List SV->Option (List SV)
 |[],[]=>some []
 |a::l,v::vs=>(match (cond (Jl a) (cond (Cd v) (some v) none) (Ep hp a v))with|some x=>(match HK hp l vs with|some y=>some (x::y)|none=>none)|none=>none)
 |_,_=>none
def Jf:SV->Bool
 |.int .. |.bool _|.str _|.sc _|.ow _|.ar .. |.rf .. =>true
 |.cl _ []=>true
 |_=>false
def LX:SV->Bool
 |.agg cs=>cs.all Jf
 |x=>Jf x
def Q5:TB->Bool
 |.box _ cs=>cs.all Jf
 |.arr _ deep _ _=>deep
 |.frz .. =>false
def ddN:List Nat->List Nat->List Nat
 |acc,[]=>acc
 |acc,id::l=>cond (QA id acc) (ddN acc l) (ddN (acc++[id]) l)
def Hd(order:List Nat)(e n b j:Nat):Option Nat:=cond (Nat.blt j e) order[j]? (cond (Nat.blt j n) (some (b+(j-e))) none)
def SI(vs:List SV):SV:=match vs with|[v]=>v|vs=>.tup vs
def Ns(hp out:THp):List Nat->Option α->Option α
 |[],A=>A
 |id::l,A=>
  match An out id,An hp id with
  |some (.arr _ _ _ l'),some (.arr _ _ _ l0)=>cond (decide (l'.length=l0.length)) (Ns hp out l A) none
  |some (.box _ _),some (.box _ _)=>Ns hp out l A
  |_,_=>none
def R4:Nat×Option TB->Bool
 |(_,some k)=>Q5 k
 |(_,none)=>false
def L7(vs:List SV)(bs:THp):Bool:=vs.all LX&&bs.all R4
def Vb(o:List Nat)(c:Bool)(A B C D:Option α):Option α:=
 match o,c with
 |[],true=>A
 |[],false=>B
 |_::_,true=>C
 |_::_,false=>D
def HB:Nat->List SV->TTm
 |_,[]=>[]
 |n,x::l=>(n,x)::HB (n+1) l
def BQ(f:Nat->Option Nat):THp->THp
 |[]=>[]
 |(k,b)::l=>match f k with|some i=>(i,match b with|some b=>some (JS f b)|none=>none)::BQ f l|none=>BQ f l
def Si(g:FuncId)(args:List SV)(tm:TTm)(hp:THp)(b:Nat)(K:SV->THp->Cls->Option α):Option α:=
 match Lu X.ents g with
 |some E=>
  match HK hp (Ct E.a.params) args with
  |some args'=>
   match CY hp 64 (args'.flatMap rf1) []with
   |some o=>
    match CP E.a.e E.a.params {tm:=HB 0 (args'.map (AP (Bs o))),hp:=Ca hp (Bs o) 0 o,c:=1}with
    |some x=>
     if args'.all Cd&&(args'.map (AP (Bs o))).all Cd&&Ou (ddN [] ((args'.map (AP (Bs o))).flatMap rf1)) (List.range E.a.e)&&Ou (o.take E.a.e) (ddN [] (args'.flatMap rf1))&&Nat.beq (ddN [] (args'.flatMap rf1)).length E.a.e&&Nat.ble o.length 16&&HV tm hp b&&Nat.beq (Cu E.a.params).length args'.length&&o.all (fun id=>Nat.blt id b&&Pm id (EI (Ct E.a.params) args))then
      (E.F x).bind fun y=>
       let r:=AG 0 E.a.res y
       let f:=Hd o E.a.e r.2.length b
       if Nat.ble E.a.e r.2.length&&Nat.ble r.2.length (E.a.e+16)then
        Ns hp (BQ f r.2) (o.take E.a.e) (IZ (SI (r.1.map fun p=>AP f p.2)) fun v=>
         Vb o ((EI (Ct E.a.params) args).isEmpty||L7 (r.1.map (·.2)) r.2)
          (K v (BQ f r.2++hp) .M)
          (K v (BQ f r.2++Cp hp (EI (Ct E.a.params) args)) .E)
          (K v (BQ f r.2++BN hp (o.drop E.a.e)) .E)
          (K v (BQ f r.2++BN (Cp hp (EI (Ct E.a.params) args)) (o.drop E.a.e)) .E))
       else none
     else none
    |none=>none
   |none=>none
  |none=>none
 |none=>none
def O6:Operand->Operand->Bool
 |.tmp a,.tmp b=>Nat.beq a b
 |_,_=>false
def erC(b:BinOp)(y:Operand):Option Bool:=
 match b,y with
 |.eql,.const .nilIface=>some true
 |.neq,.const .nilIface=>some false
 |_,_=>none
def AV(op:Op)(b:Nat)(tm:TTm)(hp:THp)(K:SV->THp->Cls->Option α):Option α:=
 match op with
 |.store t a x=>Ro X t (opT tm a) (opT tm x) hp K
 |.buildSlice t len parts=>Nm X t len parts.toList tm hp b K
 |.slice t x lo hi none=>Ri X t (opT tm x) lo hi tm hp fun v=>K v hp .M
 |.move x|.assign x=>IZ (opT tm x) fun v=>K v hp .T
 |.pick c x y=>(match opT tm c with|.bool t=>cond t (IZ (opT tm x) fun v=>K v hp .T) (IZ (opT tm y) fun v=>K v hp .T)|_=>none)
 |.build t parts=>(match getD X.ty t with|some d=>if d.agg&& !d.flds.isEmpty then Pf d.flds tm (d.zero.map IL) parts.toList fun cs=>K (.agg cs) hp .T else none|none=>none)
 |.nilCheck x=>(match opT tm x with|.rf id r c=>K (.rf id r c) hp .T|.ir t a c=>K (.ir t a c) hp .T|.cl f caps=>K (.cl f caps) hp .T|_=>none)
 |.binOp op t x y _=>
  (match Uw op y with
  |true=>(match getD X.ty t,opT tm x with|some d,.im _ l=>(match d.elem with|some _=>(neL l).bind fun _=>K (.bool false) hp .T|none=>none)|_,_=>none)
  |false=>(match erC op y with
   |some s=>(match opT tm x with
    |.er e=>cond (Pw X t) (K (.bool (cond s (!e) e)) hp .T) none
    |_=>SR X op t (opT tm x) (opT tm y) fun v=>K v hp .T)
   |none=>SR X op t (opT tm x) (opT tm y) fun v=>K v hp .T))
 |.unOp u _ x=>tUn u (opT tm x) fun v=>K v hp .T
 |.convert s d x=>TN X s d (opT tm x) hp fun v c=>K v hp c
 |.field t x k=>
  match opT tm x,getD X.ty t with
  |.agg cs,some d=>(match d.flds[k]? with|some f=>tMk f.agg (Nv cs f.off f.size) fun v=>K v hp .T|none=>none)
  |_,_=>none
 |.fieldAddr t x k=>
  match getD X.ty t with
  |some d=>
   match d.flds[k]?,opT tm x with
   |some f,.rf id r c=>K (.rf id r (c+f.off)) hp .T
   |some f,.ir t a c=>K (.ir t a (c+f.off)) hp .T
   |_,_=>none
  |none=>none
 |.index t x i=>
  match FA X t,opT tm x,opT tm i with
  |true,.str s,.int _ n=>(Ej s n).bind fun c=>K (.int .u8 (c.toNat:Int)) hp .T
  |_,_,_=>none
 |.indexAddr t x i=>Vc X t (opT tm x) (opT tm i) hp fun v c=>K v hp c
 |.slice t x lo (some hi) (some mx)=>
  match IG X t,opT tm x with
  |some (_,_,_),.im _ l=>
   match KL tm lo 0,KL tm (some hi) 0,KL tm (some mx) 0 with
   |some lo,some hi,some mx=>cond (decide (lo=0/\hi=0/\mx=0)) (K .em hp .T) none
   |_,_,_=>none
  |_,_=>none
 |.extract x k=>(match opT tm x with|.tup vs=>(match vs[k]? with|some v=>IZ v fun v=>K v hp .T|none=>none)|_=>none)
 |.makeFunc (.func f) first caps=>if first.isEmpty&&(caps.toList.map (opT tm)).all okT then K (.cl f (caps.toList.map (opT tm))) hp .T else none
 |.call {callee:=.builtin .append,args,argTypes}=>(match args.toList with|[s,x]=>Pt X argTypes.toList (opT tm s) (opT tm x) tm hp b K|_=>none)
 |.call {callee:=.builtin .len,args,argTypes}=>(match args.toList,argTypes.toList with|[x],[t]=>Vk X t (opT tm x) hp fun v=>K v hp .T|_,_=>none)
 |.call {callee:=.builtin .min,args, .. }=>I3 false (args.toList.map (opT tm)) fun v=>K v hp .T
 |.call {callee:=.builtin .max,args, .. }=>I3 true (args.toList.map (opT tm)) fun v=>K v hp .T
 |.call {callee:=.value f,args, .. }=>(match opT tm f with|.cl g caps=>Si X g (args.toList.map (opT tm)++caps) tm hp b K|_=>none)
 |.alloc t=>(match getD X.ty t with|some d=>if C2 tm hp b then K (.rf b 0 0) ((b,some (.box t (d.zero.map IL)))::hp) .M else none|none=>none)
 |.box t x=>(match getD X.ty t with|some d=>if Nat.beq (BA (opT tm x)).length d.size&&(BA (opT tm x)).all okT&&C2 tm hp b then K (.rf b 0 0) ((b,some (.box t (BA (opT tm x))))::hp) .M else none|none=>none)
 |.load t a=>PE X t (opT tm a) hp fun v=>K v hp .M
 |.makeSlice t l c=>TY X t (O6 l c) (opT tm l) (opT tm c) tm hp b K
 |_=>none
def Sw(draw:Bool)(op:Op)(b:Nat)(tm:TTm)(hp:THp)(K:SV->THp->Cls->Option α):Option α:=
 match draw&&isR op with
 |true=>AV X op b tm (NL b hp) fun x _ cls=>K x hp cls
 |false=>AV X op b tm hp K
def LR(draw ok:Bool)(cls:Cls)(A:Option α):Option α:=
 match draw,cls with
 |true,.E=>cond ok A none
 |_,_=>A
def OU(tm:TTm)(op:Op):Bool:=(op.operands.toList.map (opT tm)).all Cd
def RK(tm:TTm)(op:Op):List Nat:=(op.operands.toList.map (opT tm)).flatMap rf1
def Hx(op:Op)(tm:TTm)(hp:THp):Option (List Nat):=
 match op with
 |.store _ a x=>if Cd (opT tm a)&&Cd (opT tm x)then some (rf1 (opT tm a)++rf1 (opT tm x))else none
 |.call {callee:=.value f,args, .. }=>
  match opT tm f with
  |.cl g caps=>
   match Lu X.ents g with
   |some E=>
    match HK hp (Ct E.a.params) (args.toList.map (opT tm)++caps)with
    |some args'=>if args'.all Cd then(match CY hp 64 (args'.flatMap rf1) []with|some o=>some (o++EI (Ct E.a.params) (args.toList.map (opT tm)++caps))|none=>none)else none
    |none=>none
   |none=>none
  |_=>none
 |.buildSlice _ (_+1) parts=>if parts.toList.all fun p=>Cd (opT tm p.2)then some (parts.toList.flatMap fun p=>rf1 (opT tm p.2))else none
 |_=>none
def Qz(ops:List Oper)(tm:TTm)(hp:THp)(i:Nat):Bool:=
 match ops[i]? with
 |some a=> !C6 ops a&&(match Hx X a.op tm hp with
  |some ids=>(List.range ops.length).all fun j=>j==i||Cc ops i j||(match ops[j]? with
   |some o=>isT o.op||(isR o.op&&decide (j<i)&&SL ops j i o&&(OU tm o.op&&(RK tm o.op).all fun id=> !ids.contains id))
   |none=>true)
  |none=>false)
 |none=>false
def GI(tm:TTm)(dst:Option Tmp)(x:SV):TTm:=
 match dst with
 |some d=>(d,x)::tm
 |none=>tm
def HD(all:List Oper)(draw:Bool):List Oper->Nat->TSt->(TSt->Option α)->Option α
 |[],_,st,K=>K st
 |o::l,i,st,K=>
  match o.guard with
  |none=>
   Sw X draw o.op (16*(st.c+i)) st.tm st.hp fun x hp cls=>LR draw (eOK all i||Qz X all st.tm st.hp i) cls (HD all draw l (i+1) {tm:=GI st.tm o.dst x,hp:=hp,c:=st.c} K)
  |some (j,want)=>
   match (all[j]?).bind (·.dst)with
   |some d=>
    match AW st.tm d with
    |.bool t=>
     let go (tm:TTm):Option α:=Sw X draw o.op (16*(st.c+i)) tm st.hp fun x hp cls=>LR draw (eOK all i||Qz X all tm st.hp i) cls (HD all draw l (i+1) {tm:=GI tm o.dst x,hp:=hp,c:=st.c} K)
     let no (tm:TTm):Option α:=HD all draw l (i+1) {tm:=GI tm o.dst (.tup []),hp:=st.hp,c:=st.c} K
     match want with
     |true=>cond t (go ((d,.bool true)::st.tm)) (no ((d,.bool false)::st.tm))
     |false=>cond t (no ((d,.bool true)::st.tm)) (go ((d,.bool false)::st.tm))
    |.tup []=>HD all draw l (i+1) {tm:=GI st.tm o.dst (.tup []),hp:=st.hp,c:=st.c} K
    |_=>none
   |none=>none
end
@[reducible] def ST:List (Ex×List Item)->Type
 |[]=>Empty
 |[a]=>Bb a.2
 |a::b::l=>Bb a.2⊕ST (b::l)
def Pd(e:Nat):(l:List (Ex×List Item))->Ex->TSt->Option (ST l)
 |[],_,_=>none
 |[a],ex,st=>cond (L2 a.1 ex) (CP e a.2 st) none
 |a::b::l,ex,st=>cond (L2 a.1 ex) ((CP e a.2 st).map .inl) ((Pd e (b::l) ex st).map .inr)
def Rq{α:Type}(K:Ex->TSt->Option α):(l:List (Ex×List Item))->ST l->Option α
 |[]=>fun d=>nomatch d
 |[a]=>fun d=>K a.1 (Dw a.2 d)
 |a::b::l=>fun d=>Sum.elim (fun d=>K a.1 (Dw a.2 d)) (Rq K (b::l)) d
abbrev RZ(α:Type):=Ex->TSt->Option α
def TX.e(X:TX):Nat:=X.ann.e
def wtC (X:TX):Code->{α:Type}->TSt->RZ α->Option α
 |.skip,_,st,Q=>Q .normal st
 |.region _ ops draw,_,st,Q=>HD X (reo draw ops.toList) draw (reo draw ops.toList) 0 st fun s=>Q .normal {s with c:=s.c+ops.size}
 |.seq a b,_,st,Q=>
  match E5 X.ann.joins (rid b)with
  |none=>wtC X a st fun ex s=>match ex with|.normal=>wtC X b s Q|ex=>Q ex s
  |some an=>
   (wtC X a (α:=_⊕Bb an) st fun ex s=>match ex with|.normal=>(CP X.e an s).map .inr|ex=>(Q ex s).map .inl).bind fun z=>Sum.elim some (fun d=>wtC X b (Dw an d) Q) z
 |.cond c x y,_,st,Q=>
  match opT st.tm c with
  |.bool t=>cond t (wtC X x st Q) (wtC X y st Q)
  |_=>none
 |.block id c,_,st,Q=>wtC X c st fun ex s=>match ex with|.exit j=>cond (Nat.beq j id) (Q .normal s) (Q (.exit j) s)|ex=>Q ex s
 |.loop c,_,st,Q=>
  match E5 X.ann.heads (rid c),E5 X.ann.outs (rid c)with
  |some an,some outs=>
   (CP X.e an st).bind fun d0=>
   (Ax (fun d=>wtC X c (Dw an d) fun ex s=>match ex with|.normal=>(CP X.e an s).map .inl|ex=>(Pd X.e outs ex s).map .inr) d0).bind fun z=>Rq Q outs z
  |_,_=>none
 |.exit id,_,st,Q=>Q (.exit id) st
 |.ret,_,st,Q=>Q .ret st
 |_,_,_,_=>none
def OW{α:Type}(X:TX)(tm:TTm)(hp:THp):List ResultVar->(List SV->Option α)->Option α
 |[],K=>K []
 |.tmp t::l,K=>OW X tm hp l fun xs=>K (AW tm t::xs)
 |.cell a t::l,K=>PE X t (AW tm a) hp fun x=>OW X tm hp l fun xs=>K (x::xs)
def tnR:List TMs->List SV->THp->Nat->Option (List SV×THp)
 |[],[],hp,_=>some ([],hp)
 |m::ms,x::xs,hp,c=>
  match tnV m x hp (16*c)with
  |some (y,hp1,n)=>if Nat.ble n 16 then(match tnR ms xs hp1 (c+1)with|some (ys,hp2)=>some (y::ys,hp2)|none=>none)else none
  |none=>none
 |_,_,_,_=>none
def RI(rts:List (Nat×TMs))(hp:THp):Bool:=rts.all fun p=>Nat.blt p.1 16&&(match An hp p.1 with|some (.box _ _)=>true|_=>false)
def SP(res:List Item)(e:Nat)(s:TSt)(xs:List SV):Option (Bb res):=
 let rts:=KP (BH res) e 0 (BH res)
 if RI rts s.hp&&xs.all Cd&&HV (HB 0 xs) s.hp (16*(s.c+1))then
  match tnR (rts.map (·.2)++(EE (BH res) res).map (·.2)) (rts.map (fun p=>SV.rf p.1 0 0)++xs) s.hp (s.c+1)with
  |some (ys,hp)=>
   let zs:=ys.drop rts.length
   if zs.all Cd then
    match CY hp 64 (List.range e++zs.flatMap rf1) []with
    |some o=>if Ou (o.take e) (List.range e)then rdI 0 res (HB 0 (zs.map (AP (Bs o)))) (Ca hp (Bs o) 0 o)else none
    |none=>none
   else none
  |none=>none
 else none
def wtF (X:TX) (fn:Func) (x:Bb X.ann.params):Option (Bb X.ann.res):=
 match fn.body with
 |some c=>wtC X c (Dw X.ann.params x) fun ex s=>
  match ex with
  |.exit _=>none
  |_=>OW X s.tm s.hp fn.results.toList fun xs=>SP X.ann.res X.e s xs
 |none=>none
end
section
open Go
def RLx{α:Type}(R:α->List V->Prop)(l:List α)(rows:List (List V)):Prop:=
 rows.length=l.length/\∀(i:Nat)(a:α)(r:List V),l[i]? =some a->rows[i]? =some r->R a r
section
variable {α:Type} {R:α->List V->Prop} {l m:List α} {rows rs:List (List V)}
theorem RLx.nil:RLx R ([]:List α) []:=⟨rfl,fun i a r h=>by simp at h⟩
theorem RLx.of_nil(h:RLx R ([]:List α) rows):rows=[]:=zb7 h.1
theorem RLx.get(h:RLx R l rows){i:Nat}{a:α}(hi:l[i]? =some a):∃r,rows[i]? =some r/\R a r:=by
 have hlt:i<rows.length:=by rw[h.1];exact(za0.1 hi).1
 exact⟨rows[i],za2 hlt,h.2 i a _ hi (za2 hlt)⟩
theorem RLx.get'(h:RLx R l rows){i:Nat}{r:List V}(hi:rows[i]? =some r):∃a,l[i]? =some a/\R a r:=by
 have hlt:i<l.length:=by rw[<-h.1];exact(za0.1 hi).1
 exact⟨l[i],za2 hlt,h.2 i _ r (za2 hlt) hi⟩
theorem RLx.mono{R':α->List V->Prop}(h:RLx R l rows)(hm:∀a r,R a r->R' a r):RLx R' l rows:=⟨h.1,fun i a r h1 h2=>hm a r (h.2 i a r h1 h2)⟩
theorem RLx.set(h:RLx R l rows)(k:Nat){z:α}{r:List V}(hz:R z r):RLx R (l.set k z) (rows.set k r):=by
 refine⟨by simp[h.1],fun i a q h1 h2=> ?_⟩
 rw[List.getElem?_set]at h1 h2;by_cases hk:k=i
 ·subst hk;rw[zr rfl]at h1 h2
  split at h1
  ·split at h2
   ·cases h1;cases h2;exact hz
   ·cases h2
  ·cases h1
 ·rw[zw hk]at h1 h2;exact h.2 i a q h1 h2
theorem RLx.append(h:RLx R l rows)(k:RLx R m rs):RLx R (l++m) (rows++rs):=by
 refine⟨by simp[h.1,k.1],fun i a q h1 h2=> ?_⟩
 rw[zc4]at h1 h2;rw[h.1]at h2
 split at h1
 ·rename_i hi;rw[zr hi]at h2;exact h.2 i a q h1 h2
 ·rename_i hi;rw[zw hi]at h2;exact k.2 _ a q h1 h2
theorem RLx.take(h:RLx R l rows)(n:Nat):RLx R (l.take n) (rows.take n):=by
 refine⟨by simp[h.1],fun i a q h1 h2=> ?_⟩
 rw[zb3]at h1 h2
 split at h1
 ·rename_i hi;rw[zr hi]at h2;exact h.2 i a q h1 h2
 ·cases h1
theorem RLx.drop(h:RLx R l rows)(n:Nat):RLx R (l.drop n) (rows.drop n):=by
 refine⟨by simp[h.1],fun i a q h1 h2=> ?_⟩
 rw[zb8]at h1 h2;exact h.2 _ a q h1 h2
theorem RLx.replicate{z:α}{r:List V}(h:R z r)(n:Nat):RLx R (List.replicate n z) (List.replicate n r):=by
 refine⟨by simp,fun i a q h1 h2=> ?_⟩
 rw[List.getElem?_replicate]at h1 h2
 split at h1
 ·rename_i hi;rw[zr hi]at h2;cases h1;cases h2;exact h
 ·cases h1
theorem RLx.cons{a:α}{r:List V}(h:R a r)(k:RLx R l rows):RLx R (a::l) (r::rows):=by
 refine⟨by simp[k.1],fun i a' q h1 h2=> ?_⟩
 cases i with
 |zero=>simp at h1 h2;subst h1;subst h2;exact h
 |succ i=>exact k.2 i a' q (by simpa using h1) (by simpa using h2)
end
def RE:(t:Ty)->t.den->List V->Prop
 |.int k,n,row=>row=[.v (.int k n)]
 |.bool,b,row=>row=[.v (.bool b)]
 |.str,s,row=>row=[.v (.string ⟨s.toArray⟩)]
 |.pair a b,x,row=>∃r1 r2,row=r1++r2/\RE a x.1 r1/\RE b x.2 r2
 |.sl e,l,row=>(l=[]/\row=[.em])\/∃rows,row=[.im rows]/\RLx (RE e) l rows
theorem RE.len:∀{t:Ty}{a:t.den}{row:List V},RE t a row->row.length=t.size
 |.int _,_,_,h=>by simp only[RE]at h;subst h;rfl
 |.bool,_,_,h=>by simp only[RE]at h;subst h;rfl
 |.str,_,_,h=>by simp only[RE]at h;subst h;rfl
 |.pair a b,x,_,h=>by
  obtain⟨r1,r2,rfl,h1,h2⟩:=h;simp[Ty.size,h1.len,h2.len]
 |.sl e,_,_,h=>by
  rcases h with⟨_,rfl⟩|⟨rows,rfl,_⟩<;>rfl
def Cw:TB->Option Nat
 |.box _ _=>none
 |.arr _ _ _ l=>some l.length
 |.frz _ _ _ l=>some l.length
def RV0(hp:THp):SV->V->Prop
 |.int k n,y=>y=.v (.int k n)
 |.bool b,y=>y=.v (.bool b)
 |.str s,y=>y=.v (.string ⟨s.toArray⟩)
 |.sc x,y=>y=.v x
 |.er b,y=>y=.er b
 |.em,y=>y=.em
 |.im t l,y=>(l=[]/\y=.em)\/∃rows,y=.im rows/\RLx (RE t) l rows
 |.ow id,y=>∃n,y=.ar id 0 n/\∀b,An hp id=some b->Cw b=some n
 |.ar id lo n,y=>y=.ar id lo n
 |.rf id r c,y=>y=.rf id r c
 |.ir t a c,y=>∃row,y=.ir row c/\RE t a row
 |.cl f [],y=>y=.cl f []
 |.any,_=>True
 |_,_=>False
def RC(R:SV->V->Prop):List SV->List V->Prop
 |[],[]=>True
 |x::xs,y::ys=>R x y/\RC R xs ys
 |_,_=>False
def RV1(hp:THp):SV->V->Prop
 |.agg cs,y=>∃us,y=.agg us/\RC (RV0 hp) cs us
 |.cl f caps,y=>∃us,y=.cl f us/\RC (RV0 hp) caps us
 |x,y=>RV0 hp x y
def RV2(hp:THp):SV->V->Prop
 |.tup vs,y=>∃us,y=.tup us/\RC (RV1 hp) vs us
 |x,y=>RV1 hp x y
section
variable {R R':SV->V->Prop}
theorem RC.length:∀{xs:List SV}{ys:List V},RC R xs ys->ys.length=xs.length
 |[],[],_=>rfl
 |_::xs,_::ys,h=>by simp[RC.length (xs:=xs) (ys:=ys) h.2]
 |[],_::_,h=>h.elim
 |_::_,[],h=>h.elim
theorem RC.mono:∀{xs:List SV}{ys:List V},RC R xs ys->(∀x∈xs,∀y,R x y->R' x y)->RC R' xs ys
 |[],[],_,_=>trivial
 |x::xs,y::ys,h,hm=>⟨hm x (by simp) y h.1,RC.mono h.2 fun x hx=>hm x (by simp[hx])⟩
 |[],_::_,h,_=>h.elim
 |_::_,[],h,_=>h.elim
theorem RC.append:∀{xs xs':List SV}{ys ys':List V},RC R xs ys->RC R xs' ys'->RC R (xs++xs') (ys++ys')
 |[],_,[],_,_,h=>h
 |_::xs,_,_::ys,_,h,h'=>⟨h.1,RC.append h.2 h'⟩
 |[],_,_::_,_,h,_=>h.elim
 |_::_,_,[],_,h,_=>h.elim
theorem RC.take:∀{xs:List SV}{ys:List V}(n:Nat),RC R xs ys->RC R (xs.take n) (ys.take n)
 |[],[],n,_=>by simp[RC]
 |a::xs,b::ys,0,_=>by simp[RC]
 |a::xs,b::ys,n+1,h=>⟨h.1,RC.take n h.2⟩
 |[],_::_,_,h=>h.elim
 |_::_,[],_,h=>h.elim
theorem RC.drop:∀{xs:List SV}{ys:List V}(n:Nat),RC R xs ys->RC R (xs.drop n) (ys.drop n)
 |[],[],n,_=>by simp[RC]
 |a::xs,b::ys,0,h=>h
 |a::xs,b::ys,n+1,h=>by simpa using RC.drop n h.2
 |[],_::_,_,h=>h.elim
 |_::_,[],_,h=>h.elim
theorem RC.get:∀{xs:List SV}{ys:List V},RC R xs ys->∀{j:Nat}{x:SV},xs[j]? =some x->∃y,ys[j]? =some y/\R x y
 |[],[],_,j,x,h=>by simp at h
 |a::xs,b::ys,h,0,x,hx=>by simp at hx;subst hx;exact⟨b,by simp,h.1⟩
 |a::xs,b::ys,h,j+1,x,hx=>by simpa using RC.get h.2 (by simpa using hx)
 |[],_::_,h,_,_,_=>h.elim
 |_::_,[],h,_,_,_=>h.elim
theorem RC.map{α:Type}{f:α->SV}{g:α->V}:∀{l:List α},(∀x∈l,R (f x) (g x))->RC R (l.map f) (l.map g)
 |[],_=>trivial
 |x::l,h=>⟨h x (by simp),RC.map fun y hy=>h y (by simp[hy])⟩
end
theorem RC.seg{hp:THp}{cs l:List SV}{us:List V}{off n:Nat}(h:Nv cs off n=some l)(hr:RC (RV0 hp) cs us):∃vs,seg us off n=some vs/\RC (RV0 hp) l vs:=by
 unfold Nv at h
 split at h
 ·rename_i hn;cases h
  refine⟨_,by unfold Ev.seg;rw[zr (by rw[hr.length];exact hn)],(hr.drop off).take n⟩
 ·cases h
theorem RC.put{hp:THp}{cs cs' new:List SV}{us vs:List V}{off:Nat}(h:QJ cs off new=some cs')(hr:RC (RV0 hp) cs us)(hn:RC (RV0 hp) new vs):∃us',C3 us off vs=some us'/\RC (RV0 hp) cs' us':=by
 unfold QJ at h
 split at h
 ·rename_i hl;cases h
  have h1:=hr.length;have h2:=hn.length;refine⟨_,by unfold C3;rw[zr (by omega)],?_⟩
  rw[h2];exact((hr.take off).append hn).append (hr.drop _)
 ·cases h
theorem RV0.to1{hp:THp}:∀{x:SV}{y:V},RV0 hp x y->RV1 hp x y
 |.cl f [],y,h=>⟨[],h,trivial⟩
 |.cl _ (_::_),_,h=>h.elim
 |.agg _,_,h=>h.elim
 |.tup _,_,h=>h
 |.int ..,_,h|.bool _,_,h|.str _,_,h|.sc _,_,h|.er _,_,h|.em,_,h|.im ..,_,h|.ow _,_,h|.ar ..,_,h|.rf ..,_,h|.ir ..,_,h|.any,_,h=>h
theorem RV1.to2{hp:THp}:∀{x:SV}{y:V},RV1 hp x y->RV2 hp x y
 |.tup _,_,h=>False.elim h
 |.cl ..,_,h|.agg _,_,h|.int ..,_,h|.bool _,_,h|.str _,_,h|.sc _,_,h|.er _,_,h|.em,_,h|.im ..,_,h|.ow _,_,h|.ar ..,_,h|.rf ..,_,h|.ir ..,_,h|.any,_,h=>h
def Bk(hp hp':THp)(id:Nat):Prop:=∀b',An hp' id=some b'->∃b,An hp id=some b/\Cw b=Cw b'
theorem Bk.refl(hp:THp)(id:Nat):Bk hp hp id:=fun b h=>⟨b,h,rfl⟩
theorem Bk.trans{a b c:THp}{id:Nat}(h:Bk a b id)(k:Bk b c id):Bk a c id:=fun x hx=>by
 obtain⟨y,hy,e⟩:=k x hx;obtain⟨z,hz,e'⟩:=h y hy;exact⟨z,hz,e'.trans e⟩
theorem RV0.keeps{hp hp':THp}:∀{x:SV}{y:V},RV0 hp x y->(∀id∈Cn x,Bk hp hp' id)->RV0 hp' x y
 |.ow id,y,⟨n,hy,h⟩,hk=>⟨n,hy,fun b hb=>by
   obtain⟨b0,h0,e⟩:=hk id (by simp[Cn]) b hb;rw[<-e];exact h b0 h0⟩
 |.cl _ [],_,h,_=>h
 |.cl _ (_::_),_,h,_=>h.elim
 |.int ..,_,h,_|.bool _,_,h,_|.str _,_,h,_|.sc _,_,h,_|.er _,_,h,_|.em,_,h,_|.im ..,_,h,_|.ar ..,_,h,_|.rf ..,_,h,_|.ir ..,_,h,_|.any,_,h,_=>h
 |.agg _,_,h,_=>h.elim
 |.tup _,_,h,_=>h.elim
theorem RV1.keeps{hp hp':THp}{x:SV}{y:V}(h:RV1 hp x y)(hk:∀id∈KC x,Bk hp hp' id):RV1 hp' x y:=by
 have key:∀{cs:List SV}{us:List V},(∀id∈cs.flatMap Cn,Bk hp hp' id)->RC (RV0 hp) cs us->RC (RV0 hp') cs us:=fun hk h=>
  h.mono fun x hx y hxy=>hxy.keeps fun id hid=>hk id (za6.2 ⟨x,hx,hid⟩)
 cases x with
 |agg cs=>obtain⟨us,rfl,h⟩:=h;exact⟨us,rfl,key hk h⟩
 |cl f cs=>obtain⟨us,rfl,h⟩:=h;exact⟨us,rfl,key hk h⟩
 |int k n=>exact RV0.keeps (x:=.int k n) h hk
 |bool b=>exact RV0.keeps (x:=.bool b) h hk
 |str s=>exact RV0.keeps (x:=.str s) h hk
 |sc v=>exact RV0.keeps (x:=.sc v) h hk
 |em=>exact RV0.keeps (x:=.em) h hk
 |er e=>exact RV0.keeps (x:=.er e) h hk
 |im t l=>exact RV0.keeps (x:=.im t l) h hk
 |ow id=>exact RV0.keeps (x:=.ow id) h hk
 |ar a b c=>exact RV0.keeps (x:=.ar a b c) h hk
 |rf a b c=>exact RV0.keeps (x:=.rf a b c) h hk
 |ir a b c=>exact RV0.keeps (x:=.ir a b c) h hk
 |tup l=>exact h.elim
 |any=>trivial
theorem RV2.keeps{hp hp':THp}{x:SV}{y:V}(h:RV2 hp x y)(hk:∀id∈C4 x,Bk hp hp' id):RV2 hp' x y:=by
 cases x with
 |tup vs=>obtain⟨us,rfl,h⟩:=h;exact⟨us,rfl,h.mono fun x hx y hxy=>hxy.keeps fun id hid=>hk id (za6.2 ⟨x,hx,hid⟩)⟩
 |agg cs=>exact RV1.keeps (x:=.agg cs) h hk
 |cl f cs=>exact RV1.keeps (x:=.cl f cs) h hk
 |int k n=>exact RV1.keeps (x:=.int k n) h hk
 |bool b=>exact RV1.keeps (x:=.bool b) h hk
 |str s=>exact RV1.keeps (x:=.str s) h hk
 |sc v=>exact RV1.keeps (x:=.sc v) h hk
 |em=>exact RV1.keeps (x:=.em) h hk
 |er e=>exact RV1.keeps (x:=.er e) h hk
 |im t l=>exact RV1.keeps (x:=.im t l) h hk
 |ow id=>exact RV1.keeps (x:=.ow id) h hk
 |ar a b c=>exact RV1.keeps (x:=.ar a b c) h hk
 |rf a b c=>exact RV1.keeps (x:=.rf a b c) h hk
 |ir a b c=>exact RV1.keeps (x:=.ir a b c) h hk
 |any=>trivial
def RB(hp:THp):TB->Blk->Prop
 |.box ty cs,k=>k.kind=.box/\k.ty=ty/\∃row,k.rows=[row]/\k.size=row.length/\RC (RV0 hp) cs row
 |.arr ty deep t l,k=>k.kind=.arr/\k.ty=ty/\k.deep=deep/\k.size=t.size/\RLx (RE t) l k.rows
 |.frz ty deep t l,k=>k.kind=.frz/\k.ty=ty/\k.deep=deep/\k.size=t.size/\RLx (RE t) l k.rows
theorem RB.keeps{hp hp':THp}:∀{b:TB}{k:Blk},RB hp b k->(∀id∈EN b,Bk hp hp' id)->RB hp' b k
 |.box ty cs,k,⟨h1,h2,row,h3,h4,h5⟩,hk=>⟨h1,h2,row,h3,h4,h5.mono fun x hx y hxy=>hxy.keeps fun id hid=>hk id (za6.2 ⟨x,hx,hid⟩)⟩
 |.arr ..,_,h,_=>h
 |.frz ..,_,h,_=>h
def RH(hp:THp)(h:Hp):Prop:=∀id b,An hp id=some b->∃k,h id=some k/\RB hp b k
def RT(hp:THp)(tm:TTm)(m:Tm):Prop:=∀t,RV2 hp (AW tm t) (m t)
structure RS (st:TSt) (s:St):Prop where
 tm:RT st.hp st.tm s.tm
 hp:RH st.hp s.hp
 c:s.c=st.c
theorem Al(k:Nat)(x:Option TB)(l:THp)(i:Nat):An ((k,x)::l) i=if i=k then x else An l i:=by
 simp only[An];by_cases h:i=k
 ·subst h;simp
 ·rw[zw h];have:Nat.beq i k=false:=by cases hb:Nat.beq i k with|false=>rfl|true=>exact absurd (za4 hb) h
  rw[this];rfl
theorem Cq(k:Nat)(x:SV)(l:TTm)(i:Nat):AW ((k,x)::l) i=if i=k then x else AW l i:=by
 simp only[AW];by_cases h:i=k
 ·subst h;simp
 ·rw[zw h];have:Nat.beq i k=false:=by cases hb:Nat.beq i k with|false=>rfl|true=>exact absurd (za4 hb) h
  rw[this];rfl
theorem M9{tm:TTm}{t:Nat}:AW tm t=.any\/∃x∈tm,x.2=AW tm t:=by
 induction tm with
 |nil=>exact .inl rfl
 |cons a l ih=>
  obtain⟨k,x⟩:=a;rw[Cq]
  split
  ·exact .inr ⟨(k,x),by simp,rfl⟩
  ·rcases ih with h|⟨y,hy,h⟩
   ·exact .inl h
   ·exact .inr ⟨y,by simp[hy],h⟩
theorem Sa{hp:THp}{id:Nat}{b:TB}(h:An hp id=some b):∃x∈hp,x.2=some b:=by
 induction hp with
 |nil=>cases h
 |cons a l ih=>
  obtain⟨k,x⟩:=a;rw[Al]at h
  split at h
  ·exact⟨(k,x),by simp,h⟩
  ·obtain⟨y,hy,h⟩:=ih h;exact⟨y,by simp[hy],h⟩
theorem H7{b:Nat}{l:List Nat}(h:Pm b l=true):b ∉ l:=by
 intro hm;have:=za3.1 h b hm;simp at this
theorem Eu{tm:TTm}{hp:THp}{b:Nat}(h:C2 tm hp b=true)(t:Nat):b ∉ C4 (AW tm t):=by
 simp only[C2,za1]at h;rcases M9 (tm:=tm) (t:=t)with h'|⟨x,hx,h'⟩
 ·rw[h'];simp[C4,KC,Cn]
 ·rw[<-h'];exact H7 (za3.1 h.1 x hx)
theorem Hn{tm:TTm}{hp:THp}{b:Nat}(h:C2 tm hp b=true){id:Nat}{k:TB}(hk:An hp id=some k):b ∉ EN k:=by
 simp only[C2,za1]at h;obtain⟨x,hx,h'⟩:=Sa hk;have:=za3.1 h.2 x hx;rw[h']at this;exact H7 this
theorem RT.keeps{hp hp':THp}{tm:TTm}{m:Tm}(h:RT hp tm m)(hk:∀t,∀id∈C4 (AW tm t),Bk hp hp' id):RT hp' tm m:=fun t=>(h t).keeps (hk t)
theorem Fd{hp:THp}{b:Nat}{x:Option TB}{id:Nat}(h:id≠b):Bk hp ((b,x)::hp) id:=fun k hk=>by
 rw[Al,zw h]at hk;exact⟨k,hk,rfl⟩
theorem Jm{hp:THp}{b:Nat}{x y:TB}(hx:An hp b=some x)(hl:Cw x=Cw y)(id:Nat):Bk hp ((b,some y)::hp) id:=fun k hk=>by
 rw[Al]at hk
 split at hk
 ·rename_i he;subst he;cases hk;exact⟨x,hx,hl⟩
 ·exact⟨k,hk,rfl⟩
theorem Oo{hp:THp}{b:Nat}(id:Nat):Bk hp ((b,none)::hp) id:=fun k hk=>by
 rw[Al]at hk
 split at hk
 ·cases hk
 ·exact⟨k,hk,rfl⟩
theorem Dc:∀(l:List Nat)(hp:THp)(id:Nat),Bk hp (BN hp l) id
 |[],hp,id=>Bk.refl hp id
 |b::l,hp,id=>(Oo id).trans (Dc l _ id)
theorem HF:∀(l:List Nat)(hp:THp)(id:Nat)(b:TB),An (BN hp l) id=some b->An hp id=some b/\id ∉ l
 |[],_,_,_,h=>⟨h,by simp⟩
 |x::l,hp,id,b,h=>by
  obtain⟨h1,h2⟩:=HF l _ id b h;rw[Al]at h1
  split at h1
  ·cases h1
  ·rename_i hne;exact⟨h1,by simp[hne,h2]⟩
theorem RH.kill{hp:THp}{h:Hp}(hr:RH hp h)(l:List Nat):RH (BN hp l) (Ev.kill h l):=fun id b hb=>by
 obtain⟨h1,h2⟩:=HF l hp id b hb;obtain⟨k,hk,hrb⟩:=hr id b h1;exact⟨k,by rw[D5 l h id h2];exact hk,hrb.keeps fun i _=>Dc l hp i⟩
theorem RH.put{hp:THp}{h:Hp}(hr:RH hp h){b:Nat}{x:TB}{k:Blk}(hk:∀id∈EN x,Bk hp ((b,some x)::hp) id)(hold:∀id y,id≠b->An hp id=some y->∀i∈EN y,Bk hp ((b,some x)::hp) i)(hx:RB hp x k):RH ((b,some x)::hp) (upd h b (some k)):=fun id y hy=>by
 rw[Al]at hy
 split at hy
 ·rename_i he;subst he;cases hy
  exact⟨k,by simp[upd],hx.keeps hk⟩
 ·rename_i he;obtain⟨k',hk',hr'⟩:=hr id y hy;exact⟨k',by simp[upd,he,hk'],hr'.keeps (hold id y he hy)⟩
end
section
open Go
theorem RE.cells{hp:THp}:∀{t:Ty}{a:t.den}{row:List V},RE t a row->RC (RV0 hp) (M6 t a) row
 |.int _,_,_,h=>by simp only[RE]at h;subst h;exact⟨rfl,trivial⟩
 |.bool,_,_,h=>by simp only[RE]at h;subst h;exact⟨rfl,trivial⟩
 |.str,_,_,h=>by simp only[RE]at h;subst h;exact⟨rfl,trivial⟩
 |.pair a b,x,_,h=>by
  obtain⟨r1,r2,rfl,h1,h2⟩:=h;exact h1.cells.append h2.cells
 |.sl e,l,_,h=>by
  rcases h with⟨rfl,rfl⟩|⟨rows,rfl,hr⟩
  ·exact⟨.inl ⟨rfl,rfl⟩,trivial⟩
  ·exact⟨.inr ⟨rows,rfl,hr⟩,trivial⟩
theorem CJ{t e:Ty}(h:t=e){l:List t.den}{rows:List (List V)}(hr:RLx (RE t) l rows):RLx (RE e) (DJ h l) rows:=by subst h;exact hr
theorem Mm{hp:THp}{e:Ty}{x:SV}{l:List e.den}{y:V}(h:asL e x=some l)(hv:RV0 hp x y):(l=[]/\y=.em)\/∃rows,y=.im rows/\RLx (RE e) l rows:=by
 unfold asL at h
 split at h
 ·cases h;exact .inl ⟨rfl,hv⟩
 ·split at h
  ·rename_i t l' he;cases h
   subst he;rcases hv with⟨rfl,rfl⟩|⟨rows,rfl,hr⟩
   ·exact .inl ⟨rfl,rfl⟩
   ·exact .inr ⟨rows,rfl,hr⟩
  ·cases h
 ·cases h
theorem Kj{hp:THp}:∀{t:Ty}{cs r:List SV}{x:t.den}{us:List V},H1 t cs=some (x,r)->RC (RV0 hp) cs us->∃row us',us=row++us'/\RE t x row/\RC (RV0 hp) r us'
 |.int k,cs,r,x,us,h,hv=>by
  cases cs with
  |nil=>simp[H1]at h
  |cons c cs=>
   cases c<;>simp only[H1,reduceCtorEq]at h
   rename_i k' n
   split at h
   ·rename_i hk;cases h
    subst hk;cases us with
    |nil=>exact hv.elim
    |cons u us=>obtain⟨h1,h2⟩:=hv;exact⟨[u],us,rfl,by simp only[RE];rw[h1],h2⟩
   ·cases h
 |.bool,cs,r,x,us,h,hv=>by
  cases cs with
  |nil=>simp[H1]at h
  |cons c cs=>
   cases c<;>simp only[H1,reduceCtorEq]at h
   cases h
   cases us with
   |nil=>exact hv.elim
   |cons u us=>obtain⟨h1,h2⟩:=hv;exact⟨[u],us,rfl,by simp only[RE];rw[h1],h2⟩
 |.str,cs,r,x,us,h,hv=>by
  cases cs with
  |nil=>simp[H1]at h
  |cons c cs=>
   cases c<;>simp only[H1,reduceCtorEq]at h
   cases h
   cases us with
   |nil=>exact hv.elim
   |cons u us=>obtain⟨h1,h2⟩:=hv;exact⟨[u],us,rfl,by simp only[RE];rw[h1],h2⟩
 |.pair a b,cs,r,x,us,h,hv=>by
  simp only[H1]at h
  split at h
  ·rename_i x1 r1 h1
   split at h
   ·rename_i y1 r2 h2;cases h
    obtain⟨row1,us1,rfl,e1,v1⟩:=Kj h1 hv;obtain⟨row2,us2,rfl,e2,v2⟩:=Kj h2 v1;exact⟨row1++row2,us2,by simp,⟨row1,row2,rfl,e1,e2⟩,v2⟩
   ·cases h
  ·cases h
 |.sl e,cs,r,x,us,h,hv=>by
  cases cs with
  |nil=>simp[H1]at h
  |cons c cs=>
   simp only[H1]at h
   split at h
   ·rename_i l h1;cases h
    cases us with
    |nil=>exact hv.elim
    |cons u us=>
     obtain⟨q1,q2⟩:=hv;refine⟨[u],us,rfl,?_,q2⟩
     rcases Mm h1 q1 with⟨rfl,rfl⟩|⟨rows,rfl,hr⟩
     ·exact .inl ⟨rfl,rfl⟩
     ·exact .inr ⟨rows,rfl,hr⟩
   ·cases h
theorem Jv{hp:THp}{t:Ty}{cs:List SV}{x:t.den}{us:List V}(h:RX t cs=some x)(hv:RC (RV0 hp) cs us):RE t x us:=by
 unfold RX at h
 split at h
 ·rename_i y hd;cases h
  obtain⟨row,us',rfl,e,v⟩:=Kj hd hv;cases us' with
  |nil=>simpa using e
  |cons a l=>exact v.elim
 ·cases h
theorem N0{hp:THp}(c:Value):RV0 hp (HC c) (BR c):=by
 unfold HC BR
 split
 ·simp[Dm,RV0]
 ·simp[Dm,RV0]
 ·simp[Dm,RV0]
 ·rfl
 ·split
  ·rename_i h1 h2 h3 h4 h5
   split
   ·exact absurd rfl h4
   ·rw[zr h5];rfl
  ·trivial
theorem KR{hp:THp}:∀(l:List Value),RC (RV0 hp) (l.map HC) (l.map BR)
 |[]=>trivial
 |c::l=>⟨N0 c,KR l⟩
theorem Qr{hp:THp}(c:Value):RV2 hp (Jp c) (FB c):=by
 unfold Jp FB
 split
 ·rename_i cs;exact⟨_,rfl,KR cs.toList⟩
 ·rename_i hn
  split
  ·rename_i cs;exact absurd rfl (hn cs)
  ·exact(N0 c).to1.to2
theorem Aw{hp:THp}{tm:TTm}{m:Tm}(h:RT hp tm m)(x:Operand):RV2 hp (opT tm x) (Ao m x):=by
 cases x with
 |tmp t=>exact h t
 |const c=>exact Qr c
 |global g=>trivial
 |func f=>exact⟨[],rfl,trivial⟩
theorem Hy{hp:THp}:∀(l:List V),RC (RV0 hp) (l.map IL) l
 |[]=>trivial
 |x::l=>by
  refine⟨?_,Hy l⟩
  unfold IL
  split<;>first|rfl|trivial
theorem D8{α:Type}(x:SV)(F:SV->α):IZ x F=F x:=by cases x<;>rfl
section
variable {hp:THp} {x:SV} {y:V}
theorem Ed{k:IntKind}{n:Int}(h:RV2 hp (.int k n) y):y=.v (.int k n):=h
theorem Gv{b:Bool}(h:RV2 hp (.bool b) y):y=.v (.bool b):=h
theorem HN{s:Str}(h:RV2 hp (.str s) y):y=.v (.string ⟨s.toArray⟩):=h
theorem Jo{cs:List SV}(h:RV2 hp (.agg cs) y):∃us,y=.agg us/\RC (RV0 hp) cs us:=h
theorem Pq{f:FuncId}{cs:List SV}(h:RV2 hp (.cl f cs) y):∃us,y=.cl f us/\RC (RV0 hp) cs us:=h
theorem Eg(hv:RV2 hp x y)(hok:(BA x).all okT=true):RC (RV0 hp) (BA x) (flat y)/\(flat y).all AM=true:=by
 have one:∀{x:SV}{y:V},RV0 hp x y->okT x=true->AM y=true:=by
  intro x y h hk;cases x with
  |int k n=>have:y=_:=h;subst this;rfl
  |bool b=>have:y=_:=h;subst this;rfl
  |str s=>have:y=_:=h;subst this;rfl
  |sc v=>have:y=_:=h;subst this;rfl
  |em=>have:y=_:=h;subst this;rfl
  |er e=>simp[okT]at hk
  |im t l=>rcases h with⟨_,rfl⟩|⟨rows,rfl,_⟩<;>rfl
  |ow id=>obtain⟨n,rfl,_⟩:=h;rfl
  |ar a b c=>have:y=_:=h;subst this;rfl
  |rf a b c=>have:y=_:=h;subst this;rfl
  |ir a b c=>obtain⟨row,rfl,_⟩:=h;rfl
  |agg cs=>simp[okT]at hk
  |tup cs=>simp[okT]at hk
  |cl f cs=>cases cs with
   |nil=>have:y=_:=h;subst this;rfl
   |cons a l=>simp[okT]at hk
  |any=>simp[okT]at hk
 have many:∀{xs:List SV}{ys:List V},RC (RV0 hp) xs ys->xs.all okT=true->ys.all AM=true:=by
  intro xs
  induction xs with
  |nil=>intro ys h _;cases ys with|nil=>rfl|cons a l=>exact h.elim
  |cons a l ih=>
   intro ys h hk;cases ys with
   |nil=>exact h.elim
   |cons b m=>
    simp only[zb5,za1]at hk⊢
    exact⟨one h.1 hk.1,ih h.2 hk.2⟩
 have single:RV0 hp x y->BA x=[x]->flat y=[y]->RC (RV0 hp) (BA x) (flat y)/\(flat y).all AM=true:=by
  intro h h1 h2;rw[h1]at hok⊢
  rw[h2];exact⟨⟨h,trivial⟩,many (xs:=[x]) (ys:=[y]) ⟨h,trivial⟩ hok⟩
 cases x with
 |agg cs=>obtain⟨us,rfl,h⟩:=hv;exact⟨h,many h hok⟩
 |int k n=>have:y=_:=hv;subst this;exact single rfl rfl rfl
 |bool b=>have:y=_:=hv;subst this;exact single rfl rfl rfl
 |str s=>have:y=_:=hv;subst this;exact single rfl rfl rfl
 |sc v=>have:y=_:=hv;subst this;exact single rfl rfl rfl
 |em=>have:y=_:=hv;subst this;exact single rfl rfl rfl
 |er e=>simp[BA,okT]at hok
 |im t l=>have hv':RV0 hp (.im t l) y:=hv;rcases hv with⟨_,rfl⟩|⟨rows,rfl,_⟩<;>exact single hv' rfl rfl
 |ow id=>have hv':RV0 hp (.ow id) y:=hv;obtain⟨n,rfl,_⟩:=hv;exact single hv' rfl rfl
 |ar a b c=>have:y=_:=hv;subst this;exact single rfl rfl rfl
 |rf a b c=>have:y=_:=hv;subst this;exact single rfl rfl rfl
 |ir a b c=>have hv':RV0 hp (.ir a b c) y:=hv;obtain⟨row,rfl,_⟩:=hv;exact single hv' rfl rfl
 |tup cs=>simp[BA,okT]at hok
 |cl f cs=>
  cases cs with
  |nil=>
   obtain⟨us,rfl,h⟩:=hv;cases us with
   |nil=>exact single rfl rfl rfl
   |cons a l=>exact h.elim
  |cons a l=>simp[BA,okT]at hok
 |any=>simp[BA,okT]at hok
end
theorem Ja{hp:THp}{g:Bool}{cs:List SV}{us:List V}{x:SV}(h:mkT g cs=some x)(hr:RC (RV0 hp) cs us):∃y,mk g us=some y/\RV2 hp x y:=by
 unfold mkT at h
 split at h
 ·rename_i hg;cases h
  exact⟨.agg us,by simp[mk,hg],us,rfl,hr⟩
 ·rename_i hg
  split at h
  ·cases h
   cases us with
   |nil=>exact hr.elim
   |cons u us=>
    cases us with
    |nil=>exact⟨u,by simp[mk,hg],hr.1.to1.to2⟩
    |cons a l=>exact hr.2.elim
  ·cases h
theorem Hg{α:Type}{g:Bool}{cs:Option (List SV)}{K:SV->Option α}{z:α}(h:tMk g cs K=some z):∃l x,cs=some l/\mkT g l=some x/\K x=some z:=by
 unfold tMk at h
 split at h
 ·split at h
  ·rename_i x hx;rw[D8]at h;exact⟨_,x,rfl,hx,h⟩
  ·cases h
 ·cases h
theorem AF{α β:Type}{x:Option α}{f:α->Option β}{z:β}(h:x.bind f=some z):∃a,x=some a/\f a=some z:=by
 cases x with
 |none=>cases h
 |some a=>exact⟨a,rfl,h⟩
theorem Gr{α:Type}{c:Bool}{A:Option α}{z:α}(h:cond c none A=some z):c=false/\A=some z:=by
 cases c with
 |true=>cases h
 |false=>exact⟨rfl,h⟩
theorem Bp{α:Type}{c:Bool}{A:Option α}{z:α}(h:cond c A none=some z):c=true/\A=some z:=by
 cases c with
 |false=>cases h
 |true=>exact⟨rfl,h⟩
theorem Cz{α:Type}{X:Option V}{k:IntKind}{n:Int}{K:SV->Option α}{z:α}(h:K (.int k n)=some z)(he:X=some (.v (.int k n))):∃v u,X=some (.v u)/\(∀hp,RV2 hp v (.v u))/\K v=some z:=⟨.int k n,.int k n,he,fun _=>rfl,h⟩
theorem Dd{α:Type}{X:Option V}{b:Bool}{K:SV->Option α}{z:α}(h:K (.bool b)=some z)(he:X=some (.v (.bool b))):∃v u,X=some (.v u)/\(∀hp,RV2 hp v (.v u))/\K v=some z:=⟨.bool b,.bool b,he,fun _=>rfl,h⟩
theorem Rl{α:Type}{X:Option V}{s:Str}{K:SV->Option α}{z:α}(h:K (.str s)=some z)(he:X=some (.v (.string ⟨s.toArray⟩))):∃v u,X=some (.v u)/\(∀hp,RV2 hp v (.v u))/\K v=some z:=⟨.str s,.string ⟨s.toArray⟩,he,fun _=>rfl,h⟩
theorem SW{α:Type}{P:Program}{op:BinOp}{t:TypeId}{x y:Operand}{k k':IntKind}{a b:Int}{K:SV->Option α}{z:α}(h:CL op k k' a b K=some z):
  ∃v u,((Ah P (do eqGuard op t x y (.int k a) (.int k' b);binOp op t (.int k a) (.int k' b))).bind Am)=some (.v u)/\(∀hp,RV2 hp v (.v u))/\K v=some z:=by
 have hk:k=k'->(op≠ .shl/\op≠ .shr)->∃v u,((Ah P (do eqGuard op t x y (.int k a) (.int k b);binOp op t (.int k a) (.int k b))).bind Am)=some (.v u)/\(∀hp,RV2 hp v (.v u))/\K v=some z:=by
  intro he hop;subst he;cases op
  case quo=>
   simp only[CL,if_true]at h;obtain⟨h1,h2⟩:=Gr h;have h0:¬b=0:=by simpa using h1
   refine Cz h2 ?_
   show((Ah P (if k≠k then _ else if b=0 then _ else _)).bind Am)=_;rw[zw (by simp),zw h0];rfl
  case rem=>
   simp only[CL,if_true]at h;obtain⟨h1,h2⟩:=Gr h;have h0:¬b=0:=by simpa using h1
   refine Cz h2 ?_
   show((Ah P (if k≠k then _ else if b=0 then _ else _)).bind Am)=_;rw[zw (by simp),zw h0];rfl
  case shl=>exact absurd rfl hop.1
  case shr=>exact absurd rfl hop.2
  case andNot=>simp only[CL,if_true,reduceCtorEq]at h
  case add=>simp only[CL,if_true]at h;exact Cz h (by show((Ah P (if k≠k then _ else _)).bind Am)=_;rw[zw (by simp)];rfl)
  case sub=>simp only[CL,if_true]at h;exact Cz h (by show((Ah P (if k≠k then _ else _)).bind Am)=_;rw[zw (by simp)];rfl)
  case mul=>simp only[CL,if_true]at h;exact Cz h (by show((Ah P (if k≠k then _ else _)).bind Am)=_;rw[zw (by simp)];rfl)
  case and=>simp only[CL,if_true]at h;exact Cz h (by show((Ah P (if k≠k then _ else _)).bind Am)=_;rw[zw (by simp)];rfl)
  case or=>simp only[CL,if_true]at h;exact Cz h (by show((Ah P (if k≠k then _ else _)).bind Am)=_;rw[zw (by simp)];rfl)
  case xor=>simp only[CL,if_true]at h;exact Cz h (by show((Ah P (if k≠k then _ else _)).bind Am)=_;rw[zw (by simp)];rfl)
  case eql=>simp only[CL,if_true]at h;exact Dd h (by show((Ah P (if k≠k then _ else _)).bind Am)=_;rw[zw (by simp)];rfl)
  case neq=>simp only[CL,if_true]at h;exact Dd h (by show((Ah P (if k≠k then _ else _)).bind Am)=_;rw[zw (by simp)];rfl)
  case lss=>simp only[CL,if_true]at h;exact Dd h (by show((Ah P (if k≠k then _ else _)).bind Am)=_;rw[zw (by simp)];rfl)
  case leq=>simp only[CL,if_true]at h;exact Dd h (by show((Ah P (if k≠k then _ else _)).bind Am)=_;rw[zw (by simp)];rfl)
  case gtr=>simp only[CL,if_true]at h;exact Dd h (by show((Ah P (if k≠k then _ else _)).bind Am)=_;rw[zw (by simp)];rfl)
  case geq=>simp only[CL,if_true]at h;exact Dd h (by show((Ah P (if k≠k then _ else _)).bind Am)=_;rw[zw (by simp)];rfl)
 by_cases h1:op=.shl
 ·subst h1;simp only[CL]at h;obtain⟨h1,h2⟩:=Gr h;have h0:¬b<0:=by simpa using h1
  refine Cz h2 ?_
  show((Ah P (if b<0 then _ else _)).bind Am)=_;rw[zw h0];rfl
 ·by_cases h2:op=.shr
  ·subst h2;simp only[CL]at h;obtain⟨h1,h2⟩:=Gr h;have h0:¬b<0:=by simpa using h1
   refine Cz h2 ?_
   show((Ah P (if b<0 then _ else _)).bind Am)=_;rw[zw h0];rfl
  ·by_cases hkk:k=k'
   ·subst hkk;exact hk rfl ⟨h1,h2⟩
   ·exfalso
    cases op<;>simp only[CL,zw hkk,reduceCtorEq]at h
    ·exact h1 rfl
    ·exact h2 rfl
theorem Tr{α:Type}{P:Program}{op:BinOp}{t:TypeId}{x y:Operand}{s u:Str}{K:SV->Option α}{z:α}(h:RY op s u K=some z):
  ∃v w,((Ah P (do eqGuard op t x y (.string ⟨s.toArray⟩) (.string ⟨u.toArray⟩);binOp op t (.string ⟨s.toArray⟩) (.string ⟨u.toArray⟩))).bind Am)=some (.v w)/\(∀hp,RV2 hp v (.v w))/\K v=some z:=by
 have e1:(ByteArray.mk s.toArray).toList=s:=ByteArray.toList_mk s;have e2:(ByteArray.mk u.toArray).toList=u:=ByteArray.toList_mk u;cases op<;>simp only[RY,reduceCtorEq]at h
 case add=>
  obtain⟨r,h1,h2⟩:=AF h;unfold Fy at h1
  split at h1
  ·rename_i hle;cases h1
   refine Rl h2 ?_
   show((Ah P (if(((ByteArray.mk s.toArray).size+(ByteArray.mk u.toArray).size:Nat):Int)>IntKind.i64.max then _ else _)).bind Am)=_;have hs:(ByteArray.mk s.toArray).size=s.length:=by simp[ByteArray.size]
   have hu:(ByteArray.mk u.toArray).size=u.length:=by simp[ByteArray.size]
   have hm:IntKind.i64.max=9223372036854775807:=by decide
   rw[zw (by rw[hs,hu,hm];omega)];have:(ByteArray.mk s.toArray)++(ByteArray.mk u.toArray)=⟨(s++u).toArray⟩:=by
    apply ByteArray.ext;simp
   show some (V.v (.string ((ByteArray.mk s.toArray)++(ByteArray.mk u.toArray))))=_;rw[this]
  ·cases h1
 all_goals
  refine Dd h ?_
  show some (V.v (.bool _))=_;simp only[e1,e2]
end
section
open Go
abbrev EqR:SV->V->Prop:=fun s u=>∃k n,s=.int k n/\u=.v (.int k n)
def VC(P:Program)(t:TypeId)(n:Nat):Prop:=∀(x y:Operand)(cs ds:List SV)(us vs:List Value)(r:Bool),us.length=n->RC EqR cs (us.map .v)->
 RC EqR ds (vs.map .v)->CU cs ds=some r->
 Ah P (do eqGuard .eql t x y (.agg us.toArray) (.agg vs.toArray);binOp .eql t (.agg us.toArray) (.agg vs.toArray))=some (.bool r)/\
 Ah P (do eqGuard .neq t x y (.agg us.toArray) (.agg vs.toArray);binOp .neq t (.agg us.toArray) (.agg vs.toArray))=some (.bool (!r))
def U0(P:Program)(t:TypeId):Prop:=∀d,Az P t=some d->VC P t d.size
structure XOK (P:Program) (X:TX):Prop where
 ty:∀t d,getD X.ty t=some d->Az P t=some d
 bools:∀t,X.bools.contains t=true->P.underlying t=some .bool
 eqs:∀t,X.eqs.contains t=true->U0 P t
section
variable {α:Type} {P:Program} {R:Rel} {cf:Cfg} {X:TX} {b:Nat} {tm:TTm} {m:Tm} {hp hpm:THp} {hv hvm:Hp} {K:SV->THp->Cls->Option α} {z:α}
def Bj(P:Program)(R:Rel)(cf:Cfg)(op:Op)(b:Nat)(m:Tm)(hp:THp)(hpm:THp)(hvm:Hp)(K:SV->THp->Cls->Option α)(z:α):Prop:=
 ∃x y cls,K x hpm cls=some z/\RV2 hp x y/\∀KV:A2,KV y hvm cls->AN P R cf op b (Ao m) hvm KV
def RHm(hpm hp:THp)(hvm:Hp):Prop:=∀id b,An hpm id=some b->An hp id=some b/\∃k,hvm id=some k/\RB hp b k
theorem RH.toM(h:RH hp hv):RHm hp hp hv:=fun id b hb=>⟨hb,h id b hb⟩
theorem Ay{op:Op}{x:SV}{y:V}(h:K x hpm .T=some z)(hr:RV2 hp x y)(hn:Ak P op (Ao m)=some y)
  (hop:∀KV:A2,AN P R cf op b (Ao m) hvm KV=(match Ak P op (Ao m)with|some x=>KV x hvm .T|none=>AQ (AA P op (Ao m) hvm b) fun z=>z.2.length<=16/\KV z.1 (inst hvm b z.2) .M)):Bj P R cf op b m hp hpm hvm K z:=
 ⟨x,y,.T,h,hr,fun KV hk=>by rw[hop,hn];exact hk⟩
theorem Fl{op:Op}{x:SV}{y:V}(h:K x hpm .M=some z)(hr:RV2 hp x y)(hn:Ak P op (Ao m)=none)(hm:AA P op (Ao m) hvm b=some (y,[]))
  (hop:∀KV:A2,AN P R cf op b (Ao m) hvm KV=(match Ak P op (Ao m)with|some x=>KV x hvm .T|none=>AQ (AA P op (Ao m) hvm b) fun z=>z.2.length<=16/\KV z.1 (inst hvm b z.2) .M)):Bj P R cf op b m hp hpm hvm K z:=
 ⟨x,y,.M,h,hr,fun KV hk=>by rw[hop,hn];simp only[hm,Ag,inst];exact⟨by simp,hk⟩⟩
theorem Ub{x:Operand}(hr:RT hp tm m)(h:AV X (.move x) b tm hpm K=some z):Bj P R cf (.move x) b m hp hpm hvm K z:=by
 simp only[AV,D8]at h;exact Ay h (Aw hr x) rfl fun _=>rfl
theorem R2{x:Operand}(hr:RT hp tm m)(h:AV X (.assign x) b tm hpm K=some z):Bj P R cf (.assign x) b m hp hpm hvm K z:=by
 simp only[AV,D8]at h;exact Ay h (Aw hr x) rfl fun _=>rfl
theorem Uy{c x y:Operand}(hr:RT hp tm m)(h:AV X (.pick c x y) b tm hpm K=some z):Bj P R cf (.pick c x y) b m hp hpm hvm K z:=by
 simp only[AV,D8]at h
 split at h
 ·rename_i t ht;have hc:=Aw hr c;rw[ht]at hc;have hc:=Gv hc;cases t with
  |true=>exact Ay h (Aw hr x) (by simp[Ak,hc]) fun _=>rfl
  |false=>exact Ay h (Aw hr y) (by simp[Ak,hc]) fun _=>rfl
 ·cases h
theorem UT{x:Operand}(hr:RT hp tm m)(h:AV X (.nilCheck x) b tm hpm K=some z):Bj P R cf (.nilCheck x) b m hp hpm hvm K z:=by
 simp only[AV]at h;have hc:=Aw hr x
 split at h
 ·rename_i id r c hx;rw[hx]at hc;have hc':Ao m x=.rf id r c:=hc;exact Ay h (y:=.rf id r c) rfl (by simp[Ak,hc']) fun _=>rfl
 ·rename_i t a c hx;rw[hx]at hc;obtain⟨row,he,hre⟩:=hc;exact Ay h (y:=.ir row c) ⟨row,rfl,hre⟩ (by simp[Ak,he]) fun _=>rfl
 ·rename_i f caps hx;rw[hx]at hc;obtain⟨us,he,hre⟩:=Pq hc;exact Ay h (y:=.cl f us) ⟨us,rfl,hre⟩ (by simp[Ak,he]) fun _=>rfl
 ·cases h
theorem VF{u:UnOp}{t:TypeId}{x:Operand}(hr:RT hp tm m)(h:AV X (.unOp u t x) b tm hpm K=some z):Bj P R cf (.unOp u t x) b m hp hpm hvm K z:=by
 simp only[AV,tUn]at h;have hc:=Aw hr x
 split at h
 ·rename_i bb hx;rw[hx]at hc;have hc:=Gv hc;exact Ay h (y:=.v (.bool !bb)) rfl (by simp only[Ak,hc];rfl) fun _=>rfl
 ·rename_i k n hx;rw[hx]at hc;have hc:=Ed hc;exact Ay h (y:=.v (.int k (k.wrap (0-n)))) rfl (by simp only[Ak,hc];rfl) fun _=>rfl
 ·cases h
theorem Rd{cs ds:List SV}{r:Bool}(h:CU cs ds=some r):∀{us vs:List V},RC (RV0 hp) cs us->RC (RV0 hp) ds vs->∃us' vs':List Value,us=us'.map .v/\vs=vs'.map .v/\
  RC EqR cs (us'.map .v)/\RC EqR ds (vs'.map .v):=by
 induction cs generalizing ds r with
 |nil=>
  intro us vs h1 h2;cases ds with
  |nil=>
   cases us with
   |nil=>cases vs with
    |nil=>exact⟨[],[],rfl,rfl,trivial,trivial⟩
    |cons a l=>exact h2.elim
   |cons a l=>exact h1.elim
  |cons a l=>simp[CU]at h
 |cons c cs ih=>
  intro us vs h1 h2;cases ds with
  |nil=>cases c<;>simp[CU]at h
  |cons d ds=>
   cases us with
   |nil=>exact h1.elim
   |cons u us=>
    cases vs with
    |nil=>exact h2.elim
    |cons v vs=>
     cases c<;>cases d<;>first|(simp[CU]at h;done)|skip
     rename_i k n k' n';have hrest:∃r',CU cs ds=some r':=by
      cases cs with
      |nil=>
       cases ds with
       |nil=>exact⟨true,rfl⟩
       |cons a l=>simp only[CU]at h;split at h<;>simp_all
      |cons a l=>
       simp only[CU]at h
       split at h
       ·cases he:CU (a::l) ds with
        |none=>rw[he]at h;cases h
        |some r'=>exact⟨r',rfl⟩
       ·cases h
     obtain⟨r',hr'⟩:=hrest;obtain⟨us',vs',e1,e2,e3,e4⟩:=ih hr' h1.2 h2.2;have q1:u=.v (.int k n):=h1.1;have q2:v=.v (.int k' n'):=h2.1;subst q1;subst q2;subst e1;subst e2;exact⟨_::us',_::vs',rfl,rfl,⟨⟨_,_,rfl,rfl⟩,e3⟩,⟨⟨_,_,rfl,rfl⟩,e4⟩⟩
theorem Ci{β:Type}{t:TypeId}{d:TypeDesc}(hu:P.underlying t=some d)(f:TypeDesc->Sem β):Ah P (underlying t>>=f)=Ah P (f d):=by
 show Ah P ((match P.underlying t with|some d=>(pure d:Sem TypeDesc)|none=>stuck "no such type")>>=f)=_;rw[hu];rfl
theorem P6{t:TypeId}(hu:P.underlying t=some .bool)(p q:Bool):Ah P (Op.equal t (.bool p) (.bool q))=some (p==q):=by
 show Ah P (Op.equalIn (9999+1) t (.bool p) (.bool q))=_;unfold Op.equalIn;rw[Ci hu];rfl
theorem Hb{α β:Type}(f:α->Sem β)(s:Sem α)(a:α)(h:Ah P s=some a):Ah P (s>>=f)=Ah P (f a):=by
 induction s with
 |pure b=>simp[Ah]at h;subst h;rfl
 |program k ih=>exact ih P (by simpa[Ah]using h)
 |_=>simp[Ah]at h
theorem Fk:∀(l:List Value),Bi (l.map V.v)=some l
 |[]=>rfl
 |x::l=>by simp[Bi,Fk l]
theorem Vm{op:BinOp}{t yt:TypeId}{x y:Operand}(hX:XOK P X)(hr:RT hp tm m)(h:AV X (.binOp op t x y yt) b tm hpm K=some z):Bj P R cf (.binOp op t x y yt) b m hp hpm hvm K z:=by
 simp only[AV]at h;have hx:=Aw hr x;have hy:=Aw hr y;cases hnc:Uw op y with
 |true=>
  rw[hnc]at h;simp only at h
  split at h
  case h_2=>cases h
  rename_i d ty l hd hl
  split at h
  case h_2=>cases h
  rename_i e he;obtain⟨u,hu,h2⟩:=AF h;rw[hl]at hx;have hne:∃r rows,Ao m x=.im (r::rows):=by
   cases l with
   |nil=>cases hu
   |cons a l=>
    rcases hx with⟨h0,_⟩|⟨rows,hrow,hrl⟩
    ·cases h0
    ·cases rows with
     |nil=>exact absurd hrl.1 (by simp)
     |cons r rows=>exact⟨r,rows,hrow⟩
  obtain⟨r,rows,hxv⟩:=hne;have hsl:Ii P t=true:=by unfold Ii;rw[hX.ty t d hd];simp[he]
  refine Ay h2 (y:=.v (.bool false)) rfl ?_ fun _=>rfl
  unfold Uw at hnc
  split at hnc
  ·simp only[Ak,hxv,D7,Ji,hsl]
  ·cases hnc
 |false=>
 rw[hnc]at h;simp only at h;have h:(∃s e,erC op y=some s/\opT tm x=.er e/\Pw X t=true/\K (.bool (cond s (!e) e)) hpm .T=some z)\/SR X op t (opT tm x) (opT tm y) (fun v=>K v hpm .T)=some z:=by
  split at h
  ·rename_i s hs
   split at h
   ·rename_i e he;cases hi:Pw X t with
    |true=>rw[hi]at h;exact .inl ⟨s,e,hs,he,rfl,h⟩
    |false=>rw[hi]at h;cases h
   ·exact .inr h
  ·exact .inr h
 rcases h with⟨s,e,hs,he,hi,h⟩|h
 ·rw[he]at hx;have hx:Ao m x=.er e:=hx;have hic:ML P t=true:=by
   unfold Pw at hi
   split at hi
   ·rename_i d hd;unfold ML;rw[hX.ty t d hd];exact hi
   ·cases hi
  unfold erC at hs
  split at hs
  ·cases hs
   refine Ay h (y:=.v (.bool !e)) rfl ?_ fun _=>rfl
   simp only[Ak,hx,D7,Ji,QP,hic]
  ·cases hs
   refine Ay h (y:=.v (.bool e)) rfl ?_ fun _=>rfl
   simp only[Ak,hx,D7,Ji,QP,hic]
  ·cases hs
 simp only[SR]at h
 split at h
 ·rename_i k a k' c e1 e2;rw[e1]at hx;rw[e2]at hy;have hx:=Ed hx;have hy:=Ed hy;obtain⟨v,u,q1,q2,q3⟩:=SW (P:=P) (t:=t) (x:=x) (y:=y) h;exact Ay q3 (q2 hp) (by simp only[Ak,hx,hy,D7];exact q1) fun _=>rfl
 ·rename_i s u e1 e2;rw[e1]at hx;rw[e2]at hy;have hx:=HN hx;have hy:=HN hy;obtain⟨v,u,q1,q2,q3⟩:=Tr (P:=P) (t:=t) (x:=x) (y:=y) h;exact Ay q3 (q2 hp) (by simp only[Ak,hx,hy,D7];exact q1) fun _=>rfl
 ·rename_i p q e1 e2;rw[e1]at hx;rw[e2]at hy;have hx:=Gv hx;have hy:=Gv hy
  split at h
  ·rename_i hb;have hu:=hX.bools t hb;have heq:=P6 hu p q
   split at h
   ·refine Ay h (y:=.v (.bool (p==q))) rfl ?_ fun _=>rfl
    simp only[Ak,hx,hy,D7];show((Ah P (do let r <-Op.equal t (.bool p) (.bool q);pure (.bool r))).bind Am)=_;rw[Hb _ _ _ heq];rfl
   ·refine Ay h (y:=.v (.bool !(p==q))) rfl ?_ fun _=>rfl
    simp only[Ak,hx,hy,D7];show((Ah P (do let r <-Op.equal t (.bool p) (.bool q);pure (.bool !r))).bind Am)=_;rw[Hb _ _ _ heq];rfl
   ·cases h
  ·cases h
 ·rename_i cs ds e1 e2;rw[e1]at hx;rw[e2]at hy;obtain⟨us,hx,r1⟩:=Jo hx;obtain⟨vs,hy,r2⟩:=Jo hy
  split at h
  ·rename_i ht
   split at h
   ·rename_i d r hd hq
    split at h
    case isFalse=>cases h
    rename_i hlen;obtain⟨us',vs',rfl,rfl,q1,q2⟩:=Rd hq r1 r2;have hl:us'.length=d.size:=by
     have:=RC.length q1;rw[List.length_map]at this;rw[this];exact za4 hlen
    obtain⟨p1,p2⟩:=hX.eqs t ht d (hX.ty t d hd) x y cs ds us' vs' r hl q1 q2 hq
    split at h
    ·exact Ay h (y:=.v (.bool r)) rfl (by simp only[Ak,hx,hy,D7,Fk];rw[p1];rfl) fun _=>rfl
    ·exact Ay h (y:=.v (.bool !r)) rfl (by simp only[Ak,hx,hy,D7,Fk];rw[p2];rfl) fun _=>rfl
    ·cases h
   ·cases h
  ·cases h
 ·cases h
end
end
section
open Go
variable {P:Program}
end
section
open Go
section
variable {α:Type} {P:Program} {R:Rel} {cf:Cfg} {X:TX} {b:Nat} {tm:TTm} {m:Tm} {hp hpm:THp} {hv hvm:Hp} {K:SV->THp->Cls->Option α} {z:α}
theorem K1{β:Type}{flds:List Fld}(hr:RT hp tm m):∀{parts:List (Nat×Operand)}{cs:List SV}{us:List V}{K:List SV->Option β}{z:β},Pf flds tm cs parts K=some z->RC (RV0 hp) cs us->
  ∃cs' us',DM flds (Ao m) us parts=some us'/\RC (RV0 hp) cs' us'/\K cs'=some z
 |[],cs,us,K,z,h,hc=>⟨cs,us,rfl,hc,h⟩
 |(k,x)::rest,cs,us,K,z,h,hc=>by
  simp only[Pf,D8]at h
  split at h
  ·rename_i f hf
   split at h
   ·rename_i hok;simp only[za1,decide_eq_true_eq]at hok
    split at h
    ·rename_i cs1 hp1;obtain⟨f1,f2⟩:=Eg (Aw hr x) hok.2;obtain⟨us1,h1,h2⟩:=RC.put hp1 hc f1;obtain⟨cs2,us2,h3,h4,h5⟩:=K1 hr h h2;refine⟨cs2,us2,?_,h4,h5⟩
     simp only[DM,hf];have hl:=f1.length;have he:=of_decide_eq_true (by simpa using hok.1:decide ((BA (opT tm x)).length=f.size)=true);rw[zr (by simp only[za1,decide_eq_true_eq];exact⟨by omega,f2⟩),h1];exact h3
    ·cases h
   ·cases h
  ·cases h
theorem S1{t:TypeId}{parts:Array (Nat×Operand)}(hX:XOK P X)(hr:RT hp tm m)(h:AV X (.build t parts) b tm hpm K=some z):Bj P R cf (.build t parts) b m hp hpm hvm K z:=by
 simp only[AV]at h
 split at h
 ·rename_i d hd
  split at h
  ·rename_i hc;obtain⟨cs,us,h1,h2,h3⟩:=K1 hr h (Hy d.zero);exact Ay h3 (y:=.agg us) ⟨us,rfl,h2⟩ (by simp only[Ak,hX.ty t d hd,hc,if_true,h1,zc1]) fun _=>rfl
  ·cases h
 ·cases h
theorem Tb{t:TypeId}{x:Operand}{k:Nat}(hX:XOK P X)(hr:RT hp tm m)(h:AV X (.field t x k) b tm hpm K=some z):Bj P R cf (.field t x k) b m hp hpm hvm K z:=by
 simp only[AV]at h;have hx:=Aw hr x
 split at h
 ·rename_i cs d e1 hd;rw[e1]at hx;obtain⟨us,hx,hc⟩:=Jo hx
  split at h
  ·rename_i f hf;obtain⟨l,v,h1,h2,h3⟩:=Hg h;obtain⟨vs,h4,h5⟩:=RC.seg h1 hc;obtain⟨y,h6,h7⟩:=Ja h2 h5;exact Ay h3 h7 (by simp only[Ak,hx,hX.ty t d hd,hf,h4,za9,h6]) fun _=>rfl
  ·cases h
 ·cases h
theorem MV{t:TypeId}{x:Operand}{k:Nat}(hX:XOK P X)(hr:RT hp tm m)(h:AV X (.fieldAddr t x k) b tm hpm K=some z):Bj P R cf (.fieldAddr t x k) b m hp hpm hvm K z:=by
 simp only[AV]at h;have hx:=Aw hr x
 split at h
 ·rename_i d hd
  split at h
  ·rename_i f id r c hf e1;rw[e1]at hx;have hx:Ao m x=.rf id r c:=hx;exact Ay h (y:=.rf id r (c+f.off)) rfl (by simp only[Ak,hX.ty t d hd,hf,hx]) fun _=>rfl
  ·rename_i f ty a c hf e1;rw[e1]at hx;obtain⟨row,hx,hre⟩:=hx;exact Ay h (y:=.ir row (c+f.off)) ⟨row,rfl,hre⟩ (by simp only[Ak,hX.ty t d hd,hf,hx]) fun _=>rfl
  ·cases h
 ·cases h
theorem QH{t:TypeId}(hX:XOK P X)(h:FA X t=true):Ck P t=true:=by
 unfold FA at h
 split at h
 ·rename_i d hd;simp only[Ck,hX.ty t d hd];exact h
 ·cases h
theorem slX{t:TypeId}(hX:XOK P X)(h:MQ X t=true):Ii P t=true:=by
 unfold MQ at h
 split at h
 ·rename_i d hd;simp only[Ii,hX.ty t d hd];exact h
 ·cases h
theorem Lp{β:Type}{l:List β}{n:Int}{a:β}(h:Ej l n=some a):0<=n/\l[n.toNat]? =some a:=by
 unfold Ej at h
 split at h
 ·rename_i h0;exact⟨h0,h⟩
 ·cases h
theorem LD{n:Int}{len k:Nat}(h:LM n len=some k):0<=n/\n.toNat<len/\k=n.toNat:=by
 unfold LM at h
 split at h
 ·rename_i h0;cases h;exact⟨h0.1,h0.2,rfl⟩
 ·cases h
theorem Tw{t:TypeId}{x i:Operand}(hX:XOK P X)(hr:RT hp tm m)(h:AV X (.index t x i) b tm hpm K=some z):Bj P R cf (.index t x i) b m hp hpm hvm K z:=by
 simp only[AV]at h;have hx:=Aw hr x;have hi:=Aw hr i
 split at h
 ·rename_i s k n hs e1 e2;rw[e1]at hx;rw[e2]at hi;have hx:=HN hx;have hi:=Ed hi;obtain⟨c,h1,h2⟩:=AF h;obtain⟨h0,hc⟩:=Lp h1;have hlt:n.toNat<s.length:=(za0.1 hc).1;refine Ay h2 (y:=.v (.int .u8 (c.toNat:Int))) rfl ?_ fun _=>rfl
  simp only[Ak,QH hX hs,hx,hi];have hsz:n.toNat<(ByteArray.mk s.toArray).size:=by simpa[ByteArray.size]using hlt
  rw[dif_pos ⟨h0,hsz⟩];have:(ByteArray.mk s.toArray)[n.toNat]'hsz=c:=by
   have:=(za0.1 hc).2;rw[<-this];rfl
  rw[this]
 ·cases h
structure ElemOK (P:Program) (t e:TypeId) (d:TyD) (c:Ty):Prop where
 el:(Az P t).bind (·.elem)=some e
 ty:Az P e=some d
 size:d.size=c.size
 flat:d.zero.all KI=B7 c
theorem Gm{t e:TypeId}{d:TyD}{c:Ty}(hX:XOK P X)(h:IG X t=some (e,d,c)):ElemOK P t e d c:=by
 unfold IG at h
 split at h
 ·rename_i d0 hd0
  split at h
  ·rename_i e0 he0
   split at h
   ·rename_i de c0 hde hc0
    split at h
    ·rename_i hb;simp only[za1,beq_iff_eq]at hb;simp only[zx,Prod.mk.injEq]at h;obtain⟨rfl,rfl,rfl⟩:=h;exact⟨by rw[hX.ty t d0 hd0];exact he0,hX.ty _ _ hde,za4 hb.1,hb.2⟩
    ·cases h
   ·cases h
  ·cases h
 ·cases h
theorem TT{t:TypeId}{x i:Operand}(hX:XOK P X)(hr:RT hp tm m)(hh:RHm hpm hp hvm)(h:AV X (.indexAddr t x i) b tm hpm K=some z):Bj P R cf (.indexAddr t x i) b m hp hpm hvm K z:=by
 simp only[AV,Vc]at h;have hx:=Aw hr x;have hi:=Aw hr i
 split at h
 ·rename_i e de c he;have hE:=Gm hX he
  split at h
  ·rename_i ty l k n e1 e2;rw[e1]at hx;rw[e2]at hi;have hi:=Ed hi
   split at h
   ·rename_i hsz;obtain⟨a,h1,h2⟩:=AF h;obtain⟨h0,hc⟩:=Lp h1;rcases hx with⟨rfl,hx⟩|⟨rows,hx,hrl⟩
    ·simp at hc
    ·obtain⟨row,hrow,hre⟩:=hrl.get hc;have hlt:n.toNat<rows.length:=(za0.1 hrow).1;refine Ay h2 (y:=.ir row 0) ⟨row,rfl,hre⟩ ?_ fun _=>rfl
     simp only[Ak,hx,hi,hE.el,hE.ty];have hg:rows[n.toNat]'hlt=row:=(za0.1 hrow).2;rw[dif_pos ⟨h0,hlt⟩,hg,zr (by rw[hre.len];exact za4 hsz)]
   ·cases h
  ·rename_i id k n e1 e2;rw[e1]at hx;rw[e2]at hi;have hi:=Ed hi;obtain⟨len,hx,hlen⟩:=hx;have key:∀(ty:Ty)(l:List ty.den)(tb:TB),An hpm id=some tb->Cw tb=some l.length->(∀kb,RB hp tb kb->kb.size=ty.size)->(Nat.beq ty.size de.size=true)->((LM n l.length).bind fun k=>K (.rf id k 0) hpm .M)=some z->Bj P R cf (.indexAddr t x i) b m hp hpm hvm K z:=by
    intro ty l tb hg hbl hks hsz h;obtain⟨hg',kb,hkb,hrb⟩:=hh id tb hg;have hlen':=hlen tb hg';rw[hbl]at hlen';cases hlen'
    obtain⟨kk,h1,h2⟩:=AF h;obtain⟨h0,h3,rfl⟩:=LD h1;refine Fl h2 (y:=.rf id (0+n.toNat) 0) (by rw[zd0];rfl) (by simp only[Ak,hx,hi]) ?_ fun _=>rfl
    simp only[AA,hx,hi,hE.el,hE.ty,hkb];rw[zr ⟨by rw[hks kb hrb];exact za4 hsz,h0,h3⟩]
   split at h
   ·rename_i a b' ty l hg
    split at h
    ·rename_i hsz;exact key ty l _ hg rfl (fun kb hrb=>hrb.2.2.2.1) hsz h
    ·cases h
   ·rename_i a b' ty l hg
    split at h
    ·rename_i hsz;exact key ty l _ hg rfl (fun kb hrb=>hrb.2.2.2.1) hsz h
    ·cases h
   ·cases h
  ·rename_i id lo len k n e1 e2;rw[e1]at hx;rw[e2]at hi;have hi:=Ed hi;have hx:Ao m x=.ar id lo len:=hx;have key:∀(ty:Ty)(tb:TB),An hpm id=some tb->(∀kb,RB hp tb kb->kb.size=ty.size)->(Nat.beq ty.size de.size=true)->((LM n len).bind fun k=>K (.rf id (lo+k) 0) hpm .M)=some z->Bj P R cf (.indexAddr t x i) b m hp hpm hvm K z:=by
    intro ty tb hg hks hsz h;obtain⟨hg',kb,hkb,hrb⟩:=hh id tb hg;obtain⟨kk,h1,h2⟩:=AF h;obtain⟨h0,h3,rfl⟩:=LD h1;refine Fl h2 (y:=.rf id (lo+n.toNat) 0) rfl (by simp only[Ak,hx,hi]) ?_ fun _=>rfl
    simp only[AA,hx,hi,hE.el,hE.ty,hkb];rw[zr ⟨by rw[hks kb hrb];exact za4 hsz,h0,h3⟩]
   split at h
   ·rename_i a b' ty l hg
    split at h
    ·rename_i hsz;exact key ty _ hg (fun kb hrb=>hrb.2.2.2.1) hsz h
    ·cases h
   ·rename_i a b' ty l hg
    split at h
    ·rename_i hsz;exact key ty _ hg (fun kb hrb=>hrb.2.2.2.1) hsz h
    ·cases h
   ·cases h
  ·cases h
 ·cases h
theorem Qk{x:Operand}{k:Nat}(hr:RT hp tm m)(h:AV X (.extract x k) b tm hpm K=some z):Bj P R cf (.extract x k) b m hp hpm hvm K z:=by
 simp only[AV,D8]at h;have hx:=Aw hr x
 split at h
 ·rename_i vs e1;rw[e1]at hx;obtain⟨us,hx,hc⟩:=hx
  split at h
  ·rename_i v hv;obtain⟨y,hy,hry⟩:=hc.get hv;exact Ay h hry.to2 (by simp only[Ak,hx,hy]) fun _=>rfl
  ·cases h
 ·cases h
theorem MJ(hr:RT hp tm m):∀{l:List Operand},(l.map (opT tm)).all okT=true->RC (RV0 hp) (l.map (opT tm)) (l.map (Ao m))/\(l.map (Ao m)).all AM=true
 |[],_=>⟨trivial,rfl⟩
 |x::l,h=>by
  simp only[zb0,zb5,za1]at h;obtain⟨h1,h2⟩:=MJ hr h.2;have hx:=Aw hr x;have hfl:BA (opT tm x)=[opT tm x]:=by
   cases he:opT tm x with
   |agg cs=>rw[he]at h;simp[okT]at h
   |_=>rfl
  obtain⟨f1,f2⟩:=Eg hx (by rw[hfl];simpa using h.1);rw[hfl]at f1;have hfv:flat (Ao m x)=[Ao m x]:=by
   cases he:Ao m x with
   |agg cs=>
    exfalso
    rw[he]at hx;cases ho:opT tm x with
    |agg cs=>rw[ho]at h;simp[okT]at h
    |im t l=>rw[ho]at hx;rcases hx with⟨_,hx⟩|⟨_,hx,_⟩<;>cases hx
    |ow id=>rw[ho]at hx;obtain⟨_,hx,_⟩:=hx;cases hx
    |ir t a c=>rw[ho]at hx;obtain⟨_,hx,_⟩:=hx;cases hx
    |cl f cs=>rw[ho]at hx;obtain⟨_,hx,_⟩:=hx;cases hx
    |tup cs=>rw[ho]at h;simp[okT]at h
    |any=>rw[ho]at h;simp[okT]at h
    |int k n=>rw[ho]at hx;cases hx
    |bool k=>rw[ho]at hx;cases hx
    |str k=>rw[ho]at hx;cases hx
    |sc k=>rw[ho]at hx;cases hx
    |em=>rw[ho]at hx;cases hx
    |er e=>rw[ho]at hx;cases hx
    |ar a b c=>rw[ho]at hx;cases hx
    |rf a b c=>rw[ho]at hx;cases hx
   |_=>rfl
  rw[hfv]at f1 f2;simp only[zb0,zb5,List.all_nil,Bool.and_true,za1]at f2⊢
  exact⟨⟨f1.1,h1⟩,f2,h2⟩
theorem Us{f:FuncId}{first caps:Array Operand}(hr:RT hp tm m)(h:AV X (.makeFunc (.func f) first caps) b tm hpm K=some z):Bj P R cf (.makeFunc (.func f) first caps) b m hp hpm hvm K z:=by
 simp only[AV]at h
 split at h
 ·rename_i hc;simp only[za1]at hc;obtain⟨h1,h2⟩:=MJ hr hc.2;exact Ay h (y:=.cl f (caps.toList.map (Ao m))) ⟨_,rfl,h1⟩ (by simp only[Ak,hc.1,h2,Bool.and_self,if_true]) fun _=>rfl
 ·cases h
theorem Vj{args:Array Operand}{ts:Array TypeId}(hX:XOK P X)(hr:RT hp tm m)(hh:RHm hpm hp hvm)(h:AV X (.call {callee:=.builtin .len,args:=args,argTypes:=ts}) b tm hpm K=some z):
  Bj P R cf (.call {callee:=.builtin .len,args:=args,argTypes:=ts}) b m hp hpm hvm K z:=by
 simp only[AV]at h
 split at h
 ·rename_i x t hx0 ht0;have hx:=Aw hr x;have fin:∀n:Int,K (.int .i64 n) hpm .T=some z->Ak P (.call {callee:=.builtin .len,args:=args,argTypes:=ts}) (Ao m)=some (.v (.int .i64 n))->Bj P R cf (.call {callee:=.builtin .len,args:=args,argTypes:=ts}) b m hp hpm hvm K z:=
   fun n h hn=>Ay h (y:=.v (.int .i64 n)) rfl hn fun _=>rfl
  unfold Vk at h
  split at h
  ·rename_i s e1;rw[e1]at hx;have hx:=HN hx
   split at h
   ·rename_i hc;simp only[za1,zd5]at hc;refine fin _ h ?_
    have h1:=QH hX hc.1;have h2:Ii P t=false:=by
     cases hs:Ii P t with
     |false=>rfl
     |true=>
      have h3:=hc.2;have h4:=hc.1;unfold MQ at h3;unfold FA at h4;unfold Ii at hs
      split at h4
      ·rename_i d hd;simp only[hd]at h3;rw[hX.ty t d hd]at hs;simp only at hs;rw[h3]at hs;cases hs
      ·cases h4
    simp only[Ak,hx0,ht0,h1,h2,hx];simp[ByteArray.size]
   ·cases h
  ·rename_i hns
   split at h
   ·rename_i hc;have h1:=slX hX hc
    split at h
    ·rename_i e1;rw[e1]at hx;have hx:Ao m x=.em:=hx;exact fin _ h (by simp only[Ak,hx0,ht0,h1,hx])
    ·rename_i ty l e1;rw[e1]at hx;rcases hx with⟨rfl,hx⟩|⟨rows,hx,hrl⟩
     ·exact fin _ h (by simp only[Ak,hx0,ht0,h1,hx];rfl)
     ·exact fin _ h (by simp only[Ak,hx0,ht0,h1,hx,hrl.1])
    ·rename_i id e1;rw[e1]at hx;obtain⟨n,hx,hlen⟩:=hx
     split at h
     ·rename_i a b' ty l hg;have:=hlen _ (hh id _ hg).1;cases this
      exact fin _ h (by simp only[Ak,hx0,ht0,h1,hx])
     ·rename_i a b' ty l hg;have:=hlen _ (hh id _ hg).1;cases this
      exact fin _ h (by simp only[Ak,hx0,ht0,h1,hx])
     ·cases h
    ·rename_i id lo n e1;rw[e1]at hx;have hx:Ao m x=.ar id lo n:=hx;exact fin _ h (by simp only[Ak,hx0,ht0,h1,hx])
    ·cases h
   ·cases h
 ·cases h
theorem FO:∀{xs:List SV}{us:List V}{k:IntKind}{ns:List Int},Gy xs=some (k,ns)->RC (RV2 hp) xs us->Bi us=some (ns.map fun n=>.int k n)/\ns≠[]
 |[],us,k,ns,h,_=>by simp[Gy]at h
 |[x],us,k,ns,h,hc=>by
  cases x<;>simp[Gy]at h
  obtain⟨rfl,rfl⟩:=h;cases us with
  |nil=>exact hc.elim
  |cons u us=>
   cases us with
   |nil=>have:u=_:=hc.1;subst this;exact⟨rfl,by simp⟩
   |cons a l=>exact hc.2.elim
 |x::y::l,us,k,ns,h,hc=>by
  cases x<;>simp[Gy]at h
  split at h
  ·rename_i k' ns' hr
   split at h
   ·rename_i hk;simp only[zx,Prod.mk.injEq]at h;obtain⟨rfl,rfl⟩:=h;subst hk;cases us with
    |nil=>exact hc.elim
    |cons u us=>
     have:u=_:=hc.1;subst this;obtain⟨h1,_⟩:=FO hr hc.2;exact⟨by simp[Bi,h1],by simp⟩
   ·cases h
  ·cases h
theorem Ec(hr:RT hp tm m):∀(l:List Operand),RC (RV2 hp) (l.map (opT tm)) (l.map (Ao m))
 |[]=>trivial
 |x::l=>⟨Aw hr x,Ec hr l⟩
theorem N7{k:IntKind}:∀(l:List Int)(x:Int),Ah P ((l.map fun n=>Value.int k n).foldlM Builtin.min2 (.int k x))=some (.int k (l.foldl (fun a b=>if b<a then b else a) x))
 |[],x=>rfl
 |y::l,x=>by
  simp only[zb0,List.foldlM_cons,List.foldl_cons];exact N7 l (if y<x then y else x)
theorem MW{k:IntKind}:∀(l:List Int)(x:Int),Ah P ((l.map fun n=>Value.int k n).foldlM Builtin.max2 (.int k x))=some (.int k (l.foldl (fun a b=>if b>a then b else a) x))
 |[],x=>rfl
 |y::l,x=>by
  simp only[zb0,List.foldlM_cons,List.foldl_cons];exact MW l (if y>x then y else x)
theorem US{args:Array Operand}{ts:Array TypeId}(hr:RT hp tm m)(h:AV X (.call {callee:=.builtin .min,args:=args,argTypes:=ts}) b tm hpm K=some z):
  Bj P R cf (.call {callee:=.builtin .min,args:=args,argTypes:=ts}) b m hp hpm hvm K z:=by
 simp only[AV,I3]at h
 split at h
 ·rename_i k ns hi;obtain⟨h1,h2⟩:=FO hi (Ec hr _);simp only[zb4,if_false]at h;refine Ay h (y:=.v (.int k (U6 ns))) rfl ?_ fun _=>rfl
  simp only[Ak,h1];cases ns with
  |nil=>exact absurd rfl h2
  |cons x l=>
   show((Ah P ((l.map fun n=>Value.int k n).foldlM Builtin.min2 (.int k x))).bind Am)=_;rw[N7];rfl
 ·cases h
theorem Vg{args:Array Operand}{ts:Array TypeId}(hr:RT hp tm m)(h:AV X (.call {callee:=.builtin .max,args:=args,argTypes:=ts}) b tm hpm K=some z):
  Bj P R cf (.call {callee:=.builtin .max,args:=args,argTypes:=ts}) b m hp hpm hvm K z:=by
 simp only[AV,I3]at h
 split at h
 ·rename_i k ns hi;obtain⟨h1,h2⟩:=FO hi (Ec hr _);simp only[if_true]at h;refine Ay h (y:=.v (.int k (UY ns))) rfl ?_ fun _=>rfl
  simp only[Ak,h1];cases ns with
  |nil=>exact absurd rfl h2
  |cons x l=>
   show((Ah P ((l.map fun n=>Value.int k n).foldlM Builtin.max2 (.int k x))).bind Am)=_;rw[MW];rfl
 ·cases h
theorem ED:∀{t:Ty}{a:t.den}{row:List V},B7 t=true->RE t a row->row.all B8=true
 |.int _,_,_,_,h=>by simp only[RE]at h;subst h;rfl
 |.bool,_,_,_,h=>by simp only[RE]at h;subst h;rfl
 |.str,_,_,_,h=>by simp only[RE]at h;subst h;rfl
 |.pair a b,x,_,hf,h=>by
  obtain⟨r1,r2,rfl,h1,h2⟩:=h;simp only[B7,za1]at hf;simp[List.all_append,ED hf.1 h1,ED hf.2 h2]
 |.sl e,l,_,hf,_=>by cases hf
theorem TI{p:V->Bool}{cs l:List V}{off n:Nat}(h:seg cs off n=some l)(ha:cs.all p=true):l.all p=true:=by
 unfold seg at h
 split at h
 ·cases h
  exact za3.2 fun x hx=>za3.1 ha x (List.mem_of_mem_drop (List.mem_of_mem_take hx))
 ·cases h
theorem Mv{β:Type}{t:TypeId}{v:SV}{y:V}{KS:SV->Option β}{z:β}(hX:XOK P X)(hv:RV2 hp v y)(hh:RHm hpm hp hvm)(h:PE X t v hpm KS=some z):
  ∃x u,KS x=some z/\RV2 hp x u/\∀(ρ:Operand->V)(a:Operand)(b:Nat),ρ a=y->AA P (.load t a) ρ hvm b=some (u,[]):=by
 unfold PE at h
 split at h
 ·rename_i d ty a c hd;obtain⟨row,rfl,hre⟩:=hv;obtain⟨l,x,h1,h2,h3⟩:=Hg h;obtain⟨vs,h4,h5⟩:=RC.seg (hp:=hp) h1 hre.cells;obtain⟨u,h6,h7⟩:=Ja h2 h5;exact⟨x,u,h3,h7,fun ρ a b he=>by simp only[AA,hX.ty t d hd,he,h4,za9,h6]⟩
 ·rename_i d id r c hd;have hy:y=.rf id r c:=hv;subst hy;have arr:∀(ty:Ty)(l:List ty.den)(tb:TB),An hpm id=some tb->(∀kb,RB hp tb kb->RLx (RE ty) l kb.rows/\(B7 ty=true\/kb.deep=false))->((l[r]?).bind fun a=>tMk d.agg (Nv (M6 ty a) c d.size) KS)=some z->
    ∃x u,KS x=some z/\RV2 hp x u/\∀(ρ:Operand->V)(a:Operand)(b:Nat),ρ a=.rf id r c->AA P (.load t a) ρ hvm b=some (u,[]):=by
   intro ty l tb hg hks h;obtain⟨hg',kb,hkb,hrb⟩:=hh id tb hg;obtain⟨q1,q2⟩:=hks kb hrb;obtain⟨a,h0,h⟩:=AF h;obtain⟨row,hrow,hre⟩:=q1.get h0;obtain⟨l',x,h1,h2,h3⟩:=Hg h;obtain⟨vs,h4,h5⟩:=RC.seg (hp:=hp) h1 hre.cells;obtain⟨u,h6,h7⟩:=Ja h2 h5;have hcond:(decide (kb.kind=.box)|| !kb.deep||vs.all B8)=true:=by
    rcases q2 with hf|hd
    ·simp[TI h4 (ED hf hre)]
    ·simp[hd]
   exact⟨x,u,h3,h7,fun ρ a b he=>by simp only[AA,hX.ty t d hd,he,hkb,hrow,h4,hcond,if_true,h6]⟩
  split at h
  ·rename_i ty cs hg
   split at h
   ·rename_i hr0;obtain⟨hg',kb,hkb,hrb⟩:=hh id _ hg;obtain⟨hk1,hk2,row,hk3,hk4,hk5⟩:=hrb;obtain⟨l,x,h1,h2,h3⟩:=Hg h;obtain⟨vs,h4,h5⟩:=RC.seg h1 hk5;obtain⟨u,h6,h7⟩:=Ja h2 h5;refine⟨x,u,h3,h7,fun ρ a b he=> ?_⟩
    simp only[AA,hX.ty t d hd,he,hkb,hk3,List.getElem?_cons_zero,h4,hk1,decide_true,Bool.true_or,if_true,h6]
   ·cases h
  ·rename_i ty deep ty' l hg
   split at h
   ·rename_i hc;refine arr ty' l _ hg (fun kb hrb=>⟨hrb.2.2.2.2,?_⟩) h
    simp only[Bool.or_eq_true,zd5]at hc;rcases hc with hc|hc
    ·right;rw[hrb.2.2.1];exact hc
    ·left;exact hc
   ·cases h
  ·rename_i ty deep ty' l hg
   split at h
   ·rename_i hc;exact arr ty' l _ hg (fun kb hrb=>⟨hrb.2.2.2.2,.inl hc⟩) h
   ·cases h
  ·cases h
 ·cases h
theorem R8{t:TypeId}{a:Operand}(hX:XOK P X)(hr:RT hp tm m)(hh:RHm hpm hp hvm)(h:AV X (.load t a) b tm hpm K=some z):Bj P R cf (.load t a) b m hp hpm hvm K z:=by
 simp only[AV]at h;obtain⟨x,u,h1,h2,h3⟩:=Mv hX (Aw hr a) hh h;exact Fl h1 h2 rfl (h3 _ _ _ rfl) fun _=>rfl
end
end
section
open Go
section
variable {α:Type} {P:Program} {R:Rel} {cf:Cfg} {X:TX} {b:Nat} {tm:TTm} {m:Tm} {hp hpm:THp} {hv hvm:Hp} {K:SV->THp->Cls->Option α} {z:α}
theorem HA(hr:RT hp tm m){x:Option Operand}{d:Nat}{n:Int}(h:KL tm x (d:Int)=some n)(h0:0<=n):bnd (Ao m) x d=some n.toNat:=by
 cases x with
 |none=>simp only[KL,zx]at h;subst h;simp[bnd]
 |some x=>
  simp only[KL]at h;have hx:=Aw hr x;unfold QX at h
  split at h
  ·rename_i k n' e1;cases h
   rw[e1]at hx;have hx:=Ed hx;simp only[bnd,hx,zr h0]
  ·cases h
theorem HH{β:Type}{lo hi:Option Operand}{len:Nat}{KS:Nat->Nat->Option β}{z:β}(hr:RT hp tm m)(h:Mt tm lo hi len KS=some z):
  ∃l r,KS l r=some z/\bnd (Ao m) lo 0=some l/\bnd (Ao m) hi len=some r/\l<=r/\r<=len:=by
 have main:(match KL tm lo 0,KL tm hi (len:Int)with|some l,some h=>(DH l h len).bind fun p=>KS p.1 p.2|_,_=>none)=some z->∃l r,KS l r=some z/\bnd (Ao m) lo 0=some l/\bnd (Ao m) hi len=some r/\l<=r/\r<=len:=by
  intro h
  split at h
  ·rename_i l r e1 e2;obtain⟨p,h1,h2⟩:=AF h;unfold DH at h1
   split at h1
   ·rename_i hc;cases h1
    exact⟨l.toNat,r.toNat,h2,HA hr (d:=0) e1 hc.1,HA hr e2 (by omega),by omega,by omega⟩
   ·cases h1
  ·cases h
 unfold Mt at h;cases lo with
 |none=>
  cases hi with
  |none=>exact⟨0,len,h,rfl,rfl,Nat.zero_le _,zb6 _⟩
  |some y=>exact main h
 |some x=>exact main h
theorem UB{t e:TypeId}(h:(Az P t).bind (·.elem)=some e):Ck P t=false:=by
 cases hs:Ck P t with
 |false=>rfl
 |true=>
  have h1:=AO h;have h2:=BZ hs;rw[h1]at h2;cases h2
theorem PP{t:TypeId}{x:Operand}{lo hi:Option Operand}(hX:XOK P X)(hr:RT hp tm m)(hh:RHm hpm hp hvm)(h:AV X (.slice t x lo hi none) b tm hpm K=some z):
  Bj P R cf (.slice t x lo hi none) b m hp hpm hvm K z:=by
 simp only[AV,Ri]at h;have hx:=Aw hr x
 split at h
 ·rename_i s e1;rw[e1]at hx;have hx:=HN hx
  split at h
  ·rename_i hs;have hs':Ck P t=true:=QH hX hs;obtain⟨l,r,h1,h2,h3,h4,h5⟩:=HH hr h;have hsz:(ByteArray.mk s.toArray).size=s.length:=by simp[ByteArray.size]
   refine⟨_,.v (.string ⟨((s.take r).drop l).toArray⟩),.M,h1,rfl,fun KV hk=> ?_⟩
   show(if Ck P t then AQ (Ak P (.slice t x lo hi none) (Ao m)) fun z=>KV z hvm .M else _);rw[zr hs'];have:Ak P (.slice t x lo hi none) (Ao m)=some (.v (.string ⟨((s.take r).drop l).toArray⟩)):=by
    simp only[Ak,hs',hx,h2,hsz,h3];rw[zr ⟨h4,h5⟩]
    congr 3
    apply ByteArray.ext
    simp[List.drop_take]
   rw[this];exact hk
  ·cases h
 ·rename_i hns
  split at h
  ·rename_i e de c he;have hE:=Gm hX he;have hs':=UB hE.el;have fin:∀(v:SV)(y:V),K v hpm .M=some z->RV2 hp v y->(∀KV:A2,KV y hvm .M->AH P t (Ao m x) lo hi (Ao m) hvm KV)->Bj P R cf (.slice t x lo hi none) b m hp hpm hvm K z:=by
    intro v y h hv hw;refine⟨v,y,.M,h,hv,fun KV hk=> ?_⟩
    show(if Ck P t then _ else AH P t (Ao m x) lo hi (Ao m) hvm KV);rw[zw (by rw[hs'];simp)];exact hw KV hk
   split at h
   ·rename_i e1;rw[e1]at hx;have hx:Ao m x=.em:=hx;obtain⟨l,r,h1,h2,h3,h4,h5⟩:=HH hr h;refine fin _ .em h1 rfl fun KV hk=> ?_
    simp only[AH,hE.el,hE.ty,Ag,hx,h2,h3];exact⟨by omega,by omega,hk⟩
   ·rename_i ty l0 e1;rw[e1]at hx
    split at h
    ·rename_i hsz;have hsz:=za4 hsz;obtain⟨l,r,h1,h2,h3,h4,h5⟩:=HH hr h;rcases hx with⟨rfl,hx⟩|⟨rows,hx,hrl⟩
     ·refine fin _ .em h1 (.inl ⟨by simp,rfl⟩) fun KV hk=> ?_
      simp only[List.length_nil]at h3 h5;simp only[AH,hE.el,hE.ty,Ag,hx,h2,h3];exact⟨by omega,by omega,hk⟩
     ·refine fin _ (.im ((rows.take r).drop l)) h1 (.inr ⟨_,rfl,(hrl.take r).drop l⟩) fun KV hk=> ?_
      simp only[AH,hE.el,hE.ty,Ag,hx,h2,hrl.1,h3];refine⟨h4,h5,fun row hrow=> ?_,hk⟩
      obtain⟨i,hi⟩:=zd1 hrow;obtain⟨a,_,hre⟩:=hrl.get' hi;rw[hre.len];exact hsz
    ·cases h
   ·rename_i id e1;rw[e1]at hx;obtain⟨len,hx,hlen⟩:=hx;have key:∀(ty:Ty)(l0:List ty.den)(tb:TB),An hpm id=some tb->Cw tb=some l0.length->(∀kb,RB hp tb kb->kb.size=ty.size)->(Nat.beq ty.size de.size=true)->
      TO tm lo hi l0.length (K (.ow id) hpm .M) (fun l h=>K (.ar id l (h-l)) hpm .M)=some z->Bj P R cf (.slice t x lo hi none) b m hp hpm hvm K z:=by
     intro ty l0 tb hg hbl hks hsz h;obtain⟨hg',kb,hkb,hrb⟩:=hh id tb hg;have hl:=hlen tb hg';rw[hbl]at hl;cases hl
     have hsz:kb.size=de.size:=by rw[hks kb hrb];exact za4 hsz
     have gen:(Mt tm lo hi l0.length fun l h=>K (.ar id l (h-l)) hpm .M)=some z->Bj P R cf (.slice t x lo hi none) b m hp hpm hvm K z:=by
      intro h;obtain⟨l,r,h1,h2,h3,h4,h5⟩:=HH hr h;refine fin _ (.ar id (0+l) (r-l)) h1 (by rw[zd0];rfl) fun KV hk=> ?_
      simp only[AH,hE.el,hE.ty,Ag,hx,h2,h3,hkb];exact⟨h4,h5,hsz,hk⟩
     cases lo with
     |none=>
      cases hi with
      |none=>
       refine fin _ (.ar id (0+0) (l0.length-0)) h ⟨l0.length,by simp,hlen⟩ fun KV hk=> ?_
       simp only[AH,hE.el,hE.ty,Ag,hx,bnd,hkb];exact⟨Nat.zero_le _,zb6 _,hsz,hk⟩
      |some y=>exact gen h
     |some y=>exact gen h
    split at h
    ·rename_i a b' ty l hg
     split at h
     ·rename_i hsz;exact key ty l _ hg rfl (fun kb hrb=>hrb.2.2.2.1) hsz h
     ·cases h
    ·rename_i a b' ty l hg
     split at h
     ·rename_i hsz;exact key ty l _ hg rfl (fun kb hrb=>hrb.2.2.2.1) hsz h
     ·cases h
    ·cases h
   ·rename_i id l1 n e1;rw[e1]at hx;have hx:Ao m x=.ar id l1 n:=hx;have key:∀(ty:Ty)(tb:TB),An hpm id=some tb->(∀kb,RB hp tb kb->kb.size=ty.size)->(Nat.beq ty.size de.size=true)->
      (Mt tm lo hi n fun l h=>K (.ar id (l1+l) (h-l)) hpm .M)=some z->Bj P R cf (.slice t x lo hi none) b m hp hpm hvm K z:=by
     intro ty tb hg hks hsz h;obtain⟨hg',kb,hkb,hrb⟩:=hh id tb hg;have hsz:kb.size=de.size:=by rw[hks kb hrb];exact za4 hsz
     obtain⟨l,r,h1,h2,h3,h4,h5⟩:=HH hr h;refine fin _ (.ar id (l1+l) (r-l)) h1 rfl fun KV hk=> ?_
     simp only[AH,hE.el,hE.ty,Ag,hx,h2,h3,hkb];exact⟨h4,h5,hsz,hk⟩
    split at h
    ·rename_i a b' ty l hg
     split at h
     ·rename_i hsz;exact key ty _ hg (fun kb hrb=>hrb.2.2.2.1) hsz h
     ·cases h
    ·rename_i a b' ty l hg
     split at h
     ·rename_i hsz;exact key ty _ hg (fun kb hrb=>hrb.2.2.2.1) hsz h
     ·cases h
    ·cases h
   ·cases h
  ·cases h
theorem NU{t:TypeId}{x hi mx:Operand}{lo:Option Operand}(hX:XOK P X)(hr:RT hp tm m)(h:AV X (.slice t x lo (some hi) (some mx)) b tm hpm K=some z):
  Bj P R cf (.slice t x lo (some hi) (some mx)) b m hp hpm hvm K z:=by
 simp only[AV]at h;have hx:=Aw hr x
 split at h
 ·rename_i e de c ty l he e1;rw[e1]at hx;have hE:=Gm hX he
  split at h
  ·rename_i l0 h0 m0 q1 q2 q3;obtain⟨hc,h⟩:=Bp h;have hc:=of_decide_eq_true hc;obtain⟨rfl,rfl,rfl⟩:=hc;have b1:=HA hr (d:=0) q1 (by omega);have b2:=HA hr (d:=0) q2 (by omega);have b3:=HA hr (d:=0) q3 (by omega);have hel:((Az P t).bind (·.elem)).bind (Az P)=some de:=by rw[hE.el];exact hE.ty
   refine Ay h (y:=.em) rfl ?_ fun _=>rfl
   rcases hx with⟨rfl,hx⟩|⟨rows,hx,hrl⟩
   ·simp only[Ak,hel,hx,b1,b2,b3];rfl
   ·simp only[Ak,hel,hx,b1,b2,b3];rw[zr (by simp)]
  ·cases h
 ·cases h
theorem RW{t:TypeId}(hX:XOK P X)(h:Ht X t=true):Dp P t=true:=by
 unfold Ht at h
 split at h
 ·rename_i d hd
  split at h
  ·rename_i e he
   split at h
   ·rename_i de hde;have:(Az P t).bind (·.elem)=some e:=by rw[hX.ty t d hd];exact he
    simp only[Dp,this,hX.ty e de hde];exact h
   ·cases h
  ·cases h
 ·cases h
theorem JG:∀{l:List Int}{rows:List (List V)},RLx (RE (.int .u8)) l rows->A1 rows=some (AK l)
 |[],rows,h=>by rw[h.of_nil];rfl
 |n::l,rows,h=>by
  cases rows with
  |nil=>have:=h.1;simp at this
  |cons r rows=>
   have hr:RE (.int .u8) n r:=h.2 0 n r rfl rfl;have hrest:RLx (RE (.int .u8)) l rows:=⟨by have:=h.1;simpa using this,fun i a q h1 h2=>h.2 (i+1) a q (by simpa using h1) (by simpa using h2)⟩;simp only[RE]at hr;subst hr;simp only[A1,Gw,JG hrest,AK,zb0]
theorem Ta(s:Str):RLx (RE (.int .u8)) (A3 s) (Df ⟨s.toArray⟩):=by
 refine⟨by simp[Df,A3],fun i a r h1 h2=> ?_⟩
 simp only[Df,A3,zc5,za8]at h1 h2;obtain⟨c,hc,rfl⟩:=h1;obtain⟨c',hc',rfl⟩:=h2;have:c'=c:=by
  have h3:s[i]? =some c':=by simpa using hc'
  rw[hc]at h3;exact(zv h3).symm
 subst this;rfl
theorem Sr{s d:TypeId}{ds dd:TyD}{k k0:IntKind}{n:Int}(h1:Az P s=some ds)(h2:Az P d=some dd)(h3:dd.int=some k):(Ah P (Go.convert s d (.int k0 n))).bind Am=some (.v (.int k (k.wrap n))):=by
 obtain⟨i,u,z,hi,hu,_⟩:=AX h1;obtain⟨i',u',z',hi',hu',_,_,_,_,rfl⟩:=AX h2;have hud:u'=.int k:=by cases u'<;>simp[TC]at h3;rw[h3]
 subst hud;unfold Go.convert;rw[Ci hu,Ci hu'];cases u<;>rfl
theorem SO{s d:TypeId}{x:ByteArray}(h1:Ck P s=true)(h2:Ck P d=true):(Ah P (Go.convert s d (.string x))).bind Am=some (.v (.string x)):=by
 unfold Go.convert;rw[Ci (BZ h1),Ci (BZ h2)];rfl
theorem OA{s d:TypeId}{x:ByteArray}(h1:Ck P s=true)(h2:Dp P d=true):(Ah P (Go.convert s d (.string x))).bind Am=none:=by
 obtain⟨e,h3,h4⟩:=HQ h2;unfold Go.convert;rw[Ci (BZ h1),Ci h3];show(Ah P (underlying e>>=_)).bind Am=none;rw[Ci h4];rfl
theorem Kw{e:Ty}{x:SV}{l:List e.den}{y:V}(h:DF hpm e x=some l)(hv:RV0 hp x y)(hh:RHm hpm hp hvm):
  (l=[]/\y=.em)\/(∃rows,y=.im rows/\RLx (RE e) l rows)\/∃id lo n kb,y=.ar id lo n/\hvm id=some kb/\kb.kind≠ .box/\RLx (RE e) l ((kb.rows.take (lo+n)).drop lo):=by
 unfold DF at h
 split at h
 ·rename_i id;obtain⟨n,rfl,hlen⟩:=hv;have key:∀(t:Ty)(l0:List t.den)(tb:TB),An hpm id=some tb->Cw tb=some l0.length->(∀kb,RB hp tb kb->kb.kind≠ .box/\RLx (RE t) l0 kb.rows)->(if h:t=e then some (DJ h l0)else none)=some l->
    (l=[]/\V.ar id 0 n=.em)\/(∃rows,V.ar id 0 n=.im rows/\RLx (RE e) l rows)\/∃id' lo n' kb,V.ar id 0 n=.ar id' lo n'/\hvm id'=some kb/\kb.kind≠ .box/\RLx (RE e) l ((kb.rows.take (lo+n')).drop lo):=by
   intro t l0 tb hg hbl hks h;obtain⟨hg',kb,hkb,hrb⟩:=hh id tb hg;have hl:=hlen tb hg';rw[hbl]at hl;cases hl
   obtain⟨q1,q2⟩:=hks kb hrb
   split at h
   ·rename_i he;cases h
    refine .inr (.inr ⟨id,0,l0.length,kb,rfl,hkb,q1,?_⟩)
    have:(kb.rows.take (0+l0.length)).drop 0=kb.rows:=by rw[zd0,<-q2.1];simp
    rw[this];exact CJ he q2
   ·cases h
  split at h
  ·rename_i a b' t l0 hg;exact key t l0 _ hg rfl (fun kb hrb=>⟨by rw[hrb.1];simp,hrb.2.2.2.2⟩) h
  ·rename_i a b' t l0 hg;exact key t l0 _ hg rfl (fun kb hrb=>⟨by rw[hrb.1];simp,hrb.2.2.2.2⟩) h
  ·cases h
 ·rename_i id lo n;have hv:y=.ar id lo n:=hv;subst hv;have key:∀(t:Ty)(l0:List t.den)(tb:TB),An hpm id=some tb->(∀kb,RB hp tb kb->kb.kind≠ .box/\RLx (RE t) l0 kb.rows)->(if h:t=e then some (((DJ h l0).take (lo+n)).drop lo)else none)=some l->
    (l=[]/\V.ar id lo n=.em)\/(∃rows,V.ar id lo n=.im rows/\RLx (RE e) l rows)\/∃id' lo' n' kb,V.ar id lo n=.ar id' lo' n'/\hvm id'=some kb/\kb.kind≠ .box/\RLx (RE e) l ((kb.rows.take (lo'+n')).drop lo'):=by
   intro t l0 tb hg hks h;obtain⟨hg',kb,hkb,hrb⟩:=hh id tb hg;obtain⟨q1,q2⟩:=hks kb hrb
   split at h
   ·rename_i he;cases h
    exact .inr (.inr ⟨id,lo,n,kb,rfl,hkb,q1,((CJ he q2).take _).drop _⟩)
   ·cases h
  split at h
  ·rename_i a b' t l0 hg;exact key t l0 _ hg (fun kb hrb=>⟨by rw[hrb.1];simp,hrb.2.2.2.2⟩) h
  ·rename_i a b' t l0 hg;exact key t l0 _ hg (fun kb hrb=>⟨by rw[hrb.1];simp,hrb.2.2.2.2⟩) h
  ·cases h
 ·rcases Mm h hv with h1|h1
  ·exact .inl h1
  ·exact .inr (.inl h1)
theorem Li{e:Ty}{x:SV}{l:List e.den}{y:V}(h:DF hpm e x=some l)(hv:RV2 hp x y):RV0 hp x y:=by
 cases x with
 |agg cs=>simp[DF,asL]at h
 |tup cs=>simp[DF,asL]at h
 |cl f cs=>simp[DF,asL]at h
 |_=>exact hv
theorem Rz{s d:TypeId}{x:Operand}(hX:XOK P X)(hr:RT hp tm m)(hh:RHm hpm hp hvm)(h:AV X (.convert s d x) b tm hpm K=some z):Bj P R cf (.convert s d x) b m hp hpm hvm K z:=by
 simp only[AV,TN]at h;have hx:=Aw hr x
 split at h
 ·rename_i k n e1;rw[e1]at hx;have hx:=Ed hx
  split at h
  ·rename_i ds dd h1 h2
   split at h
   ·rename_i k' h3;exact Ay h (y:=.v (.int k' (k'.wrap n))) rfl (by simp only[Ak,hx];exact Sr (hX.ty _ _ h1) (hX.ty _ _ h2) h3) fun _=>rfl
   ·cases h
  ·cases h
 ·rename_i v e1;rw[e1]at hx;have hx:=HN hx
  split at h
  ·rename_i hs;have hs:=QH hX hs
   split at h
   ·rename_i hd;have hd:=RW hX hd;obtain⟨hc,h⟩:=Bp h;have hc:=of_decide_eq_true hc;refine Fl h (y:=.im (Df ⟨v.toArray⟩)) (.inr ⟨_,rfl,Ta v⟩) (by simp only[Ak,hx];exact OA hs hd) ?_ fun _=>rfl
    simp only[AA,hx,hs,hd,Bool.true_and];have:(ByteArray.mk v.toArray).size<=Af:=by simpa[ByteArray.size]using hc
    rw[zr (by simpa using this)]
   ·split at h
    ·rename_i hd;have hd:=QH hX hd;exact Ay h (y:=.v (.string ⟨v.toArray⟩)) rfl (by simp only[Ak,hx];exact SO hs hd) fun _=>rfl
    ·cases h
  ·cases h
 ·rename_i hn1 hn2
  split at h
  ·rename_i hc;simp only[za1]at hc;have h1:=RW hX hc.1;have h2:=QH hX hc.2
   split at h
   ·rename_i l hl;have hx0:=Li hl hx;have hrel:=Kw hl hx0 hh
    ·rcases hrel with⟨rfl,hy⟩|⟨rows,hy,hrl⟩|⟨id,lo,n,kb,hy,hkb,hkk,hrl⟩
     ·refine Fl h (y:=.v (.string ⟨(AK []).toArray⟩)) rfl (by simp only[Ak,hy]) ?_ fun _=>rfl
      simp only[AA,hy,h1,h2,Bool.and_self,if_true];rfl
     ·refine Fl h (y:=.v (.string ⟨(AK l).toArray⟩)) rfl (by simp only[Ak,hy]) ?_ fun _=>rfl
      simp only[AA,hy,h1,h2,Bool.and_self,if_true,JG hrl]
     ·refine Fl h (y:=.v (.string ⟨(AK l).toArray⟩)) rfl (by simp only[Ak,hy]) ?_ fun _=>rfl
      simp only[AA,hy,hkb,h1,h2,Bool.and_self,JG hrl];rw[zr (by simpa using hkk)]
   ·cases h
  ·cases h
end
end
section
open Go
section
variable {α:Type} {P:Program} {R:Rel} {cf:Cfg} {X:TX} {b:Nat} {tm:TTm} {m:Tm} {hp hpm:THp} {hv hvm:Hp} {K:SV->THp->Cls->Option α} {z:α}
def KE(P:Program)(R:Rel)(cf:Cfg)(op:Op)(b:Nat)(tm:TTm)(m:Tm)(hv:Hp)(K:SV->THp->Cls->Option α)(z:α):Prop:=
 ∃x hp' cls y hv',K x hp' cls=some z/\RV2 hp' x y/\RH hp' hv'/\RT hp' tm m/\∀KV:A2,KV y hv' cls->AN P R cf op b (Ao m) hv KV
theorem Bj.done{op:Op}(h:Bj P R cf op b m hp hp hv K z)(hh:RH hp hv)(hr:RT hp tm m):KE P R cf op b tm m hv K z:=by
 obtain⟨x,y,cls,h1,h2,h3⟩:=h;exact⟨x,hp,cls,y,hv,h1,h2,hh,hr,h3⟩
theorem HO{x:TB}{k:Blk}(hh:RH hp hv)(hr:RT hp tm m)(hf:∀t,b ∉ C4 (AW tm t))(hb:∀id y,An hp id=some y->b ∉ EN y)(hx:b ∉ EN x)(hk:RB hp x k):
  RH ((b,some x)::hp) (upd hv b (some k))/\RT ((b,some x)::hp) tm m:=
 ⟨hh.put (fun id hid=>Fd fun he=>hx (he▸hid)) (fun id y _ hy i hi=>Fd fun he=>hb id y hy (he▸hi)) hk,hr.keeps fun t id hid=>Fd fun he=>hf t (he▸hid)⟩
theorem GK{l:List Nat}(h:C2 tm hp b=true){id:Nat}{k:TB}(hk:An (BN hp l) id=some k):b ∉ EN k:=Hn h (HF l hp id k hk).1
theorem N1:∀(l:List V),(l.map IL).flatMap Cn=[]
 |[]=>rfl
 |x::l=>by
  rw[zb0,za7,N1 l];unfold IL
  split<;>rfl
theorem Tz{t:TypeId}(hX:XOK P X)(hh:RH hp hv)(hr:RT hp tm m)(h:AV X (.alloc t) b tm hp K=some z):KE P R cf (.alloc t) b tm m hv K z:=by
 simp only[AV]at h
 split at h
 ·rename_i d hd
  split at h
  ·rename_i hf;obtain⟨h1,h2⟩:=HO (x:=.box t (d.zero.map IL)) (k:=F0 t d.zero) hh hr (Eu hf) (fun id y hy=>Hn hf hy) (by simp only[EN];rw[N1];simp) ⟨rfl,rfl,d.zero,rfl,rfl,Hy d.zero⟩;refine⟨_,_,_,.rf b 0 0,_,h,rfl,h1,h2,fun KV hk=> ?_⟩
   show AQ (AA P (.alloc t) (Ao m) hv b) (fun z=>z.2.length<=16/\KV z.1 (inst hv b z.2) .M);simp only[AA,hX.ty t d hd,Ag];exact⟨by simp,hk⟩
  ·cases h
 ·cases h
theorem SK{x:SV}:∀id∈(BA x).flatMap Cn,id∈C4 x:=by
 intro id hid;cases x with
 |agg cs=>exact hid
 |tup cs=>simp[BA,Cn]at hid
 |cl f cs=>simp[BA,Cn]at hid
 |ow id'=>simpa[BA,Cn,KC,C4]using hid
 |_=>simp[BA,Cn]at hid
theorem QT(c:Value):C4 (Jp c)=[]:=by
 have h0:∀c,Cn (HC c)=[]/\C4 (HC c)=[]:=by
  intro c;unfold HC
  split<;>first|exact⟨rfl,rfl⟩|(split<;>exact⟨rfl,rfl⟩)
 unfold Jp
 split
 ·rename_i cs;show(cs.toList.map HC).flatMap Cn=[];rw[List.flatMap_eq_nil_iff];intro x hx;obtain⟨c,_,rfl⟩:=zc2.1 hx;exact(h0 c).1
 ·exact(h0 c).2
theorem RL(h:C2 tm hp b=true)(x:Operand):b ∉ C4 (opT tm x):=by
 cases x with
 |tmp t=>exact Eu h t
 |const c=>simp only[opT,QT];simp
 |global g=>simp[opT,C4,KC,Cn]
 |func f=>simp[opT,C4,KC,Cn]
theorem U5{t:TypeId}{x:Operand}(hX:XOK P X)(hh:RH hp hv)(hr:RT hp tm m)(h:AV X (.box t x) b tm hp K=some z):KE P R cf (.box t x) b tm m hv K z:=by
 simp only[AV]at h
 split at h
 ·rename_i d hd
  split at h
  ·rename_i hc;simp only[za1]at hc;obtain⟨⟨c1,c2⟩,hf⟩:=hc;obtain⟨f1,f2⟩:=Eg (Aw hr x) c2;obtain⟨h1,h2⟩:=HO (x:=.box t (BA (opT tm x))) (k:=F0 t (flat (Ao m x))) hh hr (Eu hf) (fun id y hy=>Hn hf hy) (fun hi=>RL hf x (SK b hi)) ⟨rfl,rfl,_,rfl,rfl,f1⟩;refine⟨_,_,_,.rf b 0 0,_,h,rfl,h1,h2,fun KV hk=> ?_⟩
   show AQ (AA P (.box t x) (Ao m) hv b) (fun z=>z.2.length<=16/\KV z.1 (inst hv b z.2) .M);simp only[AA,hX.ty t d hd];have hl:(flat (Ao m x)).length=d.size:=by have:=f1.length;have:=za4 c1;omega
   rw[zr (by simp[hl,f2])];exact⟨by simp,hk⟩
  ·cases h
 ·cases h
theorem K6{n:Int}{bytes size k:Nat}(h:QL n bytes size=some k):0<=n/\n.toNat*bytes<=Af/\n.toNat*size<=Af/\k=n.toNat:=by
 unfold QL at h
 split at h
 ·rename_i hc;cases h;exact⟨hc.1,hc.2.1,hc.2.2,rfl⟩
 ·cases h
theorem Uo{t:TypeId}{l c:Operand}(hX:XOK P X)(hh:RH hp hv)(hr:RT hp tm m)(h:AV X (.makeSlice t l c) b tm hp K=some z):KE P R cf (.makeSlice t l c) b tm m hv K z:=by
 simp only[AV,TY]at h;have hl:=Aw hr l;have hc:=Aw hr c
 split at h
 ·rename_i e de ty k1 n k2 n2 he e1 e2;rw[e1]at hl;rw[e2]at hc;have hl:=Ed hl;have hc:=Ed hc;have hE:=Gm hX he
  split at h
  ·rename_i zz hz
   split at h
   ·rename_i hq;simp only[za1]at hq;obtain⟨hf,hsc⟩:=hq;have hre:RE ty zz de.zero:=Jv (hp:=hp) hz (Hy de.zero);have fin:∀(kk:Nat),kk=n.toNat->0<=n->n<=n2->n2.toNat*de.bytes<=Af->n2.toNat*de.size<=Af->K (.ow b) ((b,some (.arr e true ty (List.replicate kk zz)))::hp) .M=some z->KE P R cf (.makeSlice t l c) b tm m hv K z:=by
     intro kk hkk h0 h1 h2 h3 hK;obtain⟨g1,g2⟩:=HO (x:=.arr e true ty (List.replicate kk zz)) (k:=AL e de.size true (List.replicate n.toNat de.zero)) hh hr (Eu hf) (fun id y hy=>Hn hf hy) (by simp[EN]) ⟨rfl,rfl,rfl,hE.size,by rw[hkk];exact RLx.replicate hre _⟩;refine⟨_,_,_,.ar b 0 n.toNat,_,hK,⟨n.toNat,rfl,fun bb hb=> ?_⟩,g1,g2,fun KV hk=> ?_⟩
     ·rw[Al,zr rfl]at hb;cases hb
      simp[Cw,hkk]
     ·show AQ (AA P (.makeSlice t l c) (Ao m) hv b) (fun z=>z.2.length<=16/\KV z.1 (inst hv b z.2) .M);simp only[AA,hl,hc,hE.el,hE.ty];rw[zr ⟨h0,h1,h2,h3,hsc⟩];exact⟨by simp,hk⟩
    cases hs:O6 l c with
    |true=>
     rw[hs]at h;obtain⟨kk,h1,h2⟩:=AF (show((QL n2 de.bytes de.size).bind fun k=>K (.ow b) ((b,some (.arr e true ty (List.replicate k zz)))::hp) .M)=some z from h);obtain⟨q1,q2,q3,q4⟩:=K6 h1;have hn:n=n2:=by
      have:l=c:=by
       unfold O6 at hs
       split at hs
       ·rw[za4 hs]
       ·cases hs
      subst this;rw[e1]at e2;cases e2
      rfl
     subst hn;exact fin kk q4 q1 (Int.le_refl _) q2 q3 h2
    |false=>
     rw[hs]at h;obtain⟨kk,h1,h2⟩:=AF (show((QL n2 de.bytes de.size).bind fun _=>cond (decide (0<=n)&&decide (n<=n2)) (K (.ow b) ((b,some (.arr e true ty (List.replicate n.toNat zz)))::hp) .M) none)=some z from h);obtain⟨q1,q2,q3,q4⟩:=K6 h1;obtain⟨c1,h2⟩:=Bp h2;simp only[za1,decide_eq_true_eq]at c1;exact fin n.toNat rfl c1.1 c1.2 q2 q3 h2
   ·cases h
  ·cases h
 ·cases h
theorem M7{x x':SV}{y:V}{kills:List Nat}{deep:Bool}(hh:RH hp hv)(h:I6 hp x=some (x',kills,deep))(hx:RV0 hp x y):
  ∃y',Ap hv y=some (y',kills,deep)/\RV0 hp x' y'/\Cn x'=[]:=by
 unfold I6 at h
 split at h
 ·cases h;have:y=_:=hx;subst this;exact⟨_,rfl,rfl,rfl⟩
 ·cases h;have:y=_:=hx;subst this;exact⟨_,rfl,rfl,rfl⟩
 ·cases h;have:y=_:=hx;subst this;exact⟨_,rfl,rfl,rfl⟩
 ·cases h;have:y=_:=hx;subst this;exact⟨_,rfl,rfl,rfl⟩
 ·cases h;have:y=_:=hx;subst this;exact⟨_,rfl,rfl,rfl⟩
 ·cases h
  rcases hx with⟨rfl,rfl⟩|⟨rows,rfl,hr⟩
  ·exact⟨.em,rfl,.inl ⟨rfl,rfl⟩,rfl⟩
  ·exact⟨.im rows,rfl,.inr ⟨rows,rfl,hr⟩,rfl⟩
 ·rename_i id;obtain⟨n,rfl,hlen⟩:=hx
  split at h
  ·rename_i a dd t l hg;cases h
   obtain⟨k,hk,hrb⟩:=hh id _ hg;have:=hlen _ hg;cases this
   have hrows:(k.rows.take (0+l.length)).drop 0=k.rows:=by rw[zd0,<-hrb.2.2.2.2.1];simp
   refine⟨.im k.rows,?_,.inr ⟨_,rfl,hrb.2.2.2.2⟩,rfl⟩
   simp only[Ap,hk,hrb.1,hrows,hrb.2.2.1]
  ·rename_i a dd t l hg;cases h
   obtain⟨k,hk,hrb⟩:=hh id _ hg;have:=hlen _ hg;cases this
   have hrows:(k.rows.take (0+l.length)).drop 0=k.rows:=by rw[zd0,<-hrb.2.2.2.2.1];simp
   refine⟨.im k.rows,?_,.inr ⟨_,rfl,hrb.2.2.2.2⟩,rfl⟩
   simp only[Ap,hk,hrb.1,hrows]
  ·cases h
 ·rename_i id lo n;have:y=_:=hx;subst this
  split at h
  ·rename_i a dd t l hg;cases h
   obtain⟨k,hk,hrb⟩:=hh id _ hg;refine⟨.im ((k.rows.take (lo+n)).drop lo),?_,.inr ⟨_,rfl,(hrb.2.2.2.2.take _).drop _⟩,rfl⟩
   simp only[Ap,hk,hrb.1,hrb.2.2.1]
  ·rename_i a dd t l hg;cases h
   obtain⟨k,hk,hrb⟩:=hh id _ hg;refine⟨.im ((k.rows.take (lo+n)).drop lo),?_,.inr ⟨_,rfl,(hrb.2.2.2.2.take _).drop _⟩,rfl⟩
   simp only[Ap,hk,hrb.1]
  ·cases h
 ·cases h
theorem FS(hh:RH hp hv):∀{xs xs':List SV}{ys:List V}{kills:List Nat}{deep:Bool},EC hp xs=some (xs',kills,deep)->RC (RV0 hp) xs ys->
  ∃ys',Ar hv ys=some (ys',kills,deep)/\RC (RV0 hp) xs' ys'/\xs'.flatMap Cn=[]
 |[],xs',ys,kills,deep,h,hc=>by
  simp only[EC,zx,Prod.mk.injEq]at h;obtain⟨rfl,rfl,rfl⟩:=h;cases ys with
  |nil=>exact⟨[],rfl,trivial,rfl⟩
  |cons a l=>exact hc.elim
 |x::xs,xs',ys,kills,deep,h,hc=>by
  simp only[EC]at h
  split at h
  ·rename_i x1 a d xs1 as ds h1 h2;simp only[zx,Prod.mk.injEq]at h;obtain⟨rfl,rfl,rfl⟩:=h;cases ys with
   |nil=>exact hc.elim
   |cons y ys=>
    obtain⟨y',q1,q2,q3⟩:=M7 hh h1 hc.1;obtain⟨ys',q4,q5,q6⟩:=FS hh h2 hc.2;exact⟨y'::ys',by simp only[Ar,q1,q4],⟨q2,q5⟩,by rw[za7,q3,q6];rfl⟩
  ·cases h
theorem Et:∀{xs xs':List SV}{kills:List Nat}{deep:Bool},EC hp xs=some (xs',kills,deep)->xs.all okT=true
 |[],_,_,_,_=>rfl
 |x::xs,xs',kills,deep,h=>by
  simp only[EC]at h
  split at h
  ·rename_i x1 a d xs1 as ds h1 h2;have:okT x=true:=by
    cases x<;>first|rfl|(simp[I6]at h1;done)|skip
   simp only[zb5,this,Et h2,Bool.and_self]
  ·cases h
theorem S7{t:TypeId}{a x:Operand}(hX:XOK P X)(hh:RH hp hv)(hr:RT hp tm m)(h:AV X (.store t a x) b tm hp K=some z):KE P R cf (.store t a x) b tm m hv K z:=by
 simp only[AV,Ro]at h;have ha:=Aw hr a;have hx:=Aw hr x
 split at h
 ·rename_i d id r c hd e1;rw[e1]at ha;have ha:Ao m a=.rf id r c:=ha
  split at h
  ·rename_i hlen;have hlen:=za4 hlen
   split at h
   ·rename_i ty cs hg
    split at h
    ·split at h
     ·rename_i hok
      split at h
      ·rename_i cs' hput;obtain⟨kb,hkb,hk1,hk2,row,hk3,hk4,hk5⟩:=hh id _ hg;obtain⟨f1,f2⟩:=Eg hx hok;obtain⟨row',p1,p2⟩:=RC.put hput hk5 f1;have hkeep:∀i,Bk hp ((id,some (.box ty cs'))::hp) i:=fun i=>Jm (y:=.box ty cs') hg rfl i
       have hrl:row'.length=row.length:=by
        have q1:=p2.length;have q2:=hk5.length;have q3:cs'.length=cs.length:=by
         unfold QJ at hput
         split at hput
         ·cases hput;simp;omega
         ·cases hput
        omega
       refine⟨_,_,_,.any,upd hv id (some {kb with rows:=kb.rows.set 0 row'}),h,trivial,?_,hr.keeps fun t i _=>hkeep i,fun KV hk=> ?_⟩
       ·exact hh.put (fun i _=>hkeep i) (fun _ _ _ _ i _=>hkeep i) ⟨hk1,hk2,row',by rw[hk3];rfl,by show kb.size=_;rw[hk4,hrl],p2⟩
       ·show Ba P t (Ao m a) (Ao m x) hv KV;have hl:(flat (Ao m x)).length=d.size:=by have:=f1.length;omega
        simp only[Ba,hX.ty t d hd,ha,hkb,hk3,List.getElem?_cons_zero,hl,if_true,hk1,f2,p1];rw[hk3,hk1]at hk;exact hk
      ·cases h
     ·cases h
    ·cases h
   ·rename_i ty deep e l hg;obtain⟨y,h1,h⟩:=AF h
    split at h
    ·rename_i cs kills deep' hcl
     split at h
     ·rename_i hnd
      split at h
      ·rename_i cs' hput
       split at h
       ·rename_i zz hz;obtain⟨kb,hkb,hk1,hk2,hk3,hk4,hk5⟩:=hh id _ hg;obtain⟨f1,f2⟩:=Eg hx (Et hcl);obtain⟨ys,q1,q2,q3⟩:=FS hh hcl f1;obtain⟨row,hrow,hre⟩:=hk5.get h1;obtain⟨row',p1,p2⟩:=RC.put hput hre.cells q2;have hrz:=Jv hz p2;have hidk:id ∉ kills:=by
         simp only[B5,za1,zd5,List.contains_eq_mem,decide_eq_false_iff_not]at hnd;exact hnd.1
        have hkeep:∀i,Bk hp ((id,some (.arr ty (deep&&deep') e (l.set r zz)))::BN hp kills) i:=by
         intro i bb hbb;rw[Al]at hbb
         split at hbb
         ·rename_i hi;subst hi;cases hbb;exact⟨_,hg,by simp[Cw]⟩
         ·exact Dc kills hp i bb hbb
        have hkeep':∀i,Bk (BN hp kills) ((id,some (.arr ty (deep&&deep') e (l.set r zz)))::BN hp kills) i:=by
         intro i bb hbb;rw[Al]at hbb
         split at hbb
         ·rename_i hi;subst hi;cases hbb
          cases hgk:An (BN hp kills) i with
          |none=>
           exfalso
           have:∀(ks:List Nat)(hp:THp),i ∉ ks->An (BN hp ks) i=An hp i:=by
            intro ks
            induction ks with
            |nil=>intro hp _;rfl
            |cons q ks ih=>
             intro hp hq;simp only[zb9,not_or]at hq;rw[BN,ih _ hq.2,Al,zw hq.1]
           rw[this kills hp hidk,hg]at hgk;cases hgk
          |some b0=>
           have:=(HF kills hp i b0 hgk).1;rw[hg]at this;cases this
           exact⟨_,rfl,by simp[Cw]⟩
         ·exact⟨bb,hbb,rfl⟩
        refine⟨_,_,_,.any,upd (kill hv kills) id (some {kb with rows:=kb.rows.set r row',deep:=kb.deep&&deep'}),h,trivial,?_,hr.keeps fun t i _=>hkeep i,fun KV hk=> ?_⟩
        ·exact(hh.kill kills).put (fun i _=>hkeep' i) (fun _ _ _ _ i _=>hkeep' i) ⟨hk1,hk2,by show(kb.deep&&deep')=_;rw[hk3],hk4,hk5.set r hrz⟩
        ·show Ba P t (Ao m a) (Ao m x) hv KV;have hl:(flat (Ao m x)).length=d.size:=by have:=f1.length;omega
         simp only[Ba,hX.ty t d hd,ha,hkb,hrow,hl,if_true,hk1,q1,hnd,p1];rw[hk1]at hk;exact hk
       ·cases h
      ·cases h
     ·cases h
    ·cases h
   ·cases h
  ·cases h
 ·cases h
theorem IU{e:Ty}{size:Nat}(hr:RT hp tm m)(hh:RH hp hv)(hs:size=e.size):∀{parts:List (Nat×Operand)}{n:Nat}{l:List e.den}{kills:List Nat}{deep:Bool},Fw hp tm e n parts=some (l,kills,deep)->
  ∃rows,Av hv (Ao m) size n parts=some (rows,kills,deep)/\RLx (RE e) l rows
 |[],n,l,kills,deep,h=>by
  simp only[Fw,zx,Prod.mk.injEq]at h;obtain⟨rfl,rfl,rfl⟩:=h;exact⟨[],rfl,RLx.nil⟩
 |(k,x)::parts,n,l,kills,deep,h=>by
  simp only[Fw]at h
  split at h
  ·rename_i hc;simp only[za1]at hc;have h1:=za4 hc.1;have h2:=za4 hc.2
   split at h
   ·rename_i cs a d ys as ds g1 g2
    split at h
    ·rename_i y hy;simp only[zx,Prod.mk.injEq]at h;obtain⟨rfl,rfl,rfl⟩:=h;obtain⟨f1,f2⟩:=Eg (Aw hr x) (Et g1);obtain⟨us,q1,q2,q3⟩:=FS hh g1 f1;obtain⟨rows,q4,q5⟩:=IU hr hh hs g2;refine⟨us::rows,?_,RLx.cons (Jv hy q2) q5⟩
     simp only[Av,q1,q4];rw[zr ⟨h1,by have:=f1.length;omega⟩]
    ·cases h
   ·cases h
  ·cases h
theorem My{cs:List SV}:∀{us:List V},RC (RV0 hp) cs us->cs.all okT=true->cs.all Jx=us.all I4:=by
 induction cs with
 |nil=>
  intro us h _;cases us with
  |nil=>rfl
  |cons a l=>exact h.elim
 |cons c cs ih=>
  intro us h hok;cases us with
  |nil=>exact h.elim
  |cons u us=>
   simp only[zb5,za1]at hok;simp only[zb5,ih h.2 hok.2];have h1:Jx c=I4 u:=by
    have h0:=h.1;cases c with
    |int k n=>have:u=_:=h0;subst this;rfl
    |bool b=>have:u=_:=h0;subst this;rfl
    |str s=>have:u=_:=h0;subst this;rfl
    |sc x=>have:u=_:=h0;subst this;rfl
    |em=>have:u=_:=h0;subst this;rfl
    |im t l=>rcases h0 with⟨_,rfl⟩|⟨rows,rfl,_⟩<;>rfl
    |ow id=>obtain⟨n,rfl,_⟩:=h0;rfl
    |ar a b c=>have:u=_:=h0;subst this;rfl
    |rf a b c=>have:u=_:=h0;subst this;rfl
    |ir a b c=>obtain⟨row,rfl,_⟩:=h0;rfl
    |cl f caps=>
     cases caps with
     |nil=>have:u=_:=h0;subst this;rfl
     |cons a l=>simp[okT]at hok
    |er b=>simp[okT]at hok
    |agg l=>simp[okT]at hok
    |tup l=>simp[okT]at hok
    |any=>simp[okT]at hok
   rw[h1]
theorem K8{e:Ty}(hr:RT hp tm m):∀{parts:List (Nat×Operand)}{n:Nat}{l:List e.den}{kills:List Nat}{deep:Bool},Fw hp tm e n parts=some (l,kills,deep)->Ow tm parts=EO (Ao m) parts
 |[],n,l,kills,deep,h=>rfl
 |(k,x)::parts,n,l,kills,deep,h=>by
  simp only[Fw]at h
  split at h
  ·split at h
   ·rename_i cs a d ys as ds g1 g2;obtain⟨f1,f2⟩:=Eg (Aw hr x) (Et g1);have h1:=My f1 (Et g1);have h2:=K8 hr g2;unfold Ow EO at h2⊢
    simp only[zb5,h1,h2]
   ·cases h
  ·cases h
theorem TD{t:TypeId}{len:Nat}{parts:Array (Nat×Operand)}(hX:XOK P X)(hh:RH hp hv)(hr:RT hp tm m)(h:AV X (.buildSlice t len parts) b tm hp K=some z):
  KE P R cf (.buildSlice t len parts) b tm m hv K z:=by
 simp only[AV,Nm]at h
 split at h
 ·rename_i e de c he;have hE:=Gm hX he;generalize hps:parts.toList=ps at h;cases len with
  |zero=>
   cases ps with
   |nil=>
    refine⟨_,_,_,.em,hv,h,rfl,hh,hr,fun KV hk=> ?_⟩
    show Aj P t 0 parts.toList (Ao m) hv b KV;rw[hps];simp only[Aj,hE.el,hE.ty,Ag,true_and];exact hk
   |cons a l=>cases h
  |succ len=>
   simp only at h
   split at h
   ·rename_i l kills deep hcl
    split at h
    ·rename_i hc;simp only[za1]at hc;obtain⟨⟨⟨c1,c2⟩,c3⟩,hf⟩:=hc;have c1:=za4 c1;have c2:=zd4 c2;obtain⟨rows,q1,q2⟩:=IU hr hh hE.size hcl;obtain⟨g1,g2⟩:=HO (x:=.arr e deep c l) (k:=AL e de.size deep rows) (hh.kill kills) (hr.keeps fun t i _=>Dc kills hp i) (Eu hf) (fun id y hy=>GK hf hy) (by simp[EN]) ⟨rfl,rfl,rfl,hE.size,q2⟩;refine⟨_,_,_,.ar b 0 (len+1),_,h,⟨len+1,rfl,fun bb hb=> ?_⟩,g1,g2,fun KV hk=> ?_⟩
     ·rw[Al,zr rfl]at hb;cases hb
      simp[Cw,c1]
     ·show Aj P t (len+1) parts.toList (Ao m) hv b KV;rw[hps];simp only[Aj,hE.el,hE.ty,Ag,q1];rw[K8 hr hcl]at hk;exact⟨by rw[q2.1];exact c1,by simpa using c2,c3,hk⟩
    ·cases h
   ·cases h
 ·cases h
theorem Tl{c:Ty}{d:TyD}{x:SV}{y:V}{l:List c.den}{kills:List Nat}{deep:Bool}(hh:RH hp hv)(hf:d.zero.all KI=B7 c)(h:UG c x hp=some (l,kills,deep))(hx:RV2 hp x y):
  ∃rows,RLx (RE c) l rows/\∀KV:List (List V)->List Nat->Bool->Prop,KV rows kills deep->AT d y hv KV:=by
 have hsc:∀rows,B7 c=true->RLx (RE c) l rows->BE rows=true:=by
  intro rows hfl hr;refine za3.2 fun row hrow=> ?_
  obtain⟨i,hi⟩:=zd1 hrow;obtain⟨a,_,hre⟩:=hr.get' hi;exact ED hfl hre
 have im:∀rows,RLx (RE c) l rows->(d.zero.all KI&&BE rows)=B7 c:=by
  intro rows hr;rw[hf];cases hfl:B7 c with
  |false=>rfl
  |true=>rw[hsc rows hfl hr];rfl
 unfold UG at h
 split at h
 ·rename_i id;obtain⟨n,rfl,hlen⟩:=hx
  split at h
  ·rename_i a dd t l0 hg;obtain⟨k,hk,hk1,hk2,hk3,hk4,hk5⟩:=hh id _ hg;have:=hlen _ hg;cases this
   have hrows:(k.rows.take (0+l0.length)).drop 0=k.rows:=by rw[zd0,<-hk5.1];simp
   split at h
   ·rename_i he
    split at h
    ·rename_i hfl;simp only[zx,Prod.mk.injEq]at h;obtain⟨rfl,rfl,rfl⟩:=h;have hr:=CJ he hk5;refine⟨k.rows,hr,fun KV hK=> ?_⟩
     simp only[AT,hk,hk1,hrows];rw[zr (by rw[hf];exact hfl)];exact⟨hsc _ hfl hr,hK⟩
    ·rename_i hfl;simp only[zx,Prod.mk.injEq]at h;obtain⟨rfl,rfl,rfl⟩:=h;have hr:=CJ he hk5;refine⟨k.rows,hr,fun KV hK=> ?_⟩
     simp only[AT,hk,hk1,hrows];rw[zw (by rw[hf];exact hfl),hk3];exact hK
   ·cases h
  ·rename_i a dd t l0 hg;obtain⟨k,hk,hk1,hk2,hk3,hk4,hk5⟩:=hh id _ hg;have:=hlen _ hg;cases this
   have hrows:(k.rows.take (0+l0.length)).drop 0=k.rows:=by rw[zd0,<-hk5.1];simp
   split at h
   ·rename_i he;simp only[zx,Prod.mk.injEq]at h;obtain⟨rfl,rfl,rfl⟩:=h;have hr:=CJ he hk5;refine⟨k.rows,hr,fun KV hK=> ?_⟩
    simp only[AT,hk,hk1,hrows,im _ hr];exact hK
   ·cases h
  ·cases h
 ·rename_i id lo n;have hx:y=.ar id lo n:=hx;subst hx
  split at h
  ·rename_i a dd t l0 hg;obtain⟨k,hk,hk1,hk2,hk3,hk4,hk5⟩:=hh id _ hg
   split at h
   ·rename_i he
    split at h
    ·rename_i hfl;simp only[zx,Prod.mk.injEq]at h;obtain⟨rfl,rfl,rfl⟩:=h;have hr:=((CJ he hk5).take (lo+n)).drop lo;refine⟨_,hr,fun KV hK=> ?_⟩
     simp only[AT,hk,hk1];rw[zr (by rw[hf];exact hfl)];exact⟨hsc _ hfl hr,hK⟩
    ·rename_i hfl;simp only[zx,Prod.mk.injEq]at h;obtain⟨rfl,rfl,rfl⟩:=h;have hr:=((CJ he hk5).take (lo+n)).drop lo;refine⟨_,hr,fun KV hK=> ?_⟩
     simp only[AT,hk,hk1];rw[zw (by rw[hf];exact hfl),hk3];exact hK
   ·cases h
  ·rename_i a dd t l0 hg;obtain⟨k,hk,hk1,hk2,hk3,hk4,hk5⟩:=hh id _ hg
   split at h
   ·rename_i he;simp only[zx,Prod.mk.injEq]at h;obtain⟨rfl,rfl,rfl⟩:=h;have hr:=((CJ he hk5).take (lo+n)).drop lo;refine⟨_,hr,fun KV hK=> ?_⟩
    simp only[AT,hk,hk1,im _ hr];exact hK
   ·cases h
  ·cases h
 ·split at h
  ·rename_i hl;simp only[zx,Prod.mk.injEq]at h;obtain⟨rfl,rfl,rfl⟩:=h;rename_i l';have hx0:RV0 hp x y:=Li (hpm:=hp) (e:=c) (l:=l') (by unfold DF;split<;>simp_all [asL]) hx;rcases Mm hl hx0 with⟨rfl,rfl⟩|⟨rows,rfl,hr⟩
   ·exact⟨[],RLx.nil,fun KV hK=>by simp only[AT];rw[hf];exact hK⟩
   ·exact⟨rows,hr,fun KV hK=>by simp only[AT];rw[im _ hr];exact hK⟩
  ·cases h
theorem QU{β:Type}{bytes size:Nat}{l m r:List β}(h:Jz bytes size l m=some r):r=l++m/\(l.length+m.length)*bytes<=Af/\(l.length+m.length)*size<=Af:=by
 unfold Jz at h
 split at h
 ·rename_i hc;cases h;exact⟨rfl,hc⟩
 ·cases h
theorem Su {args : Array Operand} {ts : Array TypeId} (hX : XOK P X) (hh : RH hp hv) (hr : RT hp tm m) (h : AV X (.call { callee := .builtin .append, args := args, argTypes := ts }) b tm hp K = some z) :
    KE P R cf (.call { callee := .builtin .append, args := args, argTypes := ts }) b tm m hv K z := by
  simp only [AV] at h
  split at h
  · rename_i s x hargs
    unfold Pt at h
    split at h
    · rename_i t t' hts
      split at h
      · rename_i htt
        have htt := za4 htt
        split at h
        · rename_i e de c he
          have hE := Gm hX he
          split at h
          · rename_i mm kills deep hsrc
            obtain ⟨rows, r1, r2⟩ := Tl (d := de) hh hE.flat hsrc (Aw hr x);have hs := Aw hr s;have hrl : ∀ r ∈ rows, r.length = de.size := fun row hrow => by
              obtain ⟨i, hi⟩ := zd1 hrow;obtain ⟨a, _, hre⟩ := r1.get' hi;rw [hre.len, hE.size]
            have step : ∀ KV : A2, (∀ s', Ao m s = s' -> AT de (Ao m x) hv fun rows kills deep =>
                match s' with
                | .em =>
                  rows.length * de.bytes <= Af /\ rows.length * de.size <= Af /\ (∀ r ∈ rows, r.length = de.size) /\ B5 kills = true /\
                  KV (.ar b 0 rows.length) (upd (kill hv kills) b (some (AL e de.size deep rows))) (match kills with | [] => .M | _ => .E)
                | .ar id lo n =>
                  AQ (hv id) fun k =>
                    k.kind = .arr /\ lo = 0 /\ k.ty = e /\ k.size = de.size /\ B5 (id :: kills) = true /\
                    (n + rows.length) * de.bytes <= Af /\ (n + rows.length) * de.size <= Af /\ (∀ r ∈ rows, r.length = de.size) /\
                    KV (.ar b 0 (n + rows.length)) (upd (kill hv (id :: kills)) b (some (AL e de.size (k.deep && deep) (k.rows.take n ++ rows)))) .E
                | _ => False) -> AN P R cf (.call { callee := .builtin .append, args := args, argTypes := ts }) b (Ao m) hv KV := by
              intro KV hK;show (match args.toList with | [s, x] => Bn P ts.toList (Ao m s) (Ao m x) hv b KV | _ => False);rw [hargs, hts];simp only [Bn, hE.el, hE.ty, Ag];exact ⟨htt, hK _ rfl⟩
            have own : ∀ (id n ty : Nat) (d0 : Bool) (l : List c.den) (k : Blk), Ao m s = .ar id 0 n -> hv id = some k -> k.kind = .arr -> k.ty = ty -> k.deep = d0 -> k.size = c.size -> RLx (RE c) l (k.rows.take n) -> l.length = n ->
                (Nat.beq ty e && B5 (id :: kills) && C2 tm hp b) = true -> ((Jz de.bytes de.size l mm).bind fun r => K (.ow b) ((b, some (.arr e (d0 && deep) c r)) :: BN hp (id :: kills)) .E) = some z ->
                KE P R cf (.call { callee := .builtin .append, args := args, argTypes := ts }) b tm m hv K z := by
              intro id n ty d0 l k hs hk k1 k2 k3 k4 hl hln hc h;simp only [za1] at hc;obtain ⟨⟨c1, c2⟩, hf⟩ := hc;have c1 := za4 c1;obtain ⟨r, a1, a2⟩ := AF h;obtain ⟨rfl, a3, a4⟩ := QU a1;obtain ⟨g1, g2⟩ := HO (x := .arr e (d0 && deep) c (l ++ mm)) (k := AL e de.size (k.deep && deep) (k.rows.take n ++ rows)) (hh.kill (id :: kills)) (hr.keeps fun t i _ => Dc (id :: kills) hp i) (Eu hf) (fun id y hy => GK hf hy) (by simp [EN])
                ⟨rfl, rfl, by show (k.deep && deep) = _; rw [k3], hE.size, hl.append r1⟩
              refine ⟨_, _, _, .ar b 0 (n + rows.length), _, a2, ⟨n + rows.length, rfl, fun bb hb => ?_⟩, g1, g2, fun KV hk' => step KV fun s' hs' => ?_⟩
              · rw [Al, zr rfl] at hb
                cases hb
                simp [Cw, hln, r1.1]
              · rw [hs] at hs'
                subst hs';refine r2 _ ?_
                simp only [hk, Ag];exact ⟨k1, trivial, by rw [k2, c1], by rw [k4, hE.size], c2, by rw [r1.1, <- hln]; exact a3, by rw [r1.1, <- hln]; exact a4, hrl, hk'⟩
            split at h
            · rename_i e1
              rw [e1] at hs;have hs : Ao m s = .em := hs
              split at h
              · rename_i hc
                simp only [za1] at hc;obtain ⟨c1, hf⟩ := hc;obtain ⟨hroom, h⟩ := Bp h;simp only [T1, za1, decide_eq_true_eq] at hroom;obtain ⟨g1, g2⟩ := HO (x := .arr e deep c mm) (k := AL e de.size deep rows) (hh.kill kills) (hr.keeps fun t i _ => Dc kills hp i) (Eu hf) (fun id y hy => GK hf hy) (by simp [EN]) ⟨rfl, rfl, rfl, hE.size, r1⟩;refine ⟨_, _, _, .ar b 0 rows.length, _, h, ⟨rows.length, rfl, fun bb hb => ?_⟩, g1, g2, fun KV hk => step KV fun s' hs' => ?_⟩
                · rw [Al, zr rfl] at hb
                  cases hb
                  simp [Cw, r1.1]
                · rw [hs] at hs'
                  subst hs';refine r2 _ ?_
                  exact ⟨by rw [r1.1]; exact hroom.1, by rw [r1.1]; exact hroom.2, hrl, c1, hk⟩
              · cases h
            · rename_i id e1
              rw [e1] at hs;obtain ⟨n, hs, hlen⟩ := hs
              split at h
              · rename_i ty d0 t0 l hg
                split at h
                · rename_i ht0
                  split at h
                  · rename_i hc
                    obtain ⟨k, hk, k1, k2, k3, k4, k5⟩ := hh id _ hg;have := hlen _ hg;cases this
                    subst ht0
                    exact own id l.length ty d0 l k hs hk k1 k2 k3 k4 (by have : k.rows.take l.length = k.rows := by rw [<- k5.1]; simp
                                                                          rw [this]; exact k5) rfl hc h
                  · cases h
                · cases h
              · cases h
            · rename_i id n e1
              rw [e1] at hs;have hs : Ao m s = .ar id 0 n := hs
              split at h
              · rename_i ty d0 t0 l hg
                split at h
                · rename_i ht0
                  split at h
                  · rename_i hc
                    obtain ⟨k, hk, k1, k2, k3, k4, k5⟩ := hh id _ hg;subst ht0;obtain ⟨hle, h⟩ := Bp h;have hle := of_decide_eq_true hle;exact own id n ty d0 (l.take n) k hs hk k1 k2 k3 k4 (k5.take n) (by simp; omega) hc h
                  · cases h
                · cases h
              · cases h
            · cases h
          · cases h
        · cases h
      · cases h
    · cases h
  · cases h
end
end
section
open Go
section
variable {tm:TTm} {m:Tm} {hp hp':THp} {hv hv':Hp}
theorem QQ{id:Nat}(hh:RH hp hv):RH ((id,(An hp id).map QO)::hp) (upd hv id ((hv id).map fun k=>{k with kind:=match k.kind with|.arr=>.frz|x=>x}))/\∀i,Bk hp ((id,(An hp id).map QO)::hp) i:=by
 have hk:∀i,Bk hp ((id,(An hp id).map QO)::hp) i:=by
  intro i b hb;rw[Al]at hb
  split at hb
  ·rename_i hi;subst hi;simp only[za8]at hb;obtain⟨b0,h0,rfl⟩:=hb;exact⟨b0,h0,by cases b0<;>rfl⟩
  ·exact⟨b,hb,rfl⟩
 refine⟨fun i b hb=> ?_,hk⟩
 rw[Al]at hb
 split at hb
 ·rename_i hi;subst hi;simp only[za8]at hb;obtain⟨b0,h0,rfl⟩:=hb;obtain⟨k,hk1,hrb⟩:=hh i b0 h0;refine⟨_,by simp only[upd,if_true,hk1,zc1];rfl,RB.keeps (hp:=hp) ?_ fun j _=>hk j⟩
  cases b0 with
  |box ty cs=>obtain⟨h1,h2,h3⟩:=hrb;exact⟨by simp[h1],h2,h3⟩
  |arr ty deep t l=>obtain⟨h1,h2,h3⟩:=hrb;exact⟨by simp[h1],h2,h3⟩
  |frz ty deep t l=>obtain⟨h1,h2,h3⟩:=hrb;exact⟨by simp[h1],h2,h3⟩
 ·rename_i hi;obtain⟨k,hk1,hrb⟩:=hh i b hb;exact⟨k,by simp only[upd,zw hi];exact hk1,hrb.keeps fun j _=>hk j⟩
theorem Jd:∀(l:List Nat){hp:THp}{hv:Hp},RH hp hv->RH (Cp hp l) (freeze hv l)/\∀i,Bk hp (Cp hp l) i
 |[],hp,hv,h=>⟨h,fun i=>Bk.refl hp i⟩
 |id::l,hp,hv,h=>by
  obtain⟨h1,h2⟩:=QQ (id:=id) h;obtain⟨h3,h4⟩:=Jd l h1;exact⟨h3,fun i=>(h2 i).trans (h4 i)⟩
theorem IV:∀(l:List Nat)(hp:THp)(id:Nat),id ∉ l->An (Cp hp l) id=An hp id
 |[],_,_,_=>rfl
 |x::l,hp,id,h=>by
  simp only[zb9,not_or]at h;rw[Cp,IV l _ id h.2,Al,zw h.1]
theorem IH:∀(l:List Nat)(hp:THp)(id:Nat)(ty:TypeId)(cs:List SV),An hp id=some (.box ty cs)->An (Cp hp l) id=some (.box ty cs)
 |[],_,_,_,_,h=>h
 |x::l,hp,id,ty,cs,h=>by
  rw[Cp];refine IH l _ id ty cs ?_
  rw[Al]
  split
  ·rename_i he;subst he;rw[h];rfl
  ·exact h
theorem K4{hp:THp}{id:Nat}{b:TB}(h:An hp id=some b):(id,some b)∈hp:=by
 induction hp with
 |nil=>cases h
 |cons a l ih=>
  obtain⟨k,x⟩:=a;rw[Al]at h
  split at h
  ·rename_i he;subst he;subst h;simp
  ·exact List.mem_cons_of_mem _ (ih h)
theorem F6{a b:Nat}(h:Nat.blt a b=true):a<b:=Nat.lt_of_succ_le (zd4 h)
def Bel(b:Nat)(hp:THp):Prop:=∀id k,An hp id=some k->id<b/\∀i∈EN k,i<b
theorem Bel.mono{b b':Nat}{hp:THp}(h:Bel b hp)(hb:b<=b'):Bel b' hp:=fun id k hk=>⟨zc0 (h id k hk).1 hb,fun i hi=>zc0 ((h id k hk).2 i hi) hb⟩
theorem Im{tm:TTm}{hp:THp}{b:Nat}(h:HV tm hp b=true):Bel b hp/\∀t,∀i∈C4 (AW tm t),i<b:=by
 simp only[HV,za1]at h;refine⟨fun id k hk=> ?_,fun t i hi=> ?_⟩
 ·have:=za3.1 h.2 _ (K4 hk);simp only[za1]at this;exact⟨F6 this.1,fun i hi=>F6 (za3.1 this.2 i hi)⟩
 ·rcases M9 (tm:=tm) (t:=t)with h'|⟨x,hx,h'⟩
  ·rw[h']at hi;simp[C4,KC,Cn]at hi
  ·rw[<-h']at hi;exact F6 (za3.1 (za3.1 h.1 x hx) i hi)
theorem Sn{b:TB}{i:Nat}(h:i∈EN (QO b)):i∈EN b:=by
 cases b with
 |arr _ _ _ _=>simp[QO,EN]at h
 |_=>exact h
theorem FL:∀(l:List Nat){hp:THp}{b:Nat},Bel b hp->Bel b (Cp hp l)
 |[],_,_,h=>h
 |x::l,hp,b,h=>by
  rw[Cp];refine FL l fun id k hk=> ?_
  rw[Al]at hk
  split at hk
  ·rename_i he;subst he;simp only[za8]at hk;obtain⟨k0,h0,rfl⟩:=hk;exact⟨(h id k0 h0).1,fun i hi=>(h id k0 h0).2 i (Sn hi)⟩
  ·exact h id k hk
theorem QF{hp:THp}{x:SV}{y:V}(h:RV0 hp x y)(hx:okT x=true):AM y=true:=by
 cases x with
 |im t l=>rcases h with⟨_,rfl⟩|⟨_,rfl,_⟩<;>rfl
 |ow id=>obtain⟨_,rfl,_⟩:=h;rfl
 |ir t a c=>obtain⟨_,rfl,_⟩:=h;rfl
 |cl f cs=>cases cs with|nil=>have:y=_:=h;subst this;rfl|cons a l=>exact h.elim
 |any=>simp[okT]at hx
 |agg cs=>exact h.elim
 |tup cs=>exact h.elim
 |int k n=>have:y=_:=h;subst this;rfl
 |bool k=>have:y=_:=h;subst this;rfl
 |str k=>have:y=_:=h;subst this;rfl
 |sc k=>have:y=_:=h;subst this;rfl
 |em=>have:y=_:=h;subst this;rfl
 |er e=>simp[okT]at hx
 |ar a b c=>have:y=_:=h;subst this;rfl
 |rf a b c=>have:y=_:=h;subst this;rfl
structure NV (b n:Nat) (hp:THp) (hp':THp) (hv':Hp):Prop where
 rh:RH hp' hv'
 bel:Bel (b+n) hp'
 keep:∀i,i<b->Bk hp hp' i
structure NT (b n:Nat) (hp:THp) (hp':THp) (hv':Hp):Prop extends NV b n hp hp' hv' where
 box:∀i ty cs,i<b->An hp i=some (.box ty cs)->An hp' i=some (.box ty cs)
theorem NT.refl(hh:RH hp hv){b:Nat}(hb:Bel b hp):NT b 0 hp hp hv:=⟨⟨hh,hb,fun i _=>Bk.refl hp i⟩,fun _ _ _ _ h=>h⟩
theorem NT.trans{b n k:Nat}{hp1 hp2:THp}{hv1 hv2:Hp}(h:NT b n hp hp1 hv1)(g:NT (b+n) k hp1 hp2 hv2):NT b (n+k) hp hp2 hv2:=
 ⟨⟨g.rh,by have:=g.bel;rwa[Nat.add_assoc]at this,fun i hi=>(h.keep i hi).trans (g.keep i (by omega))⟩,fun i ty cs hi hg=>g.box i ty cs (by omega) (h.box i ty cs hi hg)⟩
theorem PI{m:TM}{v v':SV}{y:V}{b n:Nat}(hh:RH hp hv)(hb:Bel b hp)(hi:∀i∈Cn v,i<b)(hv0:RV0 hp v y)(h:tnC m v hp b=some (v',hp',n)):
  ∃y' hv',GD m.md y hv b=some (y',hv',n)/\NT b n hp hp' hv'/\RV0 hp' v' y'/\∀i∈Cn v',i<b+n:=by
 cases m with
 |keep=>
  simp only[tnC,zx,Prod.mk.injEq]at h;obtain⟨rfl,rfl,rfl⟩:=h;exact⟨y,hv,rfl,NT.refl hh hb,hv0,hi⟩
 |own ty deep t=>
  cases v with
  |em=>
   simp only[tnC,zx,Prod.mk.injEq]at h;obtain⟨rfl,rfl,rfl⟩:=h;have:y=.em:=hv0;subst this;refine⟨.ar b 0 0,upd hv b (some (AL ty t.size deep [])),rfl,⟨⟨?_,fun id k hk=> ?_,fun i hi=>Fd (by omega)⟩,fun i ty' cs hi hg=>by rw[Al,zw (by omega)];exact hg⟩,⟨0,rfl,fun k hk=> ?_⟩,fun i hi=>by simp[Cn]at hi;omega⟩
   ·exact hh.put (fun i hi=>by simp[EN]at hi) (fun id z _ hz i hi=>Fd fun he=>by have:=(hb id z hz).2 i hi;omega) ⟨rfl,rfl,rfl,rfl,RLx.nil⟩
   ·rw[Al]at hk
    split at hk
    ·cases hk;exact⟨by omega,fun i hi=>by simp[EN]at hi⟩
    ·exact(hb.mono (by omega)) id k hk
   ·rw[Al,zr rfl]at hk;cases hk;rfl
  |ow id=>
   simp only[tnC]at h
   split at h
   ·rename_i ty' deep' t' l hg
    split at h
    ·rename_i he
     split at h
     ·rename_i hc;simp only[za1,beq_iff_eq]at hc;simp only[zx,Prod.mk.injEq]at h;obtain⟨rfl,rfl,rfl⟩:=h;subst he;have e1:=za4 hc.1;have e2:=hc.2;subst e1;subst e2;obtain⟨k,hk,k1,k2,k3,k4,k5⟩:=hh id _ hg;obtain⟨n',rfl,hlen⟩:=hv0;have hn':=hlen _ hg;cases hn'
      refine⟨.ar id 0 l.length,hv,?_,NT.refl hh hb,⟨_,rfl,hlen⟩,hi⟩
      show(match hv id with|some k=>if k.kind=Kind.arr/\0=0/\l.length=k.rows.length/\k.ty=ty'/\k.size=t'.size/\k.deep=deep' then some (V.ar id 0 l.length,hv,0)else none|none=>none)=_;rw[hk];simp only;rw[zr ⟨k1,trivial,k5.1.symm,k2,k4,k3⟩]
     ·cases h
    ·cases h
   ·cases h
  |_=>simp[tnC]at h
 |im t=>
  simp only[tnC]at h
  split at h
  ·rename_i l hl;simp only[zx,Prod.mk.injEq]at h;obtain⟨rfl,rfl,rfl⟩:=h;obtain⟨g1,g2⟩:=Jd (frV v) hh;have nt:NT b 0 hp (Cp hp (frV v)) (freeze hv (frV v)):=⟨⟨g1,FL _ hb,fun i _=>g2 i⟩,fun i ty cs _ hg=>IH _ _ _ _ _ hg⟩;rcases Kw hl hv0 hh.toM with⟨rfl,rfl⟩|⟨rows,rfl,hr⟩|⟨id,lo,n,kb,rfl,hk,hkk,hr⟩
   ·have hf:frV v=[]:=by
     cases v<;>first|rfl|(obtain⟨n,hy,_⟩:=hv0;cases hy)|(have:V.em=_:=hv0;cases this)
    exact⟨.im [],_,by rw[hf];rfl,nt,.inr ⟨[],rfl,RLx.nil⟩,fun i hi=>by simp[Cn]at hi⟩
   ·have hf:frV v=[]:=by
     cases v<;>first|rfl|(obtain⟨n,hy,_⟩:=hv0;cases hy)|(have:V.im rows=_:=hv0;cases this)
    exact⟨.im rows,_,by rw[hf];rfl,nt,.inr ⟨rows,rfl,hr⟩,fun i hi=>by simp[Cn]at hi⟩
   ·have hf:frV v=[id]:=by
     cases v with
     |ow id'=>obtain⟨n',hy,_⟩:=hv0;cases hy;rfl
     |ar a b c=>have:V.ar id lo n=_:=hv0;cases this;rfl
     |em=>have:V.ar id lo n=_:=hv0;cases this
     |er e=>have:V.ar id lo n=_:=hv0;cases this
     |im t' l'=>rcases hv0 with⟨_,hy⟩|⟨_,hy,_⟩<;>cases hy
     |_=>simp[DF,asL]at hl
    refine⟨.im ((kb.rows.take (lo+n)).drop lo),_,?_,nt,.inr ⟨_,rfl,hr⟩,fun i hi=>by simp[Cn]at hi⟩
    rw[hf];show(match hv id with|some k=>(match k.kind with|.box=>none|_=>some (V.im ((k.rows.take (lo+n)).drop lo),freeze hv [id],0))|none=>none)=_;rw[hk];simp only
  ·cases h
 |sub=>
  cases v with
  |ow id=>
   simp only[tnC]at h
   split at h
   ·rename_i ty' deep' t' l hg;simp only[zx,Prod.mk.injEq]at h;obtain⟨rfl,rfl,rfl⟩:=h;obtain⟨n',rfl,hlen⟩:=hv0;have hn':=hlen _ hg;cases hn'
    exact⟨_,hv,rfl,NT.refl hh hb,rfl,fun i hi=>by simp[Cn]at hi⟩
   ·cases h
  |ar id lo n'=>
   simp only[tnC,zx,Prod.mk.injEq]at h;obtain⟨rfl,rfl,rfl⟩:=h;exact⟨y,hv,rfl,NT.refl hh hb,hv0,hi⟩
  |_=>simp[tnC]at h
theorem LN:∀{ms:List TM}{vs vs':List SV}{ys:List V}{hp hp':THp}{hv:Hp}{b n:Nat},RH hp hv->Bel b hp->(∀i∈vs.flatMap Cn,i<b)->RC (RV0 hp) vs ys->tnL ms vs hp b=some (vs',hp',n)->
  ∃ys' hv',FH (ms.map TM.md) ys hv b=some (ys',hv',n)/\NT b n hp hp' hv'/\RC (RV0 hp') vs' ys'/\∀i∈vs'.flatMap Cn,i<b+n
 |[],[],vs',ys,hp,hp',hv,b,n,hh,hb,hi,hc,h=>by
  simp only[tnL,zx,Prod.mk.injEq]at h;obtain⟨rfl,rfl,rfl⟩:=h;cases ys with
  |nil=>exact⟨[],hv,rfl,NT.refl hh hb,trivial,fun i hi=>by simp at hi⟩
  |cons a l=>exact hc.elim
 |m::ms,v::vs,vs',ys,hp,hp',hv,b,n,hh,hb,hi,hc,h=>by
  cases ys with
  |nil=>exact hc.elim
  |cons y ys=>
   simp only[tnL]at h
   split at h
   ·rename_i z hp1 n1 h1
    split at h
    ·rename_i zs hp2 k h2;simp only[zx,Prod.mk.injEq]at h;obtain⟨rfl,rfl,rfl⟩:=h;obtain⟨y',hv1,e1,q1,r1,s1⟩:=PI hh hb (fun i hi'=>hi i (by simp[hi'])) hc.1 h1;obtain⟨ys',hv2,e2,q2,r2,s2⟩:=LN q1.rh q1.bel (fun i hi'=>by have:=hi i (by simp only[za7,zb1];exact .inr hi');omega) (hc.2.mono fun x hx y hxy=>hxy.keeps fun i hi'=>q1.keep i (hi i (by simp only[za7,zb1];exact .inr (za6.2 ⟨x,hx,hi'⟩)))) h2;refine⟨y'::ys',hv2,by simp only[zb0,FH,e1,e2],q1.trans q2,⟨r1.keeps fun i hi'=>q2.keep i (s1 i hi'),r2⟩,fun i hi'=> ?_⟩
     rcases zb1.1 (by simpa only[za7]using hi')with hi'|hi'
     ·have:=s1 i hi';omega
     ·have:=s2 i hi';omega
    ·cases h
   ·cases h
 |[],_::_,_,_,_,_,_,_,_,_,_,_,_,h=>by simp[tnL]at h
 |_::_,[],_,_,_,_,_,_,_,_,_,_,_,h=>by simp[tnL]at h
theorem Py{m:TMs}{v v':SV}{y:V}{b n:Nat}(hh:RH hp hv)(hb:Bel b hp)(hi:∀i∈C4 v,i<b)(hv2:RV2 hp v y)(h:tnV m v hp b=some (v',hp',n)):
  ∃y' hv',La m.mds y hv b=some (y',hv',n)/\NV b n hp hp' hv'/\RV2 hp' v' y'/\∀i∈C4 v',i<b+n:=by
 cases m with
 |one m=>
  have h:tnC m v hp b=some (v',hp',n):=h;have cell:(∃y0,RV0 hp v y0/\y0=y)->C4 v=Cn v->C4 v'=Cn v'->(∀y',RV0 hp' v' y'->RV2 hp' v' y')->∃y' hv',La (TMs.one m).mds y hv b=some (y',hv',n)/\NV b n hp hp' hv'/\RV2 hp' v' y'/\∀i∈C4 v',i<b+n:=by
   rintro⟨_,h0,rfl⟩ e1 e2 h2;obtain⟨y',hv',q1,q2,q3,q4⟩:=PI hh hb (by rw[<-e1];exact hi) h0 h;exact⟨y',hv',q1,q2.toNV,h2 y' q3,by rw[e2];exact q4⟩
  cases m with
  |keep=>
   simp only[tnC,zx,Prod.mk.injEq]at h;obtain⟨rfl,rfl,rfl⟩:=h;exact⟨y,hv,rfl,(NT.refl hh hb).toNV,hv2,hi⟩
  |own ty deep t=>
   have hw:∃i,v'=.ow i:=by
    cases v<;>simp only[tnC,reduceCtorEq]at h
    ·simp only[zx,Prod.mk.injEq]at h;exact⟨_,h.1.symm⟩
    ·repeat' (split at h)
     all_goals first|(simp only[zx,Prod.mk.injEq]at h;exact⟨_,h.1.symm⟩)|cases h
   obtain⟨i',rfl⟩:=hw;cases v<;>simp only[tnC,reduceCtorEq]at h
   ·exact cell ⟨y,hv2,rfl⟩ rfl rfl fun y' h=>h
   ·exact cell ⟨y,hv2,rfl⟩ rfl rfl fun y' h=>h
  |im t=>
   have hw:∃l,v'=.im t l:=by
    simp only[tnC]at h
    split at h
    ·simp only[zx,Prod.mk.injEq]at h;exact⟨_,h.1.symm⟩
    ·cases h
   obtain⟨l',rfl⟩:=hw;cases v<;>first|exact cell ⟨y,hv2,rfl⟩ rfl rfl fun y' h=>h|(simp[tnC,DF,asL]at h;done)
  |sub=>
   have hw:∃i lo k,v'=.ar i lo k:=by
    cases v<;>simp only[tnC,reduceCtorEq]at h
    ·split at h
     ·simp only[zx,Prod.mk.injEq]at h;exact⟨_,_,_,h.1.symm⟩
     ·cases h
    ·simp only[zx,Prod.mk.injEq]at h;exact⟨_,_,_,h.1.symm⟩
   obtain⟨i',lo',k',rfl⟩:=hw;cases v<;>first|exact cell ⟨y,hv2,rfl⟩ rfl rfl fun y' h=>h|(simp[tnC]at h;done)
 |agg l=>
  cases v with
  |agg cs=>
   simp only[tnV]at h
   split at h
   ·rename_i cs' hp1 n1 h1;simp only[zx,Prod.mk.injEq]at h;obtain⟨rfl,rfl,rfl⟩:=h;obtain⟨us,rfl,hc⟩:=Jo hv2;obtain⟨ys',hv',q1,q2,q3,q4⟩:=LN hh hb hi hc h1;refine⟨.agg ys',hv',?_,q2.toNV,⟨ys',rfl,q3⟩,q4⟩
    show(FH (l.map TM.md) us hv b).map _=_;rw[q1];rfl
   ·cases h
  |_=>simp[tnV]at h
 |box l=>
  cases v with
  |rf id r c=>
   simp only[tnV]at h
   split at h
   ·rename_i ty cs hg
    split at h
    ·rename_i cs' hp1 n1 h1
     split at h
     ·rename_i hok;simp only[zx,Prod.mk.injEq]at h;obtain⟨rfl,rfl,rfl⟩:=h;have:y=.rf id r c:=hv2;subst this;obtain⟨k,hk,k1,k2,row,k3,k4,k5⟩:=hh id _ hg;obtain⟨ys',hv',q1,q2,q3,q4⟩:=LN hh hb (hb id _ hg).2 k5 h1;have hlt:=(hb id _ hg).1;have hbx:=q2.box id ty cs hlt hg;have hkp:∀i,Bk hp1 ((id,some (.box ty cs'))::hp1) i:=fun i=>Jm (y:=.box ty cs') hbx rfl i
      have hoc:ys'.all AM=true:=by
       have key:∀{xs:List SV}{us:List V},RC (RV0 hp1) xs us->xs.all okT=true->us.all AM=true:=by
        intro xs
        induction xs with
        |nil=>intro us h _;cases us with|nil=>rfl|cons a l=>exact h.elim
        |cons x xs ih=>
         intro us h ho;cases us with
         |nil=>exact h.elim
         |cons u us=>
          simp only[zb5,za1]at ho⊢
          exact⟨QF h.1 ho.1,ih h.2 ho.2⟩
       exact key q3 hok
      have hlen:cs'.length=cs.length:=by
       have:∀{ms:List TM}{vs vs':List SV}{hp hp':THp}{b n:Nat},tnL ms vs hp b=some (vs',hp',n)->vs'.length=vs.length:=by
        intro ms
        induction ms with
        |nil=>intro vs vs' hp hp' b n h;cases vs with|nil=>simp[tnL]at h;simp[h]|cons _ _=>simp[tnL]at h
        |cons m ms ih=>
         intro vs vs' hp hp' b n h;cases vs with
         |nil=>simp[tnL]at h
         |cons v vs=>
          simp only[tnL]at h
          split at h
          ·split at h
           ·rename_i h2;simp only[zx,Prod.mk.injEq]at h;obtain⟨rfl,_,_⟩:=h;simp[ih h2]
           ·cases h
          ·cases h
       exact this h1
      refine⟨.rf id r c,upd hv' id (some {k with rows:=[ys']}),?_,⟨?_,fun i z hz=> ?_,fun i hi=>(q2.keep i hi).trans (hkp i)⟩,rfl,fun i hi=>by simp[C4,KC,Cn]at hi⟩
      ·show(match hv id with|some k=>(match k.kind,k.rows with|Kind.box,[row]=>(match FH (l.map TM.md) row hv b with|some (cs',hp1,n)=>if cs'.all AM then some (V.rf id r c,upd hp1 id (some {k with rows:=[cs']}),n)else none|none=>none)|_,_=>none)|none=>none)=_;rw[hk];simp only[k1,k3,q1,hoc,if_true]
      ·refine q2.rh.put (fun i _=>hkp i) (fun _ _ _ _ i _=>hkp i) ⟨k1,k2,ys',rfl,?_,q3⟩
       show k.size=ys'.length;rw[k4,k5.length,q3.length,hlen]
      ·rw[Al]at hz
       split at hz
       ·cases hz;rename_i he;subst he;exact⟨by omega,q4⟩
       ·exact q2.bel i z hz
     ·cases h
    ·cases h
   ·cases h
  |_=>simp[tnV]at h
theorem Ph:∀{l:List (Nat×TMs)}{st st':TSt}{s:St},RS st s->Bel (16*st.c) st.hp->(∀t,∀i∈C4 (AW st.tm t),i<16*st.c)->tnS l st=some st'->
  ∃s',Iu (CG l) s=some s'/\RS st' s'/\Bel (16*st'.c) st'.hp/\∀t,∀i∈C4 (AW st'.tm t),i<16*st'.c
 |[],st,st',s,hs,hb,hi,h=>by
  simp only[tnS,zx]at h;subst h;exact⟨s,rfl,hs,hb,hi⟩
 |(k,m)::l,st,st',s,hs,hb,hi,h=>by
  simp only[tnS]at h
  split at h
  ·rename_i x hp1 n h1
   split at h
   ·rename_i hn;have hn:=zd4 hn;obtain⟨y',hv1,q1,q2,q3,q4⟩:=Py hs.hp hb (hi k) (hs.tm k) h1;obtain⟨s',e1,e2,e3,e4⟩:=Ph (s:={tm:=upd s.tm k y',hp:=hv1,c:=s.c+1}) (st:={tm:=(k,x)::st.tm,hp:=hp1,c:=st.c+1}) ⟨fun t=>by
      show RV2 hp1 (AW ((k,x)::st.tm) t) (upd s.tm k y' t);rw[Cq];unfold upd
      split
      ·exact q3
      ·exact(hs.tm t).keeps fun i hi'=>q2.keep i (hi t i hi'),q2.rh,by show s.c+1=st.c+1;rw[hs.c]⟩ (q2.bel.mono (by show _<=16*(st.c+1);omega)) (fun t i hi'=>by
      have hi':i∈C4 (AW ((k,x)::st.tm) t):=hi';show i<16*(st.c+1);rw[Cq]at hi'
      split at hi'
      ·have:=q4 i hi';omega
      ·have:=hi t i hi';omega) h
    refine⟨s',?_,e2,e3,e4⟩
    show Iu ((k,m.mds)::CG l) s=_;simp only[Iu];rw[hs.c,q1];simp only;rw[zr hn];rw[<-hs.c];exact e1
   ·cases h
  ·cases h
theorem Pu:∀{ms:List TMs}{xs xs':List SV}{ys:List V}{hp hp':THp}{hv:Hp}{c:Nat},RH hp hv->Bel (16*c) hp->(∀i∈xs.flatMap C4,i<16*c)->RC (RV2 hp) xs ys->tnR ms xs hp c=some (xs',hp')->
  ∃ys' hv' c',E6 (ms.map TMs.mds) ys hv c=some (ys',hv',c')/\RH hp' hv'/\RC (RV2 hp') xs' ys'/\(∀i,i<16*c->Bk hp hp' i)
 |[],[],xs',ys,hp,hp',hv,c,hh,hb,hi,hc,h=>by
  simp only[tnR,zx,Prod.mk.injEq]at h;obtain⟨rfl,rfl⟩:=h;cases ys with
  |nil=>exact⟨[],hv,c,rfl,hh,trivial,fun i _=>Bk.refl hp i⟩
  |cons a l=>exact hc.elim
 |m::ms,x::xs,xs',ys,hp,hp',hv,c,hh,hb,hi,hc,h=>by
  cases ys with
  |nil=>exact hc.elim
  |cons y ys=>
   simp only[tnR]at h
   split at h
   ·rename_i z hp1 n h1
    split at h
    ·rename_i hn;have hn:=zd4 hn
     split at h
     ·rename_i zs hp2 h2;simp only[zx,Prod.mk.injEq]at h;obtain⟨rfl,rfl⟩:=h;obtain⟨y',hv1,q1,q2,q3,q4⟩:=Py hh hb (fun i hi'=>hi i (by simp[hi'])) hc.1 h1;obtain⟨ys',hv2,c',e1,e2,e3,e4⟩:=Pu q2.rh (q2.bel.mono (show _<=16*(c+1) by omega)) (fun i hi'=>by have:=hi i (by simp only[za7,zb1];exact .inr hi');omega) (hc.2.mono fun x hx y hxy=>hxy.keeps fun i hi'=>q2.keep i (hi i (by simp only[za7,zb1];exact .inr (za6.2 ⟨x,hx,hi'⟩)))) h2;refine⟨y'::ys',hv2,c',?_,e2,⟨q3.keeps fun i hi'=>e4 i (by have:=q4 i hi';omega),e3⟩,fun i hi'=>(q2.keep i hi').trans (e4 i (by omega))⟩
      simp only[zb0,E6,q1,zr hn,e1]
     ·cases h
    ·cases h
   ·cases h
 |[],_::_,_,_,_,_,_,_,_,_,_,_,h=>by simp[tnR]at h
 |_::_,[],_,_,_,_,_,_,_,_,_,_,h=>by simp[tnR]at h
end
end
section
open Go
section
variable {hp hp' H:THp} {hv hv':Hp}
theorem Hh{i:Nat}:∀{l:List Nat},QA i l=l.contains i
 |[]=>rfl
 |x::l=>by
  simp only[QA,List.contains_cons];rw[Hh];cases h:Nat.beq x i with
  |true=>have:=za4 h;subst this;simp
  |false=>
   have:x≠i:=fun he=>by subst he;rw[Nat.beq_refl]at h;cases h
   have h2:(i==x)=false:=by simpa using fun he:i=x=>this he.symm
   rw[h2];rfl
theorem EX:∀{l m:List Nat},Ou l m=true->l=m
 |[],[],_=>rfl
 |x::l,y::m,h=>by
  simp only[Ou,za1]at h;rw[za4 h.1,EX h.2]
 |[],_::_,h=>by cases h
 |_::_,[],h=>by cases h
theorem TF{v:SV}{y:V}(hs:D3 v=true)(h:RV0 hp v y):Ad y=rf0 v:=by
 cases v with
 |im t l=>rcases h with⟨_,rfl⟩|⟨_,rfl,_⟩<;>rfl
 |ow id=>obtain⟨_,rfl,_⟩:=h;rfl
 |ir t a c=>obtain⟨_,rfl,_⟩:=h;rfl
 |cl f cs=>cases cs with|nil=>have:y=_:=h;subst this;rfl|cons a l=>exact h.elim
 |any=>cases hs
 |agg cs=>exact h.elim
 |tup cs=>exact h.elim
 |_=>have:y=_:=h;subst this;rfl
theorem I7:∀{vs:List SV}{ys:List V},vs.all D3=true->RC (RV0 hp) vs ys->ys.flatMap Ad=vs.flatMap rf0
 |[],[],_,_=>rfl
 |v::vs,y::ys,hs,h=>by
  simp only[zb5,za1]at hs;rw[za7,za7,TF hs.1 h.1,I7 hs.2 h.2]
 |[],_::_,_,h=>h.elim
 |_::_,[],_,h=>h.elim
theorem Dl{v:SV}{y:V}(hs:Cd v=true)(h:RV2 hp v y):RV1 hp v y/\Ab y=rf1 v/\Ae y=rf1 v/\Cv y=true:=by
 have cell:∀{v:SV}{y:V},D3 v=true->RV0 hp v y->RV1 hp v y/\Ab y=rf0 v/\Ae y=rf0 v/\Cv y=true:=by
  intro v y hs h;refine⟨h.to1,?_⟩
  cases v with
  |im t l=>rcases h with⟨_,rfl⟩|⟨_,rfl,_⟩<;>exact⟨rfl,rfl,rfl⟩
  |ow id=>obtain⟨_,rfl,_⟩:=h;exact⟨rfl,rfl,rfl⟩
  |ir t a c=>obtain⟨_,rfl,_⟩:=h;exact⟨rfl,rfl,rfl⟩
  |cl f cs=>cases cs with|nil=>have:y=_:=h;subst this;exact⟨rfl,rfl,rfl⟩|cons a l=>exact h.elim
  |any=>cases hs
  |agg cs=>exact h.elim
  |tup cs=>exact h.elim
  |_=>have:y=_:=h;subst this;exact⟨rfl,rfl,rfl⟩
 cases v with
 |agg cs=>
  obtain⟨us,rfl,hc⟩:=h;have:=I7 hs hc;exact⟨⟨us,rfl,hc⟩,this,this,rfl⟩
 |cl f cs=>
  obtain⟨us,rfl,hc⟩:=h;have:=I7 hs hc;exact⟨⟨us,rfl,hc⟩,this,this,rfl⟩
 |tup vs=>cases hs
 |any=>cases hs
 |int k n=>exact cell (v:=.int k n) hs h
 |bool b=>exact cell (v:=.bool b) hs h
 |str s=>exact cell (v:=.str s) hs h
 |sc x=>exact cell (v:=.sc x) hs h
 |em=>exact cell (v:=.em) hs h
 |er e=>exact cell (v:=.er e) hs h
 |im t l=>exact cell (v:=.im t l) hs h
 |ow id=>exact cell (v:=.ow id) hs h
 |ar a b c=>exact cell (v:=.ar a b c) hs h
 |rf a b c=>exact cell (v:=.rf a b c) hs h
 |ir a b c=>exact cell (v:=.ir a b c) hs h
theorem PG{b:TB}{k:Blk}(hs:Jw b=true)(h:RB hp b k):Bt k=rfB b:=by
 cases b with
 |arr ty deep t l=>obtain⟨h1,_⟩:=h;simp only[Bt,h1,rfB]
 |frz ty deep t l=>obtain⟨h1,_⟩:=h;simp only[Bt,h1,rfB]
 |box ty cs=>
  obtain⟨h1,h2,row,h3,h4,h5⟩:=h;unfold Bt;rw[h1,h3];simp only[za7,List.flatMap_nil,List.append_nil];exact I7 hs h5
theorem Di(hh:RH hp hv):∀(k:Nat)(l acc:List Nat){o:List Nat},CY hp k l acc=some o->CE hv k l acc=some o
 |0,_,_,_,h=>by cases h
 |k+1,[],acc,o,h=>h
 |k+1,id::l,acc,o,h=>by
  simp only[CY]at h;simp only[CE];rw[Hh]at h;cases hc:acc.contains id with
  |true=>
   rw[hc]at h;rw[zr rfl];exact Di hh k l acc h
  |false=>
   rw[hc]at h;rw[zw (by simp)];simp only[cond_false]at h
   split at h
   ·cases h
   ·rename_i b hb;obtain⟨hs,h⟩:=Bp h;obtain⟨kb,hk,hr⟩:=hh id b hb;simp only[hk,PG hs hr];exact Di hh k _ _ h
theorem Gu:∀(o:List Nat)(id:Nat),Bs o id=idx o id
 |[],_=>rfl
 |x::l,id=>by
  unfold idx;rw[List.idxOf?_cons];simp only[Bs];cases h:Nat.beq x id with
  |true=>have:=za4 h;subst this;simp
  |false=>
   have:x≠id:=fun he=>by subst he;rw[Nat.beq_refl]at h;cases h
   have h2:(x==id)=false:=by simpa using this
   rw[h2];simp only[cond_false,zb4,if_false];rw[Gu l id];unfold idx;cases List.idxOf? id l<;>rfl
theorem O2:∀{o:List Nat}{id j:Nat},idx o id=some j->o[j]? =some id:=by
 intro o id j h;rw[<-Gu]at h
 induction o generalizing j with
 |nil=>cases h
 |cons x l ih=>
  simp only[Bs]at h;cases hx:Nat.beq x id with
  |true=>
   rw[hx]at h;have:=za4 hx;subst this;cases h
   rfl
  |false=>
   rw[hx]at h;simp only[cond_false]at h
   split at h
   ·rename_i j' hj;cases h
    rw[List.getElem?_cons_succ];exact ih hj
   ·cases h
section
variable {f:Nat->Option Nat} (hlen:∀id j,f id=some j->∀b',An H j=some b'->∃b,An hp id=some b/\Cw b=Cw b')
include hlen
theorem PT{v:SV}{y:V}(h:RV0 hp v y):RV0 H (B9 f v) (A8 f y):=by
 cases v with
 |im t l=>rcases h with⟨h1,rfl⟩|⟨rows,rfl,h1⟩;exact .inl ⟨h1,rfl⟩;exact .inr ⟨rows,rfl,h1⟩
 |ow id=>
  obtain⟨n,rfl,h1⟩:=h;simp only[B9,A8];cases hf:f id with
  |none=>trivial
  |some j=>
   refine⟨n,rfl,fun b' hb'=> ?_⟩
   obtain⟨b,q1,q2⟩:=hlen id j hf b' hb';rw[<-q2];exact h1 b q1
 |ar id lo n=>
  have:y=_:=h;subst this;simp only[B9,A8];cases hf:f id with
  |none=>trivial
  |some j=>rfl
 |rf id r c=>
  have:y=_:=h;subst this;simp only[B9,A8];cases hf:f id with
  |none=>trivial
  |some j=>rfl
 |ir t a c=>obtain⟨row,rfl,h1⟩:=h;exact⟨row,rfl,h1⟩
 |cl g cs=>cases cs with|nil=>have:y=_:=h;subst this;rfl|cons a l=>exact h.elim
 |any=>trivial
 |agg cs=>exact h.elim
 |tup cs=>exact h.elim
 |_=>have:y=_:=h;subst this;rfl
theorem Jb:∀{vs:List SV}{ys:List V},RC (RV0 hp) vs ys->RC (RV0 H) (vs.map (B9 f)) (ys.map (A8 f))
 |[],[],_=>trivial
 |v::vs,y::ys,h=>⟨PT hlen h.1,Jb h.2⟩
 |[],_::_,h=>h.elim
 |_::_,[],h=>h.elim
theorem L4{v:SV}{y:V}(h:RV1 hp v y)(hs:Cd v=true):RV1 H (AP f v) (Bq f y):=by
 have cell:∀{v:SV}{y:V},RV0 hp v y->AP f v=B9 f v->Bq f y=A8 f y->RV1 H (AP f v) (Bq f y):=by
  intro v y h e1 e2;rw[e1,e2];exact(PT hlen h).to1
 cases v with
 |agg cs=>obtain⟨us,rfl,hc⟩:=h;exact⟨_,rfl,Jb hlen hc⟩
 |cl g cs=>obtain⟨us,rfl,hc⟩:=h;exact⟨_,rfl,Jb hlen hc⟩
 |im t l=>rcases h with⟨h1,rfl⟩|⟨rows,rfl,h1⟩;exact .inl ⟨h1,rfl⟩;exact .inr ⟨rows,rfl,h1⟩
 |ow id=>obtain⟨n,rfl,h1⟩:=h;exact cell (v:=.ow id) ⟨n,rfl,h1⟩ rfl rfl
 |ir t a c=>obtain⟨row,rfl,h1⟩:=h;exact⟨row,rfl,h1⟩
 |any=>trivial
 |tup cs=>exact h.elim
 |ar id lo n=>have:y=_:=h;subst this;exact cell (v:=.ar id lo n) rfl rfl rfl
 |rf id lo n=>have:y=_:=h;subst this;exact cell (v:=.rf id lo n) rfl rfl rfl
 |_=>have:y=_:=h;subst this;rfl
theorem QZ{b:TB}{k:Blk}(h:RB hp b k):RB H (JS f b) (Cx f k):=by
 cases b with
 |arr ty deep t l=>
  obtain⟨h1,h2,h3,h4,h5⟩:=h;have:Cx f k=k:=by unfold Cx;rw[h1]
  rw[this];exact⟨h1,h2,h3,h4,h5⟩
 |frz ty deep t l=>
  obtain⟨h1,h2,h3,h4,h5⟩:=h;have:Cx f k=k:=by unfold Cx;rw[h1]
  rw[this];exact⟨h1,h2,h3,h4,h5⟩
 |box ty cs=>
  obtain⟨h1,h2,row,h3,h4,h5⟩:=h;have e:Cx f k={k with rows:=k.rows.map (·.map (A8 f))}:=by unfold Cx;rw[h1]
  rw[e];refine⟨h1,h2,row.map (A8 f),by simp[h3],by simpa using h4,Jb hlen h5⟩
end
theorem M4{f:Nat->Option Nat}(b:TB):Cw (JS f b)=Cw b:=by cases b<;>rfl
theorem JV{f:Nat->Option Nat}:∀(o:List Nat)(k j:Nat),An (Ca hp f k o) j=if k<=j then(o[j-k]?).bind fun id=>(An hp id).map (JS f)else none
 |[],k,j=>by simp[Ca,An]
 |id::o,k,j=>by
  simp only[Ca];rw[Al,JV o (k+1) j];by_cases h:j=k
  ·subst h;rw[zr rfl,zr (zb6 _)];simp;cases An hp id<;>rfl
  ·rw[zw h];by_cases h2:k<=j
   ·rw[zr h2,zr (by omega),show j-k=(j-(k+1))+1 by omega,List.getElem?_cons_succ]
   ·rw[zw h2,zw (by omega)]
theorem Ia(hh:RH hp hv)(o:List Nat):RH (Ca hp (Bs o) 0 o) (lkB (Aq hv o))/\∀id j,idx o id=some j->∀b',An (Ca hp (Bs o) 0 o) j=some b'->∃b,An hp id=some b/\Cw b=Cw b':=by
 have hf:Bs o=idx o:=funext fun id=>Gu o id
 have hget:∀j b',An (Ca hp (Bs o) 0 o) j=some b'->∃id b,o[j]? =some id/\An hp id=some b/\b'=JS (idx o) b:=by
  intro j b' hb;rw[JV,zr (Nat.zero_le _),Nat.sub_zero,hf]at hb;obtain⟨id,h1,h2⟩:=AF hb;simp only[za8]at h2;obtain⟨b,h3,h4⟩:=h2;exact⟨id,b,h1,h3,h4.symm⟩
 have hlen:∀id j,idx o id=some j->∀b',An (Ca hp (Bs o) 0 o) j=some b'->∃b,An hp id=some b/\Cw b=Cw b':=by
  intro id j hj b' hb;obtain⟨id',b,h1,h2,rfl⟩:=hget j b' hb;rw[O2 hj]at h1;cases h1
  exact⟨b,h2,(M4 b).symm⟩
 refine⟨fun j b' hb=> ?_,hlen⟩
 obtain⟨id,b,h1,h2,rfl⟩:=hget j b' hb;obtain⟨k,hk,hr⟩:=hh id b h2;refine⟨Cx (idx o) k,?_,QZ hlen hr⟩
 show(Aq hv o)[j]? =_;unfold Aq;rw[zc5,h1];simp only[zc1,hk,zd2]
theorem Re{f:Nat->Option Nat}{y:V}(h:Cv y=true):CQ f y=Bq f y:=by
 cases y<;>first|rfl|cases h
theorem O8{e:Nat}{keep:List Nat}{st st2:TSt}{s:St}(hs:RS st s)(h:GR e keep st=some st2):∃s2,(∀K:St->Prop,K s2->Fi e keep s K)/\RS st2 s2:=by
 unfold GR at h
 split at h
 ·rename_i hsure
  split at h
  ·rename_i o ho
   split at h
   ·rename_i hc;simp only[za1]at hc;simp only[zx]at h;subst h;have hrefs:∀t∈keep,Ae (s.tm t)=rf1 (AW st.tm t):=fun t ht=>(Dl (za3.1 hsure t ht) (hs.tm t)).2.2.1
    have hfl:(keep.flatMap fun t=>Ae (s.tm t))=keep.flatMap fun t=>rf1 (AW st.tm t):=by
     have:∀(l:List Nat),(∀t∈l,Ae (s.tm t)=rf1 (AW st.tm t))->(l.flatMap fun t=>Ae (s.tm t))=l.flatMap fun t=>rf1 (AW st.tm t):=by
      intro l
      induction l with
      |nil=>intro _;rfl
      |cons a l ih=>intro h;rw[za7,za7,h a (by simp),ih fun t ht=>h t (by simp[ht])]
     exact this keep hrefs
    have hcl:=Di hs.hp _ _ _ ho;obtain⟨h1,hlen⟩:=Ia hs.hp o;have hf:Bs o=idx o:=funext fun id=>Gu o id
    refine⟨{tm:=lk .any (keep.map fun t=>(t,CQ (idx o) (s.tm t))),hp:=lkB (Aq s.hp o),c:=1},fun K hK=> ?_,⟨?_,h1,rfl⟩⟩
    ·unfold Fi;rw[hfl,hcl];exact⟨zd4 hc.1,EX hc.2,hK⟩
    ·have key:∀(l:List Nat),(∀t∈l,t∈keep)->RT (Ca st.hp (Bs o) 0 o) (l.map fun t=>(t,AP (Bs o) (AW st.tm t))) (lk .any (l.map fun t=>(t,CQ (idx o) (s.tm t)))):=by
      intro l
      induction l with
      |nil=>intro _ t;trivial
      |cons a l ih=>
       intro hl t;show RV2 _ (AW ((a,_)::l.map _) t) (if t=a then _ else lk .any (l.map _) t);rw[Cq]
       split
       ·obtain⟨q1,_,_,q4⟩:=Dl (za3.1 hsure a (hl a (by simp))) (hs.tm a);rw[Re q4,hf];rw[hf]at hlen;exact(L4 hlen q1 (za3.1 hsure a (hl a (by simp)))).to2
       ·exact ih (fun t ht=>hl t (by simp[ht])) t
     exact key keep fun t ht=>ht
   ·cases h
  ·cases h
 ·cases h
end
end
section
open Go
theorem UD:∀(u v:Bool)(A B:Type)(a0:u=true->A)(a:A)(b:B),(u=true->∀x y:A,x=y)->Vd u v A B a0 (mkP u v A B a b)=a
 |true,_,_,_,_,_,_,h=>h rfl _ _
 |false,true,_,_,_,_,_,_=>rfl
 |false,false,_,_,_,_,_,_=>rfl
theorem Ur:∀(u v:Bool)(A B:Type)(b0:v=true->B)(a:A)(b:B),(v=true->∀x y:B,x=y)->Va u v A B b0 (mkP u v A B a b)=b
 |true,_,_,_,_,_,_,_=>rfl
 |false,true,_,_,_,_,_,h=>h rfl _ _
 |false,false,_,_,_,_,_,_=>rfl
theorem Tn:∀(u v:Bool)(A B:Type),u=true->(v=true->∀x y:B,x=y)->v=true->∀x y:NB u v A B,x=y
 |true,true,_,_,_,h,_,x,y=>h rfl x y
 |false,_,_,_,h,_,_,_,_=>by cases h
 |true,false,_,_,_,_,h,_,_=>by cases h
section
variable {ι:Type} {den:ι->Type} {u:ι->Bool} {un:∀x,u x=true->den x} (hu:∀x,u x=true->∀a b:den x,a=b)
include hu
theorem Hz:∀(l:List ι),l.all u=true->∀a b:F9 den u l,a=b
 |[],_,_,_=>rfl
 |x::l,h,a,b=>by
  simp only[zb5,za1]at h;exact Tn (u x) (l.all u) (den x) (F9 den u l) h.1 (fun hl=>Hz l hl) h.2 a b
theorem MK(x:ι)(l:List ι)(a:den x)(d:F9 den u l):hdL den u un x l (PJ den u x l a d)=a:=UD _ _ _ _ _ _ _ fun h=>hu x h
theorem Nn(x:ι)(l:List ι)(a:den x)(d:F9 den u l):tlL den u un x l (PJ den u x l a d)=d:=Ur _ _ _ _ _ _ _ fun h=>Hz hu l h
end
theorem F1:∀(c:AC),c.isU=true->∀a b:c.den,a=b
 |.at _,_,_,_=>rfl
 |.int _,h,_,_=>by cases h
 |.bool,h,_,_=>by cases h
 |.str,h,_,_=>by cases h
 |.im _,h,_,_=>by cases h
theorem R7(c:AC)(cs:List AC)(a:c.den)(d:HY cs):hdC c cs (Rj c cs a d)=a:=MK F1 c cs a d
theorem Sv(c:AC)(cs:List AC)(a:c.den)(d:HY cs):tlC c cs (Rj c cs a d)=d:=Nn F1 c cs a d
theorem N8:∀(x:Item),x.isU=true->∀a b:x.den,a=b
 |.blk (.box _ cs),h,a,b=>Hz F1 cs h a b
 |.blk (.arr _ _ _),h,_,_=>by cases h
 |.slot _ (.cell c),h,a,b=>F1 c h a b
 |.slot _ (.agg cs),h,a,b=>Hz F1 cs h a b
 |.slot _ (.ref _ _),_,_,_=>rfl
 |.slot _ (.clo _),_,_,_=>rfl
 |.slot _ (.cap _ _),_,_,_=>rfl
 |.slot _ (.sub _),h,_,_=>by cases h
theorem I9(x:Item)(l:List Item)(a:x.den)(d:Bb l):hdI x l (Dv x l a d)=a:=MK N8 x l a d
theorem HG(x:Item)(l:List Item)(a:x.den)(d:Bb l):tlI x l (Dv x l a d)=d:=Nn N8 x l a d
theorem Q3{c:AC}{v:SV}{x:c.den}(h:rdC c v=some x):v=QB c x:=by
 cases c with
 |int k=>
  cases v<;>simp only[rdC,reduceCtorEq]at h
  split at h
  ·rename_i hk;cases h;subst hk;rfl
  ·cases h
 |bool=>cases v<;>simp only[rdC,reduceCtorEq]at h;cases h;rfl
 |str=>cases v<;>simp only[rdC,reduceCtorEq]at h;cases h;rfl
 |err=>cases v<;>simp only[rdC,reduceCtorEq]at h;cases h;rfl
 |im t=>
  cases v<;>simp only[rdC,reduceCtorEq]at h
  split at h
  ·rename_i he;cases h;subst he;rfl
  ·cases h
 | «at» j=>
  cases v<;>simp only[rdC,reduceCtorEq]at h
  split at h
  ·rename_i he;have:=za4 he;subst this;rfl
  ·cases h
theorem Mc:∀{cs:List AC}{vs:List SV}{x:HY cs},Ra cs vs=some x->vs=Kt cs x
 |[],[],_,_=>rfl
 |[],_::_,_,h=>by cases h
 |_::_,[],_,h=>by cases h
 |c::cs,v::vs,x,h=>by
  simp only[Ra]at h
  split at h
  ·rename_i a ha
   split at h
   ·rename_i d hd;cases h
    rw[Kt,R7,Sv,<-Q3 ha,<-Mc hd]
   ·cases h
  ·cases h
theorem UA{b:AB}{tb:TB}{x:b.den}(h:rdB b tb=some x):tb=Un b x:=by
 cases b with
 |arr ty deep t=>
  cases tb<;>simp only[rdB,reduceCtorEq]at h
  split at h
  ·rename_i he
   split at h
   ·rename_i hc;simp only[za1,beq_iff_eq]at hc;cases h
    subst he;rw[za4 hc.1,hc.2];rfl
   ·cases h
  ·cases h
 |box ty cs=>
  cases tb<;>simp only[rdB,reduceCtorEq]at h
  split at h
  ·rename_i hc;rw[za4 hc,Mc h];rfl
  ·cases h
theorem Pv:∀{js:List Nat}{vs:List SV},Mh js vs=true->vs=js.map fun j=>.rf j 0 0
 |[],[],_=>rfl
 |[],_::_,h=>by simp[Mh]at h
 |j::js,v::vs,h=>by
  cases v with
  |rf i r c=>
   cases r with
   |zero=>
    cases c with
    |zero=>
     simp only[Mh]at h;cases hb:Nat.beq i j with
     |false=>rw[hb]at h;cases h
     |true=>
      rw[hb]at h;have:=za4 hb;subst this;rw[zb0,<-Pv (vs:=vs) h]
    |succ _=>simp[Mh]at h
   |succ _=>simp[Mh]at h
  |_=>simp[Mh]at h
 |_::_,[],h=>by simp[Mh]at h
theorem UE{a:AS}{v:SV}{x:a.den}(h:rdS a v=some x):v=Ng a x:=by
 cases a with
 |cell c=>exact Q3 (by cases v<;>exact h)
 |agg cs=>cases v<;>simp only[rdS,reduceCtorEq]at h;rw[Mc h];rfl
 |ref j isb=>
  cases isb with
  |false=>
   cases v<;>simp only[rdS,reduceCtorEq]at h
   split at h
   ·rename_i he;have:=za4 he;subst this;rfl
   ·cases h
  |true=>
   cases v with
   |rf i r c=>
    cases r with
    |zero=>
     cases c with
     |zero=>
      simp only[rdS]at h
      split at h
      ·rename_i he;have:=za4 he;subst this;rfl
      ·cases h
     |succ _=>simp[rdS]at h
    |succ _=>simp[rdS]at h
   |_=>simp[rdS]at h
 |sub j=>
  cases v<;>simp only[rdS,reduceCtorEq]at h
  split at h
  ·rename_i he;have:=za4 he;subst this;cases h;rfl
  ·cases h
 |clo f=>
  cases v with
  |cl g cs=>
   cases cs with
   |nil=>
    simp only[rdS]at h
    split at h
    ·rename_i he;have:=za4 he;subst this;rfl
    ·cases h
   |cons _ _=>simp[rdS]at h
  |_=>simp[rdS]at h
 |cap f js=>
  cases v with
  |cl g cs=>
   simp only[rdS]at h
   split at h
   ·rename_i he;rw[za1]at he;have:=za4 he.1;subst this;rw[Pv he.2];rfl
   ·cases h
  |_=>simp[rdS]at h
theorem Mo:∀{l:List Item}{k:Nat}{tm:TTm}{hp:THp}{d:Bb l},rdI k l tm hp=some d->tm=(AG k l d).1/\hp=(AG k l d).2
 |[],k,[],[],d,_=>⟨rfl,rfl⟩
 |[],k,_::_,_,_,h=>by simp[rdI]at h
 |[],k,[],_::_,_,h=>by simp[rdI]at h
 |.blk b::l,k,tm,[],_,h=>by simp[rdI]at h
 |.blk b::l,k,tm,(i,none)::hp,_,h=>by simp[rdI]at h
 |.blk b::l,k,tm,(i,some tb)::hp,d,h=>by
  simp only[rdI]at h
  split at h
  ·rename_i hi;have:=za4 hi;subst this
   split at h
   ·rename_i x hx
    split at h
    ·rename_i y hy;cases h
     obtain⟨e1,e2⟩:=Mo hy;rw[AG,I9,HG,<-UA hx,<-e1,<-e2];exact⟨rfl,rfl⟩
    ·cases h
   ·cases h
  ·cases h
 |.slot s a::l,k,[],hp,_,h=>by simp[rdI]at h
 |.slot s a::l,k,(i,v)::tm,hp,d,h=>by
  simp only[rdI]at h
  split at h
  ·rename_i hi;have:=za4 hi;subst this
   split at h
   ·rename_i x hx
    split at h
    ·rename_i y hy;cases h
     obtain⟨e1,e2⟩:=Mo hy;rw[AG,I9,HG,<-UE hx,<-e1,<-e2];exact⟨rfl,rfl⟩
    ·cases h
   ·cases h
  ·cases h
theorem GV(bl:List AB):∀(l:List Item),(CG (EE bl l)).map (·.1)=Cu l
 |[]=>rfl
 |.blk b::l=>GV bl l
 |.slot s a::l=>by
  have:=GV bl l;unfold CG at this⊢
  simp only[EE,Cu,zb0,this]
theorem ES{e:Nat}{l:List Item}{st:TSt}{s:St}{d:Bb l}(hs:RS st s)(h:CP e l st=some d):∃s',(∀K:St->Prop,K s'->CD e (DE l) s K)/\RS (Dw l d) s':=by
 unfold CP at h
 split at h
 ·rename_i hb;obtain⟨b1,b2⟩:=Im hb
  split at h
  ·rename_i st1 h1;obtain⟨s1,n1,n2,n3,n4⟩:=Ph hs b1 b2 h1
   split at h
   ·rename_i st2 h2;obtain⟨s2,c1,c2⟩:=O8 n2 h2;obtain⟨e1,e2⟩:=Mo h;have hc:st2.c=1:=by
     unfold GR at h2
     split at h2
     ·split at h2
      ·split at h2
       ·simp only[zx]at h2;subst h2;rfl
       ·cases h2
      ·cases h2
     ·cases h2
    have:st2=Dw l d:=by
     cases st2 with
     |mk tm hp c=>
      simp only at e1 e2 hc;subst e1;subst e2;subst hc;rfl
    rw[this]at c2;refine⟨s2,fun K hK=> ?_,c2⟩
    unfold CD;rw[show DE l=CG (EE (BH l) l)from rfl,n1];simp only[Ag,GV];exact c1 K hK
   ·cases h
  ·cases h
 ·cases h
end
section
open Go
structure ResRel (res:List Item) (y:Bb res) (r:V) (blks:List Blk):Prop where
 val:RV2 (AG 0 res y).2 (SI ((AG 0 res y).1.map (·.2))) r
 blk:RH (AG 0 res y).2 (lkB blks)
 len:blks.length=(AG 0 res y).2.length
def Cg(R:Rel)(E:Ent):Prop:=∀x y args blks st,E.F x=some y->RS st (Nx args blks)->CP E.a.e E.a.params st=some x->DQ args blks=true->args.length=(Cu E.a.params).length->(args.flatMap Ab).eraseDups.length=E.a.e->(E.a.e=0->blks=[])->
 ∃r blks',R E.a.g args blks r blks'/\ResRel E.a.res y r blks'
section
variable {P:Program} {X:TX} {g:FuncId}
theorem JC{α:Type}(hX:XOK P X){st:TSt}{s:St}(hs:RS st s):∀(l:List ResultVar){K:List SV->Option α}{z:α},OW X st.tm st.hp l K=some z->
  ∃xs ys,K xs=some z/\RC (RV2 st.hp) xs ys/\∀KV:List V->Prop,KV ys->GF P s l KV
 |[],K,z,h=>⟨[],[],h,trivial,fun KV hk=>hk⟩
 |.tmp t::l,K,z,h=>by
  obtain⟨xs,ys,h1,h2,h3⟩:=JC hX hs l h;exact⟨_,_::ys,h1,⟨hs.tm t,h2⟩,fun KV hk=>h3 _ hk⟩
 |.cell a t::l,K,z,h=>by
  simp only[OW]at h;obtain⟨x,u,h1,h2,h3⟩:=Mv hX (hs.tm a) hs.hp.toM h;obtain⟨xs,ys,q1,q2,q3⟩:=JC hX hs l h1;refine⟨_,u::ys,q1,⟨h2,q2⟩,fun KV hk=> ?_⟩
  show(match AA P (.load t (.tmp a)) (Ao s.tm) s.hp 0 with|some (x,_)=>GF P s l fun xs=>KV (x::xs)|none=>False);rw[h3 (Ao s.tm) (.tmp a) 0 rfl];exact q3 _ hk
theorem LI{hp:THp}:∀{xs:List SV}{ys:List V}(k:Nat),RC (RV2 hp) xs ys->RT hp (HB k xs) (lk .any (I2 k ys))
 |[],[],k,_=>fun t=>trivial
 |x::xs,y::ys,k,h=>by
  intro t;show RV2 hp (AW ((k,x)::HB (k+1) xs) t) (if t=k then y else lk .any (I2 (k+1) ys) t);rw[Cq]
  split
  ·exact h.1
  ·exact LI (k+1) h.2 t
 |[],_::_,_,h=>h.elim
 |_::_,[],_,h=>h.elim
theorem G5:∀(xs:List SV)(k:Nat),(HB k xs).map (·.2)=xs
 |[],_=>rfl
 |x::xs,k=>by simp[HB,G5 xs (k+1)]
theorem Lb{hp:THp}{f:Nat->Option Nat}:∀(o:List Nat)(k:Nat),(Ca hp f k o).length=o.length
 |[],_=>rfl
 |id::o,k=>by simp[Ca,Lb o (k+1)]
theorem RC.all1{hp:THp}:∀{vs:List SV}{ys:List V},vs.all Cd=true->RC (RV2 hp) vs ys->RC (RV1 hp) vs ys/\ys.flatMap Ab=vs.flatMap rf1/\ys.flatMap Ae=vs.flatMap rf1/\ys.all Cv=true
 |[],[],_,_=>⟨trivial,rfl,rfl,rfl⟩
 |v::vs,y::ys,hs,h=>by
  simp only[zb5,za1]at hs;obtain⟨q1,q2,q3,q4⟩:=Dl hs.1 h.1;obtain⟨e1,e2,e3,e4⟩:=RC.all1 hs.2 h.2;exact⟨⟨q1,e1⟩,by simp only[za7,q2,e2],by simp only[za7,q3,e3],by simp[q4,e4]⟩
 |[],_::_,_,h=>h.elim
 |_::_,[],_,h=>h.elim
theorem RC.ren{hp H:THp}{f:Nat->Option Nat}(hlen:∀id j,f id=some j->∀b',An H j=some b'->∃b,An hp id=some b/\Cw b=Cw b'):∀{vs:List SV}{ys:List V},vs.all Cd=true->RC (RV1 hp) vs ys->RC (RV1 H) (vs.map (AP f)) (ys.map (Bq f))
 |[],[],_,_=>trivial
 |v::vs,y::ys,hs,h=>by
  simp only[zb5,za1]at hs;exact⟨L4 hlen h.1 hs.1,RC.ren hlen hs.2 h.2⟩
 |[],_::_,_,h=>h.elim
 |_::_,[],_,h=>h.elim
theorem Pk(l:List (Nat×TMs)):(CG l).map (·.2)=(l.map (·.2)).map TMs.mds/\BF (CG l)=l.map (fun p=>V.rf p.1 0 0)/\(CG l).length=l.length:=by
 refine⟨?_,?_,?_⟩
 ·simp[CG]
 ·unfold BF CG;simp
 ·simp[CG]
theorem Rg{e:Nat}{st:TSt}{s:St}{res:List Item}{rs:List ResultVar}{y:Bb res}(hX:XOK P X)(hs:RS st s)
  (h:(OW X st.tm st.hp rs fun xs=>SP res e st xs)=some y):
  ∃r blks',(DW (CG (KP (BH res) e 0 (BH res))) s.hp=true/\GF P s rs fun xs=>AQ (E6 ((CG (KP (BH res) e 0 (BH res))).map (·.2)++(DE res).map (·.2)) (BF (CG (KP (BH res) e 0 (BH res)))++xs) s.hp (s.c+1)) fun z=>Pc z.2.1 e r blks' (z.1.drop (CG (KP (BH res) e 0 (BH res))).length))/\ResRel res y r blks':=by
 obtain⟨xs,ys,h1,h2,h3⟩:=JC hX hs rs h;unfold SP at h1;simp only at h1;generalize KP (BH res) e 0 (BH res)=rts at h1⊢
 split at h1
 case isFalse=>cases h1
 rename_i hc;simp only[za1]at hc;obtain⟨⟨c1,c2⟩,c3⟩:=hc
 split at h1
 case h_2=>cases h1
 rename_i zs0 hp1 hn
 split at h1
 case isFalse=>cases h1
 rename_i hz
 split at h1
 case h_2=>cases h1
 rename_i o ho
 split at h1
 case isFalse=>cases h1
 rename_i he;obtain⟨m1,m2,m3⟩:=Pk rts;have hroot:DW (CG rts) s.hp=true:=by
  unfold RI at c1;unfold DW CG;rw[List.all_map];refine za3.2 fun p hp=> ?_
  have:=za3.1 c1 p hp;simp only[za1]at this;simp only[Function.comp,za1,decide_eq_true_eq];refine⟨F6 this.1,?_⟩
  have h4:=this.2
  split at h4
  ·rename_i ty cs hg;obtain⟨k,hk,k1,_⟩:=hs.hp p.1 _ hg;rw[hk];simp[k1]
  ·cases h4
 have hsc:s.c=st.c:=hs.c;obtain⟨b1,_⟩:=Im c3;have hids:∀i∈(rts.map (fun p=>SV.rf p.1 0 0)++xs).flatMap C4,i<16*(s.c+1):=by
  intro i hi;rw[List.flatMap_append,zb1]at hi;rcases hi with hi|hi
  ·obtain⟨v,hv,hi⟩:=za6.1 hi;obtain⟨p,_,rfl⟩:=zc2.1 hv;simp[C4,KC,Cn]at hi
  ·obtain⟨v,hv,hi⟩:=za6.1 hi;simp only[HV,za1]at c3;rw[<-G5 xs 0]at hv;obtain⟨p,hp,rfl⟩:=zc2.1 hv;have:=F6 (za3.1 (za3.1 c3.1 p hp) i hi);omega
 have hrc:RC (RV2 st.hp) (rts.map (fun p=>SV.rf p.1 0 0)++xs) (BF (CG rts)++ys):=by
  rw[m2];refine RC.append (RC.map fun p _=>rfl) h2
 obtain⟨ys',hv',c',n1,n2,n3,_⟩:=Pu (c:=s.c+1) hs.hp (by rw[hsc];exact b1) hids hrc (by rw[hsc];exact hn);have hzc:=n3.drop rts.length;obtain⟨a1,a2,a3,a4⟩:=RC.all1 hz hzc;have hcl:=Di n2 _ _ _ ho;obtain⟨r1,r2⟩:=Ia n2 o;have hf:Bs o=idx o:=funext fun id=>Gu o id
 obtain⟨e1,e2⟩:=Mo h1;have hvals:(AG 0 res y).1.map (·.2)=(zs0.drop rts.length).map (AP (Bs o)):=by rw[<-e1,G5]
 have htake:=EX he;have hrv:RC (RV1 (Ca hp1 (Bs o) 0 o)) ((zs0.drop rts.length).map (AP (Bs o))) ((ys'.drop rts.length).map (Bq (idx o))):=by
  rw[hf]at r2⊢
  exact RC.ren r2 hz a1
 have fin:∀r,Pc hv' e r (Aq hv' o) (ys'.drop rts.length)->RV2 (Ca hp1 (Bs o) 0 o) (SI ((zs0.drop rts.length).map (AP (Bs o)))) r->∃r blks',(DW (CG rts) s.hp=true/\GF P s rs fun xs=>AQ (E6 ((CG rts).map (·.2)++(DE res).map (·.2)) (BF (CG rts)++xs) s.hp (s.c+1)) fun z=>Pc z.2.1 e r blks' (z.1.drop (CG rts).length))/\ResRel res y r blks':=by
  intro r hr hv;refine⟨r,Aq hv' o,⟨hroot,h3 _ ?_⟩,⟨by rw[hvals,<-e2];exact hv,by rw[<-e2];exact r1,by rw[<-e2,Lb];simp[Aq]⟩⟩
  have:(CG rts).map (·.2)++(DE res).map (·.2)=(rts.map (·.2)++(EE (BH res) res).map (·.2)).map TMs.mds:=by
   rw[m1,show DE res=CG (EE (BH res) res)from rfl,(Pk (EE (BH res) res)).1,List.map_append]
  rw[this,n1];simp only[Ag,m3];exact hr
 generalize ys'.drop rts.length=zs at a1 a2 a3 a4 hrv fin;generalize zs0.drop rts.length=vs at hrv fin a2 a3 hcl;have many:(SI (vs.map (AP (Bs o)))=.tup (vs.map (AP (Bs o))))->(∀r,Pc hv' e r (Aq hv' o) zs=(zs.all Cv=true/\LY hv' e (.tup zs) r (Aq hv' o)))->∃r blks',(DW (CG rts) s.hp=true/\GF P s rs fun xs=>AQ (E6 ((CG rts).map (·.2)++(DE res).map (·.2)) (BF (CG rts)++xs) s.hp (s.c+1)) fun z=>Pc z.2.1 e r blks' (z.1.drop (CG rts).length))/\ResRel res y r blks':=by
  intro ht ho';refine fin (.tup (zs.map (Bq (idx o)))) ?_ ?_
  ·rw[ho'];refine⟨a4,?_⟩
   unfold LY;rw[show Ae (.tup zs)=zs.flatMap Ab from rfl,a2,hcl];exact⟨htake,rfl,rfl⟩
  ·rw[ht];exact⟨_,rfl,hrv⟩
 match zs,vs,a2,a3,a4,hrv,hcl,fin,many with
 |[z],[v],a2,a3,a4,hrv,hcl,fin,_=>
  refine fin (CQ (idx o) z) ?_ ?_
  ·show LY _ _ _ _ _;unfold LY;have:Ae z=[v].flatMap rf1:=by simpa using a3
   rw[this,hcl];exact⟨htake,rfl,rfl⟩
  ·have:Cv z=true:=by simpa using a4
   rw[Re this];exact hrv.1.to2
 |[],[],_,_,_,_,_,_,many=>exact many rfl fun r=>rfl
 |_::_::_,_::_::_,_,_,_,_,_,_,many=>exact many rfl fun r=>rfl
 |[],_::_,_,_,_,h,_,_,_=>exact h.elim
 |_::_,[],_,_,_,h,_,_,_=>exact h.elim
 |[_],_::_::_,_,_,_,h,_,_,_=>exact h.2.elim
 |_::_::_,[_],_,_,_,h,_,_,_=>exact h.2.elim
end
end
section
open Go
theorem JA{hp:THp}{hv:Hp}{c:AC}{v x:SV}{y:V}(hh:RH hp hv)(h:B3 hp c v=some x)(hv':RV0 hp v y):
  ∃y',Fe hv y=some y'/\RV0 hp x y'/\BL y=Kq v:=by
 cases c with
 |int k=>
  cases v<;>simp only[B3,reduceCtorEq]at h
  cases h;have:y=_:=hv';subst this;exact⟨_,rfl,rfl,rfl⟩
 |bool=>cases v<;>simp only[B3,reduceCtorEq]at h;cases h;have:y=_:=hv';subst this;exact⟨_,rfl,rfl,rfl⟩
 |str=>cases v<;>simp only[B3,reduceCtorEq]at h;cases h;have:y=_:=hv';subst this;exact⟨_,rfl,rfl,rfl⟩
 |err=>cases v<;>simp only[B3,reduceCtorEq]at h
 | «at» j=>cases v<;>simp[B3]at h
 |im t=>
  have h':∃l,DF hp t v=some l/\x=.im t l:=by
   simp only[B3]at h
   split at h
   ·rename_i l hl;cases h;exact⟨l,hl,rfl⟩
   ·cases h
  obtain⟨l,h',rfl⟩:=h';have hids:BL y=Kq v:=by
   cases v with
   |ow id=>obtain⟨n,rfl,_⟩:=hv';rfl
   |ar a b c=>have:y=_:=hv';subst this;rfl
   |em=>have:y=_:=hv';subst this;rfl
   |er e=>have:y=_:=hv';subst this;rfl
   |im t' l'=>rcases hv' with⟨_,rfl⟩|⟨_,rfl,_⟩<;>rfl
   |_=>simp[DF,asL]at h'
  rcases Kw h' hv' hh.toM with⟨rfl,rfl⟩|⟨rows,rfl,hr⟩|⟨id,lo,n,kb,rfl,hk,hkk,hr⟩
  ·exact⟨.im [],rfl,.inr ⟨[],rfl,RLx.nil⟩,hids⟩
  ·exact⟨.im rows,rfl,.inr ⟨rows,rfl,hr⟩,hids⟩
  ·refine⟨.im ((kb.rows.take (lo+n)).drop lo),?_,.inr ⟨_,rfl,hr⟩,hids⟩
   simp only[Fe,hk]
theorem Iq{hp:THp}{hv:Hp}(hh:RH hp hv):∀{cs:List AC}{vs xs:List SV}{ys:List V},HE hp cs vs=some xs->RC (RV0 hp) vs ys->
  ∃ys',E7 hv ys=some ys'/\RC (RV0 hp) xs ys'/\ys.flatMap BL=vs.flatMap Kq
 |[],[],xs,ys,h,hc=>by
  simp only[HE,zx]at h;subst h;cases ys with
  |nil=>exact⟨[],rfl,trivial,rfl⟩
  |cons a l=>exact hc.elim
 |[],_::_,_,_,h,_=>by cases h
 |_::_,[],_,_,h,_=>by cases h
 |c::cs,v::vs,xs,ys,h,hc=>by
  simp only[HE]at h
  split at h
  ·rename_i x1 hx1
   split at h
   ·rename_i x2 hx2;cases h
    cases ys with
    |nil=>exact hc.elim
    |cons y ys=>
     obtain⟨y',h1,h2,h3⟩:=JA hh hx1 hc.1;obtain⟨ys',g1,g2,g3⟩:=Iq hh hx2 hc.2;exact⟨y'::ys',by simp only[E7,h1,g1],⟨h2,g2⟩,by rw[za7,za7,h3,g3]⟩
   ·cases h
  ·cases h
theorem Om{hp:THp}{hv:Hp}{a:AS}{v x:SV}{y:V}(hh:RH hp hv)(h:Ep hp a v=some x)(hv2:RV2 hp v y):
  ∃y',C9 hv y=some y'/\RV2 hp x y'/\Fu y=Mr v:=by
 have cell:∀(c:AC),B3 hp c v=some x->RV0 hp v y->Mr v=Kq v->(∀y',RV0 hp x y'->RV2 hp x y')->C9 hv y=Fe hv y->Fu y=BL y->∃y',C9 hv y=some y'/\RV2 hp x y'/\Fu y=Mr v:=by
  intro c hc h0 e1 e2 e3 e4;obtain⟨y',q1,q2,q3⟩:=JA hh hc h0;exact⟨y',by rw[e3];exact q1,e2 y' q2,by rw[e4,e1];exact q3⟩
 cases a with
 |cell c=>
  have h:B3 hp c v=some x:=by cases v<;>exact h
  have hx:∀y',RV0 hp x y'->RV2 hp x y':=fun y' h=>h.to1.to2
  cases v with
  |int k n=>have:y=_:=hv2;subst this;exact cell c h rfl rfl hx rfl rfl
  |bool b=>have:y=_:=hv2;subst this;exact cell c h rfl rfl hx rfl rfl
  |str s=>have:y=_:=hv2;subst this;exact cell c h rfl rfl hx rfl rfl
  |em=>have:y=_:=hv2;subst this;exact cell c h rfl rfl hx rfl rfl
  |er e=>have:y=_:=hv2;subst this;exact cell c h rfl rfl hx rfl rfl
  |im t l=>rcases hv2 with⟨e,rfl⟩|⟨r,rfl,e⟩;exact cell c h (.inl ⟨e,rfl⟩) rfl hx rfl rfl;exact cell c h (.inr ⟨r,rfl,e⟩) rfl hx rfl rfl
  |ow id=>obtain⟨n,rfl,e⟩:=hv2;exact cell c h ⟨n,rfl,e⟩ rfl hx rfl rfl
  |ar a b d=>have:y=_:=hv2;subst this;exact cell c h rfl rfl hx rfl rfl
  |sc a=>cases c<;>simp[B3,DF,asL]at h
  |rf a b d=>cases c<;>simp[B3,DF,asL]at h
  |ir a b d=>cases c<;>simp[B3,DF,asL]at h
  |agg cs=>cases c<;>simp[B3,DF,asL]at h
  |tup cs=>cases c<;>simp[B3,DF,asL]at h
  |cl f cs=>cases c<;>simp[B3,DF,asL]at h
  |any=>cases c<;>simp[B3,DF,asL]at h
 |agg cs=>
  cases v with
  |agg vs=>
   simp only[Ep]at h
   split at h
   ·rename_i l hl;cases h
    obtain⟨us,rfl,hc⟩:=Jo hv2;obtain⟨ys',q1,q2,q3⟩:=Iq hh hl hc;exact⟨.agg ys',by simp only[C9,q1],⟨ys',rfl,q2⟩,q3⟩
   ·cases h
  |_=>simp[Ep]at h
 |ref j isb=>
  cases isb with
  |true=>
   cases v<;>simp only[Ep,reduceCtorEq]at h
   cases h
   have:y=_:=hv2;subst this;exact⟨_,rfl,rfl,rfl⟩
  |false=>cases v<;>simp[Ep]at h
 |sub j=>cases v<;>simp[Ep]at h
 |clo f=>
  cases v with
  |cl g cs=>
   cases cs with
   |nil=>
    simp only[Ep,zx]at h;subst h;obtain⟨us,rfl,hc⟩:=Pq hv2;cases us with
    |nil=>exact⟨.cl g [],rfl,⟨[],rfl,trivial⟩,rfl⟩
    |cons a l=>exact hc.elim
   |cons a l=>simp[Ep]at h
  |_=>simp[Ep]at h
 |cap f js=>cases v<;>simp[Ep]at h
theorem GS{hp:THp}{hv:Hp}(hh:RH hp hv):∀{l:List AS}{vs xs:List SV}{ys:List V},HK hp l vs=some xs->RC (RV2 hp) vs ys->
  ∃ys',Cs hv (l.map Jl) ys=some ys'/\RC (RV2 hp) xs ys'/\BY (l.map Jl) ys=EI l vs
 |[],[],xs,ys,h,hc=>by
  simp only[HK,zx]at h;subst h;cases ys with
  |nil=>exact⟨[],rfl,trivial,rfl⟩
  |cons a l=>exact hc.elim
 |[],_::_,_,_,h,_=>by cases h
 |_::_,[],_,_,h,_=>by cases h
 |a::l,v::vs,xs,ys,h,hc=>by
  simp only[HK]at h
  split at h
  ·rename_i x1 hx1
   split at h
   ·rename_i x2 hx2;cases h
    cases ys with
    |nil=>exact hc.elim
    |cons y ys=>
     obtain⟨ys',g1,g2,g3⟩:=GS hh hx2 hc.2;cases hra:Jl a with
     |true=>
      rw[hra]at hx1;simp only[cond_true]at hx1;obtain⟨hsv,hx1⟩:=Bp hx1;cases hx1
      obtain⟨_,_,_,hnt⟩:=Dl hsv hc.1;refine⟨y::ys',?_,⟨hc.1,g2⟩,?_⟩
      ·simp only[Cs,zb0,List.headD_cons,List.tail_cons,hra,if_true,hnt,g1]
      ·simp only[BY,EI,zb0,List.headD_cons,List.tail_cons,hra,if_true,cond_true,g3]
     |false=>
      rw[hra]at hx1;simp only[cond_false]at hx1;obtain⟨y',h1,h2,h3⟩:=Om hh hx1 hc.1;refine⟨y'::ys',?_,⟨h2,g2⟩,?_⟩
      ·simp only[Cs,zb0,List.headD_cons,List.tail_cons,hra,zb4,if_false,h1,g1]
      ·simp only[BY,EI,zb0,List.headD_cons,List.tail_cons,hra,zb4,if_false,cond_false,h3,g3]
   ·cases h
  ·cases h
theorem JW:∀(l acc:List Nat),ddN acc l=acc++(l.filter fun i=> !acc.contains i).eraseDups
 |[],acc=>by simp[ddN]
 |id::l,acc=>by
  simp only[ddN];rw[Hh];cases h:acc.contains id with
  |true=>
   simp only[cond_true];rw[JW l acc,List.filter_cons,h];rfl
  |false=>
   simp only[cond_false];rw[JW l (acc++[id]),List.filter_cons,h];simp only[Bool.not_false,if_true];rw[List.eraseDups_cons,List.append_assoc,List.singleton_append,List.filter_filter]
   congr 3
   apply List.filter_congr
   intro x _;simp only[List.contains_append,List.contains_cons,List.contains_nil,Bool.or_false,Bool.not_or];rw[Bool.and_comm]
theorem OK(l:List Nat):ddN [] l=l.eraseDups:=by
 rw[JW];simp only[List.contains_nil,Bool.not_false,List.nil_append];rw[List.filter_eq_self.2 (fun _ _=>rfl)]
theorem Qm{hp:THp}{f:Nat->Option Nat}{v:SV}{y:V}(hs:D3 v=true)(h0:rf0 v=[])(h:RV0 hp v y):A8 f y=y:=by
 cases v with
 |im t l=>rcases h with⟨_,rfl⟩|⟨_,rfl,_⟩<;>rfl
 |ow id=>simp[rf0]at h0
 |ar a b c=>simp[rf0]at h0
 |rf a b c=>simp[rf0]at h0
 |ir t a c=>obtain⟨_,rfl,_⟩:=h;rfl
 |cl f cs=>cases cs with|nil=>have:y=_:=h;subst this;rfl|cons a l=>exact h.elim
 |any=>cases hs
 |agg cs=>exact h.elim
 |tup cs=>exact h.elim
 |_=>have:y=_:=h;subst this;rfl
theorem Ih{hp:THp}{f:Nat->Option Nat}:∀{vs:List SV}{ys:List V},vs.all D3=true->vs.flatMap rf0=[]->RC (RV0 hp) vs ys->ys.map (A8 f)=ys
 |[],[],_,_,_=>rfl
 |v::vs,y::ys,hs,h0,h=>by
  simp only[zb5,za1]at hs;rw[za7,List.append_eq_nil_iff]at h0;rw[zb0,Qm hs.1 h0.1 h.1,Ih hs.2 h0.2 h.2]
 |[],_::_,_,_,h=>h.elim
 |_::_,[],_,_,h=>h.elim
theorem QG{hp:THp}{f:Nat->Option Nat}{v:SV}{y:V}(hs:Cd v=true)(h0:rf1 v=[])(h:RV1 hp v y):Bq f y=y:=by
 cases v with
 |agg cs=>obtain⟨us,rfl,hc⟩:=h;show V.agg _=_;rw[Ih hs h0 hc]
 |cl g cs=>obtain⟨us,rfl,hc⟩:=h;show V.cl _ _=_;rw[Ih hs h0 hc]
 |im t l=>rcases h with⟨_,rfl⟩|⟨_,rfl,_⟩<;>rfl
 |ow id=>simp[rf1,rf0]at h0
 |ar a b c=>simp[rf1,rf0]at h0
 |rf a b c=>simp[rf1,rf0]at h0
 |ir t a c=>obtain⟨_,rfl,_⟩:=h;rfl
 |any=>cases hs
 |tup cs=>exact h.elim
 |_=>have:y=_:=h;subst this;rfl
theorem LK{hp:THp}{f:Nat->Option Nat}:∀{vs:List SV}{ys:List V},vs.all Cd=true->vs.flatMap rf1=[]->RC (RV1 hp) vs ys->ys.map (Bq f)=ys
 |[],[],_,_,_=>rfl
 |v::vs,y::ys,hs,h0,h=>by
  simp only[zb5,za1]at hs;rw[za7,List.append_eq_nil_iff]at h0;rw[zb0,QG hs.1 h0.1 h.1,LK hs.2 h0.2 h.2]
 |[],_::_,_,_,h=>h.elim
 |_::_,[],_,_,h=>h.elim
theorem PY(c:AC)(x:c.den):D3 (QB c x)=true:=by cases c<;>rfl
theorem GQ:∀(cs:List AC)(x:HY cs),(Kt cs x).all D3=true
 |[],_=>rfl
 |c::cs,x=>by rw[Kt,zb5,PY,GQ cs];rfl
theorem Ol(a:AS)(x:a.den):Cd (Ng a x)=true:=by
 cases a with
 |cell c=>cases c<;>rfl
 |agg cs=>exact GQ cs x
 |ref j isb=>cases isb<;>rfl
 |sub j=>rfl
 |clo f=>rfl
 |cap f js=>show(js.map fun j=>SV.rf j 0 0).all D3=true;simp[D3]
theorem Qo(b:AB)(x:b.den):Jw (Un b x)=true:=by
 cases b with
 |arr ty deep t=>rfl
 |box ty cs=>exact GQ cs x
theorem Gq:∀(l:List Item)(k:Nat)(d:Bb l),((AG k l d).1.map (·.2)).all Cd=true
 |[],_,_=>rfl
 |.blk b::l,k,d=>by simp only[AG];exact Gq l _ _
 |.slot s a::l,k,d=>by simp only[AG,zb0,zb5,Ol,Bool.true_and];exact Gq l _ _
theorem FV:∀(l:List Item)(k:Nat)(d:Bb l)(i:Nat),i<(AG k l d).2.length->∃b,(AG k l d).2[i]? =some (k+i,some b)/\Jw b=true
 |[],_,_,i,h=>by simp[AG]at h
 |.blk b::l,k,d,i,h=>by
  simp only[AG,zc8]at h⊢
  cases i with
  |zero=>exact⟨_,rfl,Qo _ _⟩
  |succ i=>
   obtain⟨b',h1,h2⟩:=FV l (k+1) (tlI _ l d) i (by omega);exact⟨b',by rw[List.getElem?_cons_succ,h1];congr 2;omega,h2⟩
 |.slot s a::l,k,d,i,h=>by simp only[AG]at h⊢;exact FV l k _ i h
theorem II:∀{l:THp}{k:Nat},(∀i,i<l.length->∃b,l[i]? =some (k+i,some b))->∀i,i<l.length->∃b,l[i]? =some (k+i,some b)/\An l (k+i)=some b
 |[],_,_,i,h=>by simp at h
 |a::l,k,hl,i,h=>by
  obtain⟨b0,h0⟩:=hl 0 (by simp);simp at h0;subst h0;cases i with
  |zero=>exact⟨b0,rfl,by rw[Nat.add_zero,Al,zr rfl]⟩
  |succ i=>
   obtain⟨b,h1,h2⟩:=II (l:=l) (k:=k+1) (fun j hj=>by
    obtain⟨b,hb⟩:=hl (j+1) (by simpa using hj);exact⟨b,by rw[List.getElem?_cons_succ]at hb;rw[hb];congr 2;omega⟩) i (by simpa using h)
   exact⟨b,by rw[List.getElem?_cons_succ,h1];congr 2;omega,by rw[Al,zw (by omega),show k+(i+1)=k+1+i by omega];exact h2⟩
theorem PU{l:List Item}{d:Bb l}{i:Nat}(h:i<(AG 0 l d).2.length):∃b,(AG 0 l d).2[i]? =some (i,some b)/\An (AG 0 l d).2 i=some b/\Jw b=true:=by
 obtain⟨b,h1,h2⟩:=II (l:=(AG 0 l d).2) (k:=0) (fun i hi=>by obtain⟨b,h1,_⟩:=FV l 0 d i hi;exact⟨b,h1⟩) i h;obtain⟨b',h3,h4⟩:=FV l 0 d i h;simp only[zd0]at h1 h2 h3;rw[h3]at h1;cases h1
 exact⟨b,h3,h2,h4⟩
theorem SM{l:List Item}{d:Bb l}{i:Nat}{b:TB}(h:An (AG 0 l d).2 i=some b):i<(AG 0 l d).2.length:=by
 obtain⟨j,hj⟩:=zd1 (K4 h);have hl:=(za0.1 hj).1;obtain⟨b',h1,_⟩:=FV l 0 d j hl;rw[hj]at h1;simp only[zd0,zx,Prod.mk.injEq]at h1;rw[h1.1];exact hl
theorem P1{hp:THp}{v:SV}{y:V}(hs:D3 v=true)(h:RV0 hp v y):CK y=Jf v:=by
 cases v with
 |im t l=>rcases h with⟨_,rfl⟩|⟨_,rfl,_⟩<;>rfl
 |ow id=>obtain⟨_,rfl,_⟩:=h;rfl
 |ir t a c=>obtain⟨_,rfl,_⟩:=h;rfl
 |cl f cs=>cases cs with|nil=>have:y=_:=h;subst this;rfl|cons a l=>exact h.elim
 |any=>cases hs
 |agg cs=>exact h.elim
 |tup cs=>exact h.elim
 |_=>have:y=_:=h;subst this;rfl
theorem HM{hp:THp}:∀{vs:List SV}{ys:List V},vs.all D3=true->RC (RV0 hp) vs ys->ys.all CK=vs.all Jf
 |[],[],_,_=>rfl
 |v::vs,y::ys,hs,h=>by
  simp only[zb5,za1]at hs⊢
  rw[P1 hs.1 h.1,HM hs.2 h.2]
 |[],_::_,_,h=>h.elim
 |_::_,[],_,h=>h.elim
def niV:V->Bool
 |.agg cs=>cs.all CK
 |x=>CK x
theorem MO(vs:List V):EL (.tup vs)=vs.all niV:=by
 show(vs.all fun|.agg cs=>cs.all CK|x=>CK x)=_
 congr 1
theorem Lq{hp:THp}{v:SV}{y:V}(hs:Cd v=true)(h:RV1 hp v y):niV y=LX v/\EL y=LX v:=by
 cases v with
 |agg cs=>obtain⟨us,rfl,hcs⟩:=h;have:=HM hs hcs;exact⟨this,this⟩
 |cl f cs=>
  obtain⟨us,rfl,hcs⟩:=h;cases cs with
  |nil=>cases us with|nil=>exact⟨rfl,rfl⟩|cons a l=>exact hcs.elim
  |cons a l=>cases us with|nil=>exact hcs.elim|cons b m=>exact⟨rfl,rfl⟩
 |im t l=>rcases h with⟨_,rfl⟩|⟨_,rfl,_⟩<;>exact⟨rfl,rfl⟩
 |ow id=>obtain⟨_,rfl,_⟩:=h;exact⟨rfl,rfl⟩
 |ir t a c=>obtain⟨_,rfl,_⟩:=h;exact⟨rfl,rfl⟩
 |any=>cases hs
 |tup cs=>exact h.elim
 |_=>have:y=_:=h;subst this;exact⟨rfl,rfl⟩
theorem Qp{hp:THp}{b:TB}{k:Blk}(hs:Jw b=true)(h:RB hp b k):BU k=Q5 b:=by
 cases b with
 |arr ty deep t l=>obtain⟨h1,h2,h3,_⟩:=h;unfold BU;rw[h1];exact h3
 |frz ty deep t l=>obtain⟨h1,h2,h3,_⟩:=h;unfold BU;rw[h1];rfl
 |box ty cs=>
  obtain⟨h1,h2,row,h3,h4,h5⟩:=h;unfold BU;rw[h1,h3];simp only[zb5,List.all_nil,Bool.and_true];exact HM hs h5
end
section
open Go
theorem Mu:∀(l:List Blk)(hp:Hp)(b i:Nat),inst hp b l i=if b<=i/\i<b+l.length then l[i-b]? else hp i
 |[],hp,b,i=>by rw[zw (by simp)];rfl
 |x::l,hp,b,i=>by
  simp only[inst];rw[Mu l];by_cases h:b+1<=i/\i<b+1+l.length
  ·rw[zr h,zr (by simp only[zc8];omega)];rw[show i-b=(i-(b+1))+1 by omega];rfl
  ·rw[zw h];unfold upd;by_cases hi:i=b
   ·subst hi;rw[zr rfl,zr (by simp)];simp
   ·rw[zw hi,zw (by simp only[zc8];omega)]
theorem F4:∀(ids:List Nat)(ks:List Blk)(hp:Hp)(i:Nat),i ∉ ids->setAt hp ids ks i=hp i
 |[],ks,hp,i,_=>by cases ks<;>rfl
 |_::_,[],hp,i,_=>rfl
 |id::ids,k::ks,hp,i,h=>by
  simp only[zb9,not_or]at h;simp only[setAt];rw[F4 ids ks _ i h.2];simp[upd,h.1]
theorem Nd:∀(ids:List Nat)(ks:List Blk)(hp:Hp)(j:Nat)(id:Nat),ids.Nodup->ids[j]? =some id->j<ks.length->setAt hp ids ks id=ks[j]?
 |[],_,_,_,_,_,h,_=>by simp at h
 |_::_,[],_,_,_,_,_,h=>by simp at h
 |i::ids,k::ks,hp,j,id,hn,h,hl=>by
  simp only[List.nodup_cons]at hn;simp only[setAt];cases j with
  |zero=>
   simp at h;subst h;rw[F4 ids ks _ i hn.1];simp[upd]
  |succ j=>
   simp only[List.getElem?_cons_succ]at h⊢
   exact Nd ids ks _ j id hn.2 h (by simpa using hl)
theorem FK{l m:THp}{i:Nat}:An (l++m) i=if i∈l.map (·.1)then An l i else An m i:=by
 induction l with
 |nil=>simp
 |cons a l ih=>
  obtain⟨k,x⟩:=a;rw[List.cons_append,Al,ih,Al];by_cases h:i=k
  ·simp[h]
  ·simp only[zb0,zb9,h,false_or,if_false]
theorem GL{α:Type}{hp out:THp}:∀{l:List Nat}{A:Option α}{z:α},Ns hp out l A=some z->A=some z/\∀id∈l,∃b b',An hp id=some b/\An out id=some b'/\Cw b=Cw b'
 |[],A,z,h=>⟨h,fun id hid=>by simp at hid⟩
 |id::l,A,z,h=>by
  simp only[Ns]at h
  split at h
  ·rename_i t1 d1 e1 l1 t2 d2 e2 l2 g1 g2;obtain⟨hc,h⟩:=Bp h;obtain⟨q1,q2⟩:=GL h;refine⟨q1,fun i hi=> ?_⟩
   rcases zb9.1 hi with rfl|hi
   ·exact⟨_,_,g2,g1,by simp only[Cw];rw[of_decide_eq_true hc]⟩
   ·exact q2 i hi
  ·rename_i t1 c1 t2 c2 g1 g2;obtain⟨q1,q2⟩:=GL h;refine⟨q1,fun i hi=> ?_⟩
   rcases zb9.1 hi with rfl|hi
   ·exact⟨_,_,g2,g1,rfl⟩
   ·exact q2 i hi
  ·cases h
theorem G6:∀(l:List Nat)(hp:THp)(i:Nat),An (BN hp l) i=if i∈l then none else An hp i
 |[],hp,i=>by simp[BN]
 |id::l,hp,i=>by
  rw[BN,G6 l,Al];by_cases h1:i∈l
  ·simp[h1]
  ·by_cases h2:i=id
   ·subst h2;simp
   ·simp[h1,h2]
theorem RA(o:List Nat)(e n b:Nat):Hd o e n b=AY o e n b:=by
 funext j
 unfold Hd AY;by_cases h:j<e
 ·have:Nat.blt j e=true:=Nat.ble_eq_true_of_le h;rw[this,zr h];rfl
 ·have:Nat.blt j e=false:=by cases hb:Nat.blt j e with|false=>rfl|true=>exact absurd (F6 hb) h
  rw[this,zw h];by_cases h2:j<n
  ·have:Nat.blt j n=true:=Nat.ble_eq_true_of_le h2;rw[this,zr h2];rfl
  ·have:Nat.blt j n=false:=by cases hb:Nat.blt j n with|false=>rfl|true=>exact absurd (F6 hb) h2
   rw[this,zw h2];rfl
theorem D9{f:Nat->Option Nat}:∀{L:THp}{i:Nat}{bb:TB},An (BQ f L) i=some bb->∃j b0,(j,some b0)∈L/\f j=some i/\bb=JS f b0
 |[],_,_,h=>by cases h
 |(k,x)::L,i,bb,h=>by
  simp only[BQ]at h
  split at h
  ·rename_i i' hk;rw[Al]at h
   split at h
   ·rename_i he;subst he;cases x with
    |none=>cases h
    |some b0=>cases h;exact⟨k,b0,by simp,hk,rfl⟩
   ·obtain⟨j,b0,h1,h2,h3⟩:=D9 h;exact⟨j,b0,by simp[h1],h2,h3⟩
  ·obtain⟨j,b0,h1,h2,h3⟩:=D9 h;exact⟨j,b0,by simp[h1],h2,h3⟩
theorem Kn{f:Nat->Option Nat}:∀{L:THp}{j i:Nat}{x:Option TB},(j,x)∈L->f j=some i->i∈(BQ f L).map (·.1)
 |(k,x')::L,j,i,x,h,hf=>by
  simp only[BQ];rcases zb9.1 h with h|h
  ·cases h
   rw[hf];simp
  ·have:=Kn h hf
   split
   ·simp only[zb0,zb9];exact .inr this
   ·exact this
section
variable {hp1:Hp} {o:List Nat} {e b:Nat} {blks:List Blk}
theorem Ql{i j:Nat}{k:Blk}(hn:o.Nodup)(hlow:∀id∈o,id<b)(heo:e<=o.length)(hen:e<=blks.length)(hj:blks[j]? =some k)(hf:AY o e blks.length b j=some i):
  A5 hp1 o e b blks i=some (Cx (AY o e blks.length b) k):=by
 have hjl:=(za0.1 hj).1;unfold A5;rw[Mu];unfold AY at hf;by_cases h:j<e
 ·rw[zr h]at hf;have hlt:=hlow i (za5 hf);rw[zw (by omega)];rw[Nd _ _ _ j _ (hn.sublist (List.take_sublist _ _)) (by rw[zb3,zr h];exact hf) (by simp;omega)];rw[zb3,zr h,zc5,hj];rfl
 ·rw[zw h,zr hjl]at hf;cases hf
  rw[zr (by simp;omega)];rw[zb8,zc5,show e+(b+(j-e)-b)=j by omega,hj];rfl
theorem L3{i:Nat}(h1:i ∉ o)(h2:¬(b<=i/\i<b+(blks.length-e))):A5 hp1 o e b blks i=hp1 i:=by
 unfold A5;rw[Mu,zw (by simpa using h2),F4 _ _ _ _ (fun h=>h1 (List.mem_of_mem_take h)),D5 _ _ _ h1]
end
section
variable {α:Type} {P:Program} {R:Rel} {cf:Cfg} {X:TX} {b:Nat} {tm:TTm} {m:Tm} {hp:THp} {hv:Hp} {K:SV->THp->Cls->Option α} {z:α}
theorem Lz{E:Ent}{y:Bb E.a.res}{o:List Nat}{r:V}{blks':List Blk}(hres:ResRel E.a.res y r blks')(hn:o.Nodup)(hlow:∀id∈o,id<b)(heo:E.a.e<=o.length)(hen:E.a.e<=(AG 0 E.a.res y).2.length)
  (hlens:∀id∈o.take E.a.e,∃b0 b1,An hp id=some b0/\An (BQ (Hd o E.a.e (AG 0 E.a.res y).2.length b) (AG 0 E.a.res y).2) id=some b1/\Cw b0=Cw b1)
  {hp1:THp} {hv1:Hp} (hh1:RH hp1 hv1) (hold:∀id∈o,An hp1 id=An hp id) (hids:∀i bb,An hp1 i=some bb->∀q∈EN bb,q<b) (hr:RT hp1 tm m) (htm:∀t,∀i∈C4 (AW tm t),i<b):
  RV2 (BQ (Hd o E.a.e (AG 0 E.a.res y).2.length b) (AG 0 E.a.res y).2++BN hp1 (o.drop E.a.e)) (SI ((AG 0 E.a.res y).1.map fun p=>AP (Hd o E.a.e (AG 0 E.a.res y).2.length b) p.2)) (CQ (AY o E.a.e blks'.length b) r)/\
  RH (BQ (Hd o E.a.e (AG 0 E.a.res y).2.length b) (AG 0 E.a.res y).2++BN hp1 (o.drop E.a.e)) (A5 hv1 o E.a.e b blks')/\
  RT (BQ (Hd o E.a.e (AG 0 E.a.res y).2.length b) (AG 0 E.a.res y).2++BN hp1 (o.drop E.a.e)) tm m:=by
 have hlen:=hres.len;have hsure:=Gq E.a.res 0 y;have hval:=hres.val;have hblk:=hres.blk;have hget:=fun i (h:i<(AG 0 E.a.res y).2.length)=>PU h
 have hnone:=fun i bb (h:An (AG 0 E.a.res y).2 i=some bb)=>SM h
 have hmem:∀j x,(j,x)∈(AG 0 E.a.res y).2->j<(AG 0 E.a.res y).2.length/\∃b0,x=some b0/\An (AG 0 E.a.res y).2 j=some b0:=by
  intro j x h;obtain⟨i,hi⟩:=zd1 h;have hl:=(za0.1 hi).1;obtain⟨b0,h1,h2,_⟩:=hget i hl;rw[hi]at h1;simp only[zx,Prod.mk.injEq]at h1;obtain⟨rfl,rfl⟩:=h1;exact⟨hl,b0,rfl,h2⟩
 rw[hlen];generalize hvs:(AG 0 E.a.res y).1=vs0 at*
 generalize (AG 0 E.a.res y).2=L at*
 rw[RA]at*
 generalize hn':L.length=n at*
 have hinj:∀i j k,i<n->j<n->AY o E.a.e n b i=some k->AY o E.a.e n b j=some k->i=j:=by
  intro i j k hi hj h1 h2;unfold AY at h1 h2;by_cases a1:i<E.a.e
  ·rw[zr a1]at h1;by_cases a2:j<E.a.e
   ·rw[zr a2]at h2;have g1:=Gn hn h1;have g2:=Gn hn h2;rw[g1]at g2;exact zv g2
   ·rw[zw a2,zr hj]at h2;cases h2
    have:=hlow _ (za5 h1);omega
  ·rw[zw a1,zr hi]at h1;cases h1
   by_cases a2:j<E.a.e
   ·rw[zr a2]at h2;have:=hlow _ (za5 h2);omega
   ·rw[zw a2,zr hj]at h2;have:=zv h2;omega
 have hfn:∀i k,AY o E.a.e n b i=some k->i<n:=by
  intro i k h;unfold AY at h;by_cases a1:i<E.a.e
  ·omega
  ·rw[zw a1]at h
   split at h
   ·assumption
   ·cases h
 have hkey:∀j i,AY o E.a.e n b j=some i->i∈(BQ (AY o E.a.e n b) L).map (·.1):=by
  intro j i h;obtain⟨b0,h1,_⟩:=hget j (by rw[<-hn']at*;exact hfn j i h);exact Kn (za5 h1) h
 have hlow2:∀j i,AY o E.a.e n b j=some i->i<b->j<E.a.e/\i∈o.take E.a.e:=by
  intro j i h hi;unfold AY at h;by_cases a1:j<E.a.e
  ·rw[zr a1]at h;exact⟨a1,za5 (i:=j) (by rw[zb3,zr a1];exact h)⟩
  ·rw[zw a1]at h
   split at h
   ·cases h;omega
   ·cases h
 have hlenT:∀id j,AY o E.a.e n b id=some j->∀b',An (BQ (AY o E.a.e n b) L++BN hp1 (o.drop E.a.e)) j=some b'->∃b0,An L id=some b0/\Cw b0=Cw b':=by
  intro id j hj b' hb';rw[FK,zr (hkey id j hj)]at hb';obtain⟨j',b0,h1,h2,rfl⟩:=D9 hb';obtain⟨q1,b1,q2,q3⟩:=hmem j' _ h1;cases q2
  have:=hinj id j' j (hfn _ _ hj) q1 hj h2;subst this;exact⟨b0,q3,(M4 b0).symm⟩
 have hkn:∀i,i<b->Bk hp1 (BQ (AY o E.a.e n b) L++BN hp1 (o.drop E.a.e)) i:=by
  intro i hi b' hb';rw[FK]at hb'
  split at hb'
  ·rename_i hm;obtain⟨j,b0,h1,h2,rfl⟩:=D9 hb';obtain⟨_,hto⟩:=hlow2 j i h2 hi;obtain⟨c0,c1,q1,q2,q3⟩:=hlens i hto;rw[hb']at q2;cases q2
   exact⟨c0,by rw[hold i (List.mem_of_mem_take hto)];exact q1,q3⟩
  ·rw[G6]at hb'
   split at hb'
   ·cases hb'
   ·exact⟨b',hb',rfl⟩
 refine⟨?_,fun i bb hb=> ?_,hr.keeps fun t i hi=>hkn i (htm t i hi)⟩
 ·
  have e1:(vs0.map fun p=>AP (AY o E.a.e n b) p.2)=(vs0.map (·.2)).map (AP (AY o E.a.e n b)):=by simp
  rw[e1];generalize vs0.map (·.2)=vs at hval hsure⊢
  match vs,hval,hsure with
  |[v],hval,hsure=>
   have hs1:Cd v=true:=by simpa using hsure
   obtain⟨q1,_,_,q4⟩:=Dl hs1 (show RV2 L v r from hval);rw[Re q4];exact(L4 hlenT q1 hs1).to2
  |[],hval,hsure=>
   obtain⟨us,rfl,hc⟩:=(show ∃us,r=.tup us/\RC (RV1 L) [] us from hval);cases us with
   |nil=>exact⟨[],rfl,trivial⟩
   |cons a l=>exact hc.elim
  |v1::v2::vs,hval,hsure=>
   obtain⟨us,rfl,hc⟩:=(show ∃us,r=.tup us/\RC (RV1 L) (v1::v2::vs) us from hval);exact⟨us.map (Bq (AY o E.a.e n b)),rfl,RC.ren hlenT hsure hc⟩
 ·rw[FK]at hb
  split at hb
  ·obtain⟨j,b0,h1,h2,rfl⟩:=D9 hb;obtain⟨q1,b1,q2,q3⟩:=hmem j _ h1;cases q2
   obtain⟨kj,hkj,hrb⟩:=hblk j b0 q3;have hkj:blks'[j]? =some kj:=hkj;refine⟨Cx (AY o E.a.e n b) kj,?_,QZ hlenT hrb⟩
   have:=Ql (hp1:=hv1) (e:=E.a.e) hn hlow heo (by omega) hkj (by rw[hlen];exact h2);rw[hlen]at this;exact this
  ·rename_i hm;rw[G6]at hb
   split at hb
   ·cases hb
   ·rename_i hd;obtain⟨k,hk,hrb⟩:=hh1 i bb hb;refine⟨k,?_,hrb.keeps fun q hq=>hkn q (hids i bb hb q hq)⟩
    rw[L3 ?_ ?_]
    ·exact hk
    ·intro hio;rw[<-List.take_append_drop E.a.e o]at hio;rcases zb1.1 hio with hio|hio
     ·obtain⟨j,hj⟩:=zd1 hio;rw[zb3]at hj
      split at hj
      ·rename_i hje;exact hm (hkey j i (by unfold AY;rw[zr hje];exact hj))
      ·cases hj
     ·exact hd hio
    ·rintro⟨h1,h2⟩;rw[hlen]at h2;exact hm (hkey (E.a.e+(i-b)) i (by unfold AY;rw[zw (by omega),zr (by omega)];congr 1;omega))
theorem H8{H:THp}:∀{vs:List SV}{us:List V},vs.all Cd=true->RC (RV1 H) vs us->us.all niV=vs.all LX
 |[],[],_,_=>rfl
 |v::vs,u::us,hs,h=>by
  simp only[zb5,za1]at hs⊢
  rw[(Lq hs.1 h.1).1,H8 hs.2 h.2]
 |[],_::_,_,h=>h.elim
 |_::_,[],_,h=>h.elim
theorem Se{res:List Item}{y:Bb res}{r:V}{blks':List Blk}(hres:ResRel res y r blks'):L7 ((AG 0 res y).1.map (·.2)) (AG 0 res y).2=(EL r&&blks'.all BU):=by
 have hsure:=Gq res 0 y;have hval:=hres.val;unfold L7
 congr 1
 ·generalize (AG 0 res y).1.map (·.2)=vs at hval hsure
  match vs,hval,hsure with
  |[v],hval,hsure=>
   have hs1:Cd v=true:=by simpa using hsure
   obtain⟨q1,_⟩:=Dl hs1 (show RV2 _ v r from hval);simp only[zb5,List.all_nil,Bool.and_true];exact(Lq hs1 q1).2.symm
  |[],hval,hsure=>
   obtain⟨us,rfl,hc⟩:=(show ∃us,r=.tup us/\RC (RV1 (AG 0 res y).2) [] us from hval);rw[MO,H8 hsure hc]
  |v1::v2::vs,hval,hsure=>
   obtain⟨us,rfl,hc⟩:=(show ∃us,r=.tup us/\RC (RV1 (AG 0 res y).2) (v1::v2::vs) us from hval);rw[MO,H8 hsure hc]
 ·have h3:(AG 0 res y).2.map R4=blks'.map BU:=by
   apply List.ext_getElem?
   intro j;rw[zc5,zc5];by_cases hj:j<(AG 0 res y).2.length
   ·obtain⟨b0,h1,h2,h3⟩:=PU hj;obtain⟨kj,hkj,hrb⟩:=hres.blk j b0 h2;have hkj:blks'[j]? =some kj:=hkj;rw[h1,hkj];simp only[zc1,Qp h3 hrb,R4]
   ·rw[List.getElem?_eq_none (by omega),List.getElem?_eq_none (by have:=hres.len;omega)];rfl
  have h4:∀{γ:Type}(l:List γ)(f:γ->Bool),l.all f=(l.map f).all id:=by
   intro γ l f
   induction l with
   |nil=>rfl
   |cons a l ih=>simp only[zb5,zb0,ih];rfl
  rw[h4 (AG 0 res y).2,h4 blks',h3]
theorem GX{hp:THp}:∀(n:Nat)(l acc o:List Nat),CY hp n l acc=some o->(∀i∈l,i∈o)/\(∀i∈acc,i∈o)/\∀i∈o,i∈acc\/∃b,An hp i=some b/\Jw b=true/\∀j∈rfB b,j∈o
 |0,_,_,_,h=>by simp[CY]at h
 |n+1,[],acc,o,h=>by
  simp only[CY,zx]at h;subst h;exact⟨fun _ h=>by simp at h,fun _ h=>h,fun _ h=>.inl h⟩
 |n+1,id::l,acc,o,h=>by
  simp only[CY]at h;cases hm:QA id acc with
  |true=>
   rw[hm]at h;simp only[cond_true]at h;obtain⟨h1,h2,h3⟩:=GX n l acc o h;refine⟨fun i hi=> ?_,h2,h3⟩
   rcases zb9.1 hi with rfl|hi
   ·exact h2 _ (by rw[Hh]at hm;simpa using hm)
   ·exact h1 i hi
  |false=>
   rw[hm]at h;simp only[cond_false]at h;cases hb:An hp id with
   |none=>rw[hb]at h;cases h
   |some b=>
    rw[hb]at h;simp only at h;obtain⟨hs,h⟩:=Bp h;obtain⟨h1,h2,h3⟩:=GX n _ _ o h;refine⟨fun i hi=> ?_,fun i hi=>h2 i (by simp[hi]),fun i hi=> ?_⟩
    ·rcases zb9.1 hi with rfl|hi
     ·exact h2 _ (by simp)
     ·exact h1 i (by simp[hi])
    ·rcases h3 i hi with h4|h4
     ·rcases zb1.1 h4 with h4|h4
      ·exact .inl h4
      ·simp only[List.mem_singleton]at h4;subst h4;exact .inr ⟨b,hb,hs,fun j hj=>h1 j (by simp[hj])⟩
     ·exact .inr h4
theorem Hk{l o:List Nat}(hh:RH hp hv)(h:CY hp 64 l []=some o):HX hv l o=true:=by
 obtain⟨h1,_,h3⟩:=GX 64 l [] o h;unfold HX;simp only[za1,za3];refine⟨fun i hi=>by simpa using h1 i hi,fun i hi=> ?_⟩
 rcases h3 i hi with h4|⟨b,hb,hs,hr⟩
 ·simp at h4
 ·obtain⟨k,hk,hrb⟩:=hh i b hb;rw[hk];simp only;refine za3.2 fun j hj=> ?_
  rw[PG hs hrb]at hj;simpa using hr j hj
theorem Lc{g:FuncId}{ys ys':List V}{lent:List Nat}{KV:A2}(h1:Cs hv (cf.byref g) ys=some ys')(h2:B4 hv (ys'.flatMap Ab)=some [])(h3:BY (cf.byref g) ys=lent):
  BX R cf g ys hv b KV=Ee R g ys' lent hv b KV:=by
 unfold BX;rw[h1]
 dsimp only
 rw[h2,h3]
theorem Ka{g:FuncId}{ys ys':List V}{lent:List Nat}{KV:A2}{i:Nat}{l:List Nat}(h1:Cs hv (cf.byref g) ys=some ys')(h2:B4 hv (ys'.flatMap Ab)=some (i::l))(h3:BY (cf.byref g) ys=lent):
  BX R cf g ys hv b KV=FG R g ys' lent (ys'.flatMap Ab).eraseDups (i::l) hv b KV:=by
 unfold BX;rw[h1]
 dsimp only
 rw[h2,h3]
theorem Qg{g:FuncId}{args:List SV}{ys:List V}(hE:∀g E,Lu X.ents g=some E->Cg R E/\E.a.g=g/\cf.byref g=(Ct E.a.params).map Jl)(hh:RH hp hv)(hr:RT hp tm m)(hargs:RC (RV2 hp) args ys)(h:Si X g args tm hp b K=some z):
  ∃x hp' cls y hv',K x hp' cls=some z/\RV2 hp' x y/\RH hp' hv'/\RT hp' tm m/\∀KV:A2,KV y hv' cls->BX R cf g ys hv b KV:=by
 unfold Si at h
 split at h
 case h_2=>cases h
 rename_i E hfe;obtain⟨hEnt,hEg,hbr⟩:=hE g E hfe
 split at h
 case h_2=>cases h
 rename_i args' hargs'
 split at h
 case h_2=>cases h
 rename_i o ho
 split at h
 case h_2=>cases h
 rename_i x hx
 split at h
 case isFalse=>cases h
 rename_i hc;simp only[za1]at hc;obtain⟨⟨⟨⟨⟨⟨⟨⟨s1,s2⟩,d1⟩,d2⟩,d3⟩,o16⟩,bel⟩,sl⟩,oall⟩:=hc;obtain⟨y,hFy,h⟩:=AF h;simp only at h
 split at h
 case isFalse=>cases h
 rename_i hle;simp only[za1]at hle;have hen:=zd4 hle.1;have hen16:=zd4 hle.2;obtain⟨h,hlens⟩:=GL h;rw[D8]at h;have o16:=zd4 o16;obtain⟨bel1,bel2⟩:=Im bel;obtain⟨ys',hV,hargs2,hlent⟩:=GS hh hargs' hargs;rw[<-hbr]at hV hlent;generalize EI (Ct E.a.params) args=lent at h oall hlent;have hnl:∀id∈o,id ∉ lent:=fun id hid=>by
  have:=za3.1 oall id hid;simp only[za1]at this;exact H7 this.2
 obtain⟨a1,a2,a3,a4⟩:=RC.all1 s1 hargs2;have hlow:∀id∈o,id<b:=fun id hid=>by
  have:=za3.1 oall id hid;simp only[za1]at this;exact F6 this.1
 have hclose:CE hv 64 (ys'.flatMap Ab) []=some o:=by rw[a2];exact Di hh _ _ _ ho
 have hcloseC:B4 hv (ys'.flatMap Ab)=some o:=by
  unfold B4;rw[hclose];simp only;rw[zr (by rw[a2];exact Hk hh ho)]
 obtain⟨c1,c2,_,_⟩:=CF hv 64 _ _ _ hclose (by simp) (fun id hid=>by simp at hid);have hdir:(ys'.flatMap Ab).eraseDups=o.take E.a.e:=by rw[a2,<-OK];exact(EX d2).symm
 have hdl:(o.take E.a.e).length=E.a.e:=by rw[EX d2];exact za4 d3
 have heo:E.a.e<=o.length:=by rw[List.length_take]at hdl;omega
 obtain⟨r1,r2⟩:=Ia hh o;have hf:Bs o=idx o:=funext fun id=>Gu o id
 have hren:RC (RV1 (Ca hp (Bs o) 0 o)) (args'.map (AP (Bs o))) (ys'.map (Bq (idx o))):=by
  rw[hf]at r2⊢
  exact RC.ren r2 s1 a1
 obtain⟨_,e2,_,_⟩:=RC.all1 s2 (hren.mono fun _ _ _ h=>h.to2);have hed:((ys'.map (Bq (idx o))).flatMap Ab).eraseDups=List.range E.a.e:=by rw[e2,<-OK];exact EX d1
 have hids:DQ (ys'.map (Bq (idx o))) (Aq hv o)=true:=by
  unfold DQ;simp only[za1,decide_eq_true_eq,beq_iff_eq];refine⟨⟨⟨za3.2 fun i hi=> ?_,za3.2 fun i hi=> ?_⟩,by simpa[Aq]using o16⟩,by rw[hed,List.length_range]⟩
  ·obtain⟨u,hu,hi⟩:=za6.1 hi;obtain⟨u0,_,rfl⟩:=zc2.1 hu;obtain⟨j,hj,_⟩:=Gk hi;have:=(za0.1 (O2 hj)).1;simp;omega
  ·obtain⟨k,hk,hi⟩:=za6.1 hi;unfold Aq at hk;obtain⟨id,_,rfl⟩:=zc2.1 hk;obtain⟨j,hj,_⟩:=K9 hi;have:=(za0.1 (O2 hj)).1;simp;omega
 have hRS:RS {tm:=HB 0 (args'.map (AP (Bs o))),hp:=Ca hp (Bs o) 0 o,c:=1} (Nx (ys'.map (Bq (idx o))) (Aq hv o)):=
  ⟨LI 0 (hren.mono fun _ _ _ h=>h.to2),r1,rfl⟩
 have hno:E.a.e=0->o=[]:=by
  intro h0;have h1:(ddN [] (args'.flatMap rf1)).length=0:=by rw[za4 d3,h0]
  have h2:args'.flatMap rf1=[]:=by
   cases hl:args'.flatMap rf1 with
   |nil=>rfl
   |cons i l=>
    rw[hl,OK]at h1;simp[List.eraseDups_cons]at h1
  rw[h2]at ho;simpa[CY]using ho.symm
 obtain⟨r,blks',hR,hres⟩:=hEnt x y _ _ _ hFy hRS hx hids (by rw[List.length_map,hargs2.length];exact(za4 sl).symm) (by rw[hed,List.length_range]) (fun h0=>by rw[hno h0];rfl);rw[hEg]at hR;have hlenB:=hres.len;have hlens':∀id∈o.take E.a.e,∃b0 b1,An hp id=some b0/\An (BQ (Hd o E.a.e (AG 0 E.a.res y).2.length b) (AG 0 E.a.res y).2) id=some b1/\Cw b0=Cw b1:=hlens;obtain⟨f1,f2⟩:=Jd lent hh;have hpl:=Lz (E:=E) hres c1 hlow heo hen hlens' hh (fun _ _=>rfl) (fun i bb hb=>(bel1 i bb hb).2) hr bel2
 have hfz:=Lz (E:=E) hres c1 hlow heo hen hlens' f1 (fun i hi=>IV _ _ _ (hnl i hi)) (fun i bb hb=>(FL lent bel1 i bb hb).2) (hr.keeps fun _ i _=>f2 i) bel2;rw[Se hres]at h;have hcallR:∀F:V->List Blk->Prop,F r blks'->Dt R g (ys'.map (Bq (idx o))) (Aq hv o) F:=fun F hF=>⟨r,blks',hR,hF⟩
 cases o with
 |nil=>
  have he0:E.a.e=0:=by simpa using heo
  have hno:args'.flatMap rf1=[]:=by
   rw[<-a2];cases hL:ys'.flatMap Ab with
   |nil=>rfl
   |cons i l=>
    exfalso
    have:=hdir;rw[hL,List.eraseDups_cons,he0]at this;simp at this
  have hsame:ys'.map (Bq (idx []))=ys':=LK s1 hno a1;rw[hsame]at hcallR hids;rw[he0]at hpl hfz hen16 h;simp only[List.drop_nil]at hpl hfz;cases hc:(lent.isEmpty||(EL r&&blks'.all BU))with
  |true=>
   rw[hc]at h;obtain⟨m1,m2,m3⟩:=hpl;refine⟨_,_,_,_,_,h,m1,m2,m3,fun KV hK=> ?_⟩
   rw[Lc hV hcloseC hlent];refine hcallR _ ⟨by omega,hids,?_⟩
   rw[zr hc];exact hK
  |false=>
   rw[hc]at h;obtain⟨m1,m2,m3⟩:=hfz;refine⟨_,_,_,_,_,h,m1,m2,m3,fun KV hK=> ?_⟩
   rw[Lc hV hcloseC hlent];refine hcallR _ ⟨by omega,hids,?_⟩
   rw[zw (by rw[hc];simp)];exact hK
 |cons i l=>
  have hall:((i::l).all fun id=> !lent.contains id)=true:=za3.2 fun id hid=>by simpa using hnl id hid
  cases hc:(lent.isEmpty||(EL r&&blks'.all BU))with
  |true=>
   rw[hc]at h;obtain⟨m1,m2,m3⟩:=hpl;refine⟨_,_,_,_,_,h,m1,m2,m3,fun KV hK=> ?_⟩
   rw[Ka hV hcloseC hlent,hdir];unfold FG;rw[hdl];refine⟨hall,rfl,hids,hcallR _ ⟨by omega,by omega,?_⟩⟩
   rw[zr hc];exact hK
  |false=>
   rw[hc]at h;obtain⟨m1,m2,m3⟩:=hfz;refine⟨_,_,_,_,_,h,m1,m2,m3,fun KV hK=> ?_⟩
   rw[Ka hV hcloseC hlent,hdir];unfold FG;rw[hdl];refine⟨hall,rfl,hids,hcallR _ ⟨by omega,by omega,?_⟩⟩
   rw[zw (by rw[hc];simp)];exact hK
end
end
end Go.Proofs.YtiijheppiboglaaDoor.Ev
