/- What the theorem of this claim leans on, part 3. -/
import Derived.Test.YtiijheppiboglaaGreatDoorKB
import Derived.Laws.Strings
import Derived.Laws.StructEq
set_option maxHeartbeats 2000000
open Option renaming bind_some → za0,map_eq_some_iff → zb6,map_some → zd7
open List renaming getElem?_eq_getElem → za1,mem_of_getElem? → za3,getElem?_eq_some_iff → za4,all_eq_true → za5,mem_append → zb0,eq_nil_of_length_eq_zero → zb2,mem_flatMap → zb3,length_cons → zb7,flatMap_cons → zb8,map_cons → zb9,mem_cons → zc1,getElem?_take → zc4,length_map → zc5,mem_singleton → zd0,all_cons → zd1,mem_map → zd3,getElem?_map → zd4,getElem?_drop → zd5,length_take → zd9,mem_cons_of_mem → ze4,append_assoc → ze6,cons_append → ze8,length_nil → zf0,append_nil → zf1
open Bool renaming and_eq_true → za2,false_eq_true → zc9,true_and → ze2
open Nat renaming le_refl → za7,eq_of_beq_eq_true → za8,lt_of_lt_of_le → ze1,zero_add → zf3
open Go.IntKind renaming wrap → zi, i64 → zj, u64 → zk
open Option.some renaming inj → zv, injEq → zx
open Sum renaming inl → zy, inr → zb
noncomputable section
set_option linter.unusedVariables false
set_option linter.unusedSimpArgs false
set_option linter.unusedSectionVars false
namespace Go.Proofs.YtiijheppiboglaaGreatDoor.Ev
open Go
inductive Ty where
 |int (k:IntKind)
 |bool
 |str
 |pair (a b:Ty)
 |sl (e:Ty)
 deriving DecidableEq
abbrev Str:=List UInt8
@[reducible] def Ty.den:Ty->Type
 |.int _=>Int
 |.bool=>Bool
 |.str=>Str
 |.pair a b=>a.den×b.den
 |.sl e=>List e.den
def Ty.size:Ty->Nat
 |.pair a b=>a.size+b.size
 |_=>1
inductive SV where
 |int (k:IntKind) (n:Int)
 |bool (b:Bool)
 |str (s:Str)
 |sc (x:Value)
 |er (b:Bool)
 |em
 |im (t:Ty) (l:List t.den)
 |ow (id:Nat)
 |ar (id lo n:Nat)
 |rf (id r c:Nat)
 |ir (t:Ty) (a:t.den) (c:Nat)
 |agg (cs:List SV)
 |tup (vs:List SV)
 |cl (f:FuncId) (caps:List SV)
 |any
 deriving Inhabited
inductive TB where
 |box (ty:TypeId) (cs:List SV)
 |arr (ty:TypeId) (deep:Bool) (t:Ty) (l:List t.den)
 |frz (ty:TypeId) (deep:Bool) (t:Ty) (l:List t.den)
abbrev TTm:=List (Nat×SV)
abbrev THp:=List (Nat×Option TB)
structure TSt where
 tm:TTm
 hp:THp
 c:Nat
def BI:TTm->Nat->SV
 |[],_=>.any
 |(k,x)::l,i=>cond (Nat.beq i k) x (BI l i)
def AG:THp->Nat->Option TB
 |[],_=>none
 |(k,x)::l,i=>cond (Nat.beq i k) x (AG l i)
def getD:List (Nat×TyD)->Nat->Option TyD
 |[],_=>none
 |(k,x)::l,i=>cond (Nat.beq i k) (some x) (getD l i)
def T6:Value->SV
 |.int k n=>.int k n
 |.bool b=>.bool b
 |.string s=>.str s.data.toList
 |.slice none 0 0=>.em
 |x=>if Ju x then .sc x else .any
def ZS:Value->SV
 |.agg cs=>.agg (cs.toList.map T6)
 |x=>T6 x
def X6:V->SV
 |.v (.int k n)=>.int k n
 |.v (.bool b)=>.bool b
 |.v (.string s)=>.str s.data.toList
 |.v x=>.sc x
 |.em=>.em
 |_=>.any
def opT(tm:TTm):Operand->SV
 |.tmp t=>BI tm t
 |.const c=>ZS c
 |.global _=>.any
 |.func f=>.cl f []
def Xz{α:Type}(x:SV)(F:SV->α):α:=
 match x with
 |.int k n=>F (.int k n)
 |.bool b=>F (.bool b)
 |.str s=>F (.str s)
 |.sc x=>F (.sc x)
 |.er b=>F (.er b)
 |.em=>F .em
 |.im t l=>F (.im t l)
 |.ow id=>F (.ow id)
 |.ar id lo n=>F (.ar id lo n)
 |.rf id r c=>F (.rf id r c)
 |.ir t a c=>F (.ir t a c)
 |.agg cs=>F (.agg cs)
 |.tup vs=>F (.tup vs)
 |.cl f caps=>F (.cl f caps)
 |.any=>F .any
def j5:(t:Ty)->t.den->List SV
 |.int k,n=>[.int k n]
 |.bool,b=>[.bool b]
 |.str,s=>[.str s]
 |.pair a b,x=>j5 a x.1++j5 b x.2
 |.sl e,l=>[.im e l]
def Ka{t e:Ty}(h:t=e)(l:List t.den):List e.den:=h▸l
def asL(e:Ty):SV->Option (List e.den)
 |.em=>some []
 |.im t l=>if h:t=e then some (Ka h l)else none
 |_=>none
def Vt:(t:Ty)->List SV->Option (t.den×List SV)
 |.int k,.int k' n::r=>if k'=k then some (n,r)else none
 |.bool,.bool b::r=>some (b,r)
 |.str,.str s::r=>some (s,r)
 |.pair a b,cs=>
  match Vt a cs with
  |some (x,r)=>(match Vt b r with|some (y,r')=>some ((x,y),r')|none=>none)
  |none=>none
 |.sl e,v::r=>(match asL e v with|some l=>some (l,r)|none=>none)
 |_,_=>none
def u9(t:Ty)(cs:List SV):Option t.den:=
 match Vt t cs with
 |some (x,[])=>some x
 |_=>none
def D6:SV->List SV
 |.agg cs=>cs
 |x=>[x]
def okT:SV->Bool
 |.int .. |.bool _|.str _|.sc _|.em|.im .. |.ow _|.ar .. |.rf .. |.ir .. =>true
 |.cl _ []=>true
 |_=>false
def mkT(g:Bool)(cs:List SV):Option SV:=
 if g then some (.agg cs)else match cs with|[x]=>some x|_=>none
def lJ(cs:List SV)(off n:Nat):Option (List SV):=if off+n<=cs.length then some ((cs.drop off).take n)else none
def tq(cs:List SV)(off:Nat)(new:List SV):Option (List SV):=
 if off+new.length<=cs.length then some (cs.take off++new++cs.drop (off+new.length))else none
def AN{β:Type}(l:List β)(n:Nat):Option β:=l[n]?
def AA{α:Type}(l:List α)(n:Int):Option α:=if 0<=n then l[n.toNat]? else none
def neL{α:Type}(l:List α):Option Unit:=match l with|[]=>none|_::_=>some ()
def AW(n:Int)(len:Nat):Option Nat:=if 0<=n/\n.toNat<len then some n.toNat else none
def Fx(lo hi:Int)(len:Nat):Option (Nat×Nat):=if 0<=lo/\lo<=hi/\hi<=len then some (lo.toNat,hi.toNat)else none
def Ds(s t:Str):Option Str:=if s.length+t.length<=9223372036854775807 then some (s++t)else none
def Ru(n:Int)(bytes size:Nat):Option Nat:=if 0<=n/\n.toNat*bytes<=Aa/\n.toNat*size<=Aa then some n.toNat else none
def ft(n bytes size:Nat):Bool:=decide (n*bytes<=Aa)&&decide (n*size<=Aa)
def Wd(k:IntKind)(a b:Int):Int:=k.wrap (a*2^(min b.toNat k.bits))
def oM(k:IntKind)(a b:Int):Int:=a.fdiv (2^(min b.toNat k.bits))
def uE(k:IntKind)(a b:Int):Int:=k.wrap ((BitVec.ofInt k.bits a&&& BitVec.ofInt k.bits b).toNat:Int)
def orI(k:IntKind)(a b:Int):Int:=k.wrap ((BitVec.ofInt k.bits a|||BitVec.ofInt k.bits b).toNat:Int)
def At4(k:IntKind)(a b:Int):Int:=k.wrap ((BitVec.ofInt k.bits a^^^BitVec.ofInt k.bits b).toNat:Int)
def GH(s:Str):List Int:=s.map fun c=>(c.toNat:Int)
def BK(l:List Int):Str:=l.map fun n=>UInt8.ofNat n.toNat
section
variable {α:Type}
def HJ(op:BinOp)(k k':IntKind)(a b:Int)(K:SV->Option α):Option α:=
 match op with
 |.shl=>cond (decide (b<0)) none (K (.int k (Wd k a b)))
 |.shr=>cond (decide (b<0)) none (K (.int k (oM k a b)))
 |_=>
  if k=k' then
   match op with
   |.add=>K (.int k (k.wrap (a+b)))
   |.sub=>K (.int k (k.wrap (a-b)))
   |.mul=>K (.int k (k.wrap (a*b)))
   |.quo=>cond (b==0) none (K (.int k (k.wrap (a.tdiv b))))
   |.rem=>cond (b==0) none (K (.int k (a.tmod b)))
   |.and=>K (.int k (uE k a b))
   |.or=>K (.int k (orI k a b))
   |.xor=>K (.int k (At4 k a b))
   |.eql=>K (.bool (a==b))
   |.neq=>K (.bool (a != b))
   |.lss=>K (.bool (decide (a<b)))
   |.leq=>K (.bool (decide (a<=b)))
   |.gtr=>K (.bool (decide (a>b)))
   |.geq=>K (.bool (decide (a>=b)))
   |_=>none
  else none
def xH(op:BinOp)(s t:Str)(K:SV->Option α):Option α:=
 match op with
 |.add=>(Ds s t).bind fun u=>K (.str u)
 |.eql=>K (.bool (s==t))
 |.neq=>K (.bool (!(s==t)))
 |.lss=>K (.bool (Op.bytesLess s t))
 |.leq=>K (.bool (Op.bytesLess s t||s==t))
 |.gtr=>K (.bool (!(Op.bytesLess s t||s==t)))
 |.geq=>K (.bool (!(Op.bytesLess s t)))
 |_=>none
def Ir:List SV->List SV->Option Bool
 |[],[]=>some true
 |[.int k a],[.int k' b]=>if k=k' then some (a==b)else none
 |.int k a::x,.int k' b::y=>if k=k' then(match Ir x y with|some r=>some ((a==b)&&r)|none=>none)else none
 |_,_=>none
def tUn(u:UnOp)(x:SV)(K:SV->Option α):Option α:=
 match u,x with
 |.not,.bool b=>K (.bool (!b))
 |.neg,.int k n=>K (.int k (k.wrap (0-n)))
 |_,_=>none
def qW(flds:List Fld)(tm:TTm):List SV->List (Nat×Operand)->(List SV->Option α)->Option α
 |cs,[],K=>K cs
 |cs,(k,x)::rest,K=>
  match flds[k]? with
  |some f=>Xz (opT tm x) fun v=>if(D6 v).length=f.size&&(D6 v).all okT then(match tq cs f.off (D6 v)with|some cs=>qW flds tm cs rest K|none=>none)else none
  |none=>none
def vW:SV->Option Int
 |.int _ n=>some n
 |_=>none
def cE(tm:TTm):Option Operand->Int->Option Int
 |none,d=>some d
 |some x,_=>vW (opT tm x)
def QQ:List SV->Option (IntKind×List Int)
 |[.int k n]=>some (k,[n])
 |.int k n::l=>match QQ l with|some (k',ns)=>if k=k' then some (k,n::ns)else none|none=>none
 |_=>none
def Ao0:List Int->Int
 |[]=>0
 |x::l=>l.foldl (fun a b=>if b<a then b else a) x
def wq:List Int->Int
 |[]=>0
 |x::l=>l.foldl (fun a b=>if b>a then b else a) x
end
def Gx:SV->List Nat
 |.ow id=>[id]
 |_=>[]
def ct:SV->List Nat
 |.agg cs=>cs.flatMap Gx
 |.cl _ cs=>cs.flatMap Gx
 |x=>Gx x
def Ix:SV->List Nat
 |.tup vs=>vs.flatMap ct
 |x=>ct x
def MN:TB->List Nat
 |.box _ cs=>cs.flatMap Gx
 |_=>[]
def pW(b:Nat)(l:List Nat):Bool:=l.all fun i=> !Nat.beq i b
def It(tm:TTm)(hp:THp)(b:Nat):Bool:=
 tm.all (fun x=>pW b (Ix x.2))&&hp.all fun x=>match x.2 with|some k=>pW b (MN k)|none=>true
def EG(hp:THp):List Nat->THp
 |[]=>hp
 |id::l=>EG ((id,none)::hp) l
def sk:TB->TB
 |.arr ty deep t l=>.frz ty deep t l
 |x=>x
def Fz(hp:THp):List Nat->THp
 |[]=>hp
 |id::l=>Fz ((id,(AG hp id).map sk)::hp) l
def kS(b:Nat)(hp:THp):THp:=hp.filter fun x=>Nat.blt x.1 b
inductive AC where
 |int (k:IntKind)
 |bool
 |str
 |err
 |im (t:Ty)
 |at (j:Nat)
inductive AB where
 |arr (ty:TypeId) (deep:Bool) (t:Ty)
 |box (ty:TypeId) (cs:List AC)
inductive AS where
 |cell (c:AC)
 |agg (cs:List AC)
 |ref (j:Nat) (isbox:Bool)
 |sub (j:Nat)
 |clo (f:FuncId)
 |cap (f:FuncId) (js:List Nat)
inductive Item where
 |blk (b:AB)
 |slot (s:Nat) (a:AS)
@[reducible] def jv(u v:Bool)(A B:Type):Type:=
 match u,v with
 |true,_=>B
 |false,true=>A
 |false,false=>A×B
def mkP:(u v:Bool)->(A B:Type)->A->B->jv u v A B
 |true,_,_,_,_,b=>b
 |false,true,_,_,a,_=>a
 |false,false,_,_,a,b=>(a,b)
def Am8:(u v:Bool)->(A B:Type)->(u=true->A)->jv u v A B->A
 |true,_,_,_,a,_=>a rfl
 |false,true,_,_,_,x=>x
 |false,false,_,_,_,x=>x.1
def Ao8:(u v:Bool)->(A B:Type)->(v=true->B)->jv u v A B->B
 |true,_,_,_,_,x=>x
 |false,true,_,_,b,_=>b rfl
 |false,false,_,_,_,x=>x.2
section
variable {ι:Type} (den:ι->Type) (u:ι->Bool)
@[reducible] def Qf:List ι->Type
 |[]=>Unit
 |x::l=>jv (u x) (l.all u) (den x) (Qf l)
variable (un:∀x,u x=true->den x)
def rj:(l:List ι)->l.all u=true->Qf den u l
 |[],_=>()
 |x::l,h=>mkP (u x) (l.all u) (den x) (Qf den u l) (un x (by simp at h;exact h.1)) (rj l (by simp at h⊢;exact h.2))
def hdL(x:ι)(l:List ι)(d:Qf den u (x::l)):den x:=Am8 (u x) (l.all u) (den x) (Qf den u l) (un x) d
def tlL(x:ι)(l:List ι)(d:Qf den u (x::l)):Qf den u l:=Ao8 (u x) (l.all u) (den x) (Qf den u l) (rj den u un l) d
def pu(x:ι)(l:List ι)(a:den x)(d:Qf den u l):Qf den u (x::l):=mkP (u x) (l.all u) (den x) (Qf den u l) a d
end
@[reducible] def AC.den:AC->Type
 |.int _=>Int
 |.bool=>Bool
 |.str=>Str
 |.err=>Bool
 |.im t=>List t.den
 |.at _=>Unit
def AC.isU:AC->Bool
 |.at _=>true
 |_=>false
def mh:(c:AC)->c.isU=true->c.den
 |.at _,_=>()
 |.int _,h=>by cases h
 |.bool,h=>by cases h
 |.str,h=>by cases h
 |.err,h=>by cases h
 |.im _,h=>by cases h
@[reducible] def Vu(cs:List AC):Type:=Qf AC.den AC.isU cs
def hdC(c:AC)(cs:List AC)(d:Vu (c::cs)):c.den:=hdL AC.den AC.isU mh c cs d
def tlC(c:AC)(cs:List AC)(d:Vu (c::cs)):Vu cs:=tlL AC.den AC.isU mh c cs d
def uU(c:AC)(cs:List AC)(a:c.den)(d:Vu cs):Vu (c::cs):=pu AC.den AC.isU c cs a d
@[reducible] def AB.den:AB->Type
 |.arr _ _ t=>List t.den
 |.box _ cs=>Vu cs
@[reducible] def AS.den:AS->Type
 |.cell c=>c.den
 |.agg cs=>Vu cs
 |.ref _ _=>Unit
 |.sub _=>Nat×Nat
 |.clo _=>Unit
 |.cap _ _=>Unit
@[reducible] def Item.den:Item->Type
 |.blk b=>b.den
 |.slot _ a=>a.den
def AB.isU:AB->Bool
 |.arr _ _ _=>false
 |.box _ cs=>cs.all AC.isU
def AS.isU:AS->Bool
 |.cell c=>c.isU
 |.agg cs=>cs.all AC.isU
 |.ref _ _=>true
 |.sub _=>false
 |.clo _=>true
 |.cap _ _=>true
def Item.isU:Item->Bool
 |.blk b=>b.isU
 |.slot _ a=>a.isU
def Aq5:(b:AB)->b.isU=true->b.den
 |.box _ cs,h=>rj AC.den AC.isU mh cs h
 |.arr _ _ _,h=>by cases h
def Aq4:(a:AS)->a.isU=true->a.den
 |.cell c,h=>mh c h
 |.agg cs,h=>rj AC.den AC.isU mh cs h
 |.ref _ _,_=>()
 |.clo _,_=>()
 |.cap _ _,_=>()
 |.sub _,h=>by cases h
def Ad8:(x:Item)->x.isU=true->x.den
 |.blk b,h=>Aq5 b h
 |.slot _ a,h=>Aq4 a h
@[reducible] def CC(l:List Item):Type:=Qf Item.den Item.isU l
def hdI(x:Item)(l:List Item)(d:CC (x::l)):x.den:=hdL Item.den Item.isU Ad8 x l d
def tlI(x:Item)(l:List Item)(d:CC (x::l)):CC l:=tlL Item.den Item.isU Ad8 x l d
def JR(x:Item)(l:List Item)(a:x.den)(d:CC l):CC (x::l):=pu Item.den Item.isU x l a d
def rY:(c:AC)->c.den->SV
 |.int k,n=>.int k n
 |.bool,b=>.bool b
 |.str,s=>.str s
 |.err,b=>.er b
 |.im t,l=>.im t l
 |.at j,_=>.ow j
def Z2:(cs:List AC)->Vu cs->List SV
 |[],_=>[]
 |c::cs,d=>rY c (hdC c cs d)::Z2 cs (tlC c cs d)
def Ag2:(b:AB)->b.den->TB
 |.arr ty deep t,l=>.arr ty deep t l
 |.box ty cs,x=>.box ty (Z2 cs x)
def j4:(a:AS)->a.den->SV
 |.cell c,x=>rY c x
 |.agg cs,x=>.agg (Z2 cs x)
 |.ref j false,_=>.ow j
 |.ref j true,_=>.rf j 0 0
 |.sub j,x=>.ar j x.1 x.2
 |.clo g,_=>.cl g []
 |.cap g js,_=>.cl g (js.map fun j=>.rf j 0 0)
def Bq:Nat->(l:List Item)->CC l->TTm×THp
 |_,[],_=>([],[])
 |k,.blk b::l,d=>((Bq (k+1) l (tlI (.blk b) l d)).1,(k,some (Ag2 b (hdI (.blk b) l d)))::(Bq (k+1) l (tlI (.blk b) l d)).2)
 |k,.slot s a::l,d=>((s,j4 a (hdI (.slot s a) l d))::(Bq k l (tlI (.slot s a) l d)).1,(Bq k l (tlI (.slot s a) l d)).2)
def JS(l:List Item)(d:CC l):TSt:={tm:=(Bq 0 l d).1,hp:=(Bq 0 l d).2,c:=1}
def Gg:List Item->List Nat
 |[]=>[]
 |.blk _::l=>Gg l
 |.slot s _::l=>s::Gg l
def GI:List Item->List AS
 |[]=>[]
 |.blk _::l=>GI l
 |.slot _ a::l=>a::GI l
def C8:List Item->List AB
 |[]=>[]
 |.blk b::l=>b::C8 l
 |.slot _ _::l=>C8 l
inductive TM where
 |keep
 |own (ty:TypeId) (deep:Bool) (t:Ty)
 |im (t:Ty)
 |sub
inductive TMs where
 |one (m:TM)
 |agg (l:List TM)
 |box (l:List TM)
def Ao2(bl:List AB)(j:Nat):TM:=match bl[j]? with|some (.arr ty deep t)=>.own ty deep t|_=>.keep
def tmC(bl:List AB):AC->TM
 |.im t=>.im t
 |.at j=>Ao2 bl j
 |_=>.keep
def tmS(bl:List AB):AS->TMs
 |.cell c=>.one (tmC bl c)
 |.agg cs=>.agg (cs.map (tmC bl))
 |.ref j false=>.one (Ao2 bl j)
 |.ref j true=>match bl[j]? with|some (.box _ cs)=>.box (cs.map (tmC bl))|_=>.one .keep
 |.sub _=>.one .sub
 |.clo _=>.one .keep
 |.cap _ _=>.one .keep
def TM.md:TM->Md
 |.keep=>.keep
 |.own ty deep t=>.own ty t.size deep
 |.im _=>.im
 |.sub=>.keep
def TMs.mds:TMs->Mds
 |.one m=>.one m.md
 |.agg l=>.agg (l.map TM.md)
 |.box l=>.box (l.map TM.md)
def LD(bl:List AB):List Item->List (Nat×TMs)
 |[]=>[]
 |.blk _::l=>LD bl l
 |.slot s a::l=>(s,tmS bl a)::LD bl l
def GF(l:List (Nat×TMs)):List (Nat×Mds):=l.map fun p=>(p.1,p.2.mds)
def CG(l:List Item):List (Nat×Mds):=GF (LD (C8 l) l)
def Io(hp:THp)(e:Ty):SV->Option (List e.den)
 |.ow id=>
  match AG hp id with
  |some (.arr _ _ t l)|some (.frz _ _ t l)=>if h:t=e then some (Ka h l)else none
  |_=>none
 |.ar id lo n=>
  match AG hp id with
  |some (.arr _ _ t l)|some (.frz _ _ t l)=>if h:t=e then some (((Ka h l).take (lo+n)).drop lo)else none
  |_=>none
 |v=>asL e v
def frV:SV->List Nat
 |.ow id=>[id]
 |.ar id _ _=>[id]
 |_=>[]
def tnC(m:TM)(v:SV)(hp:THp)(b:Nat):Option (SV×THp×Nat):=
 match m with
 |.keep=>some (v,hp,0)
 |.own ty deep t=>
  match v with
  |.em=>some (.ow b,(b,some (.arr ty deep t []))::hp,1)
  |.ow id=>
   match AG hp id with
   |some (.arr ty' deep' t' _)=>if t'=t then(if Nat.beq ty' ty&&(deep'==deep)then some (.ow id,hp,0)else none)else none
   |_=>none
  |_=>none
 |.im t=>match Io hp t v with|some l=>some (.im t l,Fz hp (frV v),0)|none=>none
 |.sub=>
  match v with
  |.ow id=>match AG hp id with|some (.arr _ _ _ l)=>some (.ar id 0 l.length,hp,0)|_=>none
  |.ar id lo n=>some (.ar id lo n,hp,0)
  |_=>none
def tnL:List TM->List SV->THp->Nat->Option (List SV×THp×Nat)
 |[],[],hp,_=>some ([],hp,0)
 |m::ms,x::xs,hp,b=>
  match tnC m x hp b with
  |some (y,hp1,n)=>
   match tnL ms xs hp1 (b+n)with
   |some (ys,hp2,k)=>some (y::ys,hp2,n+k)
   |none=>none
  |none=>none
 |_,_,_,_=>none
def tnV(m:TMs)(v:SV)(hp:THp)(b:Nat):Option (SV×THp×Nat):=
 match m with
 |.one m=>tnC m v hp b
 |.agg l=>match v with|.agg cs=>(match tnL l cs hp b with|some (cs',hp',n)=>some (.agg cs',hp',n)|none=>none)|_=>none
 |.box l=>
  match v with
  |.rf id r c=>
   match AG hp id with
   |some (.box ty cs)=>(match tnL l cs hp b with|some (cs',hp',n)=>if cs'.all okT then some (.rf id r c,(id,some (.box ty cs'))::hp',n)else none|none=>none)
   |_=>none
  |_=>none
def tnS:List (Nat×TMs)->TSt->Option TSt
 |[],st=>some st
 |(s,m)::l,st=>
  match tnV m (BI st.tm s) st.hp (16*st.c)with
  |some (x,hp,n)=>if Nat.ble n 16 then tnS l {tm:=(s,x)::st.tm,hp:=hp,c:=st.c+1}else none
  |none=>none
def Vo(tm:TTm)(hp:THp)(b:Nat):Bool:=
 tm.all (fun x=>(Ix x.2).all fun i=>Nat.blt i b)&&hp.all fun x=>match x.2 with|some k=>Nat.blt x.1 b&&(MN k).all fun i=>Nat.blt i b|none=>true
def rf0:SV->List Nat
 |.ow id=>[id]
 |.ar id _ _=>[id]
 |.rf id _ _=>[id]
 |_=>[]
def rf1:SV->List Nat
 |.agg cs=>cs.flatMap rf0
 |.cl _ caps=>caps.flatMap rf0
 |x=>rf0 x
def rfB:TB->List Nat
 |.box _ cs=>cs.flatMap rf0
 |_=>[]
def LW:SV->Bool
 |.agg _|.tup _|.any=>false
 |.cl _ caps=>caps.isEmpty
 |_=>true
def Gi:SV->Bool
 |.agg cs=>cs.all LW
 |.cl _ caps=>caps.all LW
 |x=>LW x
def bD:TB->Bool
 |.box _ cs=>cs.all LW
 |_=>true
def sS(i:Nat):List Nat->Bool
 |[]=>false
 |x::l=>cond (Nat.beq x i) true (sS i l)
def Iq(hp:THp):Nat->List Nat->List Nat->Option (List Nat)
 |0,_,_=>none
 |_+1,[],acc=>some acc
 |k+1,id::l,acc=>
  cond (sS id acc) (Iq hp k l acc)
   (match AG hp id with
   |none=>none
   |some b=>cond (bD b) (Iq hp k (l++rfB b) (acc++[id])) none)
def DJ:List Nat->Nat->Option Nat
 |[],_=>none
 |x::l,id=>cond (Nat.beq x id) (some 0) (match DJ l id with|some j=>some (j+1)|none=>none)
def nr:List Nat->List Nat->Bool
 |[],[]=>true
 |x::l,y::m=>Nat.beq x y&&nr l m
 |_,_=>false
def FD(f:Nat->Option Nat):SV->SV
 |.ow id=>match f id with|some j=>.ow j|none=>.any
 |.ar id lo n=>match f id with|some j=>.ar j lo n|none=>.any
 |.rf id r c=>match f id with|some j=>.rf j r c|none=>.any
 |.cl g []=>.cl g []
 |.cl _ _|.agg _|.tup _=>.any
 |x=>x
def BW(f:Nat->Option Nat):SV->SV
 |.agg cs=>.agg (cs.map (FD f))
 |.cl g caps=>.cl g (caps.map (FD f))
 |x=>FD f x
def aY(f:Nat->Option Nat):TB->TB
 |.box ty cs=>.box ty (cs.map (FD f))
 |x=>x
def FC(hp:THp)(f:Nat->Option Nat):Nat->List Nat->THp
 |_,[]=>[]
 |k,id::l=>(k,match AG hp id with|some b=>some (aY f b)|none=>none)::FC hp f (k+1) l
def P9(e:Nat)(keep:List Nat)(st:TSt):Option TSt:=
 if keep.all (fun s=>Gi (BI st.tm s))then
  match Iq st.hp 64 (List.range e++keep.flatMap fun s=>rf1 (BI st.tm s)) []with
  |some o=>
   if Nat.ble o.length 16&&nr (o.take e) (List.range e)then
    some {tm:=keep.map fun s=>(s,BW (DJ o) (BI st.tm s)),hp:=FC st.hp (DJ o) 0 o,c:=1}
   else none
  |none=>none
 else none
def rdC:(c:AC)->SV->Option c.den
 |.int k,.int k' n=>if k'=k then some n else none
 |.bool,.bool b=>some b
 |.str,.str s=>some s
 |.err,.er b=>some b
 |.im t,.im t' l=>if h:t'=t then some (Ka h l)else none
 |.at j,.ow i=>if Nat.beq i j then some ()else none
 |_,_=>none
def wV:(cs:List AC)->List SV->Option (Vu cs)
 |[],[]=>some ()
 |c::cs,v::vs=>(match rdC c v with|some x=>(match wV cs vs with|some y=>some (uU c cs x y)|none=>none)|none=>none)
 |_,_=>none
def rdB:(b:AB)->TB->Option b.den
 |.arr ty deep t,.arr ty' deep' t' l=>if h:t'=t then(if Nat.beq ty' ty&&(deep'==deep)then some (Ka h l)else none)else none
 |.box ty cs,.box ty' vs=>if Nat.beq ty' ty then wV cs vs else none
 |_,_=>none
def ig:List Nat->List SV->Bool
 |[],[]=>true
 |j::js,.rf i 0 0::vs=>cond (Nat.beq i j) (ig js vs) false
 |_,_=>false
def rdS:(a:AS)->SV->Option a.den
 |.cell c,v=>rdC c v
 |.agg cs,.agg vs=>wV cs vs
 |.ref j false,.ow i=>if Nat.beq i j then some ()else none
 |.ref j true,.rf i 0 0=>if Nat.beq i j then some ()else none
 |.sub j,.ar i lo n=>if Nat.beq i j then some (lo,n)else none
 |.clo f,.cl g []=>if Nat.beq g f then some ()else none
 |.cap f js,.cl g vs=>if Nat.beq g f&&ig js vs then some ()else none
 |_,_=>none
def rdI:Nat->(l:List Item)->TTm->THp->Option (CC l)
 |_,[],[],[]=>some ()
 |k,.blk b::l,tm,(i,some tb)::hp=>
  if Nat.beq i k then(match rdB b tb with|some x=>(match rdI (k+1) l tm hp with|some y=>some (JR (.blk b) l x y)|none=>none)|none=>none)else none
 |k,.slot s a::l,(i,v)::tm,hp=>
  if Nat.beq i s then(match rdS a v with|some x=>(match rdI k l tm hp with|some y=>some (JR (.slot s a) l x y)|none=>none)|none=>none)else none
 |_,_,_,_=>none
def GB(e:Nat)(l:List Item)(st:TSt):Option (CC l):=
 if Vo st.tm st.hp (16*st.c)then
  match tnS (LD (C8 l) l) st with
  |some st1=>(match P9 e (Gg l) st1 with|some st2=>rdI 0 l st2.tm st2.hp|none=>none)
  |none=>none
 else none
structure FAnn where
 g:FuncId
 e:Nat:=0
 params:List Item
 res:List Item
 heads:List (Nat×List Item):=[]
 outs:List (Nat×List (Ex×List Item)):=[]
 joins:List (Nat×List Item):=[]
def Qh:List FAnn->FuncId->Option FAnn
 |[],_=>none
 |a::l,g=>cond (Nat.beq a.g g) (some a) (Qh l g)
def Fd{α:Type}:List (Nat×α)->Nat->Option α
 |[],_=>none
 |(k,x)::l,i=>cond (Nat.beq k i) (some x) (Fd l i)
def Vy:Ex->Ex->Bool
 |.normal,.normal=>true
 |.ret,.ret=>true
 |.exit i,.exit j=>Nat.beq i j
 |_,_=>false
def RP:List (Ex×List Item)->Ex->Option (List Item)
 |[],_=>none
 |(e,x)::l,i=>cond (Vy e i) (some x) (RP l i)
def Yk(bl:List AB):Nat->Nat->List AB->List (Nat×TMs)
 |0,_,_=>[]
 |_,_,[]=>[]
 |e+1,k,.box _ cs::l=>(k,.box (cs.map (tmC bl)))::Yk bl e (k+1) l
 |e+1,k,_::l=>Yk bl e (k+1) l
def Ar8:AC->Bool
 |.at _=>true
 |_=>false
def aW:AS->Bool
 |.ref _ false=>true
 |.sub _=>true
 |.agg cs=>cs.any Ar8
 |.clo _=>true
 |.cap _ _=>true
 |_=>false
def Pf(tab:List FAnn)(ext:FuncId->Bool):Cfg where
 live g r:=match (Qh tab g).bind fun a=>Fd a.heads r with|some l=>CG l|none=>[]
 out g r ex:=match ((Qh tab g).bind fun a=>Fd a.outs r).bind fun l=>RP l ex with|some l=>CG l|none=>[]
 join g r:=match (Qh tab g).bind fun a=>Fd a.joins r with|some l=>some (CG l)|none=>none
 res g:=match Qh tab g with|some a=>(CG a.res).map (·.2)|none=>[]
 par g:=match Qh tab g with|some a=>CG a.params|none=>[]
 rts g:=match Qh tab g with|some a=>GF (Yk (C8 a.res) a.e 0 (C8 a.res))|none=>[]
 byref g:=match Qh tab g with|some a=>(GI a.params).map aW|none=>[]
 isExt:=ext
structure Ent where
 a:FAnn
 F:CC a.params->Option (CC a.res)
def ep:List Ent->FuncId->Option Ent
 |[],_=>none
 |x::l,g=>cond (Nat.beq x.a.g g) (some x) (ep l g)
structure TX where
 ty:List (Nat×TyD)
 cod:List (Nat×Ty)
 eqs:List Nat
 bools:List Nat
 ents:List Ent
 ann:FAnn
def Fv:Ty->Bool
 |.sl _=>false
 |.pair a b=>Fv a&&Fv b
 |_=>true
section
variable {α:Type} (X:TX)
def Xv(t:TypeId):Option (TypeId×TyD×Ty):=
 match getD X.ty t with
 |some d=>
  match d.elem with
  |some e=>
   match getD X.ty e,Fd X.cod e with
   |some de,some c=>if Nat.beq de.size c.size&&(de.zero.all Yh==Fv c)then some (e,de,c)else none
   |_,_=>none
  |none=>none
 |none=>none
def pM(t:TypeId):Bool:=match getD X.ty t with|some d=>d.ifc|none=>false
def N9(t:TypeId):Bool:=match getD X.ty t with|some d=>d.str|none=>false
def zX(op:BinOp)(t:TypeId)(x y:SV)(K:SV->Option α):Option α:=
 match x,y with
 |.int k a,.int k' b=>HJ op k k' a b K
 |.str s,.str u=>xH op s u K
 |.bool a,.bool b=>
  if X.bools.contains t then(match op with|.eql=>K (.bool (a==b))|.neq=>K (.bool (!(a==b)))|_=>none)else none
 |.agg cs,.agg ds=>
  if X.eqs.contains t then
   match getD X.ty t,Ir cs ds with
   |some d,some r=>if Nat.beq cs.length d.size then(match op with|.eql=>K (.bool r)|.neq=>K (.bool (!r))|_=>none)else none
   |_,_=>none
  else none
 |_,_=>none
def tMk(g:Bool)(cs:Option (List SV))(K:SV->Option α):Option α:=
 match cs with
 |some cs=>(match mkT g cs with|some x=>Xz x K|none=>none)
 |none=>none
def qX(t:TypeId)(v:SV)(hp:THp)(K:SV->Option α):Option α:=
 match getD X.ty t,v with
 |some d,.ir ty a c=>tMk d.agg (lJ (j5 ty a) c d.size) K
 |some d,.rf id r c=>
  match AG hp id with
  |some (.box _ cs)=>(match r with|0=>tMk d.agg (lJ cs c d.size) K|_=>none)
  |some (.arr _ deep ty l)=>if !deep||Fv ty then(AN l r).bind fun a=>tMk d.agg (lJ (j5 ty a) c d.size) K else none
  |some (.frz _ _ ty l)=>if Fv ty then(AN l r).bind fun a=>tMk d.agg (lJ (j5 ty a) c d.size) K else none
  |none=>none
 |_,_=>none
def Yp(hp:THp):SV->Option (SV×List Nat×Bool)
 |.int k n=>some (.int k n,[],true)
 |.bool b=>some (.bool b,[],true)
 |.str s=>some (.str s,[],true)
 |.sc x=>some (.sc x,[],true)
 |.em=>some (.em,[],false)
 |.im t l=>some (.im t l,[],false)
 |.ow id=>
  match AG hp id with
  |some (.arr _ deep t l)=>some (.im t l,[id],deep)
  |some (.frz _ _ t l)=>some (.im t l,[],false)
  |_=>none
 |.ar id lo n=>
  match AG hp id with
  |some (.arr _ deep t l)=>some (.im t ((l.take (lo+n)).drop lo),[id],deep)
  |some (.frz _ _ t l)=>some (.im t ((l.take (lo+n)).drop lo),[],false)
  |_=>none
 |_=>none
def Mz(hp:THp):List SV->Option (List SV×List Nat×Bool)
 |[]=>some ([],[],true)
 |x::l=>
  match Yp hp x,Mz hp l with
  |some (y,a,d),some (ys,as,ds)=>some (y::ys,a++as,d&&ds)
  |_,_=>none
def xK(t:TypeId)(a x:SV)(hp:THp)(K:SV->THp->Cls->Option α):Option α:=
 match getD X.ty t,a with
 |some d,.rf id r c=>
  if Nat.beq (D6 x).length d.size then
   match AG hp id with
   |some (.box ty cs)=>
    match r with
    |0=>if(D6 x).all okT then(match tq cs c (D6 x)with|some cs=>K .any ((id,some (.box ty cs))::hp) .E|none=>none)else none
    |_=>none
   |some (.arr ty deep e l)=>
    (AN l r).bind fun y=>
    match Mz hp (D6 x)with
    |some (cs,kills,deep')=>
     if EZ (id::kills)then
      match tq (j5 e y) c cs with
      |some cs=>(match u9 e cs with|some z=>K .any ((id,some (.arr ty (deep&&deep') e (l.set r z)))::EG hp kills) .E|none=>none)
      |none=>none
     else none
    |none=>none
   |_=>none
  else none
 |_,_=>none
def N0(hp:THp)(tm:TTm)(e:Ty):Nat->List (Nat×Operand)->Option (List e.den×List Nat×Bool)
 |_,[]=>some ([],[],true)
 |n,(k,x)::l=>
  if Nat.beq k n&&Nat.beq (D6 (opT tm x)).length e.size then
   match Mz hp (D6 (opT tm x)),N0 hp tm e (n+1) l with
   |some (cs,a,d),some (ys,as,ds)=>(match u9 e cs with|some y=>some (y::ys,a++as,d&&ds)|none=>none)
   |_,_=>none
  else none
def ZQ:SV->Bool
 |.int .. |.bool _|.str _|.sc _|.em|.im .. =>true
 |_=>false
def mV(tm:TTm)(Aj:List (Nat×Operand)):Bool:=Aj.all fun p=>(D6 (opT tm p.2)).all ZQ
def lY(t:TypeId)(len:Nat)(Aj:List (Nat×Operand))(tm:TTm)(hp:THp)(b:Nat)(K:SV->THp->Cls->Option α):Option α:=
 match Xv X t with
 |some (e,de,c)=>
  match len,Aj with
  |0,[]=>K .em hp .M
  |0,_::_=>none
  |len+1,Aj=>
   match N0 hp tm c 0 Aj with
   |some (l,kills,deep)=>
    if Nat.beq l.length (len+1)&&Nat.ble ((len+1)*de.size) 16777216&&EZ kills&&It tm hp b then
     K (.ow b) ((b,some (.arr e deep c l))::EG hp kills) (uS kills (mV tm Aj))
    else none
   |none=>none
 |none=>none
def Ak2(c:Ty)(x:SV)(hp:THp):Option (List c.den×List Nat×Bool):=
 match x with
 |.ow id=>
  match AG hp id with
  |some (.arr _ deep t l)=>if h:t=c then(if Fv c then some (Ka h l,[],true)else some (Ka h l,[id],deep))else none
  |some (.frz _ _ t l)=>if h:t=c then some (Ka h l,[],Fv c)else none
  |_=>none
 |.ar id lo n=>
  match AG hp id with
  |some (.arr _ deep t l)=>if h:t=c then(if Fv c then some (((Ka h l).take (lo+n)).drop lo,[],true)else some (((Ka h l).take (lo+n)).drop lo,[id],deep))else none
  |some (.frz _ _ t l)=>if h:t=c then some (((Ka h l).take (lo+n)).drop lo,[],Fv c)else none
  |_=>none
 |v=>match asL c v with|some l=>some (l,[],Fv c)|none=>none
def BV{β:Type}(bytes size:Nat)(l m:List β):Option (List β):=if(l.length+m.length)*bytes<=Aa/\(l.length+m.length)*size<=Aa then some (l++m)else none
def qV(ts:List TypeId)(s x:SV)(tm:TTm)(hp:THp)(b:Nat)(K:SV->THp->Cls->Option α):Option α:=
 match ts with
 |[t,t']=>
  if Nat.beq t' t then
   match Xv X t with
   |some (e,de,c)=>
    match Ak2 c x hp with
    |some (m,kills,deep)=>
     match s with
     |.em=>if EZ kills&&It tm hp b then cond (ft m.length de.bytes de.size) (K (.ow b) ((b,some (.arr e deep c m))::EG hp kills) (match kills with|[]=>.M|_=>.E)) none else none
     |.ow id=>
      match AG hp id with
      |some (.arr ty d0 t0 l)=>
       if h:t0=c then
        if Nat.beq ty e&&EZ (id::kills)&&It tm hp b then
         (BV de.bytes de.size (Ka h l) m).bind fun r=>K (.ow b) ((b,some (.arr e (d0&&deep) c r))::EG hp (id::kills)) .E
        else none
       else none
      |_=>none
     |.ar id 0 n=>
      match AG hp id with
      |some (.arr ty d0 t0 l)=>
       if h:t0=c then
        if Nat.beq ty e&&EZ (id::kills)&&It tm hp b then
         cond (decide (n<=l.length)) ((BV de.bytes de.size ((Ka h l).take n) m).bind fun r=>K (.ow b) ((b,some (.arr e (d0&&deep) c r))::EG hp (id::kills)) .E) none
        else none
       else none
      |_=>none
     |_=>none
    |none=>none
   |none=>none
  else none
 |_=>none
def iK(tm:TTm)(lo hi:Option Operand)(len:Nat)(K:Nat->Nat->Option α):Option α:=
 match lo,hi with
 |none,none=>K 0 len
 |_,_=>
  match cE tm lo 0,cE tm hi (len:Int)with
  |some l,some h=>(Fx l h len).bind fun p=>K p.1 p.2
  |_,_=>none
def Ac5(tm:TTm)(lo hi:Option Operand)(len:Nat)(A:Option α)(K:Nat->Nat->Option α):Option α:=
 match lo,hi with
 |none,none=>A
 |_,_=>iK tm lo hi len K
def xJ(t:TypeId)(x:SV)(lo hi:Option Operand)(tm:TTm)(hp:THp)(K:SV->Option α):Option α:=
 match x with
 |.str s=>if N9 X t then iK tm lo hi s.length fun l h=>K (.str ((s.take h).drop l))else none
 |x=>
  match Xv X t with
  |some (e,de,c)=>
   match x with
   |.em=>iK tm lo hi 0 fun _ _=>K .em
   |.im ty l=>if Nat.beq ty.size de.size then iK tm lo hi l.length fun lo hi=>K (.im ty ((l.take hi).drop lo))else none
   |.ow id=>
    match AG hp id with
    |some (.arr _ _ ty l)|some (.frz _ _ ty l)=>if Nat.beq ty.size de.size then Ac5 tm lo hi l.length (K (.ow id)) fun l h=>K (.ar id l (h-l))else none
    |_=>none
   |.ar id l0 n=>
    match AG hp id with
    |some (.arr _ _ ty l)|some (.frz _ _ ty l)=>if Nat.beq ty.size de.size then iK tm lo hi n fun l h=>K (.ar id (l0+l) (h-l))else none
    |_=>none
   |_=>none
  |none=>none
def Ao9(t:TypeId)(x i:SV)(hp:THp)(K:SV->Cls->Option α):Option α:=
 match Xv X t with
 |some (_,de,_)=>
  match x,i with
  |.im ty l,.int _ n=>if Nat.beq ty.size de.size then(AA l n).bind fun a=>K (.ir ty a 0) .T else none
  |.ow id,.int _ n=>
   match AG hp id with
   |some (.arr _ _ ty l)|some (.frz _ _ ty l)=>if Nat.beq ty.size de.size then(AW n l.length).bind fun k=>K (.rf id k 0) .M else none
   |_=>none
  |.ar id lo len,.int _ n=>
   match AG hp id with
   |some (.arr _ _ ty l)|some (.frz _ _ ty l)=>if Nat.beq ty.size de.size then(AW n len).bind fun k=>K (.rf id (lo+k) 0) .M else none
   |_=>none
  |_,_=>none
 |none=>none
def Ac4(t:TypeId)(same:Bool)(l c:SV)(tm:TTm)(hp:THp)(b:Nat)(K:SV->THp->Cls->Option α):Option α:=
 match Xv X t,l,c with
 |some (e,de,ty),.int _ n,.int _ m=>
  match u9 ty (de.zero.map X6)with
  |some z=>
   if It tm hp b&&de.zero.all FE then
    cond same
     ((Ru m de.bytes de.size).bind fun k=>K (.ow b) ((b,some (.arr e true ty (List.replicate k z)))::hp) .M)
     ((Ru m de.bytes de.size).bind fun _=>cond (decide (0<=n)&&decide (n<=m)) (K (.ow b) ((b,some (.arr e true ty (List.replicate n.toNat z)))::hp) .M) none)
   else none
  |none=>none
 |_,_,_=>none
def kH(t:TypeId):Bool:=match getD X.ty t with|some d=>d.elem.isSome|none=>false
def Us(t:TypeId):Bool:=match getD X.ty t with|some d=>(match d.elem with|some e=>(match getD X.ty e with|some de=>de.int==some .u8|none=>false)|none=>false)|none=>false
def Ac3(s d:TypeId)(x:SV)(hp:THp)(K:SV->Cls->Option α):Option α:=
 match x with
 |.int _ n=>(match getD X.ty s,getD X.ty d with|some _,some dd=>(match dd.int with|some k=>K (.int k (k.wrap n)) .T|none=>none)|_,_=>none)
 |.str v=>
  if N9 X s then
   if Us X d then cond (decide (v.length<=Aa)) (K (.im (.int .u8) (GH v)) .M) none
   else if N9 X d then K (.str v) .T else none
  else none
 |x=>
  if Us X s&&N9 X d then
   match Io hp (.int .u8) x with
   |some l=>K (.str (BK l)) .M
   |none=>none
  else none
def Ap0(t:TypeId)(x:SV)(hp:THp)(K:SV->Option α):Option α:=
 match x with
 |.str s=>if N9 X t&& !kH X t then K (.int .i64 (s.length:Int))else none
 |x=>
  if kH X t then
   match x with
   |.em=>K (.int .i64 0)
   |.im _ l=>K (.int .i64 (l.length:Int))
   |.ow id=>
    match AG hp id with
    |some (.arr _ _ _ l)|some (.frz _ _ _ l)=>K (.int .i64 (l.length:Int))
    |_=>none
   |.ar _ _ n=>K (.int .i64 (n:Int))
   |_=>none
  else none
def YK(mx:Bool)(xs:List SV)(K:SV->Option α):Option α:=
 match QQ xs with
 |some (k,ns)=>K (.int k (if mx then wq ns else Ao0 ns))
 |none=>none
def aB:SV->List Nat
 |.ow id=>[id]
 |.ar id _ _=>[id]
 |_=>[]
def gW:SV->List Nat
 |.agg cs=>cs.flatMap aB
 |.cl _ cs=>cs.flatMap aB
 |x=>aB x
def Fw(hp:THp):AC->SV->Option SV
 |.im t,v=>match Io hp t v with|some l=>some (.im t l)|none=>none
 |.int _,.int k n=>some (.int k n)
 |.bool,.bool b=>some (.bool b)
 |.str,.str s=>some (.str s)
 |_,_=>none
def Uu(hp:THp):List AC->List SV->Option (List SV)
 |[],[]=>some []
 |c::cs,v::vs=>(match Fw hp c v with|some x=>(match Uu hp cs vs with|some y=>some (x::y)|none=>none)|none=>none)
 |_,_=>none
def LF(hp:THp):AS->SV->Option SV
 |.cell c,v=>Fw hp c v
 |.agg cs,.agg vs=>(match Uu hp cs vs with|some l=>some (.agg l)|none=>none)
 |.ref _ true,.rf id r c=>some (.rf id r c)
 |.clo _,.cl g []=>some (.cl g [])
 |_,_=>none
def MO:List AS->List SV->List Nat
 |a::l,v::vs=>(cond (aW a) [] (gW v))++MO l vs
 |_,_=>[]
def VS(hp:THp):List AS->List SV->Option (List SV)
 |[],[]=>some []
 |a::l,v::vs=>(match (cond (aW a) (cond (Gi v) (some v) none) (LF hp a v))with|some x=>(match VS hp l vs with|some y=>some (x::y)|none=>none)|none=>none)
 |_,_=>none
def aI:SV->Bool
 |.int .. |.bool _|.str _|.sc _|.ow _|.ar .. |.rf .. =>true
 |.cl _ []=>true
 |_=>false
def g8:SV->Bool
 |.agg cs=>cs.all aI
 |x=>aI x
def wy:TB->Bool
 |.box _ cs=>cs.all aI
 |.arr _ deep _ _=>deep
 |.frz .. =>false
def ddN:List Nat->List Nat->List Nat
 |acc,[]=>acc
 |acc,id::l=>cond (sS id acc) (ddN acc l) (ddN (acc++[id]) l)
def T0(order:List Nat)(e n b j:Nat):Option Nat:=cond (Nat.blt j e) order[j]? (cond (Nat.blt j n) (some (b+(j-e))) none)
def xO(vs:List SV):SV:=match vs with|[v]=>v|vs=>.tup vs
def kN(hp out:THp):List Nat->Option α->Option α
 |[],A=>A
 |id::l,A=>
  match AG out id,AG hp id with
  |some (.arr _ _ _ l'),some (.arr _ _ _ l0)=>cond (decide (l'.length=l0.length)) (kN hp out l A) none
  |some (.box _ _),some (.box _ _)=>kN hp out l A
  |_,_=>none
def wz:Nat×Option TB->Bool
 |(_,some k)=>wy k
 |(_,none)=>false
def gZ(vs:List SV)(bs:THp):Bool:=vs.all g8&&bs.all wz
def Am1(o:List Nat)(c:Bool)(A B C D:Option α):Option α:=
 match o,c with
 |[],true=>A
 |[],false=>B
 |_::_,true=>C
 |_::_,false=>D
def Ue:Nat->List SV->TTm
 |_,[]=>[]
 |n,x::l=>(n,x)::Ue (n+1) l
def E4(f:Nat->Option Nat):THp->THp
 |[]=>[]
 |(k,b)::l=>match f k with|some i=>(i,match b with|some b=>some (aY f b)|none=>none)::E4 f l|none=>E4 f l
def xI(g:FuncId)(args:List SV)(tm:TTm)(hp:THp)(b:Nat)(K:SV->THp->Cls->Option α):Option α:=
 match ep X.ents g with
 |some E=>
  match VS hp (GI E.a.params) args with
  |some args'=>
   match Iq hp 64 (args'.flatMap rf1) []with
   |some o=>
    match GB E.a.e E.a.params {tm:=Ue 0 (args'.map (BW (DJ o))),hp:=FC hp (DJ o) 0 o,c:=1}with
    |some x=>
     if args'.all Gi&&(args'.map (BW (DJ o))).all Gi&&nr (ddN [] ((args'.map (BW (DJ o))).flatMap rf1)) (List.range E.a.e)&&nr (o.take E.a.e) (ddN [] (args'.flatMap rf1))&&Nat.beq (ddN [] (args'.flatMap rf1)).length E.a.e&&Nat.ble o.length 16&&Vo tm hp b&&Nat.beq (Gg E.a.params).length args'.length&&o.all (fun id=>Nat.blt id b&&pW id (MO (GI E.a.params) args))then
      (E.F x).bind fun y=>
       let r:=Bq 0 E.a.res y
       let f:=T0 o E.a.e r.2.length b
       if Nat.ble E.a.e r.2.length&&Nat.ble r.2.length (E.a.e+16)then
        kN hp (E4 f r.2) (o.take E.a.e) (Xz (xO (r.1.map fun p=>BW f p.2)) fun v=>
         Am1 o ((MO (GI E.a.params) args).isEmpty||gZ (r.1.map (·.2)) r.2)
          (K v (E4 f r.2++hp) .M)
          (K v (E4 f r.2++Fz hp (MO (GI E.a.params) args)) .E)
          (K v (E4 f r.2++EG hp (o.drop E.a.e)) .E)
          (K v (E4 f r.2++EG (Fz hp (MO (GI E.a.params) args)) (o.drop E.a.e)) .E))
       else none
     else none
    |none=>none
   |none=>none
  |none=>none
 |none=>none
def oJ:Operand->Operand->Bool
 |.tmp a,.tmp b=>Nat.beq a b
 |_,_=>false
def erC(b:BinOp)(y:Operand):Option Bool:=
 match b,y with
 |.eql,.const .nilIface=>some true
 |.neq,.const .nilIface=>some false
 |_,_=>none
def B4(op:Op)(b:Nat)(tm:TTm)(hp:THp)(K:SV->THp->Cls->Option α):Option α:=
 match op with
 |.store t a x=>xK X t (opT tm a) (opT tm x) hp K
 |.buildSlice t len Aj=>lY X t len Aj.toList tm hp b K
 |.slice t x lo hi none=>xJ X t (opT tm x) lo hi tm hp fun v=>K v hp .M
 |.move x|.assign x=>Xz (opT tm x) fun v=>K v hp .T
 |.pick c x y=>(match opT tm c with|.bool t=>cond t (Xz (opT tm x) fun v=>K v hp .T) (Xz (opT tm y) fun v=>K v hp .T)|_=>none)
 |.build t Aj=>(match getD X.ty t with|some d=>if d.agg&& !d.flds.isEmpty then qW d.flds tm (d.zero.map X6) Aj.toList fun cs=>K (.agg cs) hp .T else none|none=>none)
 |.nilCheck x=>(match opT tm x with|.rf id r c=>K (.rf id r c) hp .T|.ir t a c=>K (.ir t a c) hp .T|.cl f caps=>K (.cl f caps) hp .T|_=>none)
 |.binOp op t x y _=>
  (match Ai0 op y with
  |true=>(match getD X.ty t,opT tm x with|some d,.im _ l=>(match d.elem with|some _=>(neL l).bind fun _=>K (.bool false) hp .T|none=>none)|_,_=>none)
  |false=>(match erC op y with
   |some s=>(match opT tm x with
    |.er e=>cond (pM X t) (K (.bool (cond s (!e) e)) hp .T) none
    |_=>zX X op t (opT tm x) (opT tm y) fun v=>K v hp .T)
   |none=>zX X op t (opT tm x) (opT tm y) fun v=>K v hp .T))
 |.unOp u _ x=>tUn u (opT tm x) fun v=>K v hp .T
 |.convert s d x=>Ac3 X s d (opT tm x) hp fun v c=>K v hp c
 |.field t x k=>
  match opT tm x,getD X.ty t with
  |.agg cs,some d=>(match d.flds[k]? with|some f=>tMk f.agg (lJ cs f.off f.size) fun v=>K v hp .T|none=>none)
  |_,_=>none
 |.fieldAddr t x k=>
  match getD X.ty t with
  |some d=>
   match d.flds[k]?,opT tm x with
   |some f,.rf id r c=>K (.rf id r (c+f.off)) hp .T
   |some f,.ir t a c=>K (.ir t a (c+f.off)) hp .T
   |_,_=>none
  |none=>none
 |.index t x i=>
  match N9 X t,opT tm x,opT tm i with
  |true,.str s,.int _ n=>(AA s n).bind fun c=>K (.int .u8 (c.toNat:Int)) hp .T
  |_,_,_=>none
 |.indexAddr t x i=>Ao9 X t (opT tm x) (opT tm i) hp fun v c=>K v hp c
 |.slice t x lo (some hi) (some mx)=>
  match Xv X t,opT tm x with
  |some (_,_,_),.im _ l=>
   match cE tm lo 0,cE tm (some hi) 0,cE tm (some mx) 0 with
   |some lo,some hi,some mx=>cond (decide (lo=0/\hi=0/\mx=0)) (K .em hp .T) none
   |_,_,_=>none
  |_,_=>none
 |.extract x k=>(match opT tm x with|.tup vs=>(match vs[k]? with|some v=>Xz v fun v=>K v hp .T|none=>none)|_=>none)
 |.makeFunc (.func f) first caps=>if first.isEmpty&&(caps.toList.map (opT tm)).all okT then K (.cl f (caps.toList.map (opT tm))) hp .T else none
 |.call {callee:=.builtin .append,args,argTypes}=>(match args.toList with|[s,x]=>qV X argTypes.toList (opT tm s) (opT tm x) tm hp b K|_=>none)
 |.call {callee:=.builtin .len,args,argTypes}=>(match args.toList,argTypes.toList with|[x],[t]=>Ap0 X t (opT tm x) hp fun v=>K v hp .T|_,_=>none)
 |.call {callee:=.builtin .min,args, .. }=>YK false (args.toList.map (opT tm)) fun v=>K v hp .T
 |.call {callee:=.builtin .max,args, .. }=>YK true (args.toList.map (opT tm)) fun v=>K v hp .T
 |.call {callee:=.value f,args, .. }=>(match opT tm f with|.cl g caps=>xI X g (args.toList.map (opT tm)++caps) tm hp b K|_=>none)
 |.alloc t=>(match getD X.ty t with|some d=>if It tm hp b then K (.rf b 0 0) ((b,some (.box t (d.zero.map X6)))::hp) .M else none|none=>none)
 |.box t x=>(match getD X.ty t with|some d=>if Nat.beq (D6 (opT tm x)).length d.size&&(D6 (opT tm x)).all okT&&It tm hp b then K (.rf b 0 0) ((b,some (.box t (D6 (opT tm x))))::hp) .M else none|none=>none)
 |.load t a=>qX X t (opT tm a) hp fun v=>K v hp .M
 |.makeSlice t l c=>Ac4 X t (oJ l c) (opT tm l) (opT tm c) tm hp b K
 |_=>none
def yk(draw:Bool)(op:Op)(b:Nat)(tm:TTm)(hp:THp)(K:SV->THp->Cls->Option α):Option α:=
 match draw&&isR op with
 |true=>B4 X op b tm (kS b hp) fun x _ cls=>K x hp cls
 |false=>B4 X op b tm hp K
def gD(draw ok:Bool)(cls:Cls)(A:Option α):Option α:=
 match draw,cls with
 |true,.E=>cond ok A none
 |_,_=>A
def oP(tm:TTm)(op:Op):Bool:=(op.operands.toList.map (opT tm)).all Gi
def vR(tm:TTm)(op:Op):List Nat:=(op.operands.toList.map (opT tm)).flatMap rf1
def UV(op:Op)(tm:TTm)(hp:THp):Option (List Nat):=
 match op with
 |.store _ a x=>if Gi (opT tm a)&&Gi (opT tm x)then some (rf1 (opT tm a)++rf1 (opT tm x))else none
 |.call {callee:=.value f,args, .. }=>
  match opT tm f with
  |.cl g caps=>
   match ep X.ents g with
   |some E=>
    match VS hp (GI E.a.params) (args.toList.map (opT tm)++caps)with
    |some args'=>if args'.all Gi then(match Iq hp 64 (args'.flatMap rf1) []with|some o=>some (o++MO (GI E.a.params) (args.toList.map (opT tm)++caps))|none=>none)else none
    |none=>none
   |none=>none
  |_=>none
 |.buildSlice _ (_+1) Aj=>if Aj.toList.all fun p=>Gi (opT tm p.2)then some (Aj.toList.flatMap fun p=>rf1 (opT tm p.2))else none
 |_=>none
def sb(ops:List Oper)(tm:TTm)(hp:THp)(i:Nat):Bool:=
 match ops[i]? with
 |some a=> !Iy ops a&&(match UV X a.op tm hp with
  |some ids=>(List.range ops.length).all fun j=>j==i||F5 ops i j||(match ops[j]? with
   |some o=>isT o.op||(isR o.op&&decide (j<i)&&wa ops j i o&&(oP tm o.op&&(vR tm o.op).all fun id=> !ids.contains id))
   |none=>true)
  |none=>false)
 |none=>false
def RY(tm:TTm)(dst:Option Tmp)(x:SV):TTm:=
 match dst with
 |some d=>(d,x)::tm
 |none=>tm
def U2(all:List Oper)(draw:Bool):List Oper->Nat->TSt->(TSt->Option α)->Option α
 |[],_,st,K=>K st
 |o::l,i,st,K=>
  match o.guard with
  |none=>
   yk X draw o.op (16*(st.c+i)) st.tm st.hp fun x hp cls=>gD draw (eOK all i||sb X all st.tm st.hp i) cls (U2 all draw l (i+1) {tm:=RY st.tm o.dst x,hp:=hp,c:=st.c} K)
  |some (j,want)=>
   match (all[j]?).bind (·.dst)with
   |some d=>
    match BI st.tm d with
    |.bool t=>
     let go (tm:TTm):Option α:=yk X draw o.op (16*(st.c+i)) tm st.hp fun x hp cls=>gD draw (eOK all i||sb X all tm st.hp i) cls (U2 all draw l (i+1) {tm:=RY tm o.dst x,hp:=hp,c:=st.c} K)
     let no (tm:TTm):Option α:=U2 all draw l (i+1) {tm:=RY tm o.dst (.tup []),hp:=st.hp,c:=st.c} K
     match want with
     |true=>cond t (go ((d,.bool true)::st.tm)) (no ((d,.bool false)::st.tm))
     |false=>cond t (no ((d,.bool true)::st.tm)) (go ((d,.bool false)::st.tm))
    |.tup []=>U2 all draw l (i+1) {tm:=RY st.tm o.dst (.tup []),hp:=st.hp,c:=st.c} K
    |_=>none
   |none=>none
end
@[reducible] def yD:List (Ex×List Item)->Type
 |[]=>Empty
 |[a]=>CC a.2
 |a::b::l=>CC a.2⊕yD (b::l)
def nO(e:Nat):(l:List (Ex×List Item))->Ex->TSt->Option (yD l)
 |[],_,_=>none
 |[a],ex,st=>cond (Vy a.1 ex) (GB e a.2 st) none
 |a::b::l,ex,st=>cond (Vy a.1 ex) ((GB e a.2 st).map .inl) ((nO e (b::l) ex st).map .inr)
def vd{α:Type}(K:Ex->TSt->Option α):(l:List (Ex×List Item))->yD l->Option α
 |[]=>fun d=>nomatch d
 |[a]=>fun d=>K a.1 (JS a.2 d)
 |a::b::l=>fun d=>Sum.elim (fun d=>K a.1 (JS a.2 d)) (vd K (b::l)) d
abbrev uA(α:Type):=Ex->TSt->Option α
def TX.e(X:TX):Nat:=X.ann.e
def wtC (X:TX):Code->{α:Type}->TSt->uA α->Option α
 |.skip,_,st,Q=>Q .normal st
 |.region _ ops draw,_,st,Q=>U2 X (reo draw ops.toList) draw (reo draw ops.toList) 0 st fun s=>Q .normal {s with c:=s.c+ops.size}
 |.seq a b,_,st,Q=>
  match Fd X.ann.joins (rid b)with
  |none=>wtC X a st fun ex s=>match ex with|.normal=>wtC X b s Q|ex=>Q ex s
  |some an=>
   (wtC X a (α:=_⊕CC an) st fun ex s=>match ex with|.normal=>(GB X.e an s).map .inr|ex=>(Q ex s).map .inl).bind fun z=>Sum.elim some (fun d=>wtC X b (JS an d) Q) z
 |.cond c x y,_,st,Q=>
  match opT st.tm c with
  |.bool t=>cond t (wtC X x st Q) (wtC X y st Q)
  |_=>none
 |.block id c,_,st,Q=>wtC X c st fun ex s=>match ex with|.exit j=>cond (Nat.beq j id) (Q .normal s) (Q (.exit j) s)|ex=>Q ex s
 |.loop c,_,st,Q=>
  match Fd X.ann.heads (rid c),Fd X.ann.outs (rid c)with
  |some an,some outs=>
   (GB X.e an st).bind fun d0=>
   (Ad (fun d=>wtC X c (JS an d) fun ex s=>match ex with|.normal=>(GB X.e an s).map .inl|ex=>(nO X.e outs ex s).map .inr) d0).bind fun z=>vd Q outs z
  |_,_=>none
 |.exit id,_,st,Q=>Q (.exit id) st
 |.ret,_,st,Q=>Q .ret st
 |_,_,_,_=>none
def oR{α:Type}(X:TX)(tm:TTm)(hp:THp):List ResultVar->(List SV->Option α)->Option α
 |[],K=>K []
 |.tmp t::l,K=>oR X tm hp l fun xs=>K (BI tm t::xs)
 |.cell a t::l,K=>qX X t (BI tm a) hp fun x=>oR X tm hp l fun xs=>K (x::xs)
def tnR:List TMs->List SV->THp->Nat->Option (List SV×THp)
 |[],[],hp,_=>some ([],hp)
 |m::ms,x::xs,hp,c=>
  match tnV m x hp (16*c)with
  |some (y,hp1,n)=>if Nat.ble n 16 then(match tnR ms xs hp1 (c+1)with|some (ys,hp2)=>some (y::ys,hp2)|none=>none)else none
  |none=>none
 |_,_,_,_=>none
def xe(rts:List (Nat×TMs))(hp:THp):Bool:=rts.all fun p=>Nat.blt p.1 16&&(match AG hp p.1 with|some (.box _ _)=>true|_=>false)
def zc(res:List Item)(e:Nat)(s:TSt)(xs:List SV):Option (CC res):=
 let rts:=Yk (C8 res) e 0 (C8 res)
 if xe rts s.hp&&xs.all Gi&&Vo (Ue 0 xs) s.hp (16*(s.c+1))then
  match tnR (rts.map (·.2)++(LD (C8 res) res).map (·.2)) (rts.map (fun p=>SV.rf p.1 0 0)++xs) s.hp (s.c+1)with
  |some (ys,hp)=>
   let zs:=ys.drop rts.length
   if zs.all Gi then
    match Iq hp 64 (List.range e++zs.flatMap rf1) []with
    |some o=>if nr (o.take e) (List.range e)then rdI 0 res (Ue 0 (zs.map (BW (DJ o)))) (FC hp (DJ o) 0 o)else none
    |none=>none
   else none
  |none=>none
 else none
def wtF (X:TX) (fn:Func) (x:CC X.ann.params):Option (CC X.ann.res):=
 match fn.body with
 |some c=>wtC X c (JS X.ann.params x) fun ex s=>
  match ex with
  |.exit _=>none
  |_=>oR X s.tm s.hp fn.results.toList fun xs=>zc X.ann.res X.e s xs
 |none=>none
def RLx{α:Type}(R:α->List V->Prop)(l:List α)(rows:List (List V)):Prop:=
 rows.length=l.length/\∀(i:Nat)(a:α)(r:List V),l[i]? =some a->rows[i]? =some r->R a r
section
variable {α:Type} {R:α->List V->Prop} {l m:List α} {rows rs:List (List V)}
theorem RLx.nil:RLx R ([]:List α) []:=⟨rfl,fun i a r h=>by simp at h⟩
theorem RLx.of_nil(h:RLx R ([]:List α) rows):rows=[]:=zb2 h.1
theorem RLx.get(h:RLx R l rows){i:Nat}{a:α}(hi:l[i]? =some a):∃r,rows[i]? =some r/\R a r:=by
 have hlt:i<rows.length:=by rw[h.1];exact(za4.1 hi).1
 exact⟨rows[i],za1 hlt,h.2 i a _ hi (za1 hlt)⟩
theorem RLx.get'(h:RLx R l rows){i:Nat}{r:List V}(hi:rows[i]? =some r):∃a,l[i]? =some a/\R a r:=by
 have hlt:i<l.length:=by rw[<-h.1];exact(za4.1 hi).1
 exact⟨l[i],za1 hlt,h.2 i _ r (za1 hlt) hi⟩
theorem RLx.mono{R':α->List V->Prop}(h:RLx R l rows)(hm:∀a r,R a r->R' a r):RLx R' l rows:=⟨h.1,fun i a r h1 h2=>hm a r (h.2 i a r h1 h2)⟩
theorem RLx.set(h:RLx R l rows)(k:Nat){z:α}{r:List V}(hz:R z r):RLx R (l.set k z) (rows.set k r):=by
 refine⟨by simp[h.1],fun i a q h1 h2=> ?_⟩;rw[List.getElem?_set]at h1 h2;by_cases hk:k=i
 ·subst hk;rw[zr rfl]at h1 h2;split at h1
  ·split at h2
   ·cases h1;cases h2;exact hz
   ·cases h2
  ·cases h1
 ·rw[zw hk]at h1 h2;exact h.2 i a q h1 h2
theorem RLx.append(h:RLx R l rows)(k:RLx R m rs):RLx R (l++m) (rows++rs):=by
 refine⟨by simp[h.1,k.1],fun i a q h1 h2=> ?_⟩;rw[List.getElem?_append]at h1 h2;rw[h.1]at h2;split at h1
 ·rename_i hi;rw[zr hi]at h2;exact h.2 i a q h1 h2
 ·rename_i hi;rw[zw hi]at h2;exact k.2 _ a q h1 h2
theorem RLx.take(h:RLx R l rows)(n:Nat):RLx R (l.take n) (rows.take n):=by
 refine⟨by simp[h.1],fun i a q h1 h2=> ?_⟩;rw[zc4]at h1 h2;split at h1
 ·rename_i hi;rw[zr hi]at h2;exact h.2 i a q h1 h2
 ·cases h1
theorem RLx.drop(h:RLx R l rows)(n:Nat):RLx R (l.drop n) (rows.drop n):=by
 refine⟨by simp[h.1],fun i a q h1 h2=> ?_⟩;rw[zd5]at h1 h2;exact h.2 _ a q h1 h2
theorem RLx.replicate{z:α}{r:List V}(h:R z r)(n:Nat):RLx R (List.replicate n z) (List.replicate n r):=by
 refine⟨by simp,fun i a q h1 h2=> ?_⟩;rw[List.getElem?_replicate]at h1 h2;split at h1
 ·rename_i hi;rw[zr hi]at h2;cases h1;cases h2;exact h
 ·cases h1
theorem RLx.cons{a:α}{r:List V}(h:R a r)(k:RLx R l rows):RLx R (a::l) (r::rows):=by
 refine⟨by simp[k.1],fun i a' q h1 h2=> ?_⟩;cases i with
 |zero=>simp at h1 h2;subst h1;subst h2;exact h
 |succ i=>exact k.2 i a' q (by simpa using h1) (by simpa using h2)
end
def RE:(t:Ty)->t.den->List V->Prop
 |.int k,n,row=>row=[.v (.int k n)]
 |.bool,b,row=>row=[.v (.bool b)]
 |.str,s,row=>row=[.v (.string ⟨s.toArray⟩)]
 |.pair a b,x,row=>∃r1 r2,row=r1++r2/\RE a x.1 r1/\RE b x.2 r2
 |.sl e,l,row=>(l=[]/\row=[.em])\/∃rows,row=[.im rows]/\RLx (RE e) l rows
theorem RE.len:∀{t:Ty}{a:t.den}{row:List V},RE t a row->row.length=t.size
 |.int _,_,_,h=>by simp only[RE]at h;subst h;rfl
 |.bool,_,_,h=>by simp only[RE]at h;subst h;rfl
 |.str,_,_,h=>by simp only[RE]at h;subst h;rfl
 |.pair a b,x,_,h=>by
  obtain⟨r1,r2,rfl,h1,h2⟩:=h;simp[Ty.size,h1.len,h2.len]
 |.sl e,_,_,h=>by
  rcases h with⟨_,rfl⟩|⟨rows,rfl,_⟩<;>rfl
def Gt:TB->Option Nat
 |.box _ _=>none
 |.arr _ _ _ l=>some l.length
 |.frz _ _ _ l=>some l.length
def RV0(hp:THp):SV->V->Prop
 |.int k n,y=>y=.v (.int k n)
 |.bool b,y=>y=.v (.bool b)
 |.str s,y=>y=.v (.string ⟨s.toArray⟩)
 |.sc x,y=>y=.v x
 |.er b,y=>y=.er b
 |.em,y=>y=.em
 |.im t l,y=>(l=[]/\y=.em)\/∃rows,y=.im rows/\RLx (RE t) l rows
 |.ow id,y=>∃n,y=.ar id 0 n/\∀b,AG hp id=some b->Gt b=some n
 |.ar id lo n,y=>y=.ar id lo n
 |.rf id r c,y=>y=.rf id r c
 |.ir t a c,y=>∃row,y=.ir row c/\RE t a row
 |.cl f [],y=>y=.cl f []
 |.any,_=>True
 |_,_=>False
def RC(R:SV->V->Prop):List SV->List V->Prop
 |[],[]=>True
 |x::xs,y::ys=>R x y/\RC R xs ys
 |_,_=>False
def RV1(hp:THp):SV->V->Prop
 |.agg cs,y=>∃us,y=.agg us/\RC (RV0 hp) cs us
 |.cl f caps,y=>∃us,y=.cl f us/\RC (RV0 hp) caps us
 |x,y=>RV0 hp x y
def RV2(hp:THp):SV->V->Prop
 |.tup vs,y=>∃us,y=.tup us/\RC (RV1 hp) vs us
 |x,y=>RV1 hp x y
section
variable {R R':SV->V->Prop}
theorem RC.length:∀{xs:List SV}{ys:List V},RC R xs ys->ys.length=xs.length
 |[],[],_=>rfl
 |_::xs,_::ys,h=>by simp[RC.length (xs:=xs) (ys:=ys) h.2]
 |[],_::_,h=>h.elim
 |_::_,[],h=>h.elim
theorem RC.mono:∀{xs:List SV}{ys:List V},RC R xs ys->(∀x∈xs,∀y,R x y->R' x y)->RC R' xs ys
 |[],[],_,_=>trivial
 |x::xs,y::ys,h,hm=>⟨hm x (by simp) y h.1,RC.mono h.2 fun x hx=>hm x (by simp[hx])⟩
 |[],_::_,h,_=>h.elim
 |_::_,[],h,_=>h.elim
theorem RC.append:∀{xs xs':List SV}{ys ys':List V},RC R xs ys->RC R xs' ys'->RC R (xs++xs') (ys++ys')
 |[],_,[],_,_,h=>h
 |_::xs,_,_::ys,_,h,h'=>⟨h.1,RC.append h.2 h'⟩
 |[],_,_::_,_,h,_=>h.elim
 |_::_,_,[],_,h,_=>h.elim
theorem RC.take:∀{xs:List SV}{ys:List V}(n:Nat),RC R xs ys->RC R (xs.take n) (ys.take n)
 |[],[],n,_=>by simp[RC]
 |a::xs,b::ys,0,_=>by simp[RC]
 |a::xs,b::ys,n+1,h=>⟨h.1,RC.take n h.2⟩
 |[],_::_,_,h=>h.elim
 |_::_,[],_,h=>h.elim
theorem RC.drop:∀{xs:List SV}{ys:List V}(n:Nat),RC R xs ys->RC R (xs.drop n) (ys.drop n)
 |[],[],n,_=>by simp[RC]
 |a::xs,b::ys,0,h=>h
 |a::xs,b::ys,n+1,h=>by simpa using RC.drop n h.2
 |[],_::_,_,h=>h.elim
 |_::_,[],_,h=>h.elim
theorem RC.get:∀{xs:List SV}{ys:List V},RC R xs ys->∀{j:Nat}{x:SV},xs[j]? =some x->∃y,ys[j]? =some y/\R x y
 |[],[],_,j,x,h=>by simp at h
 |a::xs,b::ys,h,0,x,hx=>by simp at hx;subst hx;exact⟨b,by simp,h.1⟩
 |a::xs,b::ys,h,j+1,x,hx=>by simpa using RC.get h.2 (by simpa using hx)
 |[],_::_,h,_,_,_=>h.elim
 |_::_,[],h,_,_,_=>h.elim
theorem RC.map{α:Type}{f:α->SV}{g:α->V}:∀{l:List α},(∀x∈l,R (f x) (g x))->RC R (l.map f) (l.map g)
 |[],_=>trivial
 |x::l,h=>⟨h x (by simp),RC.map fun y hy=>h y (by simp[hy])⟩
end
theorem RC.seg{hp:THp}{cs l:List SV}{us:List V}{off n:Nat}(h:lJ cs off n=some l)(hr:RC (RV0 hp) cs us):∃vs,seg us off n=some vs/\RC (RV0 hp) l vs:=by
 unfold lJ at h;split at h
 ·rename_i hn;cases h;refine⟨_,by unfold Ev.seg;rw[zr (by rw[hr.length];exact hn)],(hr.drop off).take n⟩
 ·cases h
theorem RC.put{hp:THp}{cs cs' new:List SV}{us vs:List V}{off:Nat}(h:tq cs off new=some cs')(hr:RC (RV0 hp) cs us)(hn:RC (RV0 hp) new vs):∃us',IA us off vs=some us'/\RC (RV0 hp) cs' us':=by
 unfold tq at h;split at h
 ·rename_i hl;cases h;have h1:=hr.length;have h2:=hn.length;refine⟨_,by unfold IA;rw[zr (by omega)],?_⟩;rw[h2];exact((hr.take off).append hn).append (hr.drop _)
 ·cases h
theorem RV0.to1{hp:THp}:∀{x:SV}{y:V},RV0 hp x y->RV1 hp x y
 |.cl f [],y,h=>⟨[],h,trivial⟩
 |.cl _ (_::_),_,h=>h.elim
 |.agg _,_,h=>h.elim
 |.tup _,_,h=>h
 |.int ..,_,h|.bool _,_,h|.str _,_,h|.sc _,_,h|.er _,_,h|.em,_,h|.im ..,_,h|.ow _,_,h|.ar ..,_,h|.rf ..,_,h|.ir ..,_,h|.any,_,h=>h
theorem RV1.to2{hp:THp}:∀{x:SV}{y:V},RV1 hp x y->RV2 hp x y
 |.tup _,_,h=>False.elim h
 |.cl ..,_,h|.agg _,_,h|.int ..,_,h|.bool _,_,h|.str _,_,h|.sc _,_,h|.er _,_,h|.em,_,h|.im ..,_,h|.ow _,_,h|.ar ..,_,h|.rf ..,_,h|.ir ..,_,h|.any,_,h=>h
def Dk(hp hp':THp)(id:Nat):Prop:=∀b',AG hp' id=some b'->∃b,AG hp id=some b/\Gt b=Gt b'
theorem Dk.refl(hp:THp)(id:Nat):Dk hp hp id:=fun b h=>⟨b,h,rfl⟩
theorem Dk.trans{a b c:THp}{id:Nat}(h:Dk a b id)(k:Dk b c id):Dk a c id:=fun x hx=>by
 obtain⟨y,hy,e⟩:=k x hx;obtain⟨z,hz,e'⟩:=h y hy;exact⟨z,hz,e'.trans e⟩
theorem RV0.keeps{hp hp':THp}:∀{x:SV}{y:V},RV0 hp x y->(∀id∈Gx x,Dk hp hp' id)->RV0 hp' x y
 |.ow id,y,⟨n,hy,h⟩,hk=>⟨n,hy,fun b hb=>by
   obtain⟨b0,h0,e⟩:=hk id (by simp[Gx]) b hb;rw[<-e];exact h b0 h0⟩
 |.cl _ [],_,h,_=>h
 |.cl _ (_::_),_,h,_=>h.elim
 |.int ..,_,h,_|.bool _,_,h,_|.str _,_,h,_|.sc _,_,h,_|.er _,_,h,_|.em,_,h,_|.im ..,_,h,_|.ar ..,_,h,_|.rf ..,_,h,_|.ir ..,_,h,_|.any,_,h,_=>h
 |.agg _,_,h,_=>h.elim
 |.tup _,_,h,_=>h.elim
theorem RV1.keeps{hp hp':THp}{x:SV}{y:V}(h:RV1 hp x y)(hk:∀id∈ct x,Dk hp hp' id):RV1 hp' x y:=by
 have key:∀{cs:List SV}{us:List V},(∀id∈cs.flatMap Gx,Dk hp hp' id)->RC (RV0 hp) cs us->RC (RV0 hp') cs us:=fun hk h=>
  h.mono fun x hx y hxy=>hxy.keeps fun id hid=>hk id (zb3.2 ⟨x,hx,hid⟩)
 cases x with
 |agg cs=>obtain⟨us,rfl,h⟩:=h;exact⟨us,rfl,key hk h⟩
 |cl f cs=>obtain⟨us,rfl,h⟩:=h;exact⟨us,rfl,key hk h⟩
 |int k n=>exact RV0.keeps (x:=.int k n) h hk
 |bool b=>exact RV0.keeps (x:=.bool b) h hk
 |str s=>exact RV0.keeps (x:=.str s) h hk
 |sc v=>exact RV0.keeps (x:=.sc v) h hk
 |em=>exact RV0.keeps (x:=.em) h hk
 |er e=>exact RV0.keeps (x:=.er e) h hk
 |im t l=>exact RV0.keeps (x:=.im t l) h hk
 |ow id=>exact RV0.keeps (x:=.ow id) h hk
 |ar a b c=>exact RV0.keeps (x:=.ar a b c) h hk
 |rf a b c=>exact RV0.keeps (x:=.rf a b c) h hk
 |ir a b c=>exact RV0.keeps (x:=.ir a b c) h hk
 |tup l=>exact h.elim
 |any=>trivial
theorem RV2.keeps{hp hp':THp}{x:SV}{y:V}(h:RV2 hp x y)(hk:∀id∈Ix x,Dk hp hp' id):RV2 hp' x y:=by
 cases x with
 |tup vs=>obtain⟨us,rfl,h⟩:=h;exact⟨us,rfl,h.mono fun x hx y hxy=>hxy.keeps fun id hid=>hk id (zb3.2 ⟨x,hx,hid⟩)⟩
 |agg cs=>exact RV1.keeps (x:=.agg cs) h hk
 |cl f cs=>exact RV1.keeps (x:=.cl f cs) h hk
 |int k n=>exact RV1.keeps (x:=.int k n) h hk
 |bool b=>exact RV1.keeps (x:=.bool b) h hk
 |str s=>exact RV1.keeps (x:=.str s) h hk
 |sc v=>exact RV1.keeps (x:=.sc v) h hk
 |em=>exact RV1.keeps (x:=.em) h hk
 |er e=>exact RV1.keeps (x:=.er e) h hk
 |im t l=>exact RV1.keeps (x:=.im t l) h hk
 |ow id=>exact RV1.keeps (x:=.ow id) h hk
 |ar a b c=>exact RV1.keeps (x:=.ar a b c) h hk
 |rf a b c=>exact RV1.keeps (x:=.rf a b c) h hk
 |ir a b c=>exact RV1.keeps (x:=.ir a b c) h hk
 |any=>trivial
def RB(hp:THp):TB->Blk->Prop
 |.box ty cs,k=>k.kind=.box/\k.ty=ty/\∃row,k.rows=[row]/\k.size=row.length/\RC (RV0 hp) cs row
 |.arr ty deep t l,k=>k.kind=.arr/\k.ty=ty/\k.deep=deep/\k.size=t.size/\RLx (RE t) l k.rows
 |.frz ty deep t l,k=>k.kind=.frz/\k.ty=ty/\k.deep=deep/\k.size=t.size/\RLx (RE t) l k.rows
theorem RB.keeps{hp hp':THp}:∀{b:TB}{k:Blk},RB hp b k->(∀id∈MN b,Dk hp hp' id)->RB hp' b k
 |.box ty cs,k,⟨h1,h2,row,h3,h4,h5⟩,hk=>⟨h1,h2,row,h3,h4,h5.mono fun x hx y hxy=>hxy.keeps fun id hid=>hk id (zb3.2 ⟨x,hx,hid⟩)⟩
 |.arr ..,_,h,_=>h
 |.frz ..,_,h,_=>h
def RH(hp:THp)(h:Hp):Prop:=∀id b,AG hp id=some b->∃k,h id=some k/\RB hp b k
def RT(hp:THp)(tm:TTm)(m:Tm):Prop:=∀t,RV2 hp (BI tm t) (m t)
structure RS (st:TSt) (s:St):Prop where
 tm:RT st.hp st.tm s.tm
 hp:RH st.hp s.hp
 c:s.c=st.c
theorem AH(k:Nat)(x:Option TB)(l:THp)(i:Nat):AG ((k,x)::l) i=if i=k then x else AG l i:=by
 simp only[AG];by_cases h:i=k
 ·subst h;simp
 ·rw[zw h];have:Nat.beq i k=false:=by cases hb:Nat.beq i k with|false=>rfl|true=>exact absurd (za8 hb) h
  rw[this];rfl
theorem Gw(k:Nat)(x:SV)(l:TTm)(i:Nat):BI ((k,x)::l) i=if i=k then x else BI l i:=by
 simp only[BI];by_cases h:i=k
 ·subst h;simp
 ·rw[zw h];have:Nat.beq i k=false:=by cases hb:Nat.beq i k with|false=>rfl|true=>exact absurd (za8 hb) h
  rw[this];rfl
theorem ki{tm:TTm}{t:Nat}:BI tm t=.any\/∃x∈tm,x.2=BI tm t:=by
 induction tm with
 |nil=>exact .inl rfl
 |cons a l ih=>
  obtain⟨k,x⟩:=a;rw[Gw];split
  ·exact .inr ⟨(k,x),by simp,rfl⟩
  ·rcases ih with h|⟨y,hy,h⟩
   ·exact .inl h
   ·exact .inr ⟨y,by simp[hy],h⟩
theorem vv{hp:THp}{id:Nat}{b:TB}(h:AG hp id=some b):∃x∈hp,x.2=some b:=by
 induction hp with
 |nil=>cases h
 |cons a l ih=>
  obtain⟨k,x⟩:=a;rw[AH]at h;split at h
  ·exact⟨(k,x),by simp,h⟩
  ·obtain⟨y,hy,h⟩:=ih h;exact⟨y,by simp[hy],h⟩
theorem V1{b:Nat}{l:List Nat}(h:pW b l=true):b ∉ l:=by
 intro hm;have:=za5.1 h b hm;simp at this
theorem Lp{tm:TTm}{hp:THp}{b:Nat}(h:It tm hp b=true)(t:Nat):b ∉ Ix (BI tm t):=by
 simp only[It,za2]at h;rcases ki (tm:=tm) (t:=t)with h'|⟨x,hx,h'⟩
 ·rw[h'];simp[Ix,ct,Gx]
 ·rw[<-h'];exact V1 (za5.1 h.1 x hx)
theorem Uh{tm:TTm}{hp:THp}{b:Nat}(h:It tm hp b=true){id:Nat}{k:TB}(hk:AG hp id=some k):b ∉ MN k:=by
 simp only[It,za2]at h;obtain⟨x,hx,h'⟩:=vv hk;have:=za5.1 h.2 x hx;rw[h']at this;exact V1 this
theorem RT.keeps{hp hp':THp}{tm:TTm}{m:Tm}(h:RT hp tm m)(hk:∀t,∀id∈Ix (BI tm t),Dk hp hp' id):RT hp' tm m:=fun t=>(h t).keeps (hk t)
theorem Np{hp:THp}{b:Nat}{x:Option TB}{id:Nat}(h:id≠b):Dk hp ((b,x)::hp) id:=fun k hk=>by
 rw[AH,zw h]at hk;exact⟨k,hk,rfl⟩
theorem av{hp:THp}{b:Nat}{x y:TB}(hx:AG hp b=some x)(hl:Gt x=Gt y)(id:Nat):Dk hp ((b,some y)::hp) id:=fun k hk=>by
 rw[AH]at hk;split at hk
 ·rename_i he;subst he;cases hk;exact⟨x,hx,hl⟩
 ·exact⟨k,hk,rfl⟩
theorem nR{hp:THp}{b:Nat}(id:Nat):Dk hp ((b,none)::hp) id:=fun k hk=>by
 rw[AH]at hk;split at hk
 ·cases hk
 ·exact⟨k,hk,rfl⟩
theorem Jb:∀(l:List Nat)(hp:THp)(id:Nat),Dk hp (EG hp l) id
 |[],hp,id=>Dk.refl hp id
 |b::l,hp,id=>(nR id).trans (Jb l _ id)
theorem Ut:∀(l:List Nat)(hp:THp)(id:Nat)(b:TB),AG (EG hp l) id=some b->AG hp id=some b/\id ∉ l
 |[],_,_,_,h=>⟨h,by simp⟩
 |x::l,hp,id,b,h=>by
  obtain⟨h1,h2⟩:=Ut l _ id b h;rw[AH]at h1;split at h1
  ·cases h1
  ·rename_i hne;exact⟨h1,by simp[hne,h2]⟩
theorem RH.kill{hp:THp}{h:Hp}(hr:RH hp h)(l:List Nat):RH (EG hp l) (Ev.kill h l):=fun id b hb=>by
 obtain⟨h1,h2⟩:=Ut l hp id b hb;obtain⟨k,hk,hrb⟩:=hr id b h1;exact⟨k,by rw[LE l h id h2];exact hk,hrb.keeps fun i _=>Jb l hp i⟩
theorem RH.put{hp:THp}{h:Hp}(hr:RH hp h){b:Nat}{x:TB}{k:Blk}(hk:∀id∈MN x,Dk hp ((b,some x)::hp) id)(hold:∀id y,id≠b->AG hp id=some y->∀i∈MN y,Dk hp ((b,some x)::hp) i)(hx:RB hp x k):RH ((b,some x)::hp) (upd h b (some k)):=fun id y hy=>by
 rw[AH]at hy;split at hy
 ·rename_i he;subst he;cases hy;exact⟨k,by simp[upd],hx.keeps hk⟩
 ·rename_i he;obtain⟨k',hk',hr'⟩:=hr id y hy;exact⟨k',by simp[upd,he,hk'],hr'.keeps (hold id y he hy)⟩
theorem RE.cells{hp:THp}:∀{t:Ty}{a:t.den}{row:List V},RE t a row->RC (RV0 hp) (j5 t a) row
 |.int _,_,_,h=>by simp only[RE]at h;subst h;exact⟨rfl,trivial⟩
 |.bool,_,_,h=>by simp only[RE]at h;subst h;exact⟨rfl,trivial⟩
 |.str,_,_,h=>by simp only[RE]at h;subst h;exact⟨rfl,trivial⟩
 |.pair a b,x,_,h=>by
  obtain⟨r1,r2,rfl,h1,h2⟩:=h;exact h1.cells.append h2.cells
 |.sl e,l,_,h=>by
  rcases h with⟨rfl,rfl⟩|⟨rows,rfl,hr⟩
  ·exact⟨.inl ⟨rfl,rfl⟩,trivial⟩
  ·exact⟨.inr ⟨rows,rfl,hr⟩,trivial⟩
theorem HD{t e:Ty}(h:t=e){l:List t.den}{rows:List (List V)}(hr:RLx (RE t) l rows):RLx (RE e) (Ka h l) rows:=by subst h;exact hr
theorem gn{hp:THp}{e:Ty}{x:SV}{l:List e.den}{y:V}(h:asL e x=some l)(hv:RV0 hp x y):(l=[]/\y=.em)\/∃rows,y=.im rows/\RLx (RE e) l rows:=by
 unfold asL at h;split at h
 ·cases h;exact .inl ⟨rfl,hv⟩
 ·split at h
  ·rename_i t l' he;cases h;subst he;rcases hv with⟨rfl,rfl⟩|⟨rows,rfl,hr⟩
   ·exact .inl ⟨rfl,rfl⟩
   ·exact .inr ⟨rows,rfl,hr⟩
  ·cases h
 ·cases h
theorem ZX{hp:THp}:∀{t:Ty}{cs r:List SV}{x:t.den}{us:List V},Vt t cs=some (x,r)->RC (RV0 hp) cs us->∃row us',us=row++us'/\RE t x row/\RC (RV0 hp) r us'
 |.int k,cs,r,x,us,h,hv=>by
  cases cs with
  |nil=>simp[Vt]at h
  |cons c cs=>
   cases c<;>simp only[Vt,reduceCtorEq]at h
   rename_i k' n;split at h
   ·rename_i hk;cases h;subst hk;cases us with
    |nil=>exact hv.elim
    |cons u us=>obtain⟨h1,h2⟩:=hv;exact⟨[u],us,rfl,by simp only[RE];rw[h1],h2⟩
   ·cases h
 |.bool,cs,r,x,us,h,hv=>by
  cases cs with
  |nil=>simp[Vt]at h
  |cons c cs=>
   cases c<;>simp only[Vt,reduceCtorEq]at h
   cases h;cases us with
   |nil=>exact hv.elim
   |cons u us=>obtain⟨h1,h2⟩:=hv;exact⟨[u],us,rfl,by simp only[RE];rw[h1],h2⟩
 |.str,cs,r,x,us,h,hv=>by
  cases cs with
  |nil=>simp[Vt]at h
  |cons c cs=>
   cases c<;>simp only[Vt,reduceCtorEq]at h
   cases h;cases us with
   |nil=>exact hv.elim
   |cons u us=>obtain⟨h1,h2⟩:=hv;exact⟨[u],us,rfl,by simp only[RE];rw[h1],h2⟩
 |.pair a b,cs,r,x,us,h,hv=>by
  simp only[Vt]at h;split at h
  ·rename_i x1 r1 h1;split at h
   ·rename_i y1 r2 h2;cases h;obtain⟨row1,us1,rfl,e1,v1⟩:=ZX h1 hv;obtain⟨row2,us2,rfl,e2,v2⟩:=ZX h2 v1;exact⟨row1++row2,us2,by simp,⟨row1,row2,rfl,e1,e2⟩,v2⟩
   ·cases h
  ·cases h
 |.sl e,cs,r,x,us,h,hv=>by
  cases cs with
  |nil=>simp[Vt]at h
  |cons c cs=>
   simp only[Vt]at h;split at h
   ·rename_i l h1;cases h;cases us with
    |nil=>exact hv.elim
    |cons u us=>
     obtain⟨q1,q2⟩:=hv;refine⟨[u],us,rfl,?_,q2⟩;rcases gn h1 q1 with⟨rfl,rfl⟩|⟨rows,rfl,hr⟩
     ·exact .inl ⟨rfl,rfl⟩
     ·exact .inr ⟨rows,rfl,hr⟩
   ·cases h
theorem ZW{hp:THp}{t:Ty}{cs:List SV}{x:t.den}{us:List V}(h:u9 t cs=some x)(hv:RC (RV0 hp) cs us):RE t x us:=by
 unfold u9 at h;split at h
 ·rename_i y hd;cases h;obtain⟨row,us',rfl,e,v⟩:=ZX hd hv;cases us' with
  |nil=>simpa using e
  |cons a l=>exact v.elim
 ·cases h
theorem jQ{hp:THp}(c:Value):RV0 hp (T6 c) (Ei c):=by
 unfold T6 Ei;split
 ·simp[Ju,RV0]
 ·simp[Ju,RV0]
 ·simp[Ju,RV0]
 ·rfl
 ·split
  ·rename_i h1 h2 h3 h4 h5;split
   ·exact absurd rfl h4
   ·rw[zr h5];rfl
  ·trivial
theorem dU{hp:THp}:∀(l:List Value),RC (RV0 hp) (l.map T6) (l.map Ei)
 |[]=>trivial
 |c::l=>⟨jQ c,dU l⟩
theorem rQ{hp:THp}(c:Value):RV2 hp (ZS c) (KF c):=by
 unfold ZS KF;split
 ·rename_i cs;exact⟨_,rfl,dU cs.toList⟩
 ·rename_i hn;split
  ·rename_i cs;exact absurd rfl (hn cs)
  ·exact(jQ c).to1.to2
theorem Ba{hp:THp}{tm:TTm}{m:Tm}(h:RT hp tm m)(x:Operand):RV2 hp (opT tm x) (AL m x):=by
 cases x with
 |tmp t=>exact h t
 |const c=>exact rQ c
 |global g=>trivial
 |func f=>exact⟨[],rfl,trivial⟩
theorem U3{hp:THp}:∀(l:List V),RC (RV0 hp) (l.map X6) l
 |[]=>trivial
 |x::l=>by
  refine⟨?_,U3 l⟩;unfold X6;split<;>first|rfl|trivial
theorem Lo{α:Type}(x:SV)(F:SV->α):Xz x F=F x:=by cases x<;>rfl
section
variable {hp:THp} {x:SV} {y:V}
theorem LU{k:IntKind}{n:Int}(h:RV2 hp (.int k n) y):y=.v (.int k n):=h
theorem Rf{b:Bool}(h:RV2 hp (.bool b) y):y=.v (.bool b):=h
theorem Wb{s:Str}(h:RV2 hp (.str s) y):y=.v (.string ⟨s.toArray⟩):=h
theorem bh{cs:List SV}(h:RV2 hp (.agg cs) y):∃us,y=.agg us/\RC (RV0 hp) cs us:=h
theorem qM{f:FuncId}{cs:List SV}(h:RV2 hp (.cl f cs) y):∃us,y=.cl f us/\RC (RV0 hp) cs us:=h
theorem Ln(hv:RV2 hp x y)(hok:(D6 x).all okT=true):RC (RV0 hp) (D6 x) (flat y)/\(flat y).all BG=true:=by
 have one:∀{x:SV}{y:V},RV0 hp x y->okT x=true->BG y=true:=by
  intro x y h hk;cases x with
  |int k n=>have:y=_:=h;subst this;rfl
  |bool b=>have:y=_:=h;subst this;rfl
  |str s=>have:y=_:=h;subst this;rfl
  |sc v=>have:y=_:=h;subst this;rfl
  |em=>have:y=_:=h;subst this;rfl
  |er e=>simp[okT]at hk
  |im t l=>rcases h with⟨_,rfl⟩|⟨rows,rfl,_⟩<;>rfl
  |ow id=>obtain⟨n,rfl,_⟩:=h;rfl
  |ar a b c=>have:y=_:=h;subst this;rfl
  |rf a b c=>have:y=_:=h;subst this;rfl
  |ir a b c=>obtain⟨row,rfl,_⟩:=h;rfl
  |agg cs=>simp[okT]at hk
  |tup cs=>simp[okT]at hk
  |cl f cs=>cases cs with
   |nil=>have:y=_:=h;subst this;rfl
   |cons a l=>simp[okT]at hk
  |any=>simp[okT]at hk
 have many:∀{xs:List SV}{ys:List V},RC (RV0 hp) xs ys->xs.all okT=true->ys.all BG=true:=by
  intro xs
  induction xs with
  |nil=>intro ys h _;cases ys with|nil=>rfl|cons a l=>exact h.elim
  |cons a l ih=>
   intro ys h hk;cases ys with
   |nil=>exact h.elim
   |cons b m=>
    simp only[zd1,za2]at hk⊢
    exact⟨one h.1 hk.1,ih h.2 hk.2⟩
 have single:RV0 hp x y->D6 x=[x]->flat y=[y]->RC (RV0 hp) (D6 x) (flat y)/\(flat y).all BG=true:=by
  intro h h1 h2;rw[h1]at hok⊢
  rw[h2];exact⟨⟨h,trivial⟩,many (xs:=[x]) (ys:=[y]) ⟨h,trivial⟩ hok⟩
 cases x with
 |agg cs=>obtain⟨us,rfl,h⟩:=hv;exact⟨h,many h hok⟩
 |int k n=>have:y=_:=hv;subst this;exact single rfl rfl rfl
 |bool b=>have:y=_:=hv;subst this;exact single rfl rfl rfl
 |str s=>have:y=_:=hv;subst this;exact single rfl rfl rfl
 |sc v=>have:y=_:=hv;subst this;exact single rfl rfl rfl
 |em=>have:y=_:=hv;subst this;exact single rfl rfl rfl
 |er e=>simp[D6,okT]at hok
 |im t l=>have hv':RV0 hp (.im t l) y:=hv;rcases hv with⟨_,rfl⟩|⟨rows,rfl,_⟩<;>exact single hv' rfl rfl
 |ow id=>have hv':RV0 hp (.ow id) y:=hv;obtain⟨n,rfl,_⟩:=hv;exact single hv' rfl rfl
 |ar a b c=>have:y=_:=hv;subst this;exact single rfl rfl rfl
 |rf a b c=>have:y=_:=hv;subst this;exact single rfl rfl rfl
 |ir a b c=>have hv':RV0 hp (.ir a b c) y:=hv;obtain⟨row,rfl,_⟩:=hv;exact single hv' rfl rfl
 |tup cs=>simp[D6,okT]at hok
 |cl f cs=>
  cases cs with
  |nil=>
   obtain⟨us,rfl,h⟩:=hv;cases us with
   |nil=>exact single rfl rfl rfl
   |cons a l=>exact h.elim
  |cons a l=>simp[D6,okT]at hok
 |any=>simp[D6,okT]at hok
end
theorem YB{hp:THp}{g:Bool}{cs:List SV}{us:List V}{x:SV}(h:mkT g cs=some x)(hr:RC (RV0 hp) cs us):∃y,mk g us=some y/\RV2 hp x y:=by
 unfold mkT at h;split at h
 ·rename_i hg;cases h;exact⟨.agg us,by simp[mk,hg],us,rfl,hr⟩
 ·rename_i hg;split at h
  ·cases h;cases us with
   |nil=>exact hr.elim
   |cons u us=>
    cases us with
    |nil=>exact⟨u,by simp[mk,hg],hr.1.to1.to2⟩
    |cons a l=>exact hr.2.elim
  ·cases h
theorem UR{α:Type}{g:Bool}{cs:Option (List SV)}{K:SV->Option α}{z:α}(h:tMk g cs K=some z):∃l x,cs=some l/\mkT g l=some x/\K x=some z:=by
 unfold tMk at h;split at h
 ·split at h
  ·rename_i x hx;rw[Lo]at h;exact⟨_,x,rfl,hx,h⟩
  ·cases h
 ·cases h
theorem Br{α β:Type}{x:Option α}{f:α->Option β}{z:β}(h:x.bind f=some z):∃a,x=some a/\f a=some z:=by
 cases x with
 |none=>cases h
 |some a=>exact⟨a,rfl,h⟩
theorem QY{α:Type}{c:Bool}{A:Option α}{z:α}(h:cond c none A=some z):c=false/\A=some z:=by
 cases c with
 |true=>cases h
 |false=>exact⟨rfl,h⟩
theorem DD{α:Type}{c:Bool}{A:Option α}{z:α}(h:cond c A none=some z):c=true/\A=some z:=by
 cases c with
 |false=>cases h
 |true=>exact⟨rfl,h⟩
theorem GU{α:Type}{X:Option V}{k:IntKind}{n:Int}{K:SV->Option α}{z:α}(h:K (.int k n)=some z)(he:X=some (.v (.int k n))):∃v u,X=some (.v u)/\(∀hp,RV2 hp v (.v u))/\K v=some z:=⟨.int k n,.int k n,he,fun _=>rfl,h⟩
theorem I7{α:Type}{X:Option V}{b:Bool}{K:SV->Option α}{z:α}(h:K (.bool b)=some z)(he:X=some (.v (.bool b))):∃v u,X=some (.v u)/\(∀hp,RV2 hp v (.v u))/\K v=some z:=⟨.bool b,.bool b,he,fun _=>rfl,h⟩
theorem va{α:Type}{X:Option V}{s:Str}{K:SV->Option α}{z:α}(h:K (.str s)=some z)(he:X=some (.v (.string ⟨s.toArray⟩))):∃v u,X=some (.v u)/\(∀hp,RV2 hp v (.v u))/\K v=some z:=⟨.str s,.string ⟨s.toArray⟩,he,fun _=>rfl,h⟩
theorem yu{α:Type}{P:Program}{op:BinOp}{t:TypeId}{x y:Operand}{k k':IntKind}{a b:Int}{K:SV->Option α}{z:α}(h:HJ op k k' a b K=some z):
  ∃v u,((Ap P (do eqGuard op t x y (.int k a) (.int k' b);binOp op t (.int k a) (.int k' b))).bind AI)=some (.v u)/\(∀hp,RV2 hp v (.v u))/\K v=some z:=by
 have hk:k=k'->(op≠ .shl/\op≠ .shr)->∃v u,((Ap P (do eqGuard op t x y (.int k a) (.int k b);binOp op t (.int k a) (.int k b))).bind AI)=some (.v u)/\(∀hp,RV2 hp v (.v u))/\K v=some z:=by
  intro he hop;subst he;cases op
  case quo=>
   simp only[HJ,if_true]at h;obtain⟨h1,h2⟩:=QY h;have h0:¬b=0:=by simpa using h1
   refine GU h2 ?_;show((Ap P (if k≠k then _ else if b=0 then _ else _)).bind AI)=_;rw[zw (by simp),zw h0];rfl
  case rem=>
   simp only[HJ,if_true]at h;obtain⟨h1,h2⟩:=QY h;have h0:¬b=0:=by simpa using h1
   refine GU h2 ?_;show((Ap P (if k≠k then _ else if b=0 then _ else _)).bind AI)=_;rw[zw (by simp),zw h0];rfl
  case shl=>exact absurd rfl hop.1
  case shr=>exact absurd rfl hop.2
  case andNot=>simp only[HJ,if_true,reduceCtorEq]at h
  case add=>simp only[HJ,if_true]at h;exact GU h (by show((Ap P (if k≠k then _ else _)).bind AI)=_;rw[zw (by simp)];rfl)
  case sub=>simp only[HJ,if_true]at h;exact GU h (by show((Ap P (if k≠k then _ else _)).bind AI)=_;rw[zw (by simp)];rfl)
  case mul=>simp only[HJ,if_true]at h;exact GU h (by show((Ap P (if k≠k then _ else _)).bind AI)=_;rw[zw (by simp)];rfl)
  case and=>simp only[HJ,if_true]at h;exact GU h (by show((Ap P (if k≠k then _ else _)).bind AI)=_;rw[zw (by simp)];rfl)
  case or=>simp only[HJ,if_true]at h;exact GU h (by show((Ap P (if k≠k then _ else _)).bind AI)=_;rw[zw (by simp)];rfl)
  case xor=>simp only[HJ,if_true]at h;exact GU h (by show((Ap P (if k≠k then _ else _)).bind AI)=_;rw[zw (by simp)];rfl)
  case eql=>simp only[HJ,if_true]at h;exact I7 h (by show((Ap P (if k≠k then _ else _)).bind AI)=_;rw[zw (by simp)];rfl)
  case neq=>simp only[HJ,if_true]at h;exact I7 h (by show((Ap P (if k≠k then _ else _)).bind AI)=_;rw[zw (by simp)];rfl)
  case lss=>simp only[HJ,if_true]at h;exact I7 h (by show((Ap P (if k≠k then _ else _)).bind AI)=_;rw[zw (by simp)];rfl)
  case leq=>simp only[HJ,if_true]at h;exact I7 h (by show((Ap P (if k≠k then _ else _)).bind AI)=_;rw[zw (by simp)];rfl)
  case gtr=>simp only[HJ,if_true]at h;exact I7 h (by show((Ap P (if k≠k then _ else _)).bind AI)=_;rw[zw (by simp)];rfl)
  case geq=>simp only[HJ,if_true]at h;exact I7 h (by show((Ap P (if k≠k then _ else _)).bind AI)=_;rw[zw (by simp)];rfl)
 by_cases h1:op=.shl
 ·subst h1;simp only[HJ]at h;obtain⟨h1,h2⟩:=QY h;have h0:¬b<0:=by simpa using h1
  refine GU h2 ?_;show((Ap P (if b<0 then _ else _)).bind AI)=_;rw[zw h0];rfl
 ·by_cases h2:op=.shr
  ·subst h2;simp only[HJ]at h;obtain⟨h1,h2⟩:=QY h;have h0:¬b<0:=by simpa using h1
   refine GU h2 ?_;show((Ap P (if b<0 then _ else _)).bind AI)=_;rw[zw h0];rfl
  ·by_cases hkk:k=k'
   ·subst hkk;exact hk rfl ⟨h1,h2⟩
   ·exfalso;cases op<;>simp only[HJ,zw hkk,reduceCtorEq]at h
    ·exact h1 rfl
    ·exact h2 rfl
theorem yv{α:Type}{P:Program}{op:BinOp}{t:TypeId}{x y:Operand}{s u:Str}{K:SV->Option α}{z:α}(h:xH op s u K=some z):
  ∃v w,((Ap P (do eqGuard op t x y (.string ⟨s.toArray⟩) (.string ⟨u.toArray⟩);binOp op t (.string ⟨s.toArray⟩) (.string ⟨u.toArray⟩))).bind AI)=some (.v w)/\(∀hp,RV2 hp v (.v w))/\K v=some z:=by
 have e1:(ByteArray.mk s.toArray).toList=s:=ByteArray.toList_mk s;have e2:(ByteArray.mk u.toArray).toList=u:=ByteArray.toList_mk u;cases op<;>simp only[xH,reduceCtorEq]at h
 case add=>
  obtain⟨r,h1,h2⟩:=Br h;unfold Ds at h1;split at h1
  ·rename_i hle;cases h1;refine va h2 ?_;show((Ap P (if(((ByteArray.mk s.toArray).size+(ByteArray.mk u.toArray).size:Nat):Int)>IntKind.i64.max then _ else _)).bind AI)=_;have hs:(ByteArray.mk s.toArray).size=s.length:=by simp[ByteArray.size]
   have hu:(ByteArray.mk u.toArray).size=u.length:=by simp[ByteArray.size]
   have hm:IntKind.i64.max=9223372036854775807:=by decide
   rw[zw (by rw[hs,hu,hm];omega)];have:(ByteArray.mk s.toArray)++(ByteArray.mk u.toArray)=⟨(s++u).toArray⟩:=by
    apply ByteArray.ext;simp
   show some (V.v (.string ((ByteArray.mk s.toArray)++(ByteArray.mk u.toArray))))=_;rw[this]
  ·cases h1
 all_goals
  refine I7 h ?_;show some (V.v (.bool _))=_;simp only[e1,e2]
abbrev EqR:SV->V->Prop:=fun s u=>∃k n,s=.int k n/\u=.v (.int k n)
def Aq7(P:Program)(t:TypeId)(n:Nat):Prop:=∀(x y:Operand)(cs ds:List SV)(us vs:List Value)(r:Bool),us.length=n->RC EqR cs (us.map .v)->
 RC EqR ds (vs.map .v)->Ir cs ds=some r->
 Ap P (do eqGuard .eql t x y (.agg us.toArray) (.agg vs.toArray);binOp .eql t (.agg us.toArray) (.agg vs.toArray))=some (.bool r)/\
 Ap P (do eqGuard .neq t x y (.agg us.toArray) (.agg vs.toArray);binOp .neq t (.agg us.toArray) (.agg vs.toArray))=some (.bool (!r))
def Al2(P:Program)(t:TypeId):Prop:=∀d,AX P t=some d->Aq7 P t d.size
structure XOK (P:Program) (X:TX):Prop where
 ty:∀t d,getD X.ty t=some d->AX P t=some d
 bools:∀t,X.bools.contains t=true->P.underlying t=some .bool
 eqs:∀t,X.eqs.contains t=true->Al2 P t
section
variable {α:Type} {P:Program} {R:Rel} {cf:Cfg} {X:TX} {b:Nat} {tm:TTm} {m:Tm} {hp hpm:THp} {hv hvm:Hp} {K:SV->THp->Cls->Option α} {z:α}
def Dl(P:Program)(R:Rel)(cf:Cfg)(op:Op)(b:Nat)(m:Tm)(hp:THp)(hpm:THp)(hvm:Hp)(K:SV->THp->Cls->Option α)(z:α):Prop:=
 ∃x y cls,K x hpm cls=some z/\RV2 hp x y/\∀KV:CD,KV y hvm cls->BF P R cf op b (AL m) hvm KV
def RHm(hpm hp:THp)(hvm:Hp):Prop:=∀id b,AG hpm id=some b->AG hp id=some b/\∃k,hvm id=some k/\RB hp b k
theorem RH.toM(h:RH hp hv):RHm hp hp hv:=fun id b hb=>⟨hb,h id b hb⟩
theorem Bb{op:Op}{x:SV}{y:V}(h:K x hpm .T=some z)(hr:RV2 hp x y)(hn:AD P op (AL m)=some y)
  (hop:∀KV:CD,BF P R cf op b (AL m) hvm KV=(match AD P op (AL m)with|some x=>KV x hvm .T|none=>BH (Bj P op (AL m) hvm b) fun z=>z.2.length<=16/\KV z.1 (inst hvm b z.2) .M)):Dl P R cf op b m hp hpm hvm K z:=
 ⟨x,y,.T,h,hr,fun KV hk=>by rw[hop,hn];exact hk⟩
theorem OH{op:Op}{x:SV}{y:V}(h:K x hpm .M=some z)(hr:RV2 hp x y)(hn:AD P op (AL m)=none)(hm:Bj P op (AL m) hvm b=some (y,[]))
  (hop:∀KV:CD,BF P R cf op b (AL m) hvm KV=(match AD P op (AL m)with|some x=>KV x hvm .T|none=>BH (Bj P op (AL m) hvm b) fun z=>z.2.length<=16/\KV z.1 (inst hvm b z.2) .M)):Dl P R cf op b m hp hpm hvm K z:=
 ⟨x,y,.M,h,hr,fun KV hk=>by rw[hop,hn];simp only[hm,An,inst];exact⟨by simp,hk⟩⟩
theorem Ah5{x:Operand}(hr:RT hp tm m)(h:B4 X (.move x) b tm hpm K=some z):Dl P R cf (.move x) b m hp hpm hvm K z:=by
 simp only[B4,Lo]at h;exact Bb h (Ba hr x) rfl fun _=>rfl
theorem wc{x:Operand}(hr:RT hp tm m)(h:B4 X (.assign x) b tm hpm K=some z):Dl P R cf (.assign x) b m hp hpm hvm K z:=by
 simp only[B4,Lo]at h;exact Bb h (Ba hr x) rfl fun _=>rfl
theorem Ah6{c x y:Operand}(hr:RT hp tm m)(h:B4 X (.pick c x y) b tm hpm K=some z):Dl P R cf (.pick c x y) b m hp hpm hvm K z:=by
 simp only[B4,Lo]at h;split at h
 ·rename_i t ht;have hc:=Ba hr c;rw[ht]at hc;have hc:=Rf hc;cases t with
  |true=>exact Bb h (Ba hr x) (by simp[AD,hc]) fun _=>rfl
  |false=>exact Bb h (Ba hr y) (by simp[AD,hc]) fun _=>rfl
 ·cases h
theorem An9{x:Operand}(hr:RT hp tm m)(h:B4 X (.nilCheck x) b tm hpm K=some z):Dl P R cf (.nilCheck x) b m hp hpm hvm K z:=by
 simp only[B4]at h;have hc:=Ba hr x;split at h
 ·rename_i id r c hx;rw[hx]at hc;have hc':AL m x=.rf id r c:=hc;exact Bb h (y:=.rf id r c) rfl (by simp[AD,hc']) fun _=>rfl
 ·rename_i t a c hx;rw[hx]at hc;obtain⟨row,he,hre⟩:=hc;exact Bb h (y:=.ir row c) ⟨row,rfl,hre⟩ (by simp[AD,he]) fun _=>rfl
 ·rename_i f caps hx;rw[hx]at hc;obtain⟨us,he,hre⟩:=qM hc;exact Bb h (y:=.cl f us) ⟨us,rfl,hre⟩ (by simp[AD,he]) fun _=>rfl
 ·cases h
theorem As1{u:UnOp}{t:TypeId}{x:Operand}(hr:RT hp tm m)(h:B4 X (.unOp u t x) b tm hpm K=some z):Dl P R cf (.unOp u t x) b m hp hpm hvm K z:=by
 simp only[B4,tUn]at h;have hc:=Ba hr x;split at h
 ·rename_i bb hx;rw[hx]at hc;have hc:=Rf hc;exact Bb h (y:=.v (.bool !bb)) rfl (by simp only[AD,hc];rfl) fun _=>rfl
 ·rename_i k n hx;rw[hx]at hc;have hc:=LU hc;exact Bb h (y:=.v (.int k (k.wrap (0-n)))) rfl (by simp only[AD,hc];rfl) fun _=>rfl
 ·cases h
theorem vk{cs ds:List SV}{r:Bool}(h:Ir cs ds=some r):∀{us vs:List V},RC (RV0 hp) cs us->RC (RV0 hp) ds vs->∃us' vs':List Value,us=us'.map .v/\vs=vs'.map .v/\
  RC EqR cs (us'.map .v)/\RC EqR ds (vs'.map .v):=by
 induction cs generalizing ds r with
 |nil=>
  intro us vs h1 h2;cases ds with
  |nil=>
   cases us with
   |nil=>cases vs with
    |nil=>exact⟨[],[],rfl,rfl,trivial,trivial⟩
    |cons a l=>exact h2.elim
   |cons a l=>exact h1.elim
  |cons a l=>simp[Ir]at h
 |cons c cs ih=>
  intro us vs h1 h2;cases ds with
  |nil=>cases c<;>simp[Ir]at h
  |cons d ds=>
   cases us with
   |nil=>exact h1.elim
   |cons u us=>
    cases vs with
    |nil=>exact h2.elim
    |cons v vs=>
     cases c<;>cases d<;>first|(simp[Ir]at h;done)|skip
     rename_i k n k' n';have hrest:∃r',Ir cs ds=some r':=by
      cases cs with
      |nil=>
       cases ds with
       |nil=>exact⟨true,rfl⟩
       |cons a l=>simp only[Ir]at h;split at h<;>simp_all
      |cons a l=>
       simp only[Ir]at h;split at h
       ·cases he:Ir (a::l) ds with
        |none=>rw[he]at h;cases h
        |some r'=>exact⟨r',rfl⟩
       ·cases h
     obtain⟨r',hr'⟩:=hrest;obtain⟨us',vs',e1,e2,e3,e4⟩:=ih hr' h1.2 h2.2;have q1:u=.v (.int k n):=h1.1;have q2:v=.v (.int k' n'):=h2.1;subst q1;subst q2;subst e1;subst e2;exact⟨_::us',_::vs',rfl,rfl,⟨⟨_,_,rfl,rfl⟩,e3⟩,⟨⟨_,_,rfl,rfl⟩,e4⟩⟩
theorem Ge{β:Type}{t:TypeId}{d:TypeDesc}(hu:P.underlying t=some d)(f:TypeDesc->Sem β):Ap P (underlying t>>=f)=Ap P (f d):=by
 show Ap P ((match P.underlying t with|some d=>(pure d:Sem TypeDesc)|none=>stuck "no such type")>>=f)=_;rw[hu];rfl
theorem tn{t:TypeId}(hu:P.underlying t=some .bool)(p q:Bool):Ap P (Op.equal t (.bool p) (.bool q))=some (p==q):=by
 show Ap P (Op.equalIn (9999+1) t (.bool p) (.bool q))=_;unfold Op.equalIn;rw[Ge hu];rfl
theorem UB{α β:Type}(f:α->Sem β)(s:Sem α)(a:α)(h:Ap P s=some a):Ap P (s>>=f)=Ap P (f a):=by
 induction s with
 |pure b=>simp[Ap]at h;subst h;rfl
 |program k ih=>exact ih P (by simpa[Ap]using h)
 |_=>simp[Ap]at h
theorem OQ:∀(l:List Value),De (l.map V.v)=some l
 |[]=>rfl
 |x::l=>by simp[De,OQ l]
theorem An5{op:BinOp}{t yt:TypeId}{x y:Operand}(hX:XOK P X)(hr:RT hp tm m)(h:B4 X (.binOp op t x y yt) b tm hpm K=some z):Dl P R cf (.binOp op t x y yt) b m hp hpm hvm K z:=by
 simp only[B4]at h;have hx:=Ba hr x;have hy:=Ba hr y;cases hnc:Ai0 op y with
 |true=>
  rw[hnc]at h;simp only at h;split at h
  case h_2=>cases h
  rename_i d ty l hd hl;split at h
  case h_2=>cases h
  rename_i e he;obtain⟨u,hu,h2⟩:=Br h;rw[hl]at hx;have hne:∃r rows,AL m x=.im (r::rows):=by
   cases l with
   |nil=>cases hu
   |cons a l=>
    rcases hx with⟨h0,_⟩|⟨rows,hrow,hrl⟩
    ·cases h0
    ·cases rows with
     |nil=>exact absurd hrl.1 (by simp)
     |cons r rows=>exact⟨r,rows,hrow⟩
  obtain⟨r,rows,hxv⟩:=hne;have hsl:Sm P t=true:=by unfold Sm;rw[hX.ty t d hd];simp[he]
  refine Bb h2 (y:=.v (.bool false)) rfl ?_ fun _=>rfl
  unfold Ai0 at hnc;split at hnc
  ·simp only[AD,hxv,JZ,Ux,hsl]
  ·cases hnc
 |false=>
 rw[hnc]at h;simp only at h;have h:(∃s e,erC op y=some s/\opT tm x=.er e/\pM X t=true/\K (.bool (cond s (!e) e)) hpm .T=some z)\/zX X op t (opT tm x) (opT tm y) (fun v=>K v hpm .T)=some z:=by
  split at h
  ·rename_i s hs;split at h
   ·rename_i e he;cases hi:pM X t with
    |true=>rw[hi]at h;exact .inl ⟨s,e,hs,he,rfl,h⟩
    |false=>rw[hi]at h;cases h
   ·exact .inr h
  ·exact .inr h
 rcases h with⟨s,e,hs,he,hi,h⟩|h
 ·rw[he]at hx;have hx:AL m x=.er e:=hx;have hic:kG P t=true:=by
   unfold pM at hi;split at hi
   ·rename_i d hd;unfold kG;rw[hX.ty t d hd];exact hi
   ·cases hi
  unfold erC at hs;split at hs
  ·cases hs;refine Bb h (y:=.v (.bool !e)) rfl ?_ fun _=>rfl
   simp only[AD,hx,JZ,Ux,r9,hic]
  ·cases hs;refine Bb h (y:=.v (.bool e)) rfl ?_ fun _=>rfl
   simp only[AD,hx,JZ,Ux,r9,hic]
  ·cases hs
 simp only[zX]at h;split at h
 ·rename_i k a k' c e1 e2;rw[e1]at hx;rw[e2]at hy;have hx:=LU hx;have hy:=LU hy;obtain⟨v,u,q1,q2,q3⟩:=yu (P:=P) (t:=t) (x:=x) (y:=y) h;exact Bb q3 (q2 hp) (by simp only[AD,hx,hy,JZ];exact q1) fun _=>rfl
 ·rename_i s u e1 e2;rw[e1]at hx;rw[e2]at hy;have hx:=Wb hx;have hy:=Wb hy;obtain⟨v,u,q1,q2,q3⟩:=yv (P:=P) (t:=t) (x:=x) (y:=y) h;exact Bb q3 (q2 hp) (by simp only[AD,hx,hy,JZ];exact q1) fun _=>rfl
 ·rename_i p q e1 e2;rw[e1]at hx;rw[e2]at hy;have hx:=Rf hx;have hy:=Rf hy;split at h
  ·rename_i hb;have hu:=hX.bools t hb;have heq:=tn hu p q;split at h
   ·refine Bb h (y:=.v (.bool (p==q))) rfl ?_ fun _=>rfl
    simp only[AD,hx,hy,JZ];show((Ap P (do let r <-Op.equal t (.bool p) (.bool q);pure (.bool r))).bind AI)=_;rw[UB _ _ _ heq];rfl
   ·refine Bb h (y:=.v (.bool !(p==q))) rfl ?_ fun _=>rfl
    simp only[AD,hx,hy,JZ];show((Ap P (do let r <-Op.equal t (.bool p) (.bool q);pure (.bool !r))).bind AI)=_;rw[UB _ _ _ heq];rfl
   ·cases h
  ·cases h
 ·rename_i cs ds e1 e2;rw[e1]at hx;rw[e2]at hy;obtain⟨us,hx,r1⟩:=bh hx;obtain⟨vs,hy,r2⟩:=bh hy;split at h
  ·rename_i ht;split at h
   ·rename_i d r hd hq;split at h
    case isFalse=>cases h
    rename_i hlen;obtain⟨us',vs',rfl,rfl,q1,q2⟩:=vk hq r1 r2;have hl:us'.length=d.size:=by
     have:=RC.length q1;rw[zc5]at this;rw[this];exact za8 hlen
    obtain⟨p1,p2⟩:=hX.eqs t ht d (hX.ty t d hd) x y cs ds us' vs' r hl q1 q2 hq;split at h
    ·exact Bb h (y:=.v (.bool r)) rfl (by simp only[AD,hx,hy,JZ,OQ];rw[p1];rfl) fun _=>rfl
    ·exact Bb h (y:=.v (.bool !r)) rfl (by simp only[AD,hx,hy,JZ,OQ];rw[p2];rfl) fun _=>rfl
    ·cases h
   ·cases h
  ·cases h
 ·cases h
end
section
open Go
variable {P:Program}
end
section
variable {α:Type} {P:Program} {R:Rel} {cf:Cfg} {X:TX} {b:Nat} {tm:TTm} {m:Tm} {hp hpm:THp} {hv hvm:Hp} {K:SV->THp->Cls->Option α} {z:α}
theorem fI{β:Type}{flds:List Fld}(hr:RT hp tm m):∀{Aj:List (Nat×Operand)}{cs:List SV}{us:List V}{K:List SV->Option β}{z:β},qW flds tm cs Aj K=some z->RC (RV0 hp) cs us->
  ∃cs' us',Kc flds (AL m) us Aj=some us'/\RC (RV0 hp) cs' us'/\K cs'=some z
 |[],cs,us,K,z,h,hc=>⟨cs,us,rfl,hc,h⟩
 |(k,x)::rest,cs,us,K,z,h,hc=>by
  simp only[qW,Lo]at h;split at h
  ·rename_i f hf;split at h
   ·rename_i hok;simp only[za2,decide_eq_true_eq]at hok;split at h
    ·rename_i cs1 hp1;obtain⟨f1,f2⟩:=Ln (Ba hr x) hok.2;obtain⟨us1,h1,h2⟩:=RC.put hp1 hc f1;obtain⟨cs2,us2,h3,h4,h5⟩:=fI hr h h2;refine⟨cs2,us2,?_,h4,h5⟩;simp only[Kc,hf];have hl:=f1.length;have he:=of_decide_eq_true (by simpa using hok.1:decide ((D6 (opT tm x)).length=f.size)=true);rw[zr (by simp only[za2,decide_eq_true_eq];exact⟨by omega,f2⟩),h1];exact h3
    ·cases h
   ·cases h
  ·cases h
theorem yW{t:TypeId}{Aj:Array (Nat×Operand)}(hX:XOK P X)(hr:RT hp tm m)(h:B4 X (.build t Aj) b tm hpm K=some z):Dl P R cf (.build t Aj) b m hp hpm hvm K z:=by
 simp only[B4]at h;split at h
 ·rename_i d hd;split at h
  ·rename_i hc;obtain⟨cs,us,h1,h2,h3⟩:=fI hr h (U3 d.zero);exact Bb h3 (y:=.agg us) ⟨us,rfl,h2⟩ (by simp only[AD,hX.ty t d hd,hc,if_true,h1,zd7]) fun _=>rfl
  ·cases h
 ·cases h
theorem yX{t:TypeId}{x:Operand}{k:Nat}(hX:XOK P X)(hr:RT hp tm m)(h:B4 X (.field t x k) b tm hpm K=some z):Dl P R cf (.field t x k) b m hp hpm hvm K z:=by
 simp only[B4]at h;have hx:=Ba hr x;split at h
 ·rename_i cs d e1 hd;rw[e1]at hx;obtain⟨us,hx,hc⟩:=bh hx;split at h
  ·rename_i f hf;obtain⟨l,v,h1,h2,h3⟩:=UR h;obtain⟨vs,h4,h5⟩:=RC.seg h1 hc;obtain⟨y,h6,h7⟩:=YB h2 h5;exact Bb h3 h7 (by simp only[AD,hx,hX.ty t d hd,hf,h4,za0,h6]) fun _=>rfl
  ·cases h
 ·cases h
theorem kJ{t:TypeId}{x:Operand}{k:Nat}(hX:XOK P X)(hr:RT hp tm m)(h:B4 X (.fieldAddr t x k) b tm hpm K=some z):Dl P R cf (.fieldAddr t x k) b m hp hpm hvm K z:=by
 simp only[B4]at h;have hx:=Ba hr x;split at h
 ·rename_i d hd;split at h
  ·rename_i f id r c hf e1;rw[e1]at hx;have hx:AL m x=.rf id r c:=hx;exact Bb h (y:=.rf id r (c+f.off)) rfl (by simp only[AD,hX.ty t d hd,hf,hx]) fun _=>rfl
  ·rename_i f ty a c hf e1;rw[e1]at hx;obtain⟨row,hx,hre⟩:=hx;exact Bb h (y:=.ir row (c+f.off)) ⟨row,rfl,hre⟩ (by simp only[AD,hX.ty t d hd,hf,hx]) fun _=>rfl
  ·cases h
 ·cases h
theorem ua{t:TypeId}(hX:XOK P X)(h:N9 X t=true):FA P t=true:=by
 unfold N9 at h;split at h
 ·rename_i d hd;simp only[FA,hX.ty t d hd];exact h
 ·cases h
theorem slX{t:TypeId}(hX:XOK P X)(h:kH X t=true):Sm P t=true:=by
 unfold kH at h;split at h
 ·rename_i d hd;simp only[Sm,hX.ty t d hd];exact h
 ·cases h
theorem ev{β:Type}{l:List β}{n:Int}{a:β}(h:AA l n=some a):0<=n/\l[n.toNat]? =some a:=by
 unfold AA at h;split at h
 ·rename_i h0;exact⟨h0,h⟩
 ·cases h
theorem eN{n:Int}{len k:Nat}(h:AW n len=some k):0<=n/\n.toNat<len/\k=n.toNat:=by
 unfold AW at h;split at h
 ·rename_i h0;cases h;exact⟨h0.1,h0.2,rfl⟩
 ·cases h
theorem yY{t:TypeId}{x i:Operand}(hX:XOK P X)(hr:RT hp tm m)(h:B4 X (.index t x i) b tm hpm K=some z):Dl P R cf (.index t x i) b m hp hpm hvm K z:=by
 simp only[B4]at h;have hx:=Ba hr x;have hi:=Ba hr i;split at h
 ·rename_i s k n hs e1 e2;rw[e1]at hx;rw[e2]at hi;have hx:=Wb hx;have hi:=LU hi;obtain⟨c,h1,h2⟩:=Br h;obtain⟨h0,hc⟩:=ev h1;have hlt:n.toNat<s.length:=(za4.1 hc).1;refine Bb h2 (y:=.v (.int .u8 (c.toNat:Int))) rfl ?_ fun _=>rfl
  simp only[AD,ua hX hs,hx,hi];have hsz:n.toNat<(ByteArray.mk s.toArray).size:=by simpa[ByteArray.size]using hlt
  rw[dif_pos ⟨h0,hsz⟩];have:(ByteArray.mk s.toArray)[n.toNat]'hsz=c:=by
   have:=(za4.1 hc).2;rw[<-this];rfl
  rw[this]
 ·cases h
structure ElemOK (P:Program) (t e:TypeId) (d:TyD) (c:Ty):Prop where
 el:(AX P t).bind (·.elem)=some e
 ty:AX P e=some d
 size:d.size=c.size
 flat:d.zero.all Yh=Fv c
theorem QZ{t e:TypeId}{d:TyD}{c:Ty}(hX:XOK P X)(h:Xv X t=some (e,d,c)):ElemOK P t e d c:=by
 unfold Xv at h;split at h
 ·rename_i d0 hd0;split at h
  ·rename_i e0 he0;split at h
   ·rename_i de c0 hde hc0;split at h
    ·rename_i hb;simp only[za2,beq_iff_eq]at hb;simp only[zx,Prod.mk.injEq]at h;obtain⟨rfl,rfl,rfl⟩:=h;exact⟨by rw[hX.ty t d0 hd0];exact he0,hX.ty _ _ hde,za8 hb.1,hb.2⟩
    ·cases h
   ·cases h
  ·cases h
 ·cases h
theorem Ab1{t:TypeId}{x i:Operand}(hX:XOK P X)(hr:RT hp tm m)(hh:RHm hpm hp hvm)(h:B4 X (.indexAddr t x i) b tm hpm K=some z):Dl P R cf (.indexAddr t x i) b m hp hpm hvm K z:=by
 simp only[B4,Ao9]at h;have hx:=Ba hr x;have hi:=Ba hr i;split at h
 ·rename_i e de c he;have hE:=QZ hX he;split at h
  ·rename_i ty l k n e1 e2;rw[e1]at hx;rw[e2]at hi;have hi:=LU hi;split at h
   ·rename_i hsz;obtain⟨a,h1,h2⟩:=Br h;obtain⟨h0,hc⟩:=ev h1;rcases hx with⟨rfl,hx⟩|⟨rows,hx,hrl⟩
    ·simp at hc
    ·obtain⟨row,hrow,hre⟩:=hrl.get hc;have hlt:n.toNat<rows.length:=(za4.1 hrow).1;refine Bb h2 (y:=.ir row 0) ⟨row,rfl,hre⟩ ?_ fun _=>rfl
     simp only[AD,hx,hi,hE.el,hE.ty];have hg:rows[n.toNat]'hlt=row:=(za4.1 hrow).2;rw[dif_pos ⟨h0,hlt⟩,hg,zr (by rw[hre.len];exact za8 hsz)]
   ·cases h
  ·rename_i id k n e1 e2;rw[e1]at hx;rw[e2]at hi;have hi:=LU hi;obtain⟨len,hx,hlen⟩:=hx;have key:∀(ty:Ty)(l:List ty.den)(tb:TB),AG hpm id=some tb->Gt tb=some l.length->(∀kb,RB hp tb kb->kb.size=ty.size)->(Nat.beq ty.size de.size=true)->((AW n l.length).bind fun k=>K (.rf id k 0) hpm .M)=some z->Dl P R cf (.indexAddr t x i) b m hp hpm hvm K z:=by
    intro ty l tb hg hbl hks hsz h;obtain⟨hg',kb,hkb,hrb⟩:=hh id tb hg;have hlen':=hlen tb hg';rw[hbl]at hlen';cases hlen';obtain⟨kk,h1,h2⟩:=Br h;obtain⟨h0,h3,rfl⟩:=eN h1;refine OH h2 (y:=.rf id (0+n.toNat) 0) (by rw[zf3];rfl) (by simp only[AD,hx,hi]) ?_ fun _=>rfl
    simp only[Bj,hx,hi,hE.el,hE.ty,hkb];rw[zr ⟨by rw[hks kb hrb];exact za8 hsz,h0,h3⟩]
   split at h
   ·rename_i a b' ty l hg;split at h
    ·rename_i hsz;exact key ty l _ hg rfl (fun kb hrb=>hrb.2.2.2.1) hsz h
    ·cases h
   ·rename_i a b' ty l hg;split at h
    ·rename_i hsz;exact key ty l _ hg rfl (fun kb hrb=>hrb.2.2.2.1) hsz h
    ·cases h
   ·cases h
  ·rename_i id lo len k n e1 e2;rw[e1]at hx;rw[e2]at hi;have hi:=LU hi;have hx:AL m x=.ar id lo len:=hx;have key:∀(ty:Ty)(tb:TB),AG hpm id=some tb->(∀kb,RB hp tb kb->kb.size=ty.size)->(Nat.beq ty.size de.size=true)->((AW n len).bind fun k=>K (.rf id (lo+k) 0) hpm .M)=some z->Dl P R cf (.indexAddr t x i) b m hp hpm hvm K z:=by
    intro ty tb hg hks hsz h;obtain⟨hg',kb,hkb,hrb⟩:=hh id tb hg;obtain⟨kk,h1,h2⟩:=Br h;obtain⟨h0,h3,rfl⟩:=eN h1;refine OH h2 (y:=.rf id (lo+n.toNat) 0) rfl (by simp only[AD,hx,hi]) ?_ fun _=>rfl
    simp only[Bj,hx,hi,hE.el,hE.ty,hkb];rw[zr ⟨by rw[hks kb hrb];exact za8 hsz,h0,h3⟩]
   split at h
   ·rename_i a b' ty l hg;split at h
    ·rename_i hsz;exact key ty _ hg (fun kb hrb=>hrb.2.2.2.1) hsz h
    ·cases h
   ·rename_i a b' ty l hg;split at h
    ·rename_i hsz;exact key ty _ hg (fun kb hrb=>hrb.2.2.2.1) hsz h
    ·cases h
   ·cases h
  ·cases h
 ·cases h
theorem sN{x:Operand}{k:Nat}(hr:RT hp tm m)(h:B4 X (.extract x k) b tm hpm K=some z):Dl P R cf (.extract x k) b m hp hpm hvm K z:=by
 simp only[B4,Lo]at h;have hx:=Ba hr x;split at h
 ·rename_i vs e1;rw[e1]at hx;obtain⟨us,hx,hc⟩:=hx;split at h
  ·rename_i v hv;obtain⟨y,hy,hry⟩:=hc.get hv;exact Bb h hry.to2 (by simp only[AD,hx,hy]) fun _=>rfl
  ·cases h
 ·cases h
theorem jP(hr:RT hp tm m):∀{l:List Operand},(l.map (opT tm)).all okT=true->RC (RV0 hp) (l.map (opT tm)) (l.map (AL m))/\(l.map (AL m)).all BG=true
 |[],_=>⟨trivial,rfl⟩
 |x::l,h=>by
  simp only[zb9,zd1,za2]at h;obtain⟨h1,h2⟩:=jP hr h.2;have hx:=Ba hr x;have hfl:D6 (opT tm x)=[opT tm x]:=by
   cases he:opT tm x with
   |agg cs=>rw[he]at h;simp[okT]at h
   |_=>rfl
  obtain⟨f1,f2⟩:=Ln hx (by rw[hfl];simpa using h.1);rw[hfl]at f1;have hfv:flat (AL m x)=[AL m x]:=by
   cases he:AL m x with
   |agg cs=>
    exfalso;rw[he]at hx;cases ho:opT tm x with
    |agg cs=>rw[ho]at h;simp[okT]at h
    |im t l=>rw[ho]at hx;rcases hx with⟨_,hx⟩|⟨_,hx,_⟩<;>cases hx
    |ow id=>rw[ho]at hx;obtain⟨_,hx,_⟩:=hx;cases hx
    |ir t a c=>rw[ho]at hx;obtain⟨_,hx,_⟩:=hx;cases hx
    |cl f cs=>rw[ho]at hx;obtain⟨_,hx,_⟩:=hx;cases hx
    |tup cs=>rw[ho]at h;simp[okT]at h
    |any=>rw[ho]at h;simp[okT]at h
    |int k n=>rw[ho]at hx;cases hx
    |bool k=>rw[ho]at hx;cases hx
    |str k=>rw[ho]at hx;cases hx
    |sc k=>rw[ho]at hx;cases hx
    |em=>rw[ho]at hx;cases hx
    |er e=>rw[ho]at hx;cases hx
    |ar a b c=>rw[ho]at hx;cases hx
    |rf a b c=>rw[ho]at hx;cases hx
   |_=>rfl
  rw[hfv]at f1 f2;simp only[zb9,zd1,List.all_nil,Bool.and_true,za2]at f2⊢
  exact⟨⟨f1.1,h1⟩,f2,h2⟩
theorem Ah4{f:FuncId}{first caps:Array Operand}(hr:RT hp tm m)(h:B4 X (.makeFunc (.func f) first caps) b tm hpm K=some z):Dl P R cf (.makeFunc (.func f) first caps) b m hp hpm hvm K z:=by
 simp only[B4]at h;split at h
 ·rename_i hc;simp only[za2]at hc;obtain⟨h1,h2⟩:=jP hr hc.2;exact Bb h (y:=.cl f (caps.toList.map (AL m))) ⟨_,rfl,h1⟩ (by simp only[AD,hc.1,h2,Bool.and_self,if_true]) fun _=>rfl
 ·cases h
theorem An6{args:Array Operand}{ts:Array TypeId}(hX:XOK P X)(hr:RT hp tm m)(hh:RHm hpm hp hvm)(h:B4 X (.call {callee:=.builtin .len,args:=args,argTypes:=ts}) b tm hpm K=some z):
  Dl P R cf (.call {callee:=.builtin .len,args:=args,argTypes:=ts}) b m hp hpm hvm K z:=by
 simp only[B4]at h;split at h
 ·rename_i x t hx0 ht0;have hx:=Ba hr x;have fin:∀n:Int,K (.int .i64 n) hpm .T=some z->AD P (.call {callee:=.builtin .len,args:=args,argTypes:=ts}) (AL m)=some (.v (.int .i64 n))->Dl P R cf (.call {callee:=.builtin .len,args:=args,argTypes:=ts}) b m hp hpm hvm K z:=
   fun n h hn=>Bb h (y:=.v (.int .i64 n)) rfl hn fun _=>rfl
  unfold Ap0 at h;split at h
  ·rename_i s e1;rw[e1]at hx;have hx:=Wb hx;split at h
   ·rename_i hc;simp only[za2,Bool.not_eq_true']at hc;refine fin _ h ?_;have h1:=ua hX hc.1;have h2:Sm P t=false:=by
     cases hs:Sm P t with
     |false=>rfl
     |true=>
      have h3:=hc.2;have h4:=hc.1;unfold kH at h3;unfold N9 at h4;unfold Sm at hs;split at h4
      ·rename_i d hd;simp only[hd]at h3;rw[hX.ty t d hd]at hs;simp only at hs;rw[h3]at hs;cases hs
      ·cases h4
    simp only[AD,hx0,ht0,h1,h2,hx];simp[ByteArray.size]
   ·cases h
  ·rename_i hns;split at h
   ·rename_i hc;have h1:=slX hX hc;split at h
    ·rename_i e1;rw[e1]at hx;have hx:AL m x=.em:=hx;exact fin _ h (by simp only[AD,hx0,ht0,h1,hx])
    ·rename_i ty l e1;rw[e1]at hx;rcases hx with⟨rfl,hx⟩|⟨rows,hx,hrl⟩
     ·exact fin _ h (by simp only[AD,hx0,ht0,h1,hx];rfl)
     ·exact fin _ h (by simp only[AD,hx0,ht0,h1,hx,hrl.1])
    ·rename_i id e1;rw[e1]at hx;obtain⟨n,hx,hlen⟩:=hx;split at h
     ·rename_i a b' ty l hg;have:=hlen _ (hh id _ hg).1;cases this;exact fin _ h (by simp only[AD,hx0,ht0,h1,hx])
     ·rename_i a b' ty l hg;have:=hlen _ (hh id _ hg).1;cases this;exact fin _ h (by simp only[AD,hx0,ht0,h1,hx])
     ·cases h
    ·rename_i id lo n e1;rw[e1]at hx;have hx:AL m x=.ar id lo n:=hx;exact fin _ h (by simp only[AD,hx0,ht0,h1,hx])
    ·cases h
   ·cases h
 ·cases h
theorem P4:∀{xs:List SV}{us:List V}{k:IntKind}{ns:List Int},QQ xs=some (k,ns)->RC (RV2 hp) xs us->De us=some (ns.map fun n=>.int k n)/\ns≠[]
 |[],us,k,ns,h,_=>by simp[QQ]at h
 |[x],us,k,ns,h,hc=>by
  cases x<;>simp[QQ]at h
  obtain⟨rfl,rfl⟩:=h;cases us with
  |nil=>exact hc.elim
  |cons u us=>
   cases us with
   |nil=>have:u=_:=hc.1;subst this;exact⟨rfl,by simp⟩
   |cons a l=>exact hc.2.elim
 |x::y::l,us,k,ns,h,hc=>by
  cases x<;>simp[QQ]at h
  split at h
  ·rename_i k' ns' hr;split at h
   ·rename_i hk;simp only[zx,Prod.mk.injEq]at h;obtain⟨rfl,rfl⟩:=h;subst hk;cases us with
    |nil=>exact hc.elim
    |cons u us=>
     have:u=_:=hc.1;subst this;obtain⟨h1,_⟩:=P4 hr hc.2;exact⟨by simp[De,h1],by simp⟩
   ·cases h
  ·cases h
theorem LH(hr:RT hp tm m):∀(l:List Operand),RC (RV2 hp) (l.map (opT tm)) (l.map (AL m))
 |[]=>trivial
 |x::l=>⟨Ba hr x,LH hr l⟩
theorem kf{k:IntKind}:∀(l:List Int)(x:Int),Ap P ((l.map fun n=>Value.int k n).foldlM Builtin.min2 (.int k x))=some (.int k (l.foldl (fun a b=>if b<a then b else a) x))
 |[],x=>rfl
 |y::l,x=>by
  simp only[zb9,List.foldlM_cons,List.foldl_cons];exact kf l (if y<x then y else x)
theorem ke{k:IntKind}:∀(l:List Int)(x:Int),Ap P ((l.map fun n=>Value.int k n).foldlM Builtin.max2 (.int k x))=some (.int k (l.foldl (fun a b=>if b>a then b else a) x))
 |[],x=>rfl
 |y::l,x=>by
  simp only[zb9,List.foldlM_cons,List.foldl_cons];exact ke l (if y>x then y else x)
theorem An8{args:Array Operand}{ts:Array TypeId}(hr:RT hp tm m)(h:B4 X (.call {callee:=.builtin .min,args:=args,argTypes:=ts}) b tm hpm K=some z):
  Dl P R cf (.call {callee:=.builtin .min,args:=args,argTypes:=ts}) b m hp hpm hvm K z:=by
 simp only[B4,YK]at h;split at h
 ·rename_i k ns hi;obtain⟨h1,h2⟩:=P4 hi (LH hr _);simp only[zc9,if_false]at h;refine Bb h (y:=.v (.int k (Ao0 ns))) rfl ?_ fun _=>rfl
  simp only[AD,h1];cases ns with
  |nil=>exact absurd rfl h2
  |cons x l=>
   show((Ap P ((l.map fun n=>Value.int k n).foldlM Builtin.min2 (.int k x))).bind AI)=_;rw[kf];rfl
 ·cases h
theorem An7{args:Array Operand}{ts:Array TypeId}(hr:RT hp tm m)(h:B4 X (.call {callee:=.builtin .max,args:=args,argTypes:=ts}) b tm hpm K=some z):
  Dl P R cf (.call {callee:=.builtin .max,args:=args,argTypes:=ts}) b m hp hpm hvm K z:=by
 simp only[B4,YK]at h;split at h
 ·rename_i k ns hi;obtain⟨h1,h2⟩:=P4 hi (LH hr _);simp only[if_true]at h;refine Bb h (y:=.v (.int k (wq ns))) rfl ?_ fun _=>rfl
  simp only[AD,h1];cases ns with
  |nil=>exact absurd rfl h2
  |cons x l=>
   show((Ap P ((l.map fun n=>Value.int k n).foldlM Builtin.max2 (.int k x))).bind AI)=_;rw[ke];rfl
 ·cases h
theorem MB:∀{t:Ty}{a:t.den}{row:List V},Fv t=true->RE t a row->row.all FE=true
 |.int _,_,_,_,h=>by simp only[RE]at h;subst h;rfl
 |.bool,_,_,_,h=>by simp only[RE]at h;subst h;rfl
 |.str,_,_,_,h=>by simp only[RE]at h;subst h;rfl
 |.pair a b,x,_,hf,h=>by
  obtain⟨r1,r2,rfl,h1,h2⟩:=h;simp only[Fv,za2]at hf;simp[List.all_append,MB hf.1 h1,MB hf.2 h2]
 |.sl e,l,_,hf,_=>by cases hf
theorem zT{p:V->Bool}{cs l:List V}{off n:Nat}(h:seg cs off n=some l)(ha:cs.all p=true):l.all p=true:=by
 unfold seg at h;split at h
 ·cases h;exact za5.2 fun x hx=>za5.1 ha x (List.mem_of_mem_drop (List.mem_of_mem_take hx))
 ·cases h
theorem kQ{β:Type}{t:TypeId}{v:SV}{y:V}{KS:SV->Option β}{z:β}(hX:XOK P X)(hv:RV2 hp v y)(hh:RHm hpm hp hvm)(h:qX X t v hpm KS=some z):
  ∃x u,KS x=some z/\RV2 hp x u/\∀(ρ:Operand->V)(a:Operand)(b:Nat),ρ a=y->Bj P (.load t a) ρ hvm b=some (u,[]):=by
 unfold qX at h;split at h
 ·rename_i d ty a c hd;obtain⟨row,rfl,hre⟩:=hv;obtain⟨l,x,h1,h2,h3⟩:=UR h;obtain⟨vs,h4,h5⟩:=RC.seg (hp:=hp) h1 hre.cells;obtain⟨u,h6,h7⟩:=YB h2 h5;exact⟨x,u,h3,h7,fun ρ a b he=>by simp only[Bj,hX.ty t d hd,he,h4,za0,h6]⟩
 ·rename_i d id r c hd;have hy:y=.rf id r c:=hv;subst hy;have arr:∀(ty:Ty)(l:List ty.den)(tb:TB),AG hpm id=some tb->(∀kb,RB hp tb kb->RLx (RE ty) l kb.rows/\(Fv ty=true\/kb.deep=false))->((l[r]?).bind fun a=>tMk d.agg (lJ (j5 ty a) c d.size) KS)=some z->
    ∃x u,KS x=some z/\RV2 hp x u/\∀(ρ:Operand->V)(a:Operand)(b:Nat),ρ a=.rf id r c->Bj P (.load t a) ρ hvm b=some (u,[]):=by
   intro ty l tb hg hks h;obtain⟨hg',kb,hkb,hrb⟩:=hh id tb hg;obtain⟨q1,q2⟩:=hks kb hrb;obtain⟨a,h0,h⟩:=Br h;obtain⟨row,hrow,hre⟩:=q1.get h0;obtain⟨l',x,h1,h2,h3⟩:=UR h;obtain⟨vs,h4,h5⟩:=RC.seg (hp:=hp) h1 hre.cells;obtain⟨u,h6,h7⟩:=YB h2 h5;have hcond:(decide (kb.kind=.box)|| !kb.deep||vs.all FE)=true:=by
    rcases q2 with hf|hd
    ·simp[zT h4 (MB hf hre)]
    ·simp[hd]
   exact⟨x,u,h3,h7,fun ρ a b he=>by simp only[Bj,hX.ty t d hd,he,hkb,hrow,h4,hcond,if_true,h6]⟩
  split at h
  ·rename_i ty cs hg;split at h
   ·rename_i hr0;obtain⟨hg',kb,hkb,hrb⟩:=hh id _ hg;obtain⟨hk1,hk2,row,hk3,hk4,hk5⟩:=hrb;obtain⟨l,x,h1,h2,h3⟩:=UR h;obtain⟨vs,h4,h5⟩:=RC.seg h1 hk5;obtain⟨u,h6,h7⟩:=YB h2 h5;refine⟨x,u,h3,h7,fun ρ a b he=> ?_⟩;simp only[Bj,hX.ty t d hd,he,hkb,hk3,List.getElem?_cons_zero,h4,hk1,decide_true,Bool.true_or,if_true,h6]
   ·cases h
  ·rename_i ty deep ty' l hg;split at h
   ·rename_i hc;refine arr ty' l _ hg (fun kb hrb=>⟨hrb.2.2.2.2,?_⟩) h;simp only[Bool.or_eq_true,Bool.not_eq_true']at hc;rcases hc with hc|hc
    ·right;rw[hrb.2.2.1];exact hc
    ·left;exact hc
   ·cases h
  ·rename_i ty deep ty' l hg;split at h
   ·rename_i hc;exact arr ty' l _ hg (fun kb hrb=>⟨hrb.2.2.2.2,.inl hc⟩) h
   ·cases h
  ·cases h
 ·cases h
theorem wg{t:TypeId}{a:Operand}(hX:XOK P X)(hr:RT hp tm m)(hh:RHm hpm hp hvm)(h:B4 X (.load t a) b tm hpm K=some z):Dl P R cf (.load t a) b m hp hpm hvm K z:=by
 simp only[B4]at h;obtain⟨x,u,h1,h2,h3⟩:=kQ hX (Ba hr a) hh h;exact OH h1 h2 rfl (h3 _ _ _ rfl) fun _=>rfl
end
section
variable {α:Type} {P:Program} {R:Rel} {cf:Cfg} {X:TX} {b:Nat} {tm:TTm} {m:Tm} {hp hpm:THp} {hv hvm:Hp} {K:SV->THp->Cls->Option α} {z:α}
theorem T3(hr:RT hp tm m){x:Option Operand}{d:Nat}{n:Int}(h:cE tm x (d:Int)=some n)(h0:0<=n):bnd (AL m) x d=some n.toNat:=by
 cases x with
 |none=>simp only[cE,zx]at h;subst h;simp[bnd]
 |some x=>
  simp only[cE]at h;have hx:=Ba hr x;unfold vW at h;split at h
  ·rename_i k n' e1;cases h;rw[e1]at hx;have hx:=LU hx;simp only[bnd,hx,zr h0]
  ·cases h
theorem UQ{β:Type}{lo hi:Option Operand}{len:Nat}{KS:Nat->Nat->Option β}{z:β}(hr:RT hp tm m)(h:iK tm lo hi len KS=some z):
  ∃l r,KS l r=some z/\bnd (AL m) lo 0=some l/\bnd (AL m) hi len=some r/\l<=r/\r<=len:=by
 have main:(match cE tm lo 0,cE tm hi (len:Int)with|some l,some h=>(Fx l h len).bind fun p=>KS p.1 p.2|_,_=>none)=some z->∃l r,KS l r=some z/\bnd (AL m) lo 0=some l/\bnd (AL m) hi len=some r/\l<=r/\r<=len:=by
  intro h;split at h
  ·rename_i l r e1 e2;obtain⟨p,h1,h2⟩:=Br h;unfold Fx at h1;split at h1
   ·rename_i hc;cases h1;exact⟨l.toNat,r.toNat,h2,T3 hr (d:=0) e1 hc.1,T3 hr e2 (by omega),by omega,by omega⟩
   ·cases h1
  ·cases h
 unfold iK at h;cases lo with
 |none=>
  cases hi with
  |none=>exact⟨0,len,h,rfl,rfl,Nat.zero_le _,za7 _⟩
  |some y=>exact main h
 |some x=>exact main h
theorem Ag1{t e:TypeId}(h:(AX P t).bind (·.elem)=some e):FA P t=false:=by
 cases hs:FA P t with
 |false=>rfl
 |true=>
  have h1:=BL h;have h2:=Fs hs;rw[h1]at h2;cases h2
theorem pO{t:TypeId}{x:Operand}{lo hi:Option Operand}(hX:XOK P X)(hr:RT hp tm m)(hh:RHm hpm hp hvm)(h:B4 X (.slice t x lo hi none) b tm hpm K=some z):
  Dl P R cf (.slice t x lo hi none) b m hp hpm hvm K z:=by
 simp only[B4,xJ]at h;have hx:=Ba hr x;split at h
 ·rename_i s e1;rw[e1]at hx;have hx:=Wb hx;split at h
  ·rename_i hs;have hs':FA P t=true:=ua hX hs;obtain⟨l,r,h1,h2,h3,h4,h5⟩:=UQ hr h;have hsz:(ByteArray.mk s.toArray).size=s.length:=by simp[ByteArray.size]
   refine⟨_,.v (.string ⟨((s.take r).drop l).toArray⟩),.M,h1,rfl,fun KV hk=> ?_⟩;show(if FA P t then BH (AD P (.slice t x lo hi none) (AL m)) fun z=>KV z hvm .M else _);rw[zr hs'];have:AD P (.slice t x lo hi none) (AL m)=some (.v (.string ⟨((s.take r).drop l).toArray⟩)):=by
    simp only[AD,hs',hx,h2,hsz,h3];rw[zr ⟨h4,h5⟩]
    congr 3
    apply ByteArray.ext;simp[List.drop_take]
   rw[this];exact hk
  ·cases h
 ·rename_i hns;split at h
  ·rename_i e de c he;have hE:=QZ hX he;have hs':=Ag1 hE.el;have fin:∀(v:SV)(y:V),K v hpm .M=some z->RV2 hp v y->(∀KV:CD,KV y hvm .M->Bz P t (AL m x) lo hi (AL m) hvm KV)->Dl P R cf (.slice t x lo hi none) b m hp hpm hvm K z:=by
    intro v y h hv hw;refine⟨v,y,.M,h,hv,fun KV hk=> ?_⟩;show(if FA P t then _ else Bz P t (AL m x) lo hi (AL m) hvm KV);rw[zw (by rw[hs'];simp)];exact hw KV hk
   split at h
   ·rename_i e1;rw[e1]at hx;have hx:AL m x=.em:=hx;obtain⟨l,r,h1,h2,h3,h4,h5⟩:=UQ hr h;refine fin _ .em h1 rfl fun KV hk=> ?_
    simp only[Bz,hE.el,hE.ty,An,hx,h2,h3];exact⟨by omega,by omega,hk⟩
   ·rename_i ty l0 e1;rw[e1]at hx;split at h
    ·rename_i hsz;have hsz:=za8 hsz;obtain⟨l,r,h1,h2,h3,h4,h5⟩:=UQ hr h;rcases hx with⟨rfl,hx⟩|⟨rows,hx,hrl⟩
     ·refine fin _ .em h1 (.inl ⟨by simp,rfl⟩) fun KV hk=> ?_
      simp only[zf0]at h3 h5;simp only[Bz,hE.el,hE.ty,An,hx,h2,h3];exact⟨by omega,by omega,hk⟩
     ·refine fin _ (.im ((rows.take r).drop l)) h1 (.inr ⟨_,rfl,(hrl.take r).drop l⟩) fun KV hk=> ?_
      simp only[Bz,hE.el,hE.ty,An,hx,h2,hrl.1,h3];refine⟨h4,h5,fun row hrow=> ?_,hk⟩;obtain⟨i,hi⟩:=List.getElem?_of_mem hrow;obtain⟨a,_,hre⟩:=hrl.get' hi;rw[hre.len];exact hsz
    ·cases h
   ·rename_i id e1;rw[e1]at hx;obtain⟨len,hx,hlen⟩:=hx;have key:∀(ty:Ty)(l0:List ty.den)(tb:TB),AG hpm id=some tb->Gt tb=some l0.length->(∀kb,RB hp tb kb->kb.size=ty.size)->(Nat.beq ty.size de.size=true)->
      Ac5 tm lo hi l0.length (K (.ow id) hpm .M) (fun l h=>K (.ar id l (h-l)) hpm .M)=some z->Dl P R cf (.slice t x lo hi none) b m hp hpm hvm K z:=by
     intro ty l0 tb hg hbl hks hsz h;obtain⟨hg',kb,hkb,hrb⟩:=hh id tb hg;have hl:=hlen tb hg';rw[hbl]at hl;cases hl;have hsz:kb.size=de.size:=by rw[hks kb hrb];exact za8 hsz
     have gen:(iK tm lo hi l0.length fun l h=>K (.ar id l (h-l)) hpm .M)=some z->Dl P R cf (.slice t x lo hi none) b m hp hpm hvm K z:=by
      intro h;obtain⟨l,r,h1,h2,h3,h4,h5⟩:=UQ hr h;refine fin _ (.ar id (0+l) (r-l)) h1 (by rw[zf3];rfl) fun KV hk=> ?_
      simp only[Bz,hE.el,hE.ty,An,hx,h2,h3,hkb];exact⟨h4,h5,hsz,hk⟩
     cases lo with
     |none=>
      cases hi with
      |none=>
       refine fin _ (.ar id (0+0) (l0.length-0)) h ⟨l0.length,by simp,hlen⟩ fun KV hk=> ?_
       simp only[Bz,hE.el,hE.ty,An,hx,bnd,hkb];exact⟨Nat.zero_le _,za7 _,hsz,hk⟩
      |some y=>exact gen h
     |some y=>exact gen h
    split at h
    ·rename_i a b' ty l hg;split at h
     ·rename_i hsz;exact key ty l _ hg rfl (fun kb hrb=>hrb.2.2.2.1) hsz h
     ·cases h
    ·rename_i a b' ty l hg;split at h
     ·rename_i hsz;exact key ty l _ hg rfl (fun kb hrb=>hrb.2.2.2.1) hsz h
     ·cases h
    ·cases h
   ·rename_i id l1 n e1;rw[e1]at hx;have hx:AL m x=.ar id l1 n:=hx;have key:∀(ty:Ty)(tb:TB),AG hpm id=some tb->(∀kb,RB hp tb kb->kb.size=ty.size)->(Nat.beq ty.size de.size=true)->
      (iK tm lo hi n fun l h=>K (.ar id (l1+l) (h-l)) hpm .M)=some z->Dl P R cf (.slice t x lo hi none) b m hp hpm hvm K z:=by
     intro ty tb hg hks hsz h;obtain⟨hg',kb,hkb,hrb⟩:=hh id tb hg;have hsz:kb.size=de.size:=by rw[hks kb hrb];exact za8 hsz
     obtain⟨l,r,h1,h2,h3,h4,h5⟩:=UQ hr h;refine fin _ (.ar id (l1+l) (r-l)) h1 rfl fun KV hk=> ?_
     simp only[Bz,hE.el,hE.ty,An,hx,h2,h3,hkb];exact⟨h4,h5,hsz,hk⟩
    split at h
    ·rename_i a b' ty l hg;split at h
     ·rename_i hsz;exact key ty _ hg (fun kb hrb=>hrb.2.2.2.1) hsz h
     ·cases h
    ·rename_i a b' ty l hg;split at h
     ·rename_i hsz;exact key ty _ hg (fun kb hrb=>hrb.2.2.2.1) hsz h
     ·cases h
    ·cases h
   ·cases h
  ·cases h
theorem kK{t:TypeId}{x hi mx:Operand}{lo:Option Operand}(hX:XOK P X)(hr:RT hp tm m)(h:B4 X (.slice t x lo (some hi) (some mx)) b tm hpm K=some z):
  Dl P R cf (.slice t x lo (some hi) (some mx)) b m hp hpm hvm K z:=by
 simp only[B4]at h;have hx:=Ba hr x;split at h
 ·rename_i e de c ty l he e1;rw[e1]at hx;have hE:=QZ hX he;split at h
  ·rename_i l0 h0 m0 q1 q2 q3;obtain⟨hc,h⟩:=DD h;have hc:=of_decide_eq_true hc;obtain⟨rfl,rfl,rfl⟩:=hc;have b1:=T3 hr (d:=0) q1 (by omega);have b2:=T3 hr (d:=0) q2 (by omega);have b3:=T3 hr (d:=0) q3 (by omega);have hel:((AX P t).bind (·.elem)).bind (AX P)=some de:=by rw[hE.el];exact hE.ty
   refine Bb h (y:=.em) rfl ?_ fun _=>rfl
   rcases hx with⟨rfl,hx⟩|⟨rows,hx,hrl⟩
   ·simp only[AD,hel,hx,b1,b2,b3];rfl
   ·simp only[AD,hel,hx,b1,b2,b3];rw[zr (by simp)]
  ·cases h
 ·cases h
theorem uJ{t:TypeId}(hX:XOK P X)(h:Us X t=true):Jq P t=true:=by
 unfold Us at h;split at h
 ·rename_i d hd;split at h
  ·rename_i e he;split at h
   ·rename_i de hde;have:(AX P t).bind (·.elem)=some e:=by rw[hX.ty t d hd];exact he
    simp only[Jq,this,hX.ty e de hde];exact h
   ·cases h
  ·cases h
 ·cases h
theorem ZJ:∀{l:List Int}{rows:List (List V)},RLx (RE (.int .u8)) l rows->Cy rows=some (BK l)
 |[],rows,h=>by rw[h.of_nil];rfl
 |n::l,rows,h=>by
  cases rows with
  |nil=>have:=h.1;simp at this
  |cons r rows=>
   have hr:RE (.int .u8) n r:=h.2 0 n r rfl rfl;have hrest:RLx (RE (.int .u8)) l rows:=⟨by have:=h.1;simpa using this,fun i a q h1 h2=>h.2 (i+1) a q (by simpa using h1) (by simpa using h2)⟩;simp only[RE]at hr;subst hr;simp only[Cy,QT,ZJ hrest,BK,zb9]
theorem z6(s:Str):RLx (RE (.int .u8)) (GH s) (Jd ⟨s.toArray⟩):=by
 refine⟨by simp[Jd,GH],fun i a r h1 h2=> ?_⟩;simp only[Jd,GH,zd4,zb6]at h1 h2;obtain⟨c,hc,rfl⟩:=h1;obtain⟨c',hc',rfl⟩:=h2;have:c'=c:=by
  have h3:s[i]? =some c':=by simpa using hc'
  rw[hc]at h3;exact(zv h3).symm
 subst this;rfl
theorem uV{s d:TypeId}{ds dd:TyD}{k k0:IntKind}{n:Int}(h1:AX P s=some ds)(h2:AX P d=some dd)(h3:dd.int=some k):(Ap P (Go.convert s d (.int k0 n))).bind AI=some (.v (.int k (k.wrap n))):=by
 obtain⟨i,u,z,hi,hu,_⟩:=Cb h1;obtain⟨i',u',z',hi',hu',_,_,_,_,rfl⟩:=Cb h2;have hud:u'=.int k:=by cases u'<;>simp[yV]at h3;rw[h3]
 subst hud;unfold Go.convert;rw[Ge hu,Ge hu'];cases u<;>rfl
theorem uW{s d:TypeId}{x:ByteArray}(h1:FA P s=true)(h2:FA P d=true):(Ap P (Go.convert s d (.string x))).bind AI=some (.v (.string x)):=by
 unfold Go.convert;rw[Ge (Fs h1),Ge (Fs h2)];rfl
theorem nd{s d:TypeId}{x:ByteArray}(h1:FA P s=true)(h2:Jq P d=true):(Ap P (Go.convert s d (.string x))).bind AI=none:=by
 obtain⟨e,h3,h4⟩:=Wf h2;unfold Go.convert;rw[Ge (Fs h1),Ge h3];show(Ap P (underlying e>>=_)).bind AI=none;rw[Ge h4];rfl
theorem ZF{e:Ty}{x:SV}{l:List e.den}{y:V}(h:Io hpm e x=some l)(hv:RV0 hp x y)(hh:RHm hpm hp hvm):
  (l=[]/\y=.em)\/(∃rows,y=.im rows/\RLx (RE e) l rows)\/∃id lo n kb,y=.ar id lo n/\hvm id=some kb/\kb.kind≠ .box/\RLx (RE e) l ((kb.rows.take (lo+n)).drop lo):=by
 unfold Io at h;split at h
 ·rename_i id;obtain⟨n,rfl,hlen⟩:=hv;have key:∀(t:Ty)(l0:List t.den)(tb:TB),AG hpm id=some tb->Gt tb=some l0.length->(∀kb,RB hp tb kb->kb.kind≠ .box/\RLx (RE t) l0 kb.rows)->(if h:t=e then some (Ka h l0)else none)=some l->
    (l=[]/\V.ar id 0 n=.em)\/(∃rows,V.ar id 0 n=.im rows/\RLx (RE e) l rows)\/∃id' lo n' kb,V.ar id 0 n=.ar id' lo n'/\hvm id'=some kb/\kb.kind≠ .box/\RLx (RE e) l ((kb.rows.take (lo+n')).drop lo):=by
   intro t l0 tb hg hbl hks h;obtain⟨hg',kb,hkb,hrb⟩:=hh id tb hg;have hl:=hlen tb hg';rw[hbl]at hl;cases hl;obtain⟨q1,q2⟩:=hks kb hrb;split at h
   ·rename_i he;cases h;refine .inr (.inr ⟨id,0,l0.length,kb,rfl,hkb,q1,?_⟩);have:(kb.rows.take (0+l0.length)).drop 0=kb.rows:=by rw[zf3,<-q2.1];simp
    rw[this];exact HD he q2
   ·cases h
  split at h
  ·rename_i a b' t l0 hg;exact key t l0 _ hg rfl (fun kb hrb=>⟨by rw[hrb.1];simp,hrb.2.2.2.2⟩) h
  ·rename_i a b' t l0 hg;exact key t l0 _ hg rfl (fun kb hrb=>⟨by rw[hrb.1];simp,hrb.2.2.2.2⟩) h
  ·cases h
 ·rename_i id lo n;have hv:y=.ar id lo n:=hv;subst hv;have key:∀(t:Ty)(l0:List t.den)(tb:TB),AG hpm id=some tb->(∀kb,RB hp tb kb->kb.kind≠ .box/\RLx (RE t) l0 kb.rows)->(if h:t=e then some (((Ka h l0).take (lo+n)).drop lo)else none)=some l->
    (l=[]/\V.ar id lo n=.em)\/(∃rows,V.ar id lo n=.im rows/\RLx (RE e) l rows)\/∃id' lo' n' kb,V.ar id lo n=.ar id' lo' n'/\hvm id'=some kb/\kb.kind≠ .box/\RLx (RE e) l ((kb.rows.take (lo'+n')).drop lo'):=by
   intro t l0 tb hg hks h;obtain⟨hg',kb,hkb,hrb⟩:=hh id tb hg;obtain⟨q1,q2⟩:=hks kb hrb;split at h
   ·rename_i he;cases h;exact .inr (.inr ⟨id,lo,n,kb,rfl,hkb,q1,((HD he q2).take _).drop _⟩)
   ·cases h
  split at h
  ·rename_i a b' t l0 hg;exact key t l0 _ hg (fun kb hrb=>⟨by rw[hrb.1];simp,hrb.2.2.2.2⟩) h
  ·rename_i a b' t l0 hg;exact key t l0 _ hg (fun kb hrb=>⟨by rw[hrb.1];simp,hrb.2.2.2.2⟩) h
  ·cases h
 ·rcases gn h hv with h1|h1
  ·exact .inl h1
  ·exact .inr (.inl h1)
theorem dM{e:Ty}{x:SV}{l:List e.den}{y:V}(h:Io hpm e x=some l)(hv:RV2 hp x y):RV0 hp x y:=by
 cases x with
 |agg cs=>simp[Io,asL]at h
 |tup cs=>simp[Io,asL]at h
 |cl f cs=>simp[Io,asL]at h
 |_=>exact hv
theorem wd{s d:TypeId}{x:Operand}(hX:XOK P X)(hr:RT hp tm m)(hh:RHm hpm hp hvm)(h:B4 X (.convert s d x) b tm hpm K=some z):Dl P R cf (.convert s d x) b m hp hpm hvm K z:=by
 simp only[B4,Ac3]at h;have hx:=Ba hr x;split at h
 ·rename_i k n e1;rw[e1]at hx;have hx:=LU hx;split at h
  ·rename_i ds dd h1 h2;split at h
   ·rename_i k' h3;exact Bb h (y:=.v (.int k' (k'.wrap n))) rfl (by simp only[AD,hx];exact uV (hX.ty _ _ h1) (hX.ty _ _ h2) h3) fun _=>rfl
   ·cases h
  ·cases h
 ·rename_i v e1;rw[e1]at hx;have hx:=Wb hx;split at h
  ·rename_i hs;have hs:=ua hX hs;split at h
   ·rename_i hd;have hd:=uJ hX hd;obtain⟨hc,h⟩:=DD h;have hc:=of_decide_eq_true hc;refine OH h (y:=.im (Jd ⟨v.toArray⟩)) (.inr ⟨_,rfl,z6 v⟩) (by simp only[AD,hx];exact nd hs hd) ?_ fun _=>rfl
    simp only[Bj,hx,hs,hd,ze2];have:(ByteArray.mk v.toArray).size<=Aa:=by simpa[ByteArray.size]using hc
    rw[zr (by simpa using this)]
   ·split at h
    ·rename_i hd;have hd:=ua hX hd;exact Bb h (y:=.v (.string ⟨v.toArray⟩)) rfl (by simp only[AD,hx];exact uW hs hd) fun _=>rfl
    ·cases h
  ·cases h
 ·rename_i hn1 hn2;split at h
  ·rename_i hc;simp only[za2]at hc;have h1:=uJ hX hc.1;have h2:=ua hX hc.2;split at h
   ·rename_i l hl;have hx0:=dM hl hx;have hrel:=ZF hl hx0 hh
    ·rcases hrel with⟨rfl,hy⟩|⟨rows,hy,hrl⟩|⟨id,lo,n,kb,hy,hkb,hkk,hrl⟩
     ·refine OH h (y:=.v (.string ⟨(BK []).toArray⟩)) rfl (by simp only[AD,hy]) ?_ fun _=>rfl
      simp only[Bj,hy,h1,h2,Bool.and_self,if_true];rfl
     ·refine OH h (y:=.v (.string ⟨(BK l).toArray⟩)) rfl (by simp only[AD,hy]) ?_ fun _=>rfl
      simp only[Bj,hy,h1,h2,Bool.and_self,if_true,ZJ hrl]
     ·refine OH h (y:=.v (.string ⟨(BK l).toArray⟩)) rfl (by simp only[AD,hy]) ?_ fun _=>rfl
      simp only[Bj,hy,hkb,h1,h2,Bool.and_self,ZJ hrl];rw[zr (by simpa using hkk)]
   ·cases h
  ·cases h
end
section
variable {α:Type} {P:Program} {R:Rel} {cf:Cfg} {X:TX} {b:Nat} {tm:TTm} {m:Tm} {hp hpm:THp} {hv hvm:Hp} {K:SV->THp->Cls->Option α} {z:α}
def bV(P:Program)(R:Rel)(cf:Cfg)(op:Op)(b:Nat)(tm:TTm)(m:Tm)(hv:Hp)(K:SV->THp->Cls->Option α)(z:α):Prop:=
 ∃x hp' cls y hv',K x hp' cls=some z/\RV2 hp' x y/\RH hp' hv'/\RT hp' tm m/\∀KV:CD,KV y hv' cls->BF P R cf op b (AL m) hv KV
theorem Dl.done{op:Op}(h:Dl P R cf op b m hp hp hv K z)(hh:RH hp hv)(hr:RT hp tm m):bV P R cf op b tm m hv K z:=by
 obtain⟨x,y,cls,h1,h2,h3⟩:=h;exact⟨x,hp,cls,y,hv,h1,h2,hh,hr,h3⟩
theorem Vl{x:TB}{k:Blk}(hh:RH hp hv)(hr:RT hp tm m)(hf:∀t,b ∉ Ix (BI tm t))(hb:∀id y,AG hp id=some y->b ∉ MN y)(hx:b ∉ MN x)(hk:RB hp x k):
  RH ((b,some x)::hp) (upd hv b (some k))/\RT ((b,some x)::hp) tm m:=
 ⟨hh.put (fun id hid=>Np fun he=>hx (he▸hid)) (fun id y _ hy i hi=>Np fun he=>hb id y hy (he▸hi)) hk,hr.keeps fun t id hid=>Np fun he=>hf t (he▸hid)⟩
theorem Se{l:List Nat}(h:It tm hp b=true){id:Nat}{k:TB}(hk:AG (EG hp l) id=some k):b ∉ MN k:=Uh h (Ut l hp id k hk).1
theorem mA:∀(l:List V),(l.map X6).flatMap Gx=[]
 |[]=>rfl
 |x::l=>by
  rw[zb9,zb8,mA l];unfold X6;split<;>rfl
theorem yA{t:TypeId}(hX:XOK P X)(hh:RH hp hv)(hr:RT hp tm m)(h:B4 X (.alloc t) b tm hp K=some z):bV P R cf (.alloc t) b tm m hv K z:=by
 simp only[B4]at h;split at h
 ·rename_i d hd;split at h
  ·rename_i hf;obtain⟨h1,h2⟩:=Vl (x:=.box t (d.zero.map X6)) (k:=P8 t d.zero) hh hr (Lp hf) (fun id y hy=>Uh hf hy) (by simp only[MN];rw[mA];simp) ⟨rfl,rfl,d.zero,rfl,rfl,U3 d.zero⟩;refine⟨_,_,_,.rf b 0 0,_,h,rfl,h1,h2,fun KV hk=> ?_⟩;show BH (Bj P (.alloc t) (AL m) hv b) (fun z=>z.2.length<=16/\KV z.1 (inst hv b z.2) .M);simp only[Bj,hX.ty t d hd,An];exact⟨by simp,hk⟩
  ·cases h
 ·cases h
theorem vo{x:SV}:∀id∈(D6 x).flatMap Gx,id∈Ix x:=by
 intro id hid;cases x with
 |agg cs=>exact hid
 |tup cs=>simp[D6,Gx]at hid
 |cl f cs=>simp[D6,Gx]at hid
 |ow id'=>simpa[D6,Gx,ct,Ix]using hid
 |_=>simp[D6,Gx]at hid
theorem rP(c:Value):Ix (ZS c)=[]:=by
 have h0:∀c,Gx (T6 c)=[]/\Ix (T6 c)=[]:=by
  intro c;unfold T6;split<;>first|exact⟨rfl,rfl⟩|(split<;>exact⟨rfl,rfl⟩)
 unfold ZS;split
 ·rename_i cs;show(cs.toList.map T6).flatMap Gx=[];rw[List.flatMap_eq_nil_iff];intro x hx;obtain⟨c,_,rfl⟩:=zd3.1 hx;exact(h0 c).1
 ·exact(h0 c).2
theorem vp(h:It tm hp b=true)(x:Operand):b ∉ Ix (opT tm x):=by
 cases x with
 |tmp t=>exact Lp h t
 |const c=>simp only[opT,rP];simp
 |global g=>simp[opT,Ix,ct,Gx]
 |func f=>simp[opT,Ix,ct,Gx]
theorem Am4{t:TypeId}{x:Operand}(hX:XOK P X)(hh:RH hp hv)(hr:RT hp tm m)(h:B4 X (.box t x) b tm hp K=some z):bV P R cf (.box t x) b tm m hv K z:=by
 simp only[B4]at h;split at h
 ·rename_i d hd;split at h
  ·rename_i hc;simp only[za2]at hc;obtain⟨⟨c1,c2⟩,hf⟩:=hc;obtain⟨f1,f2⟩:=Ln (Ba hr x) c2;obtain⟨h1,h2⟩:=Vl (x:=.box t (D6 (opT tm x))) (k:=P8 t (flat (AL m x))) hh hr (Lp hf) (fun id y hy=>Uh hf hy) (fun hi=>vp hf x (vo b hi)) ⟨rfl,rfl,_,rfl,rfl,f1⟩;refine⟨_,_,_,.rf b 0 0,_,h,rfl,h1,h2,fun KV hk=> ?_⟩;show BH (Bj P (.box t x) (AL m) hv b) (fun z=>z.2.length<=16/\KV z.1 (inst hv b z.2) .M);simp only[Bj,hX.ty t d hd];have hl:(flat (AL m x)).length=d.size:=by have:=f1.length;have:=za8 c1;omega
   rw[zr (by simp[hl,f2])];exact⟨by simp,hk⟩
  ·cases h
 ·cases h
theorem eQ{n:Int}{bytes size k:Nat}(h:Ru n bytes size=some k):0<=n/\n.toNat*bytes<=Aa/\n.toNat*size<=Aa/\k=n.toNat:=by
 unfold Ru at h;split at h
 ·rename_i hc;cases h;exact⟨hc.1,hc.2.1,hc.2.2,rfl⟩
 ·cases h
theorem Af9{t:TypeId}{l c:Operand}(hX:XOK P X)(hh:RH hp hv)(hr:RT hp tm m)(h:B4 X (.makeSlice t l c) b tm hp K=some z):bV P R cf (.makeSlice t l c) b tm m hv K z:=by
 simp only[B4,Ac4]at h;have hl:=Ba hr l;have hc:=Ba hr c;split at h
 ·rename_i e de ty k1 n k2 n2 he e1 e2;rw[e1]at hl;rw[e2]at hc;have hl:=LU hl;have hc:=LU hc;have hE:=QZ hX he;split at h
  ·rename_i zz hz;split at h
   ·rename_i hq;simp only[za2]at hq;obtain⟨hf,hsc⟩:=hq;have hre:RE ty zz de.zero:=ZW (hp:=hp) hz (U3 de.zero);have fin:∀(kk:Nat),kk=n.toNat->0<=n->n<=n2->n2.toNat*de.bytes<=Aa->n2.toNat*de.size<=Aa->K (.ow b) ((b,some (.arr e true ty (List.replicate kk zz)))::hp) .M=some z->bV P R cf (.makeSlice t l c) b tm m hv K z:=by
     intro kk hkk h0 h1 h2 h3 hK;obtain⟨g1,g2⟩:=Vl (x:=.arr e true ty (List.replicate kk zz)) (k:=AV e de.size true (List.replicate n.toNat de.zero)) hh hr (Lp hf) (fun id y hy=>Uh hf hy) (by simp[MN]) ⟨rfl,rfl,rfl,hE.size,by rw[hkk];exact RLx.replicate hre _⟩;refine⟨_,_,_,.ar b 0 n.toNat,_,hK,⟨n.toNat,rfl,fun bb hb=> ?_⟩,g1,g2,fun KV hk=> ?_⟩
     ·rw[AH,zr rfl]at hb;cases hb;simp[Gt,hkk]
     ·show BH (Bj P (.makeSlice t l c) (AL m) hv b) (fun z=>z.2.length<=16/\KV z.1 (inst hv b z.2) .M);simp only[Bj,hl,hc,hE.el,hE.ty];rw[zr ⟨h0,h1,h2,h3,hsc⟩];exact⟨by simp,hk⟩
    cases hs:oJ l c with
    |true=>
     rw[hs]at h;obtain⟨kk,h1,h2⟩:=Br (show((Ru n2 de.bytes de.size).bind fun k=>K (.ow b) ((b,some (.arr e true ty (List.replicate k zz)))::hp) .M)=some z from h);obtain⟨q1,q2,q3,q4⟩:=eQ h1;have hn:n=n2:=by
      have:l=c:=by
       unfold oJ at hs;split at hs
       ·rw[za8 hs]
       ·cases hs
      subst this;rw[e1]at e2;cases e2;rfl
     subst hn;exact fin kk q4 q1 (Int.le_refl _) q2 q3 h2
    |false=>
     rw[hs]at h;obtain⟨kk,h1,h2⟩:=Br (show((Ru n2 de.bytes de.size).bind fun _=>cond (decide (0<=n)&&decide (n<=n2)) (K (.ow b) ((b,some (.arr e true ty (List.replicate n.toNat zz)))::hp) .M) none)=some z from h);obtain⟨q1,q2,q3,q4⟩:=eQ h1;obtain⟨c1,h2⟩:=DD h2;simp only[za2,decide_eq_true_eq]at c1;exact fin n.toNat rfl c1.1 c1.2 q2 q3 h2
   ·cases h
  ·cases h
 ·cases h
theorem jR{x x':SV}{y:V}{kills:List Nat}{deep:Bool}(hh:RH hp hv)(h:Yp hp x=some (x',kills,deep))(hx:RV0 hp x y):
  ∃y',AO hv y=some (y',kills,deep)/\RV0 hp x' y'/\Gx x'=[]:=by
 unfold Yp at h;split at h
 ·cases h;have:y=_:=hx;subst this;exact⟨_,rfl,rfl,rfl⟩
 ·cases h;have:y=_:=hx;subst this;exact⟨_,rfl,rfl,rfl⟩
 ·cases h;have:y=_:=hx;subst this;exact⟨_,rfl,rfl,rfl⟩
 ·cases h;have:y=_:=hx;subst this;exact⟨_,rfl,rfl,rfl⟩
 ·cases h;have:y=_:=hx;subst this;exact⟨_,rfl,rfl,rfl⟩
 ·cases h;rcases hx with⟨rfl,rfl⟩|⟨rows,rfl,hr⟩
  ·exact⟨.em,rfl,.inl ⟨rfl,rfl⟩,rfl⟩
  ·exact⟨.im rows,rfl,.inr ⟨rows,rfl,hr⟩,rfl⟩
 ·rename_i id;obtain⟨n,rfl,hlen⟩:=hx;split at h
  ·rename_i a dd t l hg;cases h;obtain⟨k,hk,hrb⟩:=hh id _ hg;have:=hlen _ hg;cases this;have hrows:(k.rows.take (0+l.length)).drop 0=k.rows:=by rw[zf3,<-hrb.2.2.2.2.1];simp
   refine⟨.im k.rows,?_,.inr ⟨_,rfl,hrb.2.2.2.2⟩,rfl⟩;simp only[AO,hk,hrb.1,hrows,hrb.2.2.1]
  ·rename_i a dd t l hg;cases h;obtain⟨k,hk,hrb⟩:=hh id _ hg;have:=hlen _ hg;cases this;have hrows:(k.rows.take (0+l.length)).drop 0=k.rows:=by rw[zf3,<-hrb.2.2.2.2.1];simp
   refine⟨.im k.rows,?_,.inr ⟨_,rfl,hrb.2.2.2.2⟩,rfl⟩;simp only[AO,hk,hrb.1,hrows]
  ·cases h
 ·rename_i id lo n;have:y=_:=hx;subst this;split at h
  ·rename_i a dd t l hg;cases h;obtain⟨k,hk,hrb⟩:=hh id _ hg;refine⟨.im ((k.rows.take (lo+n)).drop lo),?_,.inr ⟨_,rfl,(hrb.2.2.2.2.take _).drop _⟩,rfl⟩;simp only[AO,hk,hrb.1,hrb.2.2.1]
  ·rename_i a dd t l hg;cases h;obtain⟨k,hk,hrb⟩:=hh id _ hg;refine⟨.im ((k.rows.take (lo+n)).drop lo),?_,.inr ⟨_,rfl,(hrb.2.2.2.2.take _).drop _⟩,rfl⟩;simp only[AO,hk,hrb.1]
  ·cases h
 ·cases h
theorem Qb(hh:RH hp hv):∀{xs xs':List SV}{ys:List V}{kills:List Nat}{deep:Bool},Mz hp xs=some (xs',kills,deep)->RC (RV0 hp) xs ys->
  ∃ys',A1 hv ys=some (ys',kills,deep)/\RC (RV0 hp) xs' ys'/\xs'.flatMap Gx=[]
 |[],xs',ys,kills,deep,h,hc=>by
  simp only[Mz,zx,Prod.mk.injEq]at h;obtain⟨rfl,rfl,rfl⟩:=h;cases ys with
  |nil=>exact⟨[],rfl,trivial,rfl⟩
  |cons a l=>exact hc.elim
 |x::xs,xs',ys,kills,deep,h,hc=>by
  simp only[Mz]at h;split at h
  ·rename_i x1 a d xs1 as ds h1 h2;simp only[zx,Prod.mk.injEq]at h;obtain⟨rfl,rfl,rfl⟩:=h;cases ys with
   |nil=>exact hc.elim
   |cons y ys=>
    obtain⟨y',q1,q2,q3⟩:=jR hh h1 hc.1;obtain⟨ys',q4,q5,q6⟩:=Qb hh h2 hc.2;exact⟨y'::ys',by simp only[A1,q1,q4],⟨q2,q5⟩,by rw[zb8,q3,q6];rfl⟩
  ·cases h
theorem Ll:∀{xs xs':List SV}{kills:List Nat}{deep:Bool},Mz hp xs=some (xs',kills,deep)->xs.all okT=true
 |[],_,_,_,_=>rfl
 |x::xs,xs',kills,deep,h=>by
  simp only[Mz]at h;split at h
  ·rename_i x1 a d xs1 as ds h1 h2;have:okT x=true:=by
    cases x<;>first|rfl|(simp[Yp]at h1;done)|skip
   simp only[zd1,this,Ll h2,Bool.and_self]
  ·cases h
theorem yC{t:TypeId}{a x:Operand}(hX:XOK P X)(hh:RH hp hv)(hr:RT hp tm m)(h:B4 X (.store t a x) b tm hp K=some z):bV P R cf (.store t a x) b tm m hv K z:=by
 simp only[B4,xK]at h;have ha:=Ba hr a;have hx:=Ba hr x;split at h
 ·rename_i d id r c hd e1;rw[e1]at ha;have ha:AL m a=.rf id r c:=ha;split at h
  ·rename_i hlen;have hlen:=za8 hlen;split at h
   ·rename_i ty cs hg;split at h
    ·split at h
     ·rename_i hok;split at h
      ·rename_i cs' hput;obtain⟨kb,hkb,hk1,hk2,row,hk3,hk4,hk5⟩:=hh id _ hg;obtain⟨f1,f2⟩:=Ln hx hok;obtain⟨row',p1,p2⟩:=RC.put hput hk5 f1;have hkeep:∀i,Dk hp ((id,some (.box ty cs'))::hp) i:=fun i=>av (y:=.box ty cs') hg rfl i
       have hrl:row'.length=row.length:=by
        have q1:=p2.length;have q2:=hk5.length;have q3:cs'.length=cs.length:=by
         unfold tq at hput;split at hput
         ·cases hput;simp;omega
         ·cases hput
        omega
       refine⟨_,_,_,.any,upd hv id (some {kb with rows:=kb.rows.set 0 row'}),h,trivial,?_,hr.keeps fun t i _=>hkeep i,fun KV hk=> ?_⟩
       ·exact hh.put (fun i _=>hkeep i) (fun _ _ _ _ i _=>hkeep i) ⟨hk1,hk2,row',by rw[hk3];rfl,by show kb.size=_;rw[hk4,hrl],p2⟩
       ·show CU P t (AL m a) (AL m x) hv KV;have hl:(flat (AL m x)).length=d.size:=by have:=f1.length;omega
        simp only[CU,hX.ty t d hd,ha,hkb,hk3,List.getElem?_cons_zero,hl,if_true,hk1,f2,p1];rw[hk3,hk1]at hk;exact hk
      ·cases h
     ·cases h
    ·cases h
   ·rename_i ty deep e l hg;obtain⟨y,h1,h⟩:=Br h;split at h
    ·rename_i cs kills deep' hcl;split at h
     ·rename_i hnd;split at h
      ·rename_i cs' hput;split at h
       ·rename_i zz hz;obtain⟨kb,hkb,hk1,hk2,hk3,hk4,hk5⟩:=hh id _ hg;obtain⟨f1,f2⟩:=Ln hx (Ll hcl);obtain⟨ys,q1,q2,q3⟩:=Qb hh hcl f1;obtain⟨row,hrow,hre⟩:=hk5.get h1;obtain⟨row',p1,p2⟩:=RC.put hput hre.cells q2;have hrz:=ZW hz p2;have hidk:id ∉ kills:=by
         simp only[EZ,za2,Bool.not_eq_true',List.contains_eq_mem,decide_eq_false_iff_not]at hnd;exact hnd.1
        have hkeep:∀i,Dk hp ((id,some (.arr ty (deep&&deep') e (l.set r zz)))::EG hp kills) i:=by
         intro i bb hbb;rw[AH]at hbb;split at hbb
         ·rename_i hi;subst hi;cases hbb;exact⟨_,hg,by simp[Gt]⟩
         ·exact Jb kills hp i bb hbb
        have hkeep':∀i,Dk (EG hp kills) ((id,some (.arr ty (deep&&deep') e (l.set r zz)))::EG hp kills) i:=by
         intro i bb hbb;rw[AH]at hbb;split at hbb
         ·rename_i hi;subst hi;cases hbb;cases hgk:AG (EG hp kills) i with
          |none=>
           exfalso;have:∀(ks:List Nat)(hp:THp),i ∉ ks->AG (EG hp ks) i=AG hp i:=by
            intro ks
            induction ks with
            |nil=>intro hp _;rfl
            |cons q ks ih=>
             intro hp hq;simp only[zc1,not_or]at hq;rw[EG,ih _ hq.2,AH,zw hq.1]
           rw[this kills hp hidk,hg]at hgk;cases hgk
          |some b0=>
           have:=(Ut kills hp i b0 hgk).1;rw[hg]at this;cases this;exact⟨_,rfl,by simp[Gt]⟩
         ·exact⟨bb,hbb,rfl⟩
        refine⟨_,_,_,.any,upd (kill hv kills) id (some {kb with rows:=kb.rows.set r row',deep:=kb.deep&&deep'}),h,trivial,?_,hr.keeps fun t i _=>hkeep i,fun KV hk=> ?_⟩
        ·exact(hh.kill kills).put (fun i _=>hkeep' i) (fun _ _ _ _ i _=>hkeep' i) ⟨hk1,hk2,by show(kb.deep&&deep')=_;rw[hk3],hk4,hk5.set r hrz⟩
        ·show CU P t (AL m a) (AL m x) hv KV;have hl:(flat (AL m x)).length=d.size:=by have:=f1.length;omega
         simp only[CU,hX.ty t d hd,ha,hkb,hrow,hl,if_true,hk1,q1,hnd,p1];rw[hk1]at hk;exact hk
       ·cases h
      ·cases h
     ·cases h
    ·cases h
   ·cases h
  ·cases h
 ·cases h
theorem Xt{e:Ty}{size:Nat}(hr:RT hp tm m)(hh:RH hp hv)(hs:size=e.size):∀{Aj:List (Nat×Operand)}{n:Nat}{l:List e.den}{kills:List Nat}{deep:Bool},N0 hp tm e n Aj=some (l,kills,deep)->
  ∃rows,A9 hv (AL m) size n Aj=some (rows,kills,deep)/\RLx (RE e) l rows
 |[],n,l,kills,deep,h=>by
  simp only[N0,zx,Prod.mk.injEq]at h;obtain⟨rfl,rfl,rfl⟩:=h;exact⟨[],rfl,RLx.nil⟩
 |(k,x)::Aj,n,l,kills,deep,h=>by
  simp only[N0]at h;split at h
  ·rename_i hc;simp only[za2]at hc;have h1:=za8 hc.1;have h2:=za8 hc.2;split at h
   ·rename_i cs a d ys as ds g1 g2;split at h
    ·rename_i y hy;simp only[zx,Prod.mk.injEq]at h;obtain⟨rfl,rfl,rfl⟩:=h;obtain⟨f1,f2⟩:=Ln (Ba hr x) (Ll g1);obtain⟨us,q1,q2,q3⟩:=Qb hh g1 f1;obtain⟨rows,q4,q5⟩:=Xt hr hh hs g2;refine⟨us::rows,?_,RLx.cons (ZW hy q2) q5⟩;simp only[A9,q1,q4];rw[zr ⟨h1,by have:=f1.length;omega⟩]
    ·cases h
   ·cases h
  ·cases h
theorem jF{cs:List SV}:∀{us:List V},RC (RV0 hp) cs us->cs.all okT=true->cs.all ZQ=us.all Yq:=by
 induction cs with
 |nil=>
  intro us h _;cases us with
  |nil=>rfl
  |cons a l=>exact h.elim
 |cons c cs ih=>
  intro us h hok;cases us with
  |nil=>exact h.elim
  |cons u us=>
   simp only[zd1,za2]at hok;simp only[zd1,ih h.2 hok.2];have h1:ZQ c=Yq u:=by
    have h0:=h.1;cases c with
    |int k n=>have:u=_:=h0;subst this;rfl
    |bool b=>have:u=_:=h0;subst this;rfl
    |str s=>have:u=_:=h0;subst this;rfl
    |sc x=>have:u=_:=h0;subst this;rfl
    |em=>have:u=_:=h0;subst this;rfl
    |im t l=>rcases h0 with⟨_,rfl⟩|⟨rows,rfl,_⟩<;>rfl
    |ow id=>obtain⟨n,rfl,_⟩:=h0;rfl
    |ar a b c=>have:u=_:=h0;subst this;rfl
    |rf a b c=>have:u=_:=h0;subst this;rfl
    |ir a b c=>obtain⟨row,rfl,_⟩:=h0;rfl
    |cl f caps=>
     cases caps with
     |nil=>have:u=_:=h0;subst this;rfl
     |cons a l=>simp[okT]at hok
    |er b=>simp[okT]at hok
    |agg l=>simp[okT]at hok
    |tup l=>simp[okT]at hok
    |any=>simp[okT]at hok
   rw[h1]
theorem dL{e:Ty}(hr:RT hp tm m):∀{Aj:List (Nat×Operand)}{n:Nat}{l:List e.den}{kills:List Nat}{deep:Bool},N0 hp tm e n Aj=some (l,kills,deep)->mV tm Aj=MI (AL m) Aj
 |[],n,l,kills,deep,h=>rfl
 |(k,x)::Aj,n,l,kills,deep,h=>by
  simp only[N0]at h;split at h
  ·split at h
   ·rename_i cs a d ys as ds g1 g2;obtain⟨f1,f2⟩:=Ln (Ba hr x) (Ll g1);have h1:=jF f1 (Ll g1);have h2:=dL hr g2;unfold mV MI at h2⊢
    simp only[zd1,h1,h2]
   ·cases h
  ·cases h
theorem yB{t:TypeId}{len:Nat}{Aj:Array (Nat×Operand)}(hX:XOK P X)(hh:RH hp hv)(hr:RT hp tm m)(h:B4 X (.buildSlice t len Aj) b tm hp K=some z):
  bV P R cf (.buildSlice t len Aj) b tm m hv K z:=by
 simp only[B4,lY]at h;split at h
 ·rename_i e de c he;have hE:=QZ hX he;generalize hps:Aj.toList=ps at h;cases len with
  |zero=>
   cases ps with
   |nil=>
    refine⟨_,_,_,.em,hv,h,rfl,hh,hr,fun KV hk=> ?_⟩;show Ax P t 0 Aj.toList (AL m) hv b KV;rw[hps];simp only[Ax,hE.el,hE.ty,An,true_and];exact hk
   |cons a l=>cases h
  |succ len=>
   simp only at h;split at h
   ·rename_i l kills deep hcl;split at h
    ·rename_i hc;simp only[za2]at hc;obtain⟨⟨⟨c1,c2⟩,c3⟩,hf⟩:=hc;have c1:=za8 c1;have c2:=Nat.le_of_ble_eq_true c2;obtain⟨rows,q1,q2⟩:=Xt hr hh hE.size hcl;obtain⟨g1,g2⟩:=Vl (x:=.arr e deep c l) (k:=AV e de.size deep rows) (hh.kill kills) (hr.keeps fun t i _=>Jb kills hp i) (Lp hf) (fun id y hy=>Se hf hy) (by simp[MN]) ⟨rfl,rfl,rfl,hE.size,q2⟩;refine⟨_,_,_,.ar b 0 (len+1),_,h,⟨len+1,rfl,fun bb hb=> ?_⟩,g1,g2,fun KV hk=> ?_⟩
     ·rw[AH,zr rfl]at hb;cases hb;simp[Gt,c1]
     ·show Ax P t (len+1) Aj.toList (AL m) hv b KV;rw[hps];simp only[Ax,hE.el,hE.ty,An,q1];rw[dL hr hcl]at hk;exact⟨by rw[q2.1];exact c1,by simpa using c2,c3,hk⟩
    ·cases h
   ·cases h
 ·cases h
theorem zV{c:Ty}{d:TyD}{x:SV}{y:V}{l:List c.den}{kills:List Nat}{deep:Bool}(hh:RH hp hv)(hf:d.zero.all Yh=Fv c)(h:Ak2 c x hp=some (l,kills,deep))(hx:RV2 hp x y):
  ∃rows,RLx (RE c) l rows/\∀KV:List (List V)->List Nat->Bool->Prop,KV rows kills deep->BO d y hv KV:=by
 have hsc:∀rows,Fv c=true->RLx (RE c) l rows->Ej rows=true:=by
  intro rows hfl hr;refine za5.2 fun row hrow=> ?_
  obtain⟨i,hi⟩:=List.getElem?_of_mem hrow;obtain⟨a,_,hre⟩:=hr.get' hi;exact MB hfl hre
 have im:∀rows,RLx (RE c) l rows->(d.zero.all Yh&&Ej rows)=Fv c:=by
  intro rows hr;rw[hf];cases hfl:Fv c with
  |false=>rfl
  |true=>rw[hsc rows hfl hr];rfl
 unfold Ak2 at h;split at h
 ·rename_i id;obtain⟨n,rfl,hlen⟩:=hx;split at h
  ·rename_i a dd t l0 hg;obtain⟨k,hk,hk1,hk2,hk3,hk4,hk5⟩:=hh id _ hg;have:=hlen _ hg;cases this;have hrows:(k.rows.take (0+l0.length)).drop 0=k.rows:=by rw[zf3,<-hk5.1];simp
   split at h
   ·rename_i he;split at h
    ·rename_i hfl;simp only[zx,Prod.mk.injEq]at h;obtain⟨rfl,rfl,rfl⟩:=h;have hr:=HD he hk5;refine⟨k.rows,hr,fun KV hK=> ?_⟩;simp only[BO,hk,hk1,hrows];rw[zr (by rw[hf];exact hfl)];exact⟨hsc _ hfl hr,hK⟩
    ·rename_i hfl;simp only[zx,Prod.mk.injEq]at h;obtain⟨rfl,rfl,rfl⟩:=h;have hr:=HD he hk5;refine⟨k.rows,hr,fun KV hK=> ?_⟩;simp only[BO,hk,hk1,hrows];rw[zw (by rw[hf];exact hfl),hk3];exact hK
   ·cases h
  ·rename_i a dd t l0 hg;obtain⟨k,hk,hk1,hk2,hk3,hk4,hk5⟩:=hh id _ hg;have:=hlen _ hg;cases this;have hrows:(k.rows.take (0+l0.length)).drop 0=k.rows:=by rw[zf3,<-hk5.1];simp
   split at h
   ·rename_i he;simp only[zx,Prod.mk.injEq]at h;obtain⟨rfl,rfl,rfl⟩:=h;have hr:=HD he hk5;refine⟨k.rows,hr,fun KV hK=> ?_⟩;simp only[BO,hk,hk1,hrows,im _ hr];exact hK
   ·cases h
  ·cases h
 ·rename_i id lo n;have hx:y=.ar id lo n:=hx;subst hx;split at h
  ·rename_i a dd t l0 hg;obtain⟨k,hk,hk1,hk2,hk3,hk4,hk5⟩:=hh id _ hg;split at h
   ·rename_i he;split at h
    ·rename_i hfl;simp only[zx,Prod.mk.injEq]at h;obtain⟨rfl,rfl,rfl⟩:=h;have hr:=((HD he hk5).take (lo+n)).drop lo;refine⟨_,hr,fun KV hK=> ?_⟩;simp only[BO,hk,hk1];rw[zr (by rw[hf];exact hfl)];exact⟨hsc _ hfl hr,hK⟩
    ·rename_i hfl;simp only[zx,Prod.mk.injEq]at h;obtain⟨rfl,rfl,rfl⟩:=h;have hr:=((HD he hk5).take (lo+n)).drop lo;refine⟨_,hr,fun KV hK=> ?_⟩;simp only[BO,hk,hk1];rw[zw (by rw[hf];exact hfl),hk3];exact hK
   ·cases h
  ·rename_i a dd t l0 hg;obtain⟨k,hk,hk1,hk2,hk3,hk4,hk5⟩:=hh id _ hg;split at h
   ·rename_i he;simp only[zx,Prod.mk.injEq]at h;obtain⟨rfl,rfl,rfl⟩:=h;have hr:=((HD he hk5).take (lo+n)).drop lo;refine⟨_,hr,fun KV hK=> ?_⟩;simp only[BO,hk,hk1,im _ hr];exact hK
   ·cases h
  ·cases h
 ·split at h
  ·rename_i hl;simp only[zx,Prod.mk.injEq]at h;obtain⟨rfl,rfl,rfl⟩:=h;rename_i l';have hx0:RV0 hp x y:=dM (hpm:=hp) (e:=c) (l:=l') (by unfold Io;split<;>simp_all [asL]) hx;rcases gn hl hx0 with⟨rfl,rfl⟩|⟨rows,rfl,hr⟩
   ·exact⟨[],RLx.nil,fun KV hK=>by simp only[BO];rw[hf];exact hK⟩
   ·exact⟨rows,hr,fun KV hK=>by simp only[BO];rw[im _ hr];exact hK⟩
  ·cases h
theorem rF{β:Type}{bytes size:Nat}{l m r:List β}(h:BV bytes size l m=some r):r=l++m/\(l.length+m.length)*bytes<=Aa/\(l.length+m.length)*size<=Aa:=by
 unfold BV at h;split at h
 ·rename_i hc;cases h;exact⟨rfl,hc⟩
 ·cases h
theorem u7 {args : Array Operand} {ts : Array TypeId} (hX : XOK P X) (hh : RH hp hv) (hr : RT hp tm m) (h : B4 X (.call { callee := .builtin .append, args := args, argTypes := ts }) b tm hp K = some z) :
    bV P R cf (.call { callee := .builtin .append, args := args, argTypes := ts }) b tm m hv K z := by
  simp only [B4] at h;split at h
  · rename_i s x hargs
    unfold qV at h;split at h
    · rename_i t t' hts
      split at h
      · rename_i htt
        have htt := za8 htt;split at h
        · rename_i e de c he
          have hE := QZ hX he;split at h
          · rename_i mm kills deep hsrc
            obtain ⟨rows, r1, r2⟩ := zV (d := de) hh hE.flat hsrc (Ba hr x);have hs := Ba hr s;have hrl : ∀ r ∈ rows, r.length = de.size := fun row hrow => by
              obtain ⟨i, hi⟩ := List.getElem?_of_mem hrow;obtain ⟨a, _, hre⟩ := r1.get' hi;rw [hre.len, hE.size]
            have step : ∀ KV : CD, (∀ s', AL m s = s' -> BO de (AL m x) hv fun rows kills deep =>
                match s' with
                | .em =>
                  rows.length * de.bytes <= Aa /\ rows.length * de.size <= Aa /\ (∀ r ∈ rows, r.length = de.size) /\ EZ kills = true /\
                  KV (.ar b 0 rows.length) (upd (kill hv kills) b (some (AV e de.size deep rows))) (match kills with | [] => .M | _ => .E)
                | .ar id lo n =>
                  BH (hv id) fun k =>
                    k.kind = .arr /\ lo = 0 /\ k.ty = e /\ k.size = de.size /\ EZ (id :: kills) = true /\
                    (n + rows.length) * de.bytes <= Aa /\ (n + rows.length) * de.size <= Aa /\ (∀ r ∈ rows, r.length = de.size) /\
                    KV (.ar b 0 (n + rows.length)) (upd (kill hv (id :: kills)) b (some (AV e de.size (k.deep && deep) (k.rows.take n ++ rows)))) .E
                | _ => False) -> BF P R cf (.call { callee := .builtin .append, args := args, argTypes := ts }) b (AL m) hv KV := by
              intro KV hK;show (match args.toList with | [s, x] => Da P ts.toList (AL m s) (AL m x) hv b KV | _ => False);rw [hargs, hts];simp only [Da, hE.el, hE.ty, An];exact ⟨htt, hK _ rfl⟩
            have own : ∀ (id n ty : Nat) (d0 : Bool) (l : List c.den) (k : Blk), AL m s = .ar id 0 n -> hv id = some k -> k.kind = .arr -> k.ty = ty -> k.deep = d0 -> k.size = c.size -> RLx (RE c) l (k.rows.take n) -> l.length = n ->
                (Nat.beq ty e && EZ (id :: kills) && It tm hp b) = true -> ((BV de.bytes de.size l mm).bind fun r => K (.ow b) ((b, some (.arr e (d0 && deep) c r)) :: EG hp (id :: kills)) .E) = some z ->
                bV P R cf (.call { callee := .builtin .append, args := args, argTypes := ts }) b tm m hv K z := by
              intro id n ty d0 l k hs hk k1 k2 k3 k4 hl hln hc h;simp only [za2] at hc;obtain ⟨⟨c1, c2⟩, hf⟩ := hc;have c1 := za8 c1;obtain ⟨r, a1, a2⟩ := Br h;obtain ⟨rfl, a3, a4⟩ := rF a1;obtain ⟨g1, g2⟩ := Vl (x := .arr e (d0 && deep) c (l ++ mm)) (k := AV e de.size (k.deep && deep) (k.rows.take n ++ rows)) (hh.kill (id :: kills)) (hr.keeps fun t i _ => Jb (id :: kills) hp i) (Lp hf) (fun id y hy => Se hf hy) (by simp [MN])
                ⟨rfl, rfl, by show (k.deep && deep) = _; rw [k3], hE.size, hl.append r1⟩
              refine ⟨_, _, _, .ar b 0 (n + rows.length), _, a2, ⟨n + rows.length, rfl, fun bb hb => ?_⟩, g1, g2, fun KV hk' => step KV fun s' hs' => ?_⟩
              · rw [AH, zr rfl] at hb
                cases hb;simp [Gt, hln, r1.1]
              · rw [hs] at hs'
                subst hs';refine r2 _ ?_;simp only [hk, An];exact ⟨k1, trivial, by rw [k2, c1], by rw [k4, hE.size], c2, by rw [r1.1, <- hln]; exact a3, by rw [r1.1, <- hln]; exact a4, hrl, hk'⟩
            split at h
            · rename_i e1
              rw [e1] at hs;have hs : AL m s = .em := hs;split at h
              · rename_i hc
                simp only [za2] at hc;obtain ⟨c1, hf⟩ := hc;obtain ⟨hroom, h⟩ := DD h;simp only [ft, za2, decide_eq_true_eq] at hroom;obtain ⟨g1, g2⟩ := Vl (x := .arr e deep c mm) (k := AV e de.size deep rows) (hh.kill kills) (hr.keeps fun t i _ => Jb kills hp i) (Lp hf) (fun id y hy => Se hf hy) (by simp [MN]) ⟨rfl, rfl, rfl, hE.size, r1⟩;refine ⟨_, _, _, .ar b 0 rows.length, _, h, ⟨rows.length, rfl, fun bb hb => ?_⟩, g1, g2, fun KV hk => step KV fun s' hs' => ?_⟩
                · rw [AH, zr rfl] at hb
                  cases hb;simp [Gt, r1.1]
                · rw [hs] at hs'
                  subst hs';refine r2 _ ?_;exact ⟨by rw [r1.1]; exact hroom.1, by rw [r1.1]; exact hroom.2, hrl, c1, hk⟩
              · cases h
            · rename_i id e1
              rw [e1] at hs;obtain ⟨n, hs, hlen⟩ := hs;split at h
              · rename_i ty d0 t0 l hg
                split at h
                · rename_i ht0
                  split at h
                  · rename_i hc
                    obtain ⟨k, hk, k1, k2, k3, k4, k5⟩ := hh id _ hg;have := hlen _ hg;cases this;subst ht0
                    exact own id l.length ty d0 l k hs hk k1 k2 k3 k4 (by have : k.rows.take l.length = k.rows := by rw [<- k5.1]; simp
                                                                          rw [this]; exact k5) rfl hc h
                  · cases h
                · cases h
              · cases h
            · rename_i id n e1
              rw [e1] at hs;have hs : AL m s = .ar id 0 n := hs;split at h
              · rename_i ty d0 t0 l hg
                split at h
                · rename_i ht0
                  split at h
                  · rename_i hc
                    obtain ⟨k, hk, k1, k2, k3, k4, k5⟩ := hh id _ hg;subst ht0;obtain ⟨hle, h⟩ := DD h;have hle := of_decide_eq_true hle;exact own id n ty d0 (l.take n) k hs hk k1 k2 k3 k4 (k5.take n) (by simp; omega) hc h
                  · cases h
                · cases h
              · cases h
            · cases h
          · cases h
        · cases h
      · cases h
    · cases h
  · cases h
end
section
variable {tm:TTm} {m:Tm} {hp hp':THp} {hv hv':Hp}
theorem si{id:Nat}(hh:RH hp hv):RH ((id,(AG hp id).map sk)::hp) (upd hv id ((hv id).map fun k=>{k with kind:=match k.kind with|.arr=>.frz|x=>x}))/\∀i,Dk hp ((id,(AG hp id).map sk)::hp) i:=by
 have hk:∀i,Dk hp ((id,(AG hp id).map sk)::hp) i:=by
  intro i b hb;rw[AH]at hb;split at hb
  ·rename_i hi;subst hi;simp only[zb6]at hb;obtain⟨b0,h0,rfl⟩:=hb;exact⟨b0,h0,by cases b0<;>rfl⟩
  ·exact⟨b,hb,rfl⟩
 refine⟨fun i b hb=> ?_,hk⟩;rw[AH]at hb;split at hb
 ·rename_i hi;subst hi;simp only[zb6]at hb;obtain⟨b0,h0,rfl⟩:=hb;obtain⟨k,hk1,hrb⟩:=hh i b0 h0;refine⟨_,by simp only[upd,if_true,hk1,zd7];rfl,RB.keeps (hp:=hp) ?_ fun j _=>hk j⟩;cases b0 with
  |box ty cs=>obtain⟨h1,h2,h3⟩:=hrb;exact⟨by simp[h1],h2,h3⟩
  |arr ty deep t l=>obtain⟨h1,h2,h3⟩:=hrb;exact⟨by simp[h1],h2,h3⟩
  |frz ty deep t l=>obtain⟨h1,h2,h3⟩:=hrb;exact⟨by simp[h1],h2,h3⟩
 ·rename_i hi;obtain⟨k,hk1,hrb⟩:=hh i b hb;exact⟨k,by simp only[upd,zw hi];exact hk1,hrb.keeps fun j _=>hk j⟩
theorem Z9:∀(l:List Nat){hp:THp}{hv:Hp},RH hp hv->RH (Fz hp l) (freeze hv l)/\∀i,Dk hp (Fz hp l) i
 |[],hp,hv,h=>⟨h,fun i=>Dk.refl hp i⟩
 |id::l,hp,hv,h=>by
  obtain⟨h1,h2⟩:=si (id:=id) h;obtain⟨h3,h4⟩:=Z9 l h1;exact⟨h3,fun i=>(h2 i).trans (h4 i)⟩
theorem XB:∀(l:List Nat)(hp:THp)(id:Nat),id ∉ l->AG (Fz hp l) id=AG hp id
 |[],_,_,_=>rfl
 |x::l,hp,id,h=>by
  simp only[zc1,not_or]at h;rw[Fz,XB l _ id h.2,AH,zw h.1]
theorem XA:∀(l:List Nat)(hp:THp)(id:Nat)(ty:TypeId)(cs:List SV),AG hp id=some (.box ty cs)->AG (Fz hp l) id=some (.box ty cs)
 |[],_,_,_,_,h=>h
 |x::l,hp,id,ty,cs,h=>by
  rw[Fz];refine XA l _ id ty cs ?_;rw[AH];split
  ·rename_i he;subst he;rw[h];rfl
  ·exact h
theorem eu{hp:THp}{id:Nat}{b:TB}(h:AG hp id=some b):(id,some b)∈hp:=by
 induction hp with
 |nil=>cases h
 |cons a l ih=>
  obtain⟨k,x⟩:=a;rw[AH]at h;split at h
  ·rename_i he;subst he;subst h;simp
  ·exact ze4 _ (ih h)
theorem P7{a b:Nat}(h:Nat.blt a b=true):a<b:=Nat.lt_of_succ_le (Nat.le_of_ble_eq_true h)
def Bel(b:Nat)(hp:THp):Prop:=∀id k,AG hp id=some k->id<b/\∀i∈MN k,i<b
theorem Bel.mono{b b':Nat}{hp:THp}(h:Bel b hp)(hb:b<=b'):Bel b' hp:=fun id k hk=>⟨ze1 (h id k hk).1 hb,fun i hi=>ze1 ((h id k hk).2 i hi) hb⟩
theorem Vp{tm:TTm}{hp:THp}{b:Nat}(h:Vo tm hp b=true):Bel b hp/\∀t,∀i∈Ix (BI tm t),i<b:=by
 simp only[Vo,za2]at h;refine⟨fun id k hk=> ?_,fun t i hi=> ?_⟩
 ·have:=za5.1 h.2 _ (eu hk);simp only[za2]at this;exact⟨P7 this.1,fun i hi=>P7 (za5.1 this.2 i hi)⟩
 ·rcases ki (tm:=tm) (t:=t)with h'|⟨x,hx,h'⟩
  ·rw[h']at hi;simp[Ix,ct,Gx]at hi
  ·rw[<-h']at hi;exact P7 (za5.1 (za5.1 h.1 x hx) i hi)
theorem vq{b:TB}{i:Nat}(h:i∈MN (sk b)):i∈MN b:=by
 cases b with
 |arr _ _ _ _=>simp[sk,MN]at h
 |_=>exact h
theorem Qi:∀(l:List Nat){hp:THp}{b:Nat},Bel b hp->Bel b (Fz hp l)
 |[],_,_,h=>h
 |x::l,hp,b,h=>by
  rw[Fz];refine Qi l fun id k hk=> ?_
  rw[AH]at hk;split at hk
  ·rename_i he;subst he;simp only[zb6]at hk;obtain⟨k0,h0,rfl⟩:=hk;exact⟨(h id k0 h0).1,fun i hi=>(h id k0 h0).2 i (vq hi)⟩
  ·exact h id k hk
theorem sX{hp:THp}{x:SV}{y:V}(h:RV0 hp x y)(hx:okT x=true):BG y=true:=by
 cases x with
 |im t l=>rcases h with⟨_,rfl⟩|⟨_,rfl,_⟩<;>rfl
 |ow id=>obtain⟨_,rfl,_⟩:=h;rfl
 |ir t a c=>obtain⟨_,rfl,_⟩:=h;rfl
 |cl f cs=>cases cs with|nil=>have:y=_:=h;subst this;rfl|cons a l=>exact h.elim
 |any=>simp[okT]at hx
 |agg cs=>exact h.elim
 |tup cs=>exact h.elim
 |int k n=>have:y=_:=h;subst this;rfl
 |bool k=>have:y=_:=h;subst this;rfl
 |str k=>have:y=_:=h;subst this;rfl
 |sc k=>have:y=_:=h;subst this;rfl
 |em=>have:y=_:=h;subst this;rfl
 |er e=>simp[okT]at hx
 |ar a b c=>have:y=_:=h;subst this;rfl
 |rf a b c=>have:y=_:=h;subst this;rfl
structure NV (b n:Nat) (hp:THp) (hp':THp) (hv':Hp):Prop where
 rh:RH hp' hv'
 bel:Bel (b+n) hp'
 keep:∀i,i<b->Dk hp hp' i
structure NT (b n:Nat) (hp:THp) (hp':THp) (hv':Hp):Prop extends NV b n hp hp' hv' where
 box:∀i ty cs,i<b->AG hp i=some (.box ty cs)->AG hp' i=some (.box ty cs)
theorem NT.refl(hh:RH hp hv){b:Nat}(hb:Bel b hp):NT b 0 hp hp hv:=⟨⟨hh,hb,fun i _=>Dk.refl hp i⟩,fun _ _ _ _ h=>h⟩
theorem NT.trans{b n k:Nat}{hp1 hp2:THp}{hv1 hv2:Hp}(h:NT b n hp hp1 hv1)(g:NT (b+n) k hp1 hp2 hv2):NT b (n+k) hp hp2 hv2:=
 ⟨⟨g.rh,by have:=g.bel;rwa[Nat.add_assoc]at this,fun i hi=>(h.keep i hi).trans (g.keep i (by omega))⟩,fun i ty cs hi hg=>g.box i ty cs (by omega) (h.box i ty cs hi hg)⟩
theorem qY{m:TM}{v v':SV}{y:V}{b n:Nat}(hh:RH hp hv)(hb:Bel b hp)(hi:∀i∈Gx v,i<b)(hv0:RV0 hp v y)(h:tnC m v hp b=some (v',hp',n)):
  ∃y' hv',O9 m.md y hv b=some (y',hv',n)/\NT b n hp hp' hv'/\RV0 hp' v' y'/\∀i∈Gx v',i<b+n:=by
 cases m with
 |keep=>
  simp only[tnC,zx,Prod.mk.injEq]at h;obtain⟨rfl,rfl,rfl⟩:=h;exact⟨y,hv,rfl,NT.refl hh hb,hv0,hi⟩
 |own ty deep t=>
  cases v with
  |em=>
   simp only[tnC,zx,Prod.mk.injEq]at h;obtain⟨rfl,rfl,rfl⟩:=h;have:y=.em:=hv0;subst this;refine⟨.ar b 0 0,upd hv b (some (AV ty t.size deep [])),rfl,⟨⟨?_,fun id k hk=> ?_,fun i hi=>Np (by omega)⟩,fun i ty' cs hi hg=>by rw[AH,zw (by omega)];exact hg⟩,⟨0,rfl,fun k hk=> ?_⟩,fun i hi=>by simp[Gx]at hi;omega⟩
   ·exact hh.put (fun i hi=>by simp[MN]at hi) (fun id z _ hz i hi=>Np fun he=>by have:=(hb id z hz).2 i hi;omega) ⟨rfl,rfl,rfl,rfl,RLx.nil⟩
   ·rw[AH]at hk;split at hk
    ·cases hk;exact⟨by omega,fun i hi=>by simp[MN]at hi⟩
    ·exact(hb.mono (by omega)) id k hk
   ·rw[AH,zr rfl]at hk;cases hk;rfl
  |ow id=>
   simp only[tnC]at h;split at h
   ·rename_i ty' deep' t' l hg;split at h
    ·rename_i he;split at h
     ·rename_i hc;simp only[za2,beq_iff_eq]at hc;simp only[zx,Prod.mk.injEq]at h;obtain⟨rfl,rfl,rfl⟩:=h;subst he;have e1:=za8 hc.1;have e2:=hc.2;subst e1;subst e2;obtain⟨k,hk,k1,k2,k3,k4,k5⟩:=hh id _ hg;obtain⟨n',rfl,hlen⟩:=hv0;have hn':=hlen _ hg;cases hn';refine⟨.ar id 0 l.length,hv,?_,NT.refl hh hb,⟨_,rfl,hlen⟩,hi⟩;show(match hv id with|some k=>if k.kind=Kind.arr/\0=0/\l.length=k.rows.length/\k.ty=ty'/\k.size=t'.size/\k.deep=deep' then some (V.ar id 0 l.length,hv,0)else none|none=>none)=_;rw[hk];simp only;rw[zr ⟨k1,trivial,k5.1.symm,k2,k4,k3⟩]
     ·cases h
    ·cases h
   ·cases h
  |_=>simp[tnC]at h
 |im t=>
  simp only[tnC]at h;split at h
  ·rename_i l hl;simp only[zx,Prod.mk.injEq]at h;obtain⟨rfl,rfl,rfl⟩:=h;obtain⟨g1,g2⟩:=Z9 (frV v) hh;have nt:NT b 0 hp (Fz hp (frV v)) (freeze hv (frV v)):=⟨⟨g1,Qi _ hb,fun i _=>g2 i⟩,fun i ty cs _ hg=>XA _ _ _ _ _ hg⟩;rcases ZF hl hv0 hh.toM with⟨rfl,rfl⟩|⟨rows,rfl,hr⟩|⟨id,lo,n,kb,rfl,hk,hkk,hr⟩
   ·have hf:frV v=[]:=by
     cases v<;>first|rfl|(obtain⟨n,hy,_⟩:=hv0;cases hy)|(have:V.em=_:=hv0;cases this)
    exact⟨.im [],_,by rw[hf];rfl,nt,.inr ⟨[],rfl,RLx.nil⟩,fun i hi=>by simp[Gx]at hi⟩
   ·have hf:frV v=[]:=by
     cases v<;>first|rfl|(obtain⟨n,hy,_⟩:=hv0;cases hy)|(have:V.im rows=_:=hv0;cases this)
    exact⟨.im rows,_,by rw[hf];rfl,nt,.inr ⟨rows,rfl,hr⟩,fun i hi=>by simp[Gx]at hi⟩
   ·have hf:frV v=[id]:=by
     cases v with
     |ow id'=>obtain⟨n',hy,_⟩:=hv0;cases hy;rfl
     |ar a b c=>have:V.ar id lo n=_:=hv0;cases this;rfl
     |em=>have:V.ar id lo n=_:=hv0;cases this
     |er e=>have:V.ar id lo n=_:=hv0;cases this
     |im t' l'=>rcases hv0 with⟨_,hy⟩|⟨_,hy,_⟩<;>cases hy
     |_=>simp[Io,asL]at hl
    refine⟨.im ((kb.rows.take (lo+n)).drop lo),_,?_,nt,.inr ⟨_,rfl,hr⟩,fun i hi=>by simp[Gx]at hi⟩;rw[hf];show(match hv id with|some k=>(match k.kind with|.box=>none|_=>some (V.im ((k.rows.take (lo+n)).drop lo),freeze hv [id],0))|none=>none)=_;rw[hk];simp only
  ·cases h
 |sub=>
  cases v with
  |ow id=>
   simp only[tnC]at h;split at h
   ·rename_i ty' deep' t' l hg;simp only[zx,Prod.mk.injEq]at h;obtain⟨rfl,rfl,rfl⟩:=h;obtain⟨n',rfl,hlen⟩:=hv0;have hn':=hlen _ hg;cases hn';exact⟨_,hv,rfl,NT.refl hh hb,rfl,fun i hi=>by simp[Gx]at hi⟩
   ·cases h
  |ar id lo n'=>
   simp only[tnC,zx,Prod.mk.injEq]at h;obtain⟨rfl,rfl,rfl⟩:=h;exact⟨y,hv,rfl,NT.refl hh hb,hv0,hi⟩
  |_=>simp[tnC]at h
theorem iL:∀{ms:List TM}{vs vs':List SV}{ys:List V}{hp hp':THp}{hv:Hp}{b n:Nat},RH hp hv->Bel b hp->(∀i∈vs.flatMap Gx,i<b)->RC (RV0 hp) vs ys->tnL ms vs hp b=some (vs',hp',n)->
  ∃ys' hv',Pa (ms.map TM.md) ys hv b=some (ys',hv',n)/\NT b n hp hp' hv'/\RC (RV0 hp') vs' ys'/\∀i∈vs'.flatMap Gx,i<b+n
 |[],[],vs',ys,hp,hp',hv,b,n,hh,hb,hi,hc,h=>by
  simp only[tnL,zx,Prod.mk.injEq]at h;obtain⟨rfl,rfl,rfl⟩:=h;cases ys with
  |nil=>exact⟨[],hv,rfl,NT.refl hh hb,trivial,fun i hi=>by simp at hi⟩
  |cons a l=>exact hc.elim
 |m::ms,v::vs,vs',ys,hp,hp',hv,b,n,hh,hb,hi,hc,h=>by
  cases ys with
  |nil=>exact hc.elim
  |cons y ys=>
   simp only[tnL]at h;split at h
   ·rename_i z hp1 n1 h1;split at h
    ·rename_i zs hp2 k h2;simp only[zx,Prod.mk.injEq]at h;obtain⟨rfl,rfl,rfl⟩:=h;obtain⟨y',hv1,e1,q1,r1,s1⟩:=qY hh hb (fun i hi'=>hi i (by simp[hi'])) hc.1 h1;obtain⟨ys',hv2,e2,q2,r2,s2⟩:=iL q1.rh q1.bel (fun i hi'=>by have:=hi i (by simp only[zb8,zb0];exact .inr hi');omega) (hc.2.mono fun x hx y hxy=>hxy.keeps fun i hi'=>q1.keep i (hi i (by simp only[zb8,zb0];exact .inr (zb3.2 ⟨x,hx,hi'⟩)))) h2;refine⟨y'::ys',hv2,by simp only[zb9,Pa,e1,e2],q1.trans q2,⟨r1.keeps fun i hi'=>q2.keep i (s1 i hi'),r2⟩,fun i hi'=> ?_⟩;rcases zb0.1 (by simpa only[zb8]using hi')with hi'|hi'
     ·have:=s1 i hi';omega
     ·have:=s2 i hi';omega
    ·cases h
   ·cases h
 |[],_::_,_,_,_,_,_,_,_,_,_,_,_,h=>by simp[tnL]at h
 |_::_,[],_,_,_,_,_,_,_,_,_,_,_,h=>by simp[tnL]at h
theorem re{m:TMs}{v v':SV}{y:V}{b n:Nat}(hh:RH hp hv)(hb:Bel b hp)(hi:∀i∈Ix v,i<b)(hv2:RV2 hp v y)(h:tnV m v hp b=some (v',hp',n)):
  ∃y' hv',XQ m.mds y hv b=some (y',hv',n)/\NV b n hp hp' hv'/\RV2 hp' v' y'/\∀i∈Ix v',i<b+n:=by
 cases m with
 |one m=>
  have h:tnC m v hp b=some (v',hp',n):=h;have cell:(∃y0,RV0 hp v y0/\y0=y)->Ix v=Gx v->Ix v'=Gx v'->(∀y',RV0 hp' v' y'->RV2 hp' v' y')->∃y' hv',XQ (TMs.one m).mds y hv b=some (y',hv',n)/\NV b n hp hp' hv'/\RV2 hp' v' y'/\∀i∈Ix v',i<b+n:=by
   rintro⟨_,h0,rfl⟩ e1 e2 h2;obtain⟨y',hv',q1,q2,q3,q4⟩:=qY hh hb (by rw[<-e1];exact hi) h0 h;exact⟨y',hv',q1,q2.toNV,h2 y' q3,by rw[e2];exact q4⟩
  cases m with
  |keep=>
   simp only[tnC,zx,Prod.mk.injEq]at h;obtain⟨rfl,rfl,rfl⟩:=h;exact⟨y,hv,rfl,(NT.refl hh hb).toNV,hv2,hi⟩
  |own ty deep t=>
   have hw:∃i,v'=.ow i:=by
    cases v<;>simp only[tnC,reduceCtorEq]at h
    ·simp only[zx,Prod.mk.injEq]at h;exact⟨_,h.1.symm⟩
    ·repeat' (split at h)
     all_goals first|(simp only[zx,Prod.mk.injEq]at h;exact⟨_,h.1.symm⟩)|cases h
   obtain⟨i',rfl⟩:=hw;cases v<;>simp only[tnC,reduceCtorEq]at h
   ·exact cell ⟨y,hv2,rfl⟩ rfl rfl fun y' h=>h
   ·exact cell ⟨y,hv2,rfl⟩ rfl rfl fun y' h=>h
  |im t=>
   have hw:∃l,v'=.im t l:=by
    simp only[tnC]at h;split at h
    ·simp only[zx,Prod.mk.injEq]at h;exact⟨_,h.1.symm⟩
    ·cases h
   obtain⟨l',rfl⟩:=hw;cases v<;>first|exact cell ⟨y,hv2,rfl⟩ rfl rfl fun y' h=>h|(simp[tnC,Io,asL]at h;done)
  |sub=>
   have hw:∃i lo k,v'=.ar i lo k:=by
    cases v<;>simp only[tnC,reduceCtorEq]at h
    ·split at h
     ·simp only[zx,Prod.mk.injEq]at h;exact⟨_,_,_,h.1.symm⟩
     ·cases h
    ·simp only[zx,Prod.mk.injEq]at h;exact⟨_,_,_,h.1.symm⟩
   obtain⟨i',lo',k',rfl⟩:=hw;cases v<;>first|exact cell ⟨y,hv2,rfl⟩ rfl rfl fun y' h=>h|(simp[tnC]at h;done)
 |agg l=>
  cases v with
  |agg cs=>
   simp only[tnV]at h;split at h
   ·rename_i cs' hp1 n1 h1;simp only[zx,Prod.mk.injEq]at h;obtain⟨rfl,rfl,rfl⟩:=h;obtain⟨us,rfl,hc⟩:=bh hv2;obtain⟨ys',hv',q1,q2,q3,q4⟩:=iL hh hb hi hc h1;refine⟨.agg ys',hv',?_,q2.toNV,⟨ys',rfl,q3⟩,q4⟩;show(Pa (l.map TM.md) us hv b).map _=_;rw[q1];rfl
   ·cases h
  |_=>simp[tnV]at h
 |box l=>
  cases v with
  |rf id r c=>
   simp only[tnV]at h;split at h
   ·rename_i ty cs hg;split at h
    ·rename_i cs' hp1 n1 h1;split at h
     ·rename_i hok;simp only[zx,Prod.mk.injEq]at h;obtain⟨rfl,rfl,rfl⟩:=h;have:y=.rf id r c:=hv2;subst this;obtain⟨k,hk,k1,k2,row,k3,k4,k5⟩:=hh id _ hg;obtain⟨ys',hv',q1,q2,q3,q4⟩:=iL hh hb (hb id _ hg).2 k5 h1;have hlt:=(hb id _ hg).1;have hbx:=q2.box id ty cs hlt hg;have hkp:∀i,Dk hp1 ((id,some (.box ty cs'))::hp1) i:=fun i=>av (y:=.box ty cs') hbx rfl i
      have hoc:ys'.all BG=true:=by
       have key:∀{xs:List SV}{us:List V},RC (RV0 hp1) xs us->xs.all okT=true->us.all BG=true:=by
        intro xs
        induction xs with
        |nil=>intro us h _;cases us with|nil=>rfl|cons a l=>exact h.elim
        |cons x xs ih=>
         intro us h ho;cases us with
         |nil=>exact h.elim
         |cons u us=>
          simp only[zd1,za2]at ho⊢
          exact⟨sX h.1 ho.1,ih h.2 ho.2⟩
       exact key q3 hok
      have hlen:cs'.length=cs.length:=by
       have:∀{ms:List TM}{vs vs':List SV}{hp hp':THp}{b n:Nat},tnL ms vs hp b=some (vs',hp',n)->vs'.length=vs.length:=by
        intro ms
        induction ms with
        |nil=>intro vs vs' hp hp' b n h;cases vs with|nil=>simp[tnL]at h;simp[h]|cons _ _=>simp[tnL]at h
        |cons m ms ih=>
         intro vs vs' hp hp' b n h;cases vs with
         |nil=>simp[tnL]at h
         |cons v vs=>
          simp only[tnL]at h;split at h
          ·split at h
           ·rename_i h2;simp only[zx,Prod.mk.injEq]at h;obtain⟨rfl,_,_⟩:=h;simp[ih h2]
           ·cases h
          ·cases h
       exact this h1
      refine⟨.rf id r c,upd hv' id (some {k with rows:=[ys']}),?_,⟨?_,fun i z hz=> ?_,fun i hi=>(q2.keep i hi).trans (hkp i)⟩,rfl,fun i hi=>by simp[Ix,ct,Gx]at hi⟩
      ·show(match hv id with|some k=>(match k.kind,k.rows with|Kind.box,[row]=>(match Pa (l.map TM.md) row hv b with|some (cs',hp1,n)=>if cs'.all BG then some (V.rf id r c,upd hp1 id (some {k with rows:=[cs']}),n)else none|none=>none)|_,_=>none)|none=>none)=_;rw[hk];simp only[k1,k3,q1,hoc,if_true]
      ·refine q2.rh.put (fun i _=>hkp i) (fun _ _ _ _ i _=>hkp i) ⟨k1,k2,ys',rfl,?_,q3⟩;show k.size=ys'.length;rw[k4,k5.length,q3.length,hlen]
      ·rw[AH]at hz;split at hz
       ·cases hz;rename_i he;subst he;exact⟨by omega,q4⟩
       ·exact q2.bel i z hz
     ·cases h
    ·cases h
   ·cases h
  |_=>simp[tnV]at h
theorem rc:∀{l:List (Nat×TMs)}{st st':TSt}{s:St},RS st s->Bel (16*st.c) st.hp->(∀t,∀i∈Ix (BI st.tm t),i<16*st.c)->tnS l st=some st'->
  ∃s',RX (GF l) s=some s'/\RS st' s'/\Bel (16*st'.c) st'.hp/\∀t,∀i∈Ix (BI st'.tm t),i<16*st'.c
 |[],st,st',s,hs,hb,hi,h=>by
  simp only[tnS,zx]at h;subst h;exact⟨s,rfl,hs,hb,hi⟩
 |(k,m)::l,st,st',s,hs,hb,hi,h=>by
  simp only[tnS]at h;split at h
  ·rename_i x hp1 n h1;split at h
   ·rename_i hn;have hn:=Nat.le_of_ble_eq_true hn;obtain⟨y',hv1,q1,q2,q3,q4⟩:=re hs.hp hb (hi k) (hs.tm k) h1;obtain⟨s',e1,e2,e3,e4⟩:=rc (s:={tm:=upd s.tm k y',hp:=hv1,c:=s.c+1}) (st:={tm:=(k,x)::st.tm,hp:=hp1,c:=st.c+1}) ⟨fun t=>by
      show RV2 hp1 (BI ((k,x)::st.tm) t) (upd s.tm k y' t);rw[Gw];unfold upd;split
      ·exact q3
      ·exact(hs.tm t).keeps fun i hi'=>q2.keep i (hi t i hi'),q2.rh,by show s.c+1=st.c+1;rw[hs.c]⟩ (q2.bel.mono (by show _<=16*(st.c+1);omega)) (fun t i hi'=>by
      have hi':i∈Ix (BI ((k,x)::st.tm) t):=hi';show i<16*(st.c+1);rw[Gw]at hi';split at hi'
      ·have:=q4 i hi';omega
      ·have:=hi t i hi';omega) h
    refine⟨s',?_,e2,e3,e4⟩;show RX ((k,m.mds)::GF l) s=_;simp only[RX];rw[hs.c,q1];simp only;rw[zr hn];rw[<-hs.c];exact e1
   ·cases h
  ·cases h
theorem qZ:∀{ms:List TMs}{xs xs':List SV}{ys:List V}{hp hp':THp}{hv:Hp}{c:Nat},RH hp hv->Bel (16*c) hp->(∀i∈xs.flatMap Ix,i<16*c)->RC (RV2 hp) xs ys->tnR ms xs hp c=some (xs',hp')->
  ∃ys' hv' c',LI (ms.map TMs.mds) ys hv c=some (ys',hv',c')/\RH hp' hv'/\RC (RV2 hp') xs' ys'/\(∀i,i<16*c->Dk hp hp' i)
 |[],[],xs',ys,hp,hp',hv,c,hh,hb,hi,hc,h=>by
  simp only[tnR,zx,Prod.mk.injEq]at h;obtain⟨rfl,rfl⟩:=h;cases ys with
  |nil=>exact⟨[],hv,c,rfl,hh,trivial,fun i _=>Dk.refl hp i⟩
  |cons a l=>exact hc.elim
 |m::ms,x::xs,xs',ys,hp,hp',hv,c,hh,hb,hi,hc,h=>by
  cases ys with
  |nil=>exact hc.elim
  |cons y ys=>
   simp only[tnR]at h;split at h
   ·rename_i z hp1 n h1;split at h
    ·rename_i hn;have hn:=Nat.le_of_ble_eq_true hn;split at h
     ·rename_i zs hp2 h2;simp only[zx,Prod.mk.injEq]at h;obtain⟨rfl,rfl⟩:=h;obtain⟨y',hv1,q1,q2,q3,q4⟩:=re hh hb (fun i hi'=>hi i (by simp[hi'])) hc.1 h1;obtain⟨ys',hv2,c',e1,e2,e3,e4⟩:=qZ q2.rh (q2.bel.mono (show _<=16*(c+1) by omega)) (fun i hi'=>by have:=hi i (by simp only[zb8,zb0];exact .inr hi');omega) (hc.2.mono fun x hx y hxy=>hxy.keeps fun i hi'=>q2.keep i (hi i (by simp only[zb8,zb0];exact .inr (zb3.2 ⟨x,hx,hi'⟩)))) h2;refine⟨y'::ys',hv2,c',?_,e2,⟨q3.keeps fun i hi'=>e4 i (by have:=q4 i hi';omega),e3⟩,fun i hi'=>(q2.keep i hi').trans (e4 i (by omega))⟩
      simp only[zb9,LI,q1,zr hn,e1]
     ·cases h
    ·cases h
   ·cases h
 |[],_::_,_,_,_,_,_,_,_,_,_,_,h=>by simp[tnR]at h
 |_::_,[],_,_,_,_,_,_,_,_,_,_,h=>by simp[tnR]at h
end
section
variable {hp hp' H:THp} {hv hv':Hp}
theorem Uv{i:Nat}:∀{l:List Nat},sS i l=l.contains i
 |[]=>rfl
 |x::l=>by
  simp only[sS,List.contains_cons];rw[Uv];cases h:Nat.beq x i with
  |true=>have:=za8 h;subst this;simp
  |false=>
   have:x≠i:=fun he=>by subst he;rw[Nat.beq_refl]at h;cases h
   have h2:(i==x)=false:=by simpa using fun he:i=x=>this he.symm
   rw[h2];rfl
theorem Nk:∀{l m:List Nat},nr l m=true->l=m
 |[],[],_=>rfl
 |x::l,y::m,h=>by
  simp only[nr,za2]at h;rw[za8 h.1,Nk h.2]
 |[],_::_,h=>by cases h
 |_::_,[],h=>by cases h
theorem zB{v:SV}{y:V}(hs:LW v=true)(h:RV0 hp v y):Ah y=rf0 v:=by
 cases v with
 |im t l=>rcases h with⟨_,rfl⟩|⟨_,rfl,_⟩<;>rfl
 |ow id=>obtain⟨_,rfl,_⟩:=h;rfl
 |ir t a c=>obtain⟨_,rfl,_⟩:=h;rfl
 |cl f cs=>cases cs with|nil=>have:y=_:=h;subst this;rfl|cons a l=>exact h.elim
 |any=>cases hs
 |agg cs=>exact h.elim
 |tup cs=>exact h.elim
 |_=>have:y=_:=h;subst this;rfl
theorem YF:∀{vs:List SV}{ys:List V},vs.all LW=true->RC (RV0 hp) vs ys->ys.flatMap Ah=vs.flatMap rf0
 |[],[],_,_=>rfl
 |v::vs,y::ys,hs,h=>by
  simp only[zd1,za2]at hs;rw[zb8,zb8,zB hs.1 h.1,YF hs.2 h.2]
 |[],_::_,_,h=>h.elim
 |_::_,[],_,h=>h.elim
theorem Jt{v:SV}{y:V}(hs:Gi v=true)(h:RV2 hp v y):RV1 hp v y/\Ag y=rf1 v/\Al y=rf1 v/\GG y=true:=by
 have cell:∀{v:SV}{y:V},LW v=true->RV0 hp v y->RV1 hp v y/\Ag y=rf0 v/\Al y=rf0 v/\GG y=true:=by
  intro v y hs h;refine⟨h.to1,?_⟩;cases v with
  |im t l=>rcases h with⟨_,rfl⟩|⟨_,rfl,_⟩<;>exact⟨rfl,rfl,rfl⟩
  |ow id=>obtain⟨_,rfl,_⟩:=h;exact⟨rfl,rfl,rfl⟩
  |ir t a c=>obtain⟨_,rfl,_⟩:=h;exact⟨rfl,rfl,rfl⟩
  |cl f cs=>cases cs with|nil=>have:y=_:=h;subst this;exact⟨rfl,rfl,rfl⟩|cons a l=>exact h.elim
  |any=>cases hs
  |agg cs=>exact h.elim
  |tup cs=>exact h.elim
  |_=>have:y=_:=h;subst this;exact⟨rfl,rfl,rfl⟩
 cases v with
 |agg cs=>
  obtain⟨us,rfl,hc⟩:=h;have:=YF hs hc;exact⟨⟨us,rfl,hc⟩,this,this,rfl⟩
 |cl f cs=>
  obtain⟨us,rfl,hc⟩:=h;have:=YF hs hc;exact⟨⟨us,rfl,hc⟩,this,this,rfl⟩
 |tup vs=>cases hs
 |any=>cases hs
 |int k n=>exact cell (v:=.int k n) hs h
 |bool b=>exact cell (v:=.bool b) hs h
 |str s=>exact cell (v:=.str s) hs h
 |sc x=>exact cell (v:=.sc x) hs h
 |em=>exact cell (v:=.em) hs h
 |er e=>exact cell (v:=.er e) hs h
 |im t l=>exact cell (v:=.im t l) hs h
 |ow id=>exact cell (v:=.ow id) hs h
 |ar a b c=>exact cell (v:=.ar a b c) hs h
 |rf a b c=>exact cell (v:=.rf a b c) hs h
 |ir a b c=>exact cell (v:=.ir a b c) hs h
theorem qJ{b:TB}{k:Blk}(hs:bD b=true)(h:RB hp b k):Dm k=rfB b:=by
 cases b with
 |arr ty deep t l=>obtain⟨h1,_⟩:=h;simp only[Dm,h1,rfB]
 |frz ty deep t l=>obtain⟨h1,_⟩:=h;simp only[Dm,h1,rfB]
 |box ty cs=>
  obtain⟨h1,h2,row,h3,h4,h5⟩:=h;unfold Dm;rw[h1,h3];simp only[zb8,List.flatMap_nil,zf1];exact YF hs h5
theorem I6(hh:RH hp hv):∀(k:Nat)(l acc:List Nat){o:List Nat},Iq hp k l acc=some o->F8 hv k l acc=some o
 |0,_,_,_,h=>by cases h
 |k+1,[],acc,o,h=>h
 |k+1,id::l,acc,o,h=>by
  simp only[Iq]at h;simp only[F8];rw[Uv]at h;cases hc:acc.contains id with
  |true=>
   rw[hc]at h;rw[zr rfl];exact I6 hh k l acc h
  |false=>
   rw[hc]at h;rw[zw (by simp)];simp only[cond_false]at h;split at h
   ·cases h
   ·rename_i b hb;obtain⟨hs,h⟩:=DD h;obtain⟨kb,hk,hr⟩:=hh id b hb;simp only[hk,qJ hs hr];exact I6 hh k _ _ h
theorem Q6:∀(o:List Nat)(id:Nat),DJ o id=idx o id
 |[],_=>rfl
 |x::l,id=>by
  unfold idx;rw[List.idxOf?_cons];simp only[DJ];cases h:Nat.beq x id with
  |true=>have:=za8 h;subst this;simp
  |false=>
   have:x≠id:=fun he=>by subst he;rw[Nat.beq_refl]at h;cases h
   have h2:(x==id)=false:=by simpa using this
   rw[h2];simp only[cond_false,zc9,if_false];rw[Q6 l id];unfold idx;cases List.idxOf? id l<;>rfl
theorem nN:∀{o:List Nat}{id j:Nat},idx o id=some j->o[j]? =some id:=by
 intro o id j h;rw[<-Q6]at h
 induction o generalizing j with
 |nil=>cases h
 |cons x l ih=>
  simp only[DJ]at h;cases hx:Nat.beq x id with
  |true=>
   rw[hx]at h;have:=za8 hx;subst this;cases h;rfl
  |false=>
   rw[hx]at h;simp only[cond_false]at h;split at h
   ·rename_i j' hj;cases h;rw[List.getElem?_cons_succ];exact ih hj
   ·cases h
section
variable {f:Nat->Option Nat} (hlen:∀id j,f id=some j->∀b',AG H j=some b'->∃b,AG hp id=some b/\Gt b=Gt b')
include hlen
theorem qH{v:SV}{y:V}(h:RV0 hp v y):RV0 H (FD f v) (CI f y):=by
 cases v with
 |im t l=>rcases h with⟨h1,rfl⟩|⟨rows,rfl,h1⟩;exact .inl ⟨h1,rfl⟩;exact .inr ⟨rows,rfl,h1⟩
 |ow id=>
  obtain⟨n,rfl,h1⟩:=h;simp only[FD,CI];cases hf:f id with
  |none=>trivial
  |some j=>
   refine⟨n,rfl,fun b' hb'=> ?_⟩;obtain⟨b,q1,q2⟩:=hlen id j hf b' hb';rw[<-q2];exact h1 b q1
 |ar id lo n=>
  have:y=_:=h;subst this;simp only[FD,CI];cases hf:f id with
  |none=>trivial
  |some j=>rfl
 |rf id r c=>
  have:y=_:=h;subst this;simp only[FD,CI];cases hf:f id with
  |none=>trivial
  |some j=>rfl
 |ir t a c=>obtain⟨row,rfl,h1⟩:=h;exact⟨row,rfl,h1⟩
 |cl g cs=>cases cs with|nil=>have:y=_:=h;subst this;rfl|cons a l=>exact h.elim
 |any=>trivial
 |agg cs=>exact h.elim
 |tup cs=>exact h.elim
 |_=>have:y=_:=h;subst this;rfl
theorem YE:∀{vs:List SV}{ys:List V},RC (RV0 hp) vs ys->RC (RV0 H) (vs.map (FD f)) (ys.map (CI f))
 |[],[],_=>trivial
 |v::vs,y::ys,h=>⟨qH hlen h.1,YE h.2⟩
 |[],_::_,h=>h.elim
 |_::_,[],h=>h.elim
theorem ie{v:SV}{y:V}(h:RV1 hp v y)(hs:Gi v=true):RV1 H (BW f v) (Du f y):=by
 have cell:∀{v:SV}{y:V},RV0 hp v y->BW f v=FD f v->Du f y=CI f y->RV1 H (BW f v) (Du f y):=by
  intro v y h e1 e2;rw[e1,e2];exact(qH hlen h).to1
 cases v with
 |agg cs=>obtain⟨us,rfl,hc⟩:=h;exact⟨_,rfl,YE hlen hc⟩
 |cl g cs=>obtain⟨us,rfl,hc⟩:=h;exact⟨_,rfl,YE hlen hc⟩
 |im t l=>rcases h with⟨h1,rfl⟩|⟨rows,rfl,h1⟩;exact .inl ⟨h1,rfl⟩;exact .inr ⟨rows,rfl,h1⟩
 |ow id=>obtain⟨n,rfl,h1⟩:=h;exact cell (v:=.ow id) ⟨n,rfl,h1⟩ rfl rfl
 |ir t a c=>obtain⟨row,rfl,h1⟩:=h;exact⟨row,rfl,h1⟩
 |any=>trivial
 |tup cs=>exact h.elim
 |ar id lo n=>have:y=_:=h;subst this;exact cell (v:=.ar id lo n) rfl rfl rfl
 |rf id lo n=>have:y=_:=h;subst this;exact cell (v:=.rf id lo n) rfl rfl rfl
 |_=>have:y=_:=h;subst this;rfl
theorem wY{b:TB}{k:Blk}(h:RB hp b k):RB H (aY f b) (Gf f k):=by
 cases b with
 |arr ty deep t l=>
  obtain⟨h1,h2,h3,h4,h5⟩:=h;have:Gf f k=k:=by unfold Gf;rw[h1]
  rw[this];exact⟨h1,h2,h3,h4,h5⟩
 |frz ty deep t l=>
  obtain⟨h1,h2,h3,h4,h5⟩:=h;have:Gf f k=k:=by unfold Gf;rw[h1]
  rw[this];exact⟨h1,h2,h3,h4,h5⟩
 |box ty cs=>
  obtain⟨h1,h2,row,h3,h4,h5⟩:=h;have e:Gf f k={k with rows:=k.rows.map (·.map (CI f))}:=by unfold Gf;rw[h1]
  rw[e];refine⟨h1,h2,row.map (CI f),by simp[h3],by simpa using h4,YE hlen h5⟩
end
theorem jM{f:Nat->Option Nat}(b:TB):Gt (aY f b)=Gt b:=by cases b<;>rfl
theorem ae{f:Nat->Option Nat}:∀(o:List Nat)(k j:Nat),AG (FC hp f k o) j=if k<=j then(o[j-k]?).bind fun id=>(AG hp id).map (aY f)else none
 |[],k,j=>by simp[FC,AG]
 |id::o,k,j=>by
  simp only[FC];rw[AH,ae o (k+1) j];by_cases h:j=k
  ·subst h;rw[zr rfl,zr (za7 _)];simp;cases AG hp id<;>rfl
  ·rw[zw h];by_cases h2:k<=j
   ·rw[zr h2,zr (by omega),show j-k=(j-(k+1))+1 by omega,List.getElem?_cons_succ]
   ·rw[zw h2,zw (by omega)]
theorem V7(hh:RH hp hv)(o:List Nat):RH (FC hp (DJ o) 0 o) (lkB (AQ hv o))/\∀id j,idx o id=some j->∀b',AG (FC hp (DJ o) 0 o) j=some b'->∃b,AG hp id=some b/\Gt b=Gt b':=by
 have hf:DJ o=idx o:=funext fun id=>Q6 o id
 have hget:∀j b',AG (FC hp (DJ o) 0 o) j=some b'->∃id b,o[j]? =some id/\AG hp id=some b/\b'=aY (idx o) b:=by
  intro j b' hb;rw[ae,zr (Nat.zero_le _),Nat.sub_zero,hf]at hb;obtain⟨id,h1,h2⟩:=Br hb;simp only[zb6]at h2;obtain⟨b,h3,h4⟩:=h2;exact⟨id,b,h1,h3,h4.symm⟩
 have hlen:∀id j,idx o id=some j->∀b',AG (FC hp (DJ o) 0 o) j=some b'->∃b,AG hp id=some b/\Gt b=Gt b':=by
  intro id j hj b' hb;obtain⟨id',b,h1,h2,rfl⟩:=hget j b' hb;rw[nN hj]at h1;cases h1;exact⟨b,h2,(jM b).symm⟩
 refine⟨fun j b' hb=> ?_,hlen⟩;obtain⟨id,b,h1,h2,rfl⟩:=hget j b' hb;obtain⟨k,hk,hr⟩:=hh id b h2;refine⟨Gf (idx o) k,?_,wY hlen hr⟩;show(AQ hv o)[j]? =_;unfold AQ;rw[zd4,h1];simp only[zd7,hk,Option.getD_some]
theorem wX{f:Nat->Option Nat}{y:V}(h:GG y=true):G5 f y=Du f y:=by
 cases y<;>first|rfl|cases h
theorem m5{e:Nat}{keep:List Nat}{st st2:TSt}{s:St}(hs:RS st s)(h:P9 e keep st=some st2):∃s2,(∀K:St->Prop,K s2->Lh e keep s K)/\RS st2 s2:=by
 unfold P9 at h;split at h
 ·rename_i hsure;split at h
  ·rename_i o ho;split at h
   ·rename_i hc;simp only[za2]at hc;simp only[zx]at h;subst h;have hrefs:∀t∈keep,Al (s.tm t)=rf1 (BI st.tm t):=fun t ht=>(Jt (za5.1 hsure t ht) (hs.tm t)).2.2.1
    have hfl:(keep.flatMap fun t=>Al (s.tm t))=keep.flatMap fun t=>rf1 (BI st.tm t):=by
     have:∀(l:List Nat),(∀t∈l,Al (s.tm t)=rf1 (BI st.tm t))->(l.flatMap fun t=>Al (s.tm t))=l.flatMap fun t=>rf1 (BI st.tm t):=by
      intro l
      induction l with
      |nil=>intro _;rfl
      |cons a l ih=>intro h;rw[zb8,zb8,h a (by simp),ih fun t ht=>h t (by simp[ht])]
     exact this keep hrefs
    have hcl:=I6 hs.hp _ _ _ ho;obtain⟨h1,hlen⟩:=V7 hs.hp o;have hf:DJ o=idx o:=funext fun id=>Q6 o id
    refine⟨{tm:=lk .any (keep.map fun t=>(t,G5 (idx o) (s.tm t))),hp:=lkB (AQ s.hp o),c:=1},fun K hK=> ?_,⟨?_,h1,rfl⟩⟩
    ·unfold Lh;rw[hfl,hcl];exact⟨Nat.le_of_ble_eq_true hc.1,Nk hc.2,hK⟩
    ·have key:∀(l:List Nat),(∀t∈l,t∈keep)->RT (FC st.hp (DJ o) 0 o) (l.map fun t=>(t,BW (DJ o) (BI st.tm t))) (lk .any (l.map fun t=>(t,G5 (idx o) (s.tm t)))):=by
      intro l
      induction l with
      |nil=>intro _ t;trivial
      |cons a l ih=>
       intro hl t;show RV2 _ (BI ((a,_)::l.map _) t) (if t=a then _ else lk .any (l.map _) t);rw[Gw];split
       ·obtain⟨q1,_,_,q4⟩:=Jt (za5.1 hsure a (hl a (by simp))) (hs.tm a);rw[wX q4,hf];rw[hf]at hlen;exact(ie hlen q1 (za5.1 hsure a (hl a (by simp)))).to2
       ·exact ih (fun t ht=>hl t (by simp[ht])) t
     exact key keep fun t ht=>ht
   ·cases h
  ·cases h
 ·cases h
end
theorem Ag5:∀(u v:Bool)(A B:Type)(a0:u=true->A)(a:A)(b:B),(u=true->∀x y:A,x=y)->Am8 u v A B a0 (mkP u v A B a b)=a
 |true,_,_,_,_,_,_,h=>h rfl _ _
 |false,true,_,_,_,_,_,_=>rfl
 |false,false,_,_,_,_,_,_=>rfl
theorem Aj8:∀(u v:Bool)(A B:Type)(b0:v=true->B)(a:A)(b:B),(v=true->∀x y:B,x=y)->Ao8 u v A B b0 (mkP u v A B a b)=b
 |true,_,_,_,_,_,_,_=>rfl
 |false,true,_,_,_,_,_,h=>h rfl _ _
 |false,false,_,_,_,_,_,_=>rfl
theorem zd:∀(u v:Bool)(A B:Type),u=true->(v=true->∀x y:B,x=y)->v=true->∀x y:jv u v A B,x=y
 |true,true,_,_,_,h,_,x,y=>h rfl x y
 |false,_,_,_,h,_,_,_,_=>by cases h
 |true,false,_,_,_,_,h,_,_=>by cases h
section
variable {ι:Type} {den:ι->Type} {u:ι->Bool} {un:∀x,u x=true->den x} (hu:∀x,u x=true->∀a b:den x,a=b)
include hu
theorem UZ:∀(l:List ι),l.all u=true->∀a b:Qf den u l,a=b
 |[],_,_,_=>rfl
 |x::l,h,a,b=>by
  simp only[zd1,za2]at h;exact zd (u x) (l.all u) (den x) (Qf den u l) h.1 (fun hl=>UZ l hl) h.2 a b
theorem ko(x:ι)(l:List ι)(a:den x)(d:Qf den u l):hdL den u un x l (pu den u x l a d)=a:=Ag5 _ _ _ _ _ _ _ fun h=>hu x h
theorem l7(x:ι)(l:List ι)(a:den x)(d:Qf den u l):tlL den u un x l (pu den u x l a d)=d:=Aj8 _ _ _ _ _ _ _ fun h=>UZ hu l h
end
theorem QB:∀(c:AC),c.isU=true->∀a b:c.den,a=b
 |.at _,_,_,_=>rfl
 |.int _,h,_,_=>by cases h
 |.bool,h,_,_=>by cases h
 |.str,h,_,_=>by cases h
 |.im _,h,_,_=>by cases h
theorem vy(c:AC)(cs:List AC)(a:c.den)(d:Vu cs):hdC c cs (uU c cs a d)=a:=ko QB c cs a d
theorem xM(c:AC)(cs:List AC)(a:c.den)(d:Vu cs):tlC c cs (uU c cs a d)=d:=l7 QB c cs a d
theorem mi:∀(x:Item),x.isU=true->∀a b:x.den,a=b
 |.blk (.box _ cs),h,a,b=>UZ QB cs h a b
 |.blk (.arr _ _ _),h,_,_=>by cases h
 |.slot _ (.cell c),h,a,b=>QB c h a b
 |.slot _ (.agg cs),h,a,b=>UZ QB cs h a b
 |.slot _ (.ref _ _),_,_,_=>rfl
 |.slot _ (.clo _),_,_,_=>rfl
 |.slot _ (.cap _ _),_,_,_=>rfl
 |.slot _ (.sub _),h,_,_=>by cases h
theorem Yu(x:Item)(l:List Item)(a:x.den)(d:CC l):hdI x l (JR x l a d)=a:=ko mi x l a d
theorem UT(x:Item)(l:List Item)(a:x.den)(d:CC l):tlI x l (JR x l a d)=d:=l7 mi x l a d
theorem wU{c:AC}{v:SV}{x:c.den}(h:rdC c v=some x):v=rY c x:=by
 cases c with
 |int k=>
  cases v<;>simp only[rdC,reduceCtorEq]at h
  split at h
  ·rename_i hk;cases h;subst hk;rfl
  ·cases h
 |bool=>cases v<;>simp only[rdC,reduceCtorEq]at h;cases h;rfl
 |str=>cases v<;>simp only[rdC,reduceCtorEq]at h;cases h;rfl
 |err=>cases v<;>simp only[rdC,reduceCtorEq]at h;cases h;rfl
 |im t=>
  cases v<;>simp only[rdC,reduceCtorEq]at h
  split at h
  ·rename_i he;cases h;subst he;rfl
  ·cases h
 | «at» j=>
  cases v<;>simp only[rdC,reduceCtorEq]at h
  split at h
  ·rename_i he;have:=za8 he;subst this;rfl
  ·cases h
theorem hY:∀{cs:List AC}{vs:List SV}{x:Vu cs},wV cs vs=some x->vs=Z2 cs x
 |[],[],_,_=>rfl
 |[],_::_,_,h=>by cases h
 |_::_,[],_,h=>by cases h
 |c::cs,v::vs,x,h=>by
  simp only[wV]at h;split at h
  ·rename_i a ha;split at h
   ·rename_i d hd;cases h;rw[Z2,vy,xM,<-wU ha,<-hY hd]
   ·cases h
  ·cases h
theorem Ai9{b:AB}{tb:TB}{x:b.den}(h:rdB b tb=some x):tb=Ag2 b x:=by
 cases b with
 |arr ty deep t=>
  cases tb<;>simp only[rdB,reduceCtorEq]at h
  split at h
  ·rename_i he;split at h
   ·rename_i hc;simp only[za2,beq_iff_eq]at hc;cases h;subst he;rw[za8 hc.1,hc.2];rfl
   ·cases h
  ·cases h
 |box ty cs=>
  cases tb<;>simp only[rdB,reduceCtorEq]at h
  split at h
  ·rename_i hc;rw[za8 hc,hY h];rfl
  ·cases h
theorem qK:∀{js:List Nat}{vs:List SV},ig js vs=true->vs=js.map fun j=>.rf j 0 0
 |[],[],_=>rfl
 |[],_::_,h=>by simp[ig]at h
 |j::js,v::vs,h=>by
  cases v with
  |rf i r c=>
   cases r with
   |zero=>
    cases c with
    |zero=>
     simp only[ig]at h;cases hb:Nat.beq i j with
     |false=>rw[hb]at h;cases h
     |true=>
      rw[hb]at h;have:=za8 hb;subst this;rw[zb9,<-qK (vs:=vs) h]
    |succ _=>simp[ig]at h
   |succ _=>simp[ig]at h
  |_=>simp[ig]at h
 |_::_,[],h=>by simp[ig]at h
theorem Aj0{a:AS}{v:SV}{x:a.den}(h:rdS a v=some x):v=j4 a x:=by
 cases a with
 |cell c=>exact wU (by cases v<;>exact h)
 |agg cs=>cases v<;>simp only[rdS,reduceCtorEq]at h;rw[hY h];rfl
 |ref j isb=>
  cases isb with
  |false=>
   cases v<;>simp only[rdS,reduceCtorEq]at h
   split at h
   ·rename_i he;have:=za8 he;subst this;rfl
   ·cases h
  |true=>
   cases v with
   |rf i r c=>
    cases r with
    |zero=>
     cases c with
     |zero=>
      simp only[rdS]at h;split at h
      ·rename_i he;have:=za8 he;subst this;rfl
      ·cases h
     |succ _=>simp[rdS]at h
    |succ _=>simp[rdS]at h
   |_=>simp[rdS]at h
 |sub j=>
  cases v<;>simp only[rdS,reduceCtorEq]at h
  split at h
  ·rename_i he;have:=za8 he;subst this;cases h;rfl
  ·cases h
 |clo f=>
  cases v with
  |cl g cs=>
   cases cs with
   |nil=>
    simp only[rdS]at h;split at h
    ·rename_i he;have:=za8 he;subst this;rfl
    ·cases h
   |cons _ _=>simp[rdS]at h
  |_=>simp[rdS]at h
 |cap f js=>
  cases v with
  |cl g cs=>
   simp only[rdS]at h;split at h
   ·rename_i he;rw[za2]at he;have:=za8 he.1;subst this;rw[qK he.2];rfl
   ·cases h
  |_=>simp[rdS]at h
theorem hZ:∀{l:List Item}{k:Nat}{tm:TTm}{hp:THp}{d:CC l},rdI k l tm hp=some d->tm=(Bq k l d).1/\hp=(Bq k l d).2
 |[],k,[],[],d,_=>⟨rfl,rfl⟩
 |[],k,_::_,_,_,h=>by simp[rdI]at h
 |[],k,[],_::_,_,h=>by simp[rdI]at h
 |.blk b::l,k,tm,[],_,h=>by simp[rdI]at h
 |.blk b::l,k,tm,(i,none)::hp,_,h=>by simp[rdI]at h
 |.blk b::l,k,tm,(i,some tb)::hp,d,h=>by
  simp only[rdI]at h;split at h
  ·rename_i hi;have:=za8 hi;subst this;split at h
   ·rename_i x hx;split at h
    ·rename_i y hy;cases h;obtain⟨e1,e2⟩:=hZ hy;rw[Bq,Yu,UT,<-Ai9 hx,<-e1,<-e2];exact⟨rfl,rfl⟩
    ·cases h
   ·cases h
  ·cases h
 |.slot s a::l,k,[],hp,_,h=>by simp[rdI]at h
 |.slot s a::l,k,(i,v)::tm,hp,d,h=>by
  simp only[rdI]at h;split at h
  ·rename_i hi;have:=za8 hi;subst this;split at h
   ·rename_i x hx;split at h
    ·rename_i y hy;cases h;obtain⟨e1,e2⟩:=hZ hy;rw[Bq,Yu,UT,<-Aj0 hx,<-e1,<-e2];exact⟨rfl,rfl⟩
    ·cases h
   ·cases h
  ·cases h
theorem SL(bl:List AB):∀(l:List Item),(GF (LD bl l)).map (·.1)=Gg l
 |[]=>rfl
 |.blk b::l=>SL bl l
 |.slot s a::l=>by
  have:=SL bl l;unfold GF at this⊢
  simp only[LD,Gg,zb9,this]
theorem Nf{e:Nat}{l:List Item}{st:TSt}{s:St}{d:CC l}(hs:RS st s)(h:GB e l st=some d):∃s',(∀K:St->Prop,K s'->F7 e (CG l) s K)/\RS (JS l d) s':=by
 unfold GB at h;split at h
 ·rename_i hb;obtain⟨b1,b2⟩:=Vp hb;split at h
  ·rename_i st1 h1;obtain⟨s1,n1,n2,n3,n4⟩:=rc hs b1 b2 h1;split at h
   ·rename_i st2 h2;obtain⟨s2,c1,c2⟩:=m5 n2 h2;obtain⟨e1,e2⟩:=hZ h;have hc:st2.c=1:=by
     unfold P9 at h2;split at h2
     ·split at h2
      ·split at h2
       ·simp only[zx]at h2;subst h2;rfl
       ·cases h2
      ·cases h2
     ·cases h2
    have:st2=JS l d:=by
     cases st2 with
     |mk tm hp c=>
      simp only at e1 e2 hc;subst e1;subst e2;subst hc;rfl
    rw[this]at c2;refine⟨s2,fun K hK=> ?_,c2⟩;unfold F7;rw[show CG l=GF (LD (C8 l) l)from rfl,n1];simp only[An,SL];exact c1 K hK
   ·cases h
  ·cases h
 ·cases h
structure ResRel (res:List Item) (y:CC res) (r:V) (blks:List Blk):Prop where
 val:RV2 (Bq 0 res y).2 (xO ((Bq 0 res y).1.map (·.2))) r
 blk:RH (Bq 0 res y).2 (lkB blks)
 len:blks.length=(Bq 0 res y).2.length
def Ch(R:Rel)(E:Ent):Prop:=∀x y args blks st,E.F x=some y->RS st (Z4 args blks)->GB E.a.e E.a.params st=some x->Kg args blks=true->args.length=(Gg E.a.params).length->(args.flatMap Ag).eraseDups.length=E.a.e->(E.a.e=0->blks=[])->
 ∃r blks',R E.a.g args blks r blks'/\ResRel E.a.res y r blks'
section
variable {P:Program} {X:TX} {g:FuncId}
theorem bE{α:Type}(hX:XOK P X){st:TSt}{s:St}(hs:RS st s):∀(l:List ResultVar){K:List SV->Option α}{z:α},oR X st.tm st.hp l K=some z->
  ∃xs ys,K xs=some z/\RC (RV2 st.hp) xs ys/\∀KV:List V->Prop,KV ys->Pb P s l KV
 |[],K,z,h=>⟨[],[],h,trivial,fun KV hk=>hk⟩
 |.tmp t::l,K,z,h=>by
  obtain⟨xs,ys,h1,h2,h3⟩:=bE hX hs l h;exact⟨_,_::ys,h1,⟨hs.tm t,h2⟩,fun KV hk=>h3 _ hk⟩
 |.cell a t::l,K,z,h=>by
  simp only[oR]at h;obtain⟨x,u,h1,h2,h3⟩:=kQ hX (hs.tm a) hs.hp.toM h;obtain⟨xs,ys,q1,q2,q3⟩:=bE hX hs l h1;refine⟨_,u::ys,q1,⟨h2,q2⟩,fun KV hk=> ?_⟩;show(match Bj P (.load t (.tmp a)) (AL s.tm) s.hp 0 with|some (x,_)=>Pb P s l fun xs=>KV (x::xs)|none=>False);rw[h3 (AL s.tm) (.tmp a) 0 rfl];exact q3 _ hk
theorem eg{hp:THp}:∀{xs:List SV}{ys:List V}(k:Nat),RC (RV2 hp) xs ys->RT hp (Ue k xs) (lk .any (Ud k ys))
 |[],[],k,_=>fun t=>trivial
 |x::xs,y::ys,k,h=>by
  intro t;show RV2 hp (BI ((k,x)::Ue (k+1) xs) t) (if t=k then y else lk .any (Ud (k+1) ys) t);rw[Gw];split
  ·exact h.1
  ·exact eg (k+1) h.2 t
 |[],_::_,_,h=>h.elim
 |_::_,[],_,h=>h.elim
theorem Sb:∀(xs:List SV)(k:Nat),(Ue k xs).map (·.2)=xs
 |[],_=>rfl
 |x::xs,k=>by simp[Ue,Sb xs (k+1)]
theorem fp{hp:THp}{f:Nat->Option Nat}:∀(o:List Nat)(k:Nat),(FC hp f k o).length=o.length
 |[],_=>rfl
 |id::o,k=>by simp[FC,fp o (k+1)]
theorem RC.all1{hp:THp}:∀{vs:List SV}{ys:List V},vs.all Gi=true->RC (RV2 hp) vs ys->RC (RV1 hp) vs ys/\ys.flatMap Ag=vs.flatMap rf1/\ys.flatMap Al=vs.flatMap rf1/\ys.all GG=true
 |[],[],_,_=>⟨trivial,rfl,rfl,rfl⟩
 |v::vs,y::ys,hs,h=>by
  simp only[zd1,za2]at hs;obtain⟨q1,q2,q3,q4⟩:=Jt hs.1 h.1;obtain⟨e1,e2,e3,e4⟩:=RC.all1 hs.2 h.2;exact⟨⟨q1,e1⟩,by simp only[zb8,q2,e2],by simp only[zb8,q3,e3],by simp[q4,e4]⟩
 |[],_::_,_,h=>h.elim
 |_::_,[],_,h=>h.elim
theorem RC.ren{hp H:THp}{f:Nat->Option Nat}(hlen:∀id j,f id=some j->∀b',AG H j=some b'->∃b,AG hp id=some b/\Gt b=Gt b'):∀{vs:List SV}{ys:List V},vs.all Gi=true->RC (RV1 hp) vs ys->RC (RV1 H) (vs.map (BW f)) (ys.map (Du f))
 |[],[],_,_=>trivial
 |v::vs,y::ys,hs,h=>by
  simp only[zd1,za2]at hs;exact⟨ie hlen h.1 hs.1,RC.ren hlen hs.2 h.2⟩
 |[],_::_,_,h=>h.elim
 |_::_,[],_,h=>h.elim
theorem qL(l:List (Nat×TMs)):(GF l).map (·.2)=(l.map (·.2)).map TMs.mds/\DG (GF l)=l.map (fun p=>V.rf p.1 0 0)/\(GF l).length=l.length:=by
 refine⟨?_,?_,?_⟩
 ·simp[GF]
 ·unfold DG GF;simp
 ·simp[GF]
theorem xd{e:Nat}{st:TSt}{s:St}{res:List Item}{rs:List ResultVar}{y:CC res}(hX:XOK P X)(hs:RS st s)
  (h:(oR X st.tm st.hp rs fun xs=>zc res e st xs)=some y):
  ∃r blks',(IB (GF (Yk (C8 res) e 0 (C8 res))) s.hp=true/\Pb P s rs fun xs=>BH (LI ((GF (Yk (C8 res) e 0 (C8 res))).map (·.2)++(CG res).map (·.2)) (DG (GF (Yk (C8 res) e 0 (C8 res)))++xs) s.hp (s.c+1)) fun z=>hH z.2.1 e r blks' (z.1.drop (GF (Yk (C8 res) e 0 (C8 res))).length))/\ResRel res y r blks':=by
 obtain⟨xs,ys,h1,h2,h3⟩:=bE hX hs rs h;unfold zc at h1;simp only at h1;generalize Yk (C8 res) e 0 (C8 res)=rts at h1⊢
 split at h1
 case isFalse=>cases h1
 rename_i hc;simp only[za2]at hc;obtain⟨⟨c1,c2⟩,c3⟩:=hc;split at h1
 case h_2=>cases h1
 rename_i zs0 hp1 hn;split at h1
 case isFalse=>cases h1
 rename_i hz;split at h1
 case h_2=>cases h1
 rename_i o ho;split at h1
 case isFalse=>cases h1
 rename_i he;obtain⟨m1,m2,m3⟩:=qL rts;have hroot:IB (GF rts) s.hp=true:=by
  unfold xe at c1;unfold IB GF;rw[List.all_map];refine za5.2 fun p hp=> ?_
  have:=za5.1 c1 p hp;simp only[za2]at this;simp only[Function.comp,za2,decide_eq_true_eq];refine⟨P7 this.1,?_⟩;have h4:=this.2;split at h4
  ·rename_i ty cs hg;obtain⟨k,hk,k1,_⟩:=hs.hp p.1 _ hg;rw[hk];simp[k1]
  ·cases h4
 have hsc:s.c=st.c:=hs.c;obtain⟨b1,_⟩:=Vp c3;have hids:∀i∈(rts.map (fun p=>SV.rf p.1 0 0)++xs).flatMap Ix,i<16*(s.c+1):=by
  intro i hi;rw[List.flatMap_append,zb0]at hi;rcases hi with hi|hi
  ·obtain⟨v,hv,hi⟩:=zb3.1 hi;obtain⟨p,_,rfl⟩:=zd3.1 hv;simp[Ix,ct,Gx]at hi
  ·obtain⟨v,hv,hi⟩:=zb3.1 hi;simp only[Vo,za2]at c3;rw[<-Sb xs 0]at hv;obtain⟨p,hp,rfl⟩:=zd3.1 hv;have:=P7 (za5.1 (za5.1 c3.1 p hp) i hi);omega
 have hrc:RC (RV2 st.hp) (rts.map (fun p=>SV.rf p.1 0 0)++xs) (DG (GF rts)++ys):=by
  rw[m2];refine RC.append (RC.map fun p _=>rfl) h2
 obtain⟨ys',hv',c',n1,n2,n3,_⟩:=qZ (c:=s.c+1) hs.hp (by rw[hsc];exact b1) hids hrc (by rw[hsc];exact hn);have hzc:=n3.drop rts.length;obtain⟨a1,a2,a3,a4⟩:=RC.all1 hz hzc;have hcl:=I6 n2 _ _ _ ho;obtain⟨r1,r2⟩:=V7 n2 o;have hf:DJ o=idx o:=funext fun id=>Q6 o id
 obtain⟨e1,e2⟩:=hZ h1;have hvals:(Bq 0 res y).1.map (·.2)=(zs0.drop rts.length).map (BW (DJ o)):=by rw[<-e1,Sb]
 have htake:=Nk he;have hrv:RC (RV1 (FC hp1 (DJ o) 0 o)) ((zs0.drop rts.length).map (BW (DJ o))) ((ys'.drop rts.length).map (Du (idx o))):=by
  rw[hf]at r2⊢
  exact RC.ren r2 hz a1
 have fin:∀r,hH hv' e r (AQ hv' o) (ys'.drop rts.length)->RV2 (FC hp1 (DJ o) 0 o) (xO ((zs0.drop rts.length).map (BW (DJ o)))) r->∃r blks',(IB (GF rts) s.hp=true/\Pb P s rs fun xs=>BH (LI ((GF rts).map (·.2)++(CG res).map (·.2)) (DG (GF rts)++xs) s.hp (s.c+1)) fun z=>hH z.2.1 e r blks' (z.1.drop (GF rts).length))/\ResRel res y r blks':=by
  intro r hr hv;refine⟨r,AQ hv' o,⟨hroot,h3 _ ?_⟩,⟨by rw[hvals,<-e2];exact hv,by rw[<-e2];exact r1,by rw[<-e2,fp];simp[AQ]⟩⟩;have:(GF rts).map (·.2)++(CG res).map (·.2)=(rts.map (·.2)++(LD (C8 res) res).map (·.2)).map TMs.mds:=by
   rw[m1,show CG res=GF (LD (C8 res) res)from rfl,(qL (LD (C8 res) res)).1,List.map_append]
  rw[this,n1];simp only[An,m3];exact hr
 generalize ys'.drop rts.length=zs at a1 a2 a3 a4 hrv fin;generalize zs0.drop rts.length=vs at hrv fin a2 a3 hcl;have many:(xO (vs.map (BW (DJ o)))=.tup (vs.map (BW (DJ o))))->(∀r,hH hv' e r (AQ hv' o) zs=(zs.all GG=true/\aM hv' e (.tup zs) r (AQ hv' o)))->∃r blks',(IB (GF rts) s.hp=true/\Pb P s rs fun xs=>BH (LI ((GF rts).map (·.2)++(CG res).map (·.2)) (DG (GF rts)++xs) s.hp (s.c+1)) fun z=>hH z.2.1 e r blks' (z.1.drop (GF rts).length))/\ResRel res y r blks':=by
  intro ht ho';refine fin (.tup (zs.map (Du (idx o)))) ?_ ?_
  ·rw[ho'];refine⟨a4,?_⟩;unfold aM;rw[show Al (.tup zs)=zs.flatMap Ag from rfl,a2,hcl];exact⟨htake,rfl,rfl⟩
  ·rw[ht];exact⟨_,rfl,hrv⟩
 match zs,vs,a2,a3,a4,hrv,hcl,fin,many with
 |[z],[v],a2,a3,a4,hrv,hcl,fin,_=>
  refine fin (G5 (idx o) z) ?_ ?_
  ·show aM _ _ _ _ _;unfold aM;have:Al z=[v].flatMap rf1:=by simpa using a3
   rw[this,hcl];exact⟨htake,rfl,rfl⟩
  ·have:GG z=true:=by simpa using a4
   rw[wX this];exact hrv.1.to2
 |[],[],_,_,_,_,_,_,many=>exact many rfl fun r=>rfl
 |_::_::_,_::_::_,_,_,_,_,_,_,many=>exact many rfl fun r=>rfl
 |[],_::_,_,_,_,h,_,_,_=>exact h.elim
 |_::_,[],_,_,_,h,_,_,_=>exact h.elim
 |[_],_::_::_,_,_,_,h,_,_,_=>exact h.2.elim
 |_::_::_,[_],_,_,_,h,_,_,_=>exact h.2.elim
end
theorem aA{hp:THp}{hv:Hp}{c:AC}{v x:SV}{y:V}(hh:RH hp hv)(h:Fw hp c v=some x)(hv':RV0 hp v y):
  ∃y',Nr hv y=some y'/\RV0 hp x y'/\EE y=aB v:=by
 cases c with
 |int k=>
  cases v<;>simp only[Fw,reduceCtorEq]at h
  cases h;have:y=_:=hv';subst this;exact⟨_,rfl,rfl,rfl⟩
 |bool=>cases v<;>simp only[Fw,reduceCtorEq]at h;cases h;have:y=_:=hv';subst this;exact⟨_,rfl,rfl,rfl⟩
 |str=>cases v<;>simp only[Fw,reduceCtorEq]at h;cases h;have:y=_:=hv';subst this;exact⟨_,rfl,rfl,rfl⟩
 |err=>cases v<;>simp only[Fw,reduceCtorEq]at h
 | «at» j=>cases v<;>simp[Fw]at h
 |im t=>
  have h':∃l,Io hp t v=some l/\x=.im t l:=by
   simp only[Fw]at h;split at h
   ·rename_i l hl;cases h;exact⟨l,hl,rfl⟩
   ·cases h
  obtain⟨l,h',rfl⟩:=h';have hids:EE y=aB v:=by
   cases v with
   |ow id=>obtain⟨n,rfl,_⟩:=hv';rfl
   |ar a b c=>have:y=_:=hv';subst this;rfl
   |em=>have:y=_:=hv';subst this;rfl
   |er e=>have:y=_:=hv';subst this;rfl
   |im t' l'=>rcases hv' with⟨_,rfl⟩|⟨_,rfl,_⟩<;>rfl
   |_=>simp[Io,asL]at h'
  rcases ZF h' hv' hh.toM with⟨rfl,rfl⟩|⟨rows,rfl,hr⟩|⟨id,lo,n,kb,rfl,hk,hkk,hr⟩
  ·exact⟨.im [],rfl,.inr ⟨[],rfl,RLx.nil⟩,hids⟩
  ·exact⟨.im rows,rfl,.inr ⟨rows,rfl,hr⟩,hids⟩
  ·refine⟨.im ((kb.rows.take (lo+n)).drop lo),?_,.inr ⟨_,rfl,hr⟩,hids⟩;simp only[Nr,hk]
theorem XJ{hp:THp}{hv:Hp}(hh:RH hp hv):∀{cs:List AC}{vs xs:List SV}{ys:List V},Uu hp cs vs=some xs->RC (RV0 hp) vs ys->
  ∃ys',Ns hv ys=some ys'/\RC (RV0 hp) xs ys'/\ys.flatMap EE=vs.flatMap aB
 |[],[],xs,ys,h,hc=>by
  simp only[Uu,zx]at h;subst h;cases ys with
  |nil=>exact⟨[],rfl,trivial,rfl⟩
  |cons a l=>exact hc.elim
 |[],_::_,_,_,h,_=>by cases h
 |_::_,[],_,_,h,_=>by cases h
 |c::cs,v::vs,xs,ys,h,hc=>by
  simp only[Uu]at h;split at h
  ·rename_i x1 hx1;split at h
   ·rename_i x2 hx2;cases h;cases ys with
    |nil=>exact hc.elim
    |cons y ys=>
     obtain⟨y',h1,h2,h3⟩:=aA hh hx1 hc.1;obtain⟨ys',g1,g2,g3⟩:=XJ hh hx2 hc.2;exact⟨y'::ys',by simp only[Ns,h1,g1],⟨h2,g2⟩,by rw[zb8,zb8,h3,g3]⟩
   ·cases h
  ·cases h
theorem nV{hp:THp}{hv:Hp}{a:AS}{v x:SV}{y:V}(hh:RH hp hv)(h:LF hp a v=some x)(hv2:RV2 hp v y):
  ∃y',IN hv y=some y'/\RV2 hp x y'/\NZ y=gW v:=by
 have cell:∀(c:AC),Fw hp c v=some x->RV0 hp v y->gW v=aB v->(∀y',RV0 hp x y'->RV2 hp x y')->IN hv y=Nr hv y->NZ y=EE y->∃y',IN hv y=some y'/\RV2 hp x y'/\NZ y=gW v:=by
  intro c hc h0 e1 e2 e3 e4;obtain⟨y',q1,q2,q3⟩:=aA hh hc h0;exact⟨y',by rw[e3];exact q1,e2 y' q2,by rw[e4,e1];exact q3⟩
 cases a with
 |cell c=>
  have h:Fw hp c v=some x:=by cases v<;>exact h
  have hx:∀y',RV0 hp x y'->RV2 hp x y':=fun y' h=>h.to1.to2
  cases v with
  |int k n=>have:y=_:=hv2;subst this;exact cell c h rfl rfl hx rfl rfl
  |bool b=>have:y=_:=hv2;subst this;exact cell c h rfl rfl hx rfl rfl
  |str s=>have:y=_:=hv2;subst this;exact cell c h rfl rfl hx rfl rfl
  |em=>have:y=_:=hv2;subst this;exact cell c h rfl rfl hx rfl rfl
  |er e=>have:y=_:=hv2;subst this;exact cell c h rfl rfl hx rfl rfl
  |im t l=>rcases hv2 with⟨e,rfl⟩|⟨r,rfl,e⟩;exact cell c h (.inl ⟨e,rfl⟩) rfl hx rfl rfl;exact cell c h (.inr ⟨r,rfl,e⟩) rfl hx rfl rfl
  |ow id=>obtain⟨n,rfl,e⟩:=hv2;exact cell c h ⟨n,rfl,e⟩ rfl hx rfl rfl
  |ar a b d=>have:y=_:=hv2;subst this;exact cell c h rfl rfl hx rfl rfl
  |sc a=>cases c<;>simp[Fw,Io,asL]at h
  |rf a b d=>cases c<;>simp[Fw,Io,asL]at h
  |ir a b d=>cases c<;>simp[Fw,Io,asL]at h
  |agg cs=>cases c<;>simp[Fw,Io,asL]at h
  |tup cs=>cases c<;>simp[Fw,Io,asL]at h
  |cl f cs=>cases c<;>simp[Fw,Io,asL]at h
  |any=>cases c<;>simp[Fw,Io,asL]at h
 |agg cs=>
  cases v with
  |agg vs=>
   simp only[LF]at h;split at h
   ·rename_i l hl;cases h;obtain⟨us,rfl,hc⟩:=bh hv2;obtain⟨ys',q1,q2,q3⟩:=XJ hh hl hc;exact⟨.agg ys',by simp only[IN,q1],⟨ys',rfl,q2⟩,q3⟩
   ·cases h
  |_=>simp[LF]at h
 |ref j isb=>
  cases isb with
  |true=>
   cases v<;>simp only[LF,reduceCtorEq]at h
   cases h;have:y=_:=hv2;subst this;exact⟨_,rfl,rfl,rfl⟩
  |false=>cases v<;>simp[LF]at h
 |sub j=>cases v<;>simp[LF]at h
 |clo f=>
  cases v with
  |cl g cs=>
   cases cs with
   |nil=>
    simp only[LF,zx]at h;subst h;obtain⟨us,rfl,hc⟩:=qM hv2;cases us with
    |nil=>exact⟨.cl g [],rfl,⟨[],rfl,trivial⟩,rfl⟩
    |cons a l=>exact hc.elim
   |cons a l=>simp[LF]at h
  |_=>simp[LF]at h
 |cap f js=>cases v<;>simp[LF]at h
theorem SM{hp:THp}{hv:Hp}(hh:RH hp hv):∀{l:List AS}{vs xs:List SV}{ys:List V},VS hp l vs=some xs->RC (RV2 hp) vs ys->
  ∃ys',GC hv (l.map aW) ys=some ys'/\RC (RV2 hp) xs ys'/\Ff (l.map aW) ys=MO l vs
 |[],[],xs,ys,h,hc=>by
  simp only[VS,zx]at h;subst h;cases ys with
  |nil=>exact⟨[],rfl,trivial,rfl⟩
  |cons a l=>exact hc.elim
 |[],_::_,_,_,h,_=>by cases h
 |_::_,[],_,_,h,_=>by cases h
 |a::l,v::vs,xs,ys,h,hc=>by
  simp only[VS]at h;split at h
  ·rename_i x1 hx1;split at h
   ·rename_i x2 hx2;cases h;cases ys with
    |nil=>exact hc.elim
    |cons y ys=>
     obtain⟨ys',g1,g2,g3⟩:=SM hh hx2 hc.2;cases hra:aW a with
     |true=>
      rw[hra]at hx1;simp only[cond_true]at hx1;obtain⟨hsv,hx1⟩:=DD hx1;cases hx1;obtain⟨_,_,_,hnt⟩:=Jt hsv hc.1;refine⟨y::ys',?_,⟨hc.1,g2⟩,?_⟩
      ·simp only[GC,zb9,List.headD_cons,List.tail_cons,hra,if_true,hnt,g1]
      ·simp only[Ff,MO,zb9,List.headD_cons,List.tail_cons,hra,if_true,cond_true,g3]
     |false=>
      rw[hra]at hx1;simp only[cond_false]at hx1;obtain⟨y',h1,h2,h3⟩:=nV hh hx1 hc.1;refine⟨y'::ys',?_,⟨h2,g2⟩,?_⟩
      ·simp only[GC,zb9,List.headD_cons,List.tail_cons,hra,zc9,if_false,h1,g1]
      ·simp only[Ff,MO,zb9,List.headD_cons,List.tail_cons,hra,zc9,if_false,cond_false,h3,g3]
   ·cases h
  ·cases h
theorem ZV:∀(l acc:List Nat),ddN acc l=acc++(l.filter fun i=> !acc.contains i).eraseDups
 |[],acc=>by simp[ddN]
 |id::l,acc=>by
  simp only[ddN];rw[Uv];cases h:acc.contains id with
  |true=>
   simp only[cond_true];rw[ZV l acc,List.filter_cons,h];rfl
  |false=>
   simp only[cond_false];rw[ZV l (acc++[id]),List.filter_cons,h];simp only[Bool.not_false,if_true];rw[List.eraseDups_cons,ze6,List.singleton_append,List.filter_filter]
   congr 3
   apply List.filter_congr;intro x _;simp only[List.contains_append,List.contains_cons,List.contains_nil,Bool.or_false,Bool.not_or];rw[Bool.and_comm]
theorem nh(l:List Nat):ddN [] l=l.eraseDups:=by
 rw[ZV];simp only[List.contains_nil,Bool.not_false,List.nil_append];rw[List.filter_eq_self.2 (fun _ _=>rfl)]
theorem tt{hp:THp}{f:Nat->Option Nat}{v:SV}{y:V}(hs:LW v=true)(h0:rf0 v=[])(h:RV0 hp v y):CI f y=y:=by
 cases v with
 |im t l=>rcases h with⟨_,rfl⟩|⟨_,rfl,_⟩<;>rfl
 |ow id=>simp[rf0]at h0
 |ar a b c=>simp[rf0]at h0
 |rf a b c=>simp[rf0]at h0
 |ir t a c=>obtain⟨_,rfl,_⟩:=h;rfl
 |cl f cs=>cases cs with|nil=>have:y=_:=h;subst this;rfl|cons a l=>exact h.elim
 |any=>cases hs
 |agg cs=>exact h.elim
 |tup cs=>exact h.elim
 |_=>have:y=_:=h;subst this;rfl
theorem V8{hp:THp}{f:Nat->Option Nat}:∀{vs:List SV}{ys:List V},vs.all LW=true->vs.flatMap rf0=[]->RC (RV0 hp) vs ys->ys.map (CI f)=ys
 |[],[],_,_,_=>rfl
 |v::vs,y::ys,hs,h0,h=>by
  simp only[zd1,za2]at hs;rw[zb8,List.append_eq_nil_iff]at h0;rw[zb9,tt hs.1 h0.1 h.1,V8 hs.2 h0.2 h.2]
 |[],_::_,_,_,h=>h.elim
 |_::_,[],_,_,h=>h.elim
theorem tu{hp:THp}{f:Nat->Option Nat}{v:SV}{y:V}(hs:Gi v=true)(h0:rf1 v=[])(h:RV1 hp v y):Du f y=y:=by
 cases v with
 |agg cs=>obtain⟨us,rfl,hc⟩:=h;show V.agg _=_;rw[V8 hs h0 hc]
 |cl g cs=>obtain⟨us,rfl,hc⟩:=h;show V.cl _ _=_;rw[V8 hs h0 hc]
 |im t l=>rcases h with⟨_,rfl⟩|⟨_,rfl,_⟩<;>rfl
 |ow id=>simp[rf1,rf0]at h0
 |ar a b c=>simp[rf1,rf0]at h0
 |rf a b c=>simp[rf1,rf0]at h0
 |ir t a c=>obtain⟨_,rfl,_⟩:=h;rfl
 |any=>cases hs
 |tup cs=>exact h.elim
 |_=>have:y=_:=h;subst this;rfl
theorem fk{hp:THp}{f:Nat->Option Nat}:∀{vs:List SV}{ys:List V},vs.all Gi=true->vs.flatMap rf1=[]->RC (RV1 hp) vs ys->ys.map (Du f)=ys
 |[],[],_,_,_=>rfl
 |v::vs,y::ys,hs,h0,h=>by
  simp only[zd1,za2]at hs;rw[zb8,List.append_eq_nil_iff]at h0;rw[zb9,tu hs.1 h0.1 h.1,fk hs.2 h0.2 h.2]
 |[],_::_,_,_,h=>h.elim
 |_::_,[],_,_,h=>h.elim
theorem rZ(c:AC)(x:c.den):LW (rY c x)=true:=by cases c<;>rfl
theorem Sa:∀(cs:List AC)(x:Vu cs),(Z2 cs x).all LW=true
 |[],_=>rfl
 |c::cs,x=>by rw[Z2,zd1,rZ,Sa cs];rfl
theorem nq(a:AS)(x:a.den):Gi (j4 a x)=true:=by
 cases a with
 |cell c=>cases c<;>rfl
 |agg cs=>exact Sa cs x
 |ref j isb=>cases isb<;>rfl
 |sub j=>rfl
 |clo f=>rfl
 |cap f js=>show(js.map fun j=>SV.rf j 0 0).all LW=true;simp[LW]
theorem rX(b:AB)(x:b.den):bD (Ag2 b x)=true:=by
 cases b with
 |arr ty deep t=>rfl
 |box ty cs=>exact Sa cs x
theorem Q0:∀(l:List Item)(k:Nat)(d:CC l),((Bq k l d).1.map (·.2)).all Gi=true
 |[],_,_=>rfl
 |.blk b::l,k,d=>by simp only[Bq];exact Q0 l _ _
 |.slot s a::l,k,d=>by simp only[Bq,zb9,zd1,nq,ze2];exact Q0 l _ _
theorem Qg:∀(l:List Item)(k:Nat)(d:CC l)(i:Nat),i<(Bq k l d).2.length->∃b,(Bq k l d).2[i]? =some (k+i,some b)/\bD b=true
 |[],_,_,i,h=>by simp[Bq]at h
 |.blk b::l,k,d,i,h=>by
  simp only[Bq,zb7]at h⊢
  cases i with
  |zero=>exact⟨_,rfl,rX _ _⟩
  |succ i=>
   obtain⟨b',h1,h2⟩:=Qg l (k+1) (tlI _ l d) i (by omega);exact⟨b',by rw[List.getElem?_cons_succ,h1];congr 2;omega,h2⟩
 |.slot s a::l,k,d,i,h=>by simp only[Bq]at h⊢;exact Qg l k _ i h
theorem XD:∀{l:THp}{k:Nat},(∀i,i<l.length->∃b,l[i]? =some (k+i,some b))->∀i,i<l.length->∃b,l[i]? =some (k+i,some b)/\AG l (k+i)=some b
 |[],_,_,i,h=>by simp at h
 |a::l,k,hl,i,h=>by
  obtain⟨b0,h0⟩:=hl 0 (by simp);simp at h0;subst h0;cases i with
  |zero=>exact⟨b0,rfl,by rw[Nat.add_zero,AH,zr rfl]⟩
  |succ i=>
   obtain⟨b,h1,h2⟩:=XD (l:=l) (k:=k+1) (fun j hj=>by
    obtain⟨b,hb⟩:=hl (j+1) (by simpa using hj);exact⟨b,by rw[List.getElem?_cons_succ]at hb;rw[hb];congr 2;omega⟩) i (by simpa using h)
   exact⟨b,by rw[List.getElem?_cons_succ,h1];congr 2;omega,by rw[AH,zw (by omega),show k+(i+1)=k+1+i by omega];exact h2⟩
theorem pz{l:List Item}{d:CC l}{i:Nat}(h:i<(Bq 0 l d).2.length):∃b,(Bq 0 l d).2[i]? =some (i,some b)/\AG (Bq 0 l d).2 i=some b/\bD b=true:=by
 obtain⟨b,h1,h2⟩:=XD (l:=(Bq 0 l d).2) (k:=0) (fun i hi=>by obtain⟨b,h1,_⟩:=Qg l 0 d i hi;exact⟨b,h1⟩) i h;obtain⟨b',h3,h4⟩:=Qg l 0 d i h;simp only[zf3]at h1 h2 h3;rw[h3]at h1;cases h1;exact⟨b,h3,h2,h4⟩
theorem ve{l:List Item}{d:CC l}{i:Nat}{b:TB}(h:AG (Bq 0 l d).2 i=some b):i<(Bq 0 l d).2.length:=by
 obtain⟨j,hj⟩:=List.getElem?_of_mem (eu h);have hl:=(za4.1 hj).1;obtain⟨b',h1,_⟩:=Qg l 0 d j hl;rw[hj]at h1;simp only[zf3,zx,Prod.mk.injEq]at h1;rw[h1.1];exact hl
theorem sU{hp:THp}{v:SV}{y:V}(hs:LW v=true)(h:RV0 hp v y):HH y=aI v:=by
 cases v with
 |im t l=>rcases h with⟨_,rfl⟩|⟨_,rfl,_⟩<;>rfl
 |ow id=>obtain⟨_,rfl,_⟩:=h;rfl
 |ir t a c=>obtain⟨_,rfl,_⟩:=h;rfl
 |cl f cs=>cases cs with|nil=>have:y=_:=h;subst this;rfl|cons a l=>exact h.elim
 |any=>cases hs
 |agg cs=>exact h.elim
 |tup cs=>exact h.elim
 |_=>have:y=_:=h;subst this;rfl
theorem V0{hp:THp}:∀{vs:List SV}{ys:List V},vs.all LW=true->RC (RV0 hp) vs ys->ys.all HH=vs.all aI
 |[],[],_,_=>rfl
 |v::vs,y::ys,hs,h=>by
  simp only[zd1,za2]at hs⊢
  rw[sU hs.1 h.1,V0 hs.2 h.2]
 |[],_::_,_,h=>h.elim
 |_::_,[],_,h=>h.elim
def niV:V->Bool
 |.agg cs=>cs.all HH
 |x=>HH x
theorem kW(vs:List V):MP (.tup vs)=vs.all niV:=by
 show(vs.all fun|.agg cs=>cs.all HH|x=>HH x)=_
 congr 1
theorem eX{hp:THp}{v:SV}{y:V}(hs:Gi v=true)(h:RV1 hp v y):niV y=g8 v/\MP y=g8 v:=by
 cases v with
 |agg cs=>obtain⟨us,rfl,hcs⟩:=h;have:=V0 hs hcs;exact⟨this,this⟩
 |cl f cs=>
  obtain⟨us,rfl,hcs⟩:=h;cases cs with
  |nil=>cases us with|nil=>exact⟨rfl,rfl⟩|cons a l=>exact hcs.elim
  |cons a l=>cases us with|nil=>exact hcs.elim|cons b m=>exact⟨rfl,rfl⟩
 |im t l=>rcases h with⟨_,rfl⟩|⟨_,rfl,_⟩<;>exact⟨rfl,rfl⟩
 |ow id=>obtain⟨_,rfl,_⟩:=h;exact⟨rfl,rfl⟩
 |ir t a c=>obtain⟨_,rfl,_⟩:=h;exact⟨rfl,rfl⟩
 |any=>cases hs
 |tup cs=>exact h.elim
 |_=>have:y=_:=h;subst this;exact⟨rfl,rfl⟩
theorem sV{hp:THp}{b:TB}{k:Blk}(hs:bD b=true)(h:RB hp b k):Fg k=wy b:=by
 cases b with
 |arr ty deep t l=>obtain⟨h1,h2,h3,_⟩:=h;unfold Fg;rw[h1];exact h3
 |frz ty deep t l=>obtain⟨h1,h2,h3,_⟩:=h;unfold Fg;rw[h1];rfl
 |box ty cs=>
  obtain⟨h1,h2,row,h3,h4,h5⟩:=h;unfold Fg;rw[h1,h3];simp only[zd1,List.all_nil,Bool.and_true];exact V0 hs h5
theorem gQ:∀(l:List Blk)(hp:Hp)(b i:Nat),inst hp b l i=if b<=i/\i<b+l.length then l[i-b]? else hp i
 |[],hp,b,i=>by rw[zw (by simp)];rfl
 |x::l,hp,b,i=>by
  simp only[inst];rw[gQ l];by_cases h:b+1<=i/\i<b+1+l.length
  ·rw[zr h,zr (by simp only[zb7];omega)];rw[show i-b=(i-(b+1))+1 by omega];rfl
  ·rw[zw h];unfold upd;by_cases hi:i=b
   ·subst hi;rw[zr rfl,zr (by simp)];simp
   ·rw[zw hi,zw (by simp only[zb7];omega)]
theorem Qx:∀(ids:List Nat)(ks:List Blk)(hp:Hp)(i:Nat),i ∉ ids->setAt hp ids ks i=hp i
 |[],ks,hp,i,_=>by cases ks<;>rfl
 |_::_,[],hp,i,_=>rfl
 |id::ids,k::ks,hp,i,h=>by
  simp only[zc1,not_or]at h;simp only[setAt];rw[Qx ids ks _ i h.2];simp[upd,h.1]
theorem lK:∀(ids:List Nat)(ks:List Blk)(hp:Hp)(j:Nat)(id:Nat),ids.Nodup->ids[j]? =some id->j<ks.length->setAt hp ids ks id=ks[j]?
 |[],_,_,_,_,_,h,_=>by simp at h
 |_::_,[],_,_,_,_,_,h=>by simp at h
 |i::ids,k::ks,hp,j,id,hn,h,hl=>by
  simp only[List.nodup_cons]at hn;simp only[setAt];cases j with
  |zero=>
   simp at h;subst h;rw[Qx ids ks _ i hn.1];simp[upd]
  |succ j=>
   simp only[List.getElem?_cons_succ]at h⊢
   exact lK ids ks _ j id hn.2 h (by simpa using hl)
theorem Qj{l m:THp}{i:Nat}:AG (l++m) i=if i∈l.map (·.1)then AG l i else AG m i:=by
 induction l with
 |nil=>simp
 |cons a l ih=>
  obtain⟨k,x⟩:=a;rw[ze8,AH,ih,AH];by_cases h:i=k
  ·simp[h]
  ·simp only[zb9,zc1,h,false_or,if_false]
theorem SO{α:Type}{hp out:THp}:∀{l:List Nat}{A:Option α}{z:α},kN hp out l A=some z->A=some z/\∀id∈l,∃b b',AG hp id=some b/\AG out id=some b'/\Gt b=Gt b'
 |[],A,z,h=>⟨h,fun id hid=>by simp at hid⟩
 |id::l,A,z,h=>by
  simp only[kN]at h;split at h
  ·rename_i t1 d1 e1 l1 t2 d2 e2 l2 g1 g2;obtain⟨hc,h⟩:=DD h;obtain⟨q1,q2⟩:=SO h;refine⟨q1,fun i hi=> ?_⟩;rcases zc1.1 hi with rfl|hi
   ·exact⟨_,_,g2,g1,by simp only[Gt];rw[of_decide_eq_true hc]⟩
   ·exact q2 i hi
  ·rename_i t1 c1 t2 c2 g1 g2;obtain⟨q1,q2⟩:=SO h;refine⟨q1,fun i hi=> ?_⟩;rcases zc1.1 hi with rfl|hi
   ·exact⟨_,_,g2,g1,rfl⟩
   ·exact q2 i hi
  ·cases h
theorem Sf:∀(l:List Nat)(hp:THp)(i:Nat),AG (EG hp l) i=if i∈l then none else AG hp i
 |[],hp,i=>by simp[EG]
 |id::l,hp,i=>by
  rw[EG,Sf l,AH];by_cases h1:i∈l
  ·simp[h1]
  ·by_cases h2:i=id
   ·subst h2;simp
   ·simp[h1,h2]
theorem uH(o:List Nat)(e n b:Nat):T0 o e n b=Cc o e n b:=by
 funext j
 unfold T0 Cc;by_cases h:j<e
 ·have:Nat.blt j e=true:=Nat.ble_eq_true_of_le h;rw[this,zr h];rfl
 ·have:Nat.blt j e=false:=by cases hb:Nat.blt j e with|false=>rfl|true=>exact absurd (P7 hb) h
  rw[this,zw h];by_cases h2:j<n
  ·have:Nat.blt j n=true:=Nat.ble_eq_true_of_le h2;rw[this,zr h2];rfl
  ·have:Nat.blt j n=false:=by cases hb:Nat.blt j n with|false=>rfl|true=>exact absurd (P7 hb) h2
   rw[this,zw h2];rfl
theorem LS{f:Nat->Option Nat}:∀{L:THp}{i:Nat}{bb:TB},AG (E4 f L) i=some bb->∃j b0,(j,some b0)∈L/\f j=some i/\bb=aY f b0
 |[],_,_,h=>by cases h
 |(k,x)::L,i,bb,h=>by
  simp only[E4]at h;split at h
  ·rename_i i' hk;rw[AH]at h;split at h
   ·rename_i he;subst he;cases x with
    |none=>cases h
    |some b0=>cases h;exact⟨k,b0,by simp,hk,rfl⟩
   ·obtain⟨j,b0,h1,h2,h3⟩:=LS h;exact⟨j,b0,by simp[h1],h2,h3⟩
  ·obtain⟨j,b0,h1,h2,h3⟩:=LS h;exact⟨j,b0,by simp[h1],h2,h3⟩
theorem aX{f:Nat->Option Nat}:∀{L:THp}{j i:Nat}{x:Option TB},(j,x)∈L->f j=some i->i∈(E4 f L).map (·.1)
 |(k,x')::L,j,i,x,h,hf=>by
  simp only[E4];rcases zc1.1 h with h|h
  ·cases h;rw[hf];simp
  ·have:=aX h hf;split
   ·simp only[zb9,zc1];exact .inr this
   ·exact this
section
variable {hp1:Hp} {o:List Nat} {e b:Nat} {blks:List Blk}
theorem rI{i j:Nat}{k:Blk}(hn:o.Nodup)(hlow:∀id∈o,id<b)(heo:e<=o.length)(hen:e<=blks.length)(hj:blks[j]? =some k)(hf:Cc o e blks.length b j=some i):
  CM hp1 o e b blks i=some (Gf (Cc o e blks.length b) k):=by
 have hjl:=(za4.1 hj).1;unfold CM;rw[gQ];unfold Cc at hf;by_cases h:j<e
 ·rw[zr h]at hf;have hlt:=hlow i (za3 hf);rw[zw (by omega)];rw[lK _ _ _ j _ (hn.sublist (List.take_sublist _ _)) (by rw[zc4,zr h];exact hf) (by simp;omega)];rw[zc4,zr h,zd4,hj];rfl
 ·rw[zw h,zr hjl]at hf;cases hf;rw[zr (by simp;omega)];rw[zd5,zd4,show e+(b+(j-e)-b)=j by omega,hj];rfl
theorem gu{i:Nat}(h1:i ∉ o)(h2:¬(b<=i/\i<b+(blks.length-e))):CM hp1 o e b blks i=hp1 i:=by
 unfold CM;rw[gQ,zw (by simpa using h2),Qx _ _ _ _ (fun h=>h1 (List.mem_of_mem_take h)),LE _ _ _ h1]
end
section
variable {α:Type} {P:Program} {R:Rel} {cf:Cfg} {X:TX} {b:Nat} {tm:TTm} {m:Tm} {hp:THp} {hv:Hp} {K:SV->THp->Cls->Option α} {z:α}
theorem dS{E:Ent}{y:CC E.a.res}{o:List Nat}{r:V}{blks':List Blk}(hres:ResRel E.a.res y r blks')(hn:o.Nodup)(hlow:∀id∈o,id<b)(heo:E.a.e<=o.length)(hen:E.a.e<=(Bq 0 E.a.res y).2.length)
  (hlens:∀id∈o.take E.a.e,∃b0 b1,AG hp id=some b0/\AG (E4 (T0 o E.a.e (Bq 0 E.a.res y).2.length b) (Bq 0 E.a.res y).2) id=some b1/\Gt b0=Gt b1)
  {hp1:THp} {hv1:Hp} (hh1:RH hp1 hv1) (hold:∀id∈o,AG hp1 id=AG hp id) (hids:∀i bb,AG hp1 i=some bb->∀q∈MN bb,q<b) (hr:RT hp1 tm m) (htm:∀t,∀i∈Ix (BI tm t),i<b):
  RV2 (E4 (T0 o E.a.e (Bq 0 E.a.res y).2.length b) (Bq 0 E.a.res y).2++EG hp1 (o.drop E.a.e)) (xO ((Bq 0 E.a.res y).1.map fun p=>BW (T0 o E.a.e (Bq 0 E.a.res y).2.length b) p.2)) (G5 (Cc o E.a.e blks'.length b) r)/\
  RH (E4 (T0 o E.a.e (Bq 0 E.a.res y).2.length b) (Bq 0 E.a.res y).2++EG hp1 (o.drop E.a.e)) (CM hv1 o E.a.e b blks')/\
  RT (E4 (T0 o E.a.e (Bq 0 E.a.res y).2.length b) (Bq 0 E.a.res y).2++EG hp1 (o.drop E.a.e)) tm m:=by
 have hlen:=hres.len;have hsure:=Q0 E.a.res 0 y;have hval:=hres.val;have hblk:=hres.blk;have hget:=fun i (h:i<(Bq 0 E.a.res y).2.length)=>pz h
 have hnone:=fun i bb (h:AG (Bq 0 E.a.res y).2 i=some bb)=>ve h
 have hmem:∀j x,(j,x)∈(Bq 0 E.a.res y).2->j<(Bq 0 E.a.res y).2.length/\∃b0,x=some b0/\AG (Bq 0 E.a.res y).2 j=some b0:=by
  intro j x h;obtain⟨i,hi⟩:=List.getElem?_of_mem h;have hl:=(za4.1 hi).1;obtain⟨b0,h1,h2,_⟩:=hget i hl;rw[hi]at h1;simp only[zx,Prod.mk.injEq]at h1;obtain⟨rfl,rfl⟩:=h1;exact⟨hl,b0,rfl,h2⟩
 rw[hlen];generalize hvs:(Bq 0 E.a.res y).1=vs0 at*
 generalize (Bq 0 E.a.res y).2=L at*
 rw[uH]at*
 generalize hn':L.length=n at*
 have hinj:∀i j k,i<n->j<n->Cc o E.a.e n b i=some k->Cc o E.a.e n b j=some k->i=j:=by
  intro i j k hi hj h1 h2;unfold Cc at h1 h2;by_cases a1:i<E.a.e
  ·rw[zr a1]at h1;by_cases a2:j<E.a.e
   ·rw[zr a2]at h2;have g1:=Q7 hn h1;have g2:=Q7 hn h2;rw[g1]at g2;exact zv g2
   ·rw[zw a2,zr hj]at h2;cases h2;have:=hlow _ (za3 h1);omega
  ·rw[zw a1,zr hi]at h1;cases h1;by_cases a2:j<E.a.e
   ·rw[zr a2]at h2;have:=hlow _ (za3 h2);omega
   ·rw[zw a2,zr hj]at h2;have:=zv h2;omega
 have hfn:∀i k,Cc o E.a.e n b i=some k->i<n:=by
  intro i k h;unfold Cc at h;by_cases a1:i<E.a.e
  ·omega
  ·rw[zw a1]at h;split at h
   ·assumption
   ·cases h
 have hkey:∀j i,Cc o E.a.e n b j=some i->i∈(E4 (Cc o E.a.e n b) L).map (·.1):=by
  intro j i h;obtain⟨b0,h1,_⟩:=hget j (by rw[<-hn']at*;exact hfn j i h);exact aX (za3 h1) h
 have hlow2:∀j i,Cc o E.a.e n b j=some i->i<b->j<E.a.e/\i∈o.take E.a.e:=by
  intro j i h hi;unfold Cc at h;by_cases a1:j<E.a.e
  ·rw[zr a1]at h;exact⟨a1,za3 (i:=j) (by rw[zc4,zr a1];exact h)⟩
  ·rw[zw a1]at h;split at h
   ·cases h;omega
   ·cases h
 have hlenT:∀id j,Cc o E.a.e n b id=some j->∀b',AG (E4 (Cc o E.a.e n b) L++EG hp1 (o.drop E.a.e)) j=some b'->∃b0,AG L id=some b0/\Gt b0=Gt b':=by
  intro id j hj b' hb';rw[Qj,zr (hkey id j hj)]at hb';obtain⟨j',b0,h1,h2,rfl⟩:=LS hb';obtain⟨q1,b1,q2,q3⟩:=hmem j' _ h1;cases q2;have:=hinj id j' j (hfn _ _ hj) q1 hj h2;subst this;exact⟨b0,q3,(jM b0).symm⟩
 have hkn:∀i,i<b->Dk hp1 (E4 (Cc o E.a.e n b) L++EG hp1 (o.drop E.a.e)) i:=by
  intro i hi b' hb';rw[Qj]at hb';split at hb'
  ·rename_i hm;obtain⟨j,b0,h1,h2,rfl⟩:=LS hb';obtain⟨_,hto⟩:=hlow2 j i h2 hi;obtain⟨c0,c1,q1,q2,q3⟩:=hlens i hto;rw[hb']at q2;cases q2;exact⟨c0,by rw[hold i (List.mem_of_mem_take hto)];exact q1,q3⟩
  ·rw[Sf]at hb';split at hb'
   ·cases hb'
   ·exact⟨b',hb',rfl⟩
 refine⟨?_,fun i bb hb=> ?_,hr.keeps fun t i hi=>hkn i (htm t i hi)⟩
 ·
  have e1:(vs0.map fun p=>BW (Cc o E.a.e n b) p.2)=(vs0.map (·.2)).map (BW (Cc o E.a.e n b)):=by simp
  rw[e1];generalize vs0.map (·.2)=vs at hval hsure⊢
  match vs,hval,hsure with
  |[v],hval,hsure=>
   have hs1:Gi v=true:=by simpa using hsure
   obtain⟨q1,_,_,q4⟩:=Jt hs1 (show RV2 L v r from hval);rw[wX q4];exact(ie hlenT q1 hs1).to2
  |[],hval,hsure=>
   obtain⟨us,rfl,hc⟩:=(show ∃us,r=.tup us/\RC (RV1 L) [] us from hval);cases us with
   |nil=>exact⟨[],rfl,trivial⟩
   |cons a l=>exact hc.elim
  |v1::v2::vs,hval,hsure=>
   obtain⟨us,rfl,hc⟩:=(show ∃us,r=.tup us/\RC (RV1 L) (v1::v2::vs) us from hval);exact⟨us.map (Du (Cc o E.a.e n b)),rfl,RC.ren hlenT hsure hc⟩
 ·rw[Qj]at hb;split at hb
  ·obtain⟨j,b0,h1,h2,rfl⟩:=LS hb;obtain⟨q1,b1,q2,q3⟩:=hmem j _ h1;cases q2;obtain⟨kj,hkj,hrb⟩:=hblk j b0 q3;have hkj:blks'[j]? =some kj:=hkj;refine⟨Gf (Cc o E.a.e n b) kj,?_,wY hlenT hrb⟩;have:=rI (hp1:=hv1) (e:=E.a.e) hn hlow heo (by omega) hkj (by rw[hlen];exact h2);rw[hlen]at this;exact this
  ·rename_i hm;rw[Sf]at hb;split at hb
   ·cases hb
   ·rename_i hd;obtain⟨k,hk,hrb⟩:=hh1 i bb hb;refine⟨k,?_,hrb.keeps fun q hq=>hkn q (hids i bb hb q hq)⟩;rw[gu ?_ ?_]
    ·exact hk
    ·intro hio;rw[<-List.take_append_drop E.a.e o]at hio;rcases zb0.1 hio with hio|hio
     ·obtain⟨j,hj⟩:=List.getElem?_of_mem hio;rw[zc4]at hj;split at hj
      ·rename_i hje;exact hm (hkey j i (by unfold Cc;rw[zr hje];exact hj))
      ·cases hj
     ·exact hd hio
    ·rintro⟨h1,h2⟩;rw[hlen]at h2;exact hm (hkey (E.a.e+(i-b)) i (by unfold Cc;rw[zw (by omega),zr (by omega)];congr 1;omega))
theorem VZ{H:THp}:∀{vs:List SV}{us:List V},vs.all Gi=true->RC (RV1 H) vs us->us.all niV=vs.all g8
 |[],[],_,_=>rfl
 |v::vs,u::us,hs,h=>by
  simp only[zd1,za2]at hs⊢
  rw[(eX hs.1 h.1).1,VZ hs.2 h.2]
 |[],_::_,_,h=>h.elim
 |_::_,[],_,h=>h.elim
theorem wA{res:List Item}{y:CC res}{r:V}{blks':List Blk}(hres:ResRel res y r blks'):gZ ((Bq 0 res y).1.map (·.2)) (Bq 0 res y).2=(MP r&&blks'.all Fg):=by
 have hsure:=Q0 res 0 y;have hval:=hres.val;unfold gZ
 congr 1
 ·generalize (Bq 0 res y).1.map (·.2)=vs at hval hsure
  match vs,hval,hsure with
  |[v],hval,hsure=>
   have hs1:Gi v=true:=by simpa using hsure
   obtain⟨q1,_⟩:=Jt hs1 (show RV2 _ v r from hval);simp only[zd1,List.all_nil,Bool.and_true];exact(eX hs1 q1).2.symm
  |[],hval,hsure=>
   obtain⟨us,rfl,hc⟩:=(show ∃us,r=.tup us/\RC (RV1 (Bq 0 res y).2) [] us from hval);rw[kW,VZ hsure hc]
  |v1::v2::vs,hval,hsure=>
   obtain⟨us,rfl,hc⟩:=(show ∃us,r=.tup us/\RC (RV1 (Bq 0 res y).2) (v1::v2::vs) us from hval);rw[kW,VZ hsure hc]
 ·have h3:(Bq 0 res y).2.map wz=blks'.map Fg:=by
   apply List.ext_getElem?;intro j;rw[zd4,zd4];by_cases hj:j<(Bq 0 res y).2.length
   ·obtain⟨b0,h1,h2,h3⟩:=pz hj;obtain⟨kj,hkj,hrb⟩:=hres.blk j b0 h2;have hkj:blks'[j]? =some kj:=hkj;rw[h1,hkj];simp only[zd7,sV h3 hrb,wz]
   ·rw[List.getElem?_eq_none (by omega),List.getElem?_eq_none (by have:=hres.len;omega)];rfl
  have h4:∀{γ:Type}(l:List γ)(f:γ->Bool),l.all f=(l.map f).all id:=by
   intro γ l f
   induction l with
   |nil=>rfl
   |cons a l ih=>simp only[zd1,zb9,ih];rfl
  rw[h4 (Bq 0 res y).2,h4 blks',h3]
theorem R6{hp:THp}:∀(n:Nat)(l acc o:List Nat),Iq hp n l acc=some o->(∀i∈l,i∈o)/\(∀i∈acc,i∈o)/\∀i∈o,i∈acc\/∃b,AG hp i=some b/\bD b=true/\∀j∈rfB b,j∈o
 |0,_,_,_,h=>by simp[Iq]at h
 |n+1,[],acc,o,h=>by
  simp only[Iq,zx]at h;subst h;exact⟨fun _ h=>by simp at h,fun _ h=>h,fun _ h=>.inl h⟩
 |n+1,id::l,acc,o,h=>by
  simp only[Iq]at h;cases hm:sS id acc with
  |true=>
   rw[hm]at h;simp only[cond_true]at h;obtain⟨h1,h2,h3⟩:=R6 n l acc o h;refine⟨fun i hi=> ?_,h2,h3⟩;rcases zc1.1 hi with rfl|hi
   ·exact h2 _ (by rw[Uv]at hm;simpa using hm)
   ·exact h1 i hi
  |false=>
   rw[hm]at h;simp only[cond_false]at h;cases hb:AG hp id with
   |none=>rw[hb]at h;cases h
   |some b=>
    rw[hb]at h;simp only at h;obtain⟨hs,h⟩:=DD h;obtain⟨h1,h2,h3⟩:=R6 n _ _ o h;refine⟨fun i hi=> ?_,fun i hi=>h2 i (by simp[hi]),fun i hi=> ?_⟩
    ·rcases zc1.1 hi with rfl|hi
     ·exact h2 _ (by simp)
     ·exact h1 i (by simp[hi])
    ·rcases h3 i hi with h4|h4
     ·rcases zb0.1 h4 with h4|h4
      ·exact .inl h4
      ·simp only[zd0]at h4;subst h4;exact .inr ⟨b,hb,hs,fun j hj=>h1 j (by simp[hj])⟩
     ·exact .inr h4
theorem T8{l o:List Nat}(hh:RH hp hv)(h:Iq hp 64 l []=some o):V5 hv l o=true:=by
 obtain⟨h1,_,h3⟩:=R6 64 l [] o h;unfold V5;simp only[za2,za5];refine⟨fun i hi=>by simpa using h1 i hi,fun i hi=> ?_⟩;rcases h3 i hi with h4|⟨b,hb,hs,hr⟩
 ·simp at h4
 ·obtain⟨k,hk,hrb⟩:=hh i b hb;rw[hk];simp only;refine za5.2 fun j hj=> ?_
  rw[qJ hs hrb]at hj;simpa using hr j hj
theorem fP{g:FuncId}{ys ys':List V}{lent:List Nat}{KV:CD}(h1:GC hv (cf.byref g) ys=some ys')(h2:Fu hv (ys'.flatMap Ag)=some [])(h3:Ff (cf.byref g) ys=lent):
  Fi R cf g ys hv b KV=L0 R g ys' lent hv b KV:=by
 unfold Fi;rw[h1]
 dsimp only
 rw[h2,h3]
theorem bO{g:FuncId}{ys ys':List V}{lent:List Nat}{KV:CD}{i:Nat}{l:List Nat}(h1:GC hv (cf.byref g) ys=some ys')(h2:Fu hv (ys'.flatMap Ag)=some (i::l))(h3:Ff (cf.byref g) ys=lent):
  Fi R cf g ys hv b KV=Pc R g ys' lent (ys'.flatMap Ag).eraseDups (i::l) hv b KV:=by
 unfold Fi;rw[h1]
 dsimp only
 rw[h2,h3]
theorem rJ{g:FuncId}{args:List SV}{ys:List V}(hE:∀g E,ep X.ents g=some E->Ch R E/\E.a.g=g/\cf.byref g=(GI E.a.params).map aW)(hh:RH hp hv)(hr:RT hp tm m)(hargs:RC (RV2 hp) args ys)(h:xI X g args tm hp b K=some z):
  ∃x hp' cls y hv',K x hp' cls=some z/\RV2 hp' x y/\RH hp' hv'/\RT hp' tm m/\∀KV:CD,KV y hv' cls->Fi R cf g ys hv b KV:=by
 unfold xI at h;split at h
 case h_2=>cases h
 rename_i E hfe;obtain⟨hEnt,hEg,hbr⟩:=hE g E hfe;split at h
 case h_2=>cases h
 rename_i args' hargs';split at h
 case h_2=>cases h
 rename_i o ho;split at h
 case h_2=>cases h
 rename_i x hx;split at h
 case isFalse=>cases h
 rename_i hc;simp only[za2]at hc;obtain⟨⟨⟨⟨⟨⟨⟨⟨s1,s2⟩,d1⟩,d2⟩,d3⟩,o16⟩,bel⟩,sl⟩,oall⟩:=hc;obtain⟨y,hFy,h⟩:=Br h;simp only at h;split at h
 case isFalse=>cases h
 rename_i hle;simp only[za2]at hle;have hen:=Nat.le_of_ble_eq_true hle.1;have hen16:=Nat.le_of_ble_eq_true hle.2;obtain⟨h,hlens⟩:=SO h;rw[Lo]at h;have o16:=Nat.le_of_ble_eq_true o16;obtain⟨bel1,bel2⟩:=Vp bel;obtain⟨ys',hV,hargs2,hlent⟩:=SM hh hargs' hargs;rw[<-hbr]at hV hlent;generalize MO (GI E.a.params) args=lent at h oall hlent;have hnl:∀id∈o,id ∉ lent:=fun id hid=>by
  have:=za5.1 oall id hid;simp only[za2]at this;exact V1 this.2
 obtain⟨a1,a2,a3,a4⟩:=RC.all1 s1 hargs2;have hlow:∀id∈o,id<b:=fun id hid=>by
  have:=za5.1 oall id hid;simp only[za2]at this;exact P7 this.1
 have hclose:F8 hv 64 (ys'.flatMap Ag) []=some o:=by rw[a2];exact I6 hh _ _ _ ho
 have hcloseC:Fu hv (ys'.flatMap Ag)=some o:=by
  unfold Fu;rw[hclose];simp only;rw[zr (by rw[a2];exact T8 hh ho)]
 obtain⟨c1,c2,_,_⟩:=Hj hv 64 _ _ _ hclose (by simp) (fun id hid=>by simp at hid);have hdir:(ys'.flatMap Ag).eraseDups=o.take E.a.e:=by rw[a2,<-nh];exact(Nk d2).symm
 have hdl:(o.take E.a.e).length=E.a.e:=by rw[Nk d2];exact za8 d3
 have heo:E.a.e<=o.length:=by rw[zd9]at hdl;omega
 obtain⟨r1,r2⟩:=V7 hh o;have hf:DJ o=idx o:=funext fun id=>Q6 o id
 have hren:RC (RV1 (FC hp (DJ o) 0 o)) (args'.map (BW (DJ o))) (ys'.map (Du (idx o))):=by
  rw[hf]at r2⊢
  exact RC.ren r2 s1 a1
 obtain⟨_,e2,_,_⟩:=RC.all1 s2 (hren.mono fun _ _ _ h=>h.to2);have hed:((ys'.map (Du (idx o))).flatMap Ag).eraseDups=List.range E.a.e:=by rw[e2,<-nh];exact Nk d1
 have hids:Kg (ys'.map (Du (idx o))) (AQ hv o)=true:=by
  unfold Kg;simp only[za2,decide_eq_true_eq,beq_iff_eq];refine⟨⟨⟨za5.2 fun i hi=> ?_,za5.2 fun i hi=> ?_⟩,by simpa[AQ]using o16⟩,by rw[hed,List.length_range]⟩
  ·obtain⟨u,hu,hi⟩:=zb3.1 hi;obtain⟨u0,_,rfl⟩:=zd3.1 hu;obtain⟨j,hj,_⟩:=Re hi;have:=(za4.1 (nN hj)).1;simp;omega
  ·obtain⟨k,hk,hi⟩:=zb3.1 hi;unfold AQ at hk;obtain⟨id,_,rfl⟩:=zd3.1 hk;obtain⟨j,hj,_⟩:=fi hi;have:=(za4.1 (nN hj)).1;simp;omega
 have hRS:RS {tm:=Ue 0 (args'.map (BW (DJ o))),hp:=FC hp (DJ o) 0 o,c:=1} (Z4 (ys'.map (Du (idx o))) (AQ hv o)):=
  ⟨eg 0 (hren.mono fun _ _ _ h=>h.to2),r1,rfl⟩
 have hno:E.a.e=0->o=[]:=by
  intro h0;have h1:(ddN [] (args'.flatMap rf1)).length=0:=by rw[za8 d3,h0]
  have h2:args'.flatMap rf1=[]:=by
   cases hl:args'.flatMap rf1 with
   |nil=>rfl
   |cons i l=>
    rw[hl,nh]at h1;simp[List.eraseDups_cons]at h1
  rw[h2]at ho;simpa[Iq]using ho.symm
 obtain⟨r,blks',hR,hres⟩:=hEnt x y _ _ _ hFy hRS hx hids (by rw[zc5,hargs2.length];exact(za8 sl).symm) (by rw[hed,List.length_range]) (fun h0=>by rw[hno h0];rfl);rw[hEg]at hR;have hlenB:=hres.len;have hlens':∀id∈o.take E.a.e,∃b0 b1,AG hp id=some b0/\AG (E4 (T0 o E.a.e (Bq 0 E.a.res y).2.length b) (Bq 0 E.a.res y).2) id=some b1/\Gt b0=Gt b1:=hlens;obtain⟨f1,f2⟩:=Z9 lent hh;have hpl:=dS (E:=E) hres c1 hlow heo hen hlens' hh (fun _ _=>rfl) (fun i bb hb=>(bel1 i bb hb).2) hr bel2
 have hfz:=dS (E:=E) hres c1 hlow heo hen hlens' f1 (fun i hi=>XB _ _ _ (hnl i hi)) (fun i bb hb=>(Qi lent bel1 i bb hb).2) (hr.keeps fun _ i _=>f2 i) bel2;rw[wA hres]at h;have hcallR:∀F:V->List Blk->Prop,F r blks'->JP R g (ys'.map (Du (idx o))) (AQ hv o) F:=fun F hF=>⟨r,blks',hR,hF⟩
 cases o with
 |nil=>
  have he0:E.a.e=0:=by simpa using heo
  have hno:args'.flatMap rf1=[]:=by
   rw[<-a2];cases hL:ys'.flatMap Ag with
   |nil=>rfl
   |cons i l=>
    exfalso;have:=hdir;rw[hL,List.eraseDups_cons,he0]at this;simp at this
  have hsame:ys'.map (Du (idx []))=ys':=fk s1 hno a1;rw[hsame]at hcallR hids;rw[he0]at hpl hfz hen16 h;simp only[List.drop_nil]at hpl hfz;cases hc:(lent.isEmpty||(MP r&&blks'.all Fg))with
  |true=>
   rw[hc]at h;obtain⟨m1,m2,m3⟩:=hpl;refine⟨_,_,_,_,_,h,m1,m2,m3,fun KV hK=> ?_⟩;rw[fP hV hcloseC hlent];refine hcallR _ ⟨by omega,hids,?_⟩;rw[zr hc];exact hK
  |false=>
   rw[hc]at h;obtain⟨m1,m2,m3⟩:=hfz;refine⟨_,_,_,_,_,h,m1,m2,m3,fun KV hK=> ?_⟩;rw[fP hV hcloseC hlent];refine hcallR _ ⟨by omega,hids,?_⟩;rw[zw (by rw[hc];simp)];exact hK
 |cons i l=>
  have hall:((i::l).all fun id=> !lent.contains id)=true:=za5.2 fun id hid=>by simpa using hnl id hid
  cases hc:(lent.isEmpty||(MP r&&blks'.all Fg))with
  |true=>
   rw[hc]at h;obtain⟨m1,m2,m3⟩:=hpl;refine⟨_,_,_,_,_,h,m1,m2,m3,fun KV hK=> ?_⟩;rw[bO hV hcloseC hlent,hdir];unfold Pc;rw[hdl];refine⟨hall,rfl,hids,hcallR _ ⟨by omega,by omega,?_⟩⟩;rw[zr hc];exact hK
  |false=>
   rw[hc]at h;obtain⟨m1,m2,m3⟩:=hfz;refine⟨_,_,_,_,_,h,m1,m2,m3,fun KV hK=> ?_⟩;rw[bO hV hcloseC hlent,hdir];unfold Pc;rw[hdl];refine⟨hall,rfl,hids,hcallR _ ⟨by omega,by omega,?_⟩⟩;rw[zw (by rw[hc];simp)];exact hK
end
end Go.Proofs.YtiijheppiboglaaGreatDoor.Ev
