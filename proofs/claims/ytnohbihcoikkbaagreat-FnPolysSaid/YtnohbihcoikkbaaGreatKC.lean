/- What the theorem of this claim leans on, part 3. -/
import Derived.Test.YtnohbihcoikkbaaGreatKB
import Derived.Laws.Strings
import Derived.Laws.StructEq
set_option maxHeartbeats 2000000
open Option renaming bind_some → za0, map_eq_some_iff → zb4, map_some → zd1
open List renaming getElem?_eq_getElem → za1, getElem?_eq_some_iff → za3, getD_eq_getElem?_getD → za4, mem_of_getElem? → za5, all_eq_true → za6, mem_flatMap → zb0, flatMap_cons → zb2, eq_nil_of_length_eq_zero → zb3, mem_append → zb5, getElem?_take → zb6, drop_eq_getElem_cons → zb9, take_of_length_le → zc0, all_cons → zc1, map_cons → zc2, length_cons → zc6, length_take → zc7, getElem?_replicate → zc8, mem_cons → zc9, getElem?_drop → zd2, getElem?_map → zd5, getElem?_append_left → zd6, mem_map → ze0, getElem?_append → ze2, getElem?_of_mem → ze3, length_append → ze5, drop_zero → ze7, take_length → zf1
open Bool renaming and_eq_true → za2, false_eq_true → zb8, true_and → ze4, not_eq_true' → zf0
open Nat renaming eq_of_beq_eq_true → za7, le_refl → za8, le_trans → zd0, lt_or_ge → zd3, mul_le_mul_right → zd4, lt_of_lt_of_le → zd8, zero_add → ze6, add_mul → zf2, zero_le → zf5
open Int renaming mul_le_mul_of_nonneg_right → za9, mul_le_mul_of_nonneg_left → zb1, tdiv_eq_ediv_of_nonneg → zc3, toNat_natCast → zc4, tmod_eq_emod_of_nonneg → zc5, mul_add → zd7, le_of_lt → ze1, mul_nonneg → ze8, natAbs_natCast → ze9, mul_comm → zf3, mul_assoc → zf4
open Array renaming getD_eq_getD_getElem? → zb7
open Sum renaming elim_inr → zd9
open Go.IntKind renaming wrap → zj, i64 → zk, u64 → zx
open Option.some renaming inj → zy, injEq → zb
open Sum renaming inl → zc, inr → zd
noncomputable section
set_option linter.unusedVariables false
set_option linter.unusedSimpArgs false
set_option linter.unusedSectionVars false
namespace Go.Proofs.YtnohbihcoikkbaaGreat.Ev
section
open Go
inductive Ty where
 |int (k:IntKind)
 |bool
 |str
 |pair (a b:Ty)
 |sl (e:Ty)
 deriving DecidableEq
abbrev Str:=List UInt8
@[reducible] def Ty.den:Ty->Type
 |.int _=>Int
 |.bool=>Bool
 |.str=>Str
 |.pair a b=>a.den×b.den
 |.sl e=>List e.den
def Ty.size:Ty->Nat
 |.pair a b=>a.size+b.size
 |_=>1
inductive SV where
 |int (k:IntKind) (n:Int)
 |bool (b:Bool)
 |str (s:Str)
 |sc (x:Value)
 |er (b:Bool)
 |em
 |im (t:Ty) (l:List t.den)
 |ow (id:Nat)
 |ar (id lo n:Nat)
 |rf (id r c:Nat)
 |ir (t:Ty) (a:t.den) (c:Nat)
 |agg (cs:List SV)
 |tup (vs:List SV)
 |cl (f:FuncId) (caps:List SV)
 |any
 deriving Inhabited
inductive TB where
 |box (ty:TypeId) (cs:List SV)
 |arr (ty:TypeId) (deep:Bool) (t:Ty) (l:List t.den)
 |frz (ty:TypeId) (deep:Bool) (t:Ty) (l:List t.den)
abbrev TTm:=List (Nat×SV)
abbrev THp:=List (Nat×Option TB)
structure TSt where
 tm:TTm
 hp:THp
 c:Nat
def Co:TTm->Nat->SV
 |[],_=>.any
 |(k,x)::l,i=>cond (Nat.beq i k) x (Co l i)
def AA:THp->Nat->Option TB
 |[],_=>none
 |(k,x)::l,i=>cond (Nat.beq i k) x (AA l i)
def getD:List (Nat×TyD)->Nat->Option TyD
 |[],_=>none
 |(k,x)::l,i=>cond (Nat.beq i k) (some x) (getD l i)
def Ns:Value->SV
 |.int k n=>.int k n
 |.bool b=>.bool b
 |.string s=>.str s.data.toList
 |.slice none 0 0=>.em
 |x=>if GD x then .sc x else .any
def RX:Value->SV
 |.agg cs=>.agg (cs.toList.map Ns)
 |x=>Ns x
def Qo:V->SV
 |.v (.int k n)=>.int k n
 |.v (.bool b)=>.bool b
 |.v (.string s)=>.str s.data.toList
 |.v x=>.sc x
 |.em=>.em
 |_=>.any
def opT(tm:TTm):Operand->SV
 |.tmp t=>Co tm t
 |.const c=>RX c
 |.global _=>.any
 |.func f=>.cl f []
def PY{α:Type}(x:SV)(F:SV->α):α:=
 match x with
 |.int k n=>F (.int k n)
 |.bool b=>F (.bool b)
 |.str s=>F (.str s)
 |.sc x=>F (.sc x)
 |.er b=>F (.er b)
 |.em=>F .em
 |.im t l=>F (.im t l)
 |.ow id=>F (.ow id)
 |.ar id lo n=>F (.ar id lo n)
 |.rf id r c=>F (.rf id r c)
 |.ir t a c=>F (.ir t a c)
 |.agg cs=>F (.agg cs)
 |.tup vs=>F (.tup vs)
 |.cl f caps=>F (.cl f caps)
 |.any=>F .any
def W4:(t:Ty)->t.den->List SV
 |.int k,n=>[.int k n]
 |.bool,b=>[.bool b]
 |.str,s=>[.str s]
 |.pair a b,x=>W4 a x.1++W4 b x.2
 |.sl e,l=>[.im e l]
def Hd{t e:Ty}(h:t=e)(l:List t.den):List e.den:=h▸l
def asL(e:Ty):SV->Option (List e.den)
 |.em=>some []
 |.im t l=>if h:t=e then some (Hd h l)else none
 |_=>none
def Ov:(t:Ty)->List SV->Option (t.den×List SV)
 |.int k,.int k' n::r=>if k'=k then some (n,r)else none
 |.bool,.bool b::r=>some (b,r)
 |.str,.str s::r=>some (s,r)
 |.pair a b,cs=>
  match Ov a cs with
  |some (x,r)=>(match Ov b r with|some (y,r')=>some ((x,y),r')|none=>none)
  |none=>none
 |.sl e,v::r=>(match asL e v with|some l=>some (l,r)|none=>none)
 |_,_=>none
def Ao2(t:Ty)(cs:List SV):Option t.den:=
 match Ov t cs with
 |some (x,[])=>some x
 |_=>none
def CI:SV->List SV
 |.agg cs=>cs
 |x=>[x]
def okT:SV->Bool
 |.int .. |.bool _|.str _|.sc _|.em|.im .. |.ow _|.ar .. |.rf .. |.ir .. =>true
 |.cl _ []=>true
 |_=>false
def mkT(g:Bool)(cs:List SV):Option SV:=
 if g then some (.agg cs)else match cs with|[x]=>some x|_=>none
def XO(cs:List SV)(off n:Nat):Option (List SV):=if off+n<=cs.length then some ((cs.drop off).take n)else none
def Ai7(cs:List SV)(off:Nat)(new:List SV):Option (List SV):=
 if off+new.length<=cs.length then some (cs.take off++new++cs.drop (off+new.length))else none
def AO{β:Type}(l:List β)(n:Nat):Option β:=l[n]?
def AI{α:Type}(l:List α)(n:Int):Option α:=if 0<=n then l[n.toNat]? else none
def neL{α:Type}(l:List α):Option Unit:=match l with|[]=>none|_::_=>some ()
def AJ(n:Int)(len:Nat):Option Nat:=if 0<=n/\n.toNat<len then some n.toNat else none
def KC(lo hi:Int)(len:Nat):Option (Nat×Nat):=if 0<=lo/\lo<=hi/\hi<=len then some (lo.toNat,hi.toNat)else none
def AO6(s t:Str):Option Str:=if s.length+t.length<=9223372036854775807 then some (s++t)else none
def Mh(n:Int)(bytes size:Nat):Option Nat:=if 0<=n/\n.toNat*bytes<=Ad/\n.toNat*size<=Ad then some n.toNat else none
def Ij(n bytes size:Nat):Bool:=decide (n*bytes<=Ad)&&decide (n*size<=Ad)
def O2(k:IntKind)(a b:Int):Int:=k.wrap (a*2^(min b.toNat k.bits))
def Lu(k:IntKind)(a b:Int):Int:=a.fdiv (2^(min b.toNat k.bits))
def Mv(k:IntKind)(a b:Int):Int:=k.wrap ((BitVec.ofInt k.bits a&&& BitVec.ofInt k.bits b).toNat:Int)
def orI(k:IntKind)(a b:Int):Int:=k.wrap ((BitVec.ofInt k.bits a|||BitVec.ofInt k.bits b).toNat:Int)
def AT0(k:IntKind)(a b:Int):Int:=k.wrap ((BitVec.ofInt k.bits a^^^BitVec.ofInt k.bits b).toNat:Int)
def VU(s:Str):List Int:=s.map fun c=>(c.toNat:Int)
def Va(l:List Int):Str:=l.map fun n=>UInt8.ofNat n.toNat
section
variable {α:Type}
def Fq(op:BinOp)(k k':IntKind)(a b:Int)(K:SV->Option α):Option α:=
 match op with
 |.shl=>cond (decide (b<0)) none (K (.int k (O2 k a b)))
 |.shr=>cond (decide (b<0)) none (K (.int k (Lu k a b)))
 |_=>
  if k=k' then
   match op with
   |.add=>K (.int k (k.wrap (a+b)))
   |.sub=>K (.int k (k.wrap (a-b)))
   |.mul=>K (.int k (k.wrap (a*b)))
   |.quo=>cond (b==0) none (K (.int k (k.wrap (a.tdiv b))))
   |.rem=>cond (b==0) none (K (.int k (a.tmod b)))
   |.and=>K (.int k (Mv k a b))
   |.or=>K (.int k (orI k a b))
   |.xor=>K (.int k (AT0 k a b))
   |.eql=>K (.bool (a==b))
   |.neq=>K (.bool (a != b))
   |.lss=>K (.bool (decide (a<b)))
   |.leq=>K (.bool (decide (a<=b)))
   |.gtr=>K (.bool (decide (a>b)))
   |.geq=>K (.bool (decide (a>=b)))
   |_=>none
  else none
def Ax4(op:BinOp)(s t:Str)(K:SV->Option α):Option α:=
 match op with
 |.add=>(AO6 s t).bind fun u=>K (.str u)
 |.eql=>K (.bool (s==t))
 |.neq=>K (.bool (!(s==t)))
 |.lss=>K (.bool (Op.bytesLess s t))
 |.leq=>K (.bool (Op.bytesLess s t||s==t))
 |.gtr=>K (.bool (!(Op.bytesLess s t||s==t)))
 |.geq=>K (.bool (!(Op.bytesLess s t)))
 |_=>none
def FN:List SV->List SV->Option Bool
 |[],[]=>some true
 |[.int k a],[.int k' b]=>if k=k' then some (a==b)else none
 |.int k a::x,.int k' b::y=>if k=k' then(match FN x y with|some r=>some ((a==b)&&r)|none=>none)else none
 |_,_=>none
def tUn(u:UnOp)(x:SV)(K:SV->Option α):Option α:=
 match u,x with
 |.not,.bool b=>K (.bool (!b))
 |.neg,.int k n=>K (.int k (k.wrap (0-n)))
 |_,_=>none
def Ab7(flds:List Fld)(tm:TTm):List SV->List (Nat×Operand)->(List SV->Option α)->Option α
 |cs,[],K=>K cs
 |cs,(k,x)::rest,K=>
  match flds[k]? with
  |some f=>PY (opT tm x) fun v=>if(CI v).length=f.size&&(CI v).all okT then(match Ai7 cs f.off (CI v)with|some cs=>Ab7 flds tm cs rest K|none=>none)else none
  |none=>none
def Ar5:SV->Option Int
 |.int _ n=>some n
 |_=>none
def TG(tm:TTm):Option Operand->Int->Option Int
 |none,d=>some d
 |some x,_=>Ar5 (opT tm x)
def LO:List SV->Option (IntKind×List Int)
 |[.int k n]=>some (k,[n])
 |.int k n::l=>match LO l with|some (k',ns)=>if k=k' then some (k,n::ns)else none|none=>none
 |_=>none
def AP7:List Int->Int
 |[]=>0
 |x::l=>l.foldl (fun a b=>if b<a then b else a) x
def VQ:List Int->Int
 |[]=>0
 |x::l=>l.foldl (fun a b=>if b>a then b else a) x
end
def Ey:SV->List Nat
 |.ow id=>[id]
 |_=>[]
def TC:SV->List Nat
 |.agg cs=>cs.flatMap Ey
 |.cl _ cs=>cs.flatMap Ey
 |x=>Ey x
def FQ:SV->List Nat
 |.tup vs=>vs.flatMap TC
 |x=>TC x
def I8:TB->List Nat
 |.box _ cs=>cs.flatMap Ey
 |_=>[]
def Z5(b:Nat)(l:List Nat):Bool:=l.all fun i=> !Nat.beq i b
def FP(tm:TTm)(hp:THp)(b:Nat):Bool:=
 tm.all (fun x=>Z5 b (FQ x.2))&&hp.all fun x=>match x.2 with|some k=>Z5 b (I8 k)|none=>true
def C4(hp:THp):List Nat->THp
 |[]=>hp
 |id::l=>C4 ((id,none)::hp) l
def Ag2:TB->TB
 |.arr ty deep t l=>.frz ty deep t l
 |x=>x
def DG(hp:THp):List Nat->THp
 |[]=>hp
 |id::l=>DG ((id,(AA hp id).map Ag2)::hp) l
def Xv(b:Nat)(hp:THp):THp:=hp.filter fun x=>Nat.blt x.1 b
inductive AC where
 |int (k:IntKind)
 |bool
 |str
 |err
 |im (t:Ty)
 |at (j:Nat)
inductive AB where
 |arr (ty:TypeId) (deep:Bool) (t:Ty)
 |box (ty:TypeId) (cs:List AC)
inductive AS where
 |cell (c:AC)
 |agg (cs:List AC)
 |ref (j:Nat) (isbox:Bool)
 |sub (j:Nat)
 |clo (f:FuncId)
 |cap (f:FuncId) (js:List Nat)
inductive Item where
 |blk (b:AB)
 |slot (s:Nat) (a:AS)
@[reducible] def WD(u v:Bool)(A B:Type):Type:=
 match u,v with
 |true,_=>B
 |false,true=>A
 |false,false=>A×B
def mkP:(u v:Bool)->(A B:Type)->A->B->WD u v A B
 |true,_,_,_,_,b=>b
 |false,true,_,_,a,_=>a
 |false,false,_,_,a,b=>(a,b)
def AP0:(u v:Bool)->(A B:Type)->(u=true->A)->WD u v A B->A
 |true,_,_,_,a,_=>a rfl
 |false,true,_,_,_,x=>x
 |false,false,_,_,_,x=>x.1
def AQ3:(u v:Bool)->(A B:Type)->(v=true->B)->WD u v A B->B
 |true,_,_,_,_,x=>x
 |false,true,_,_,b,_=>b rfl
 |false,false,_,_,_,x=>x.2
section
variable {ι:Type} (den:ι->Type) (u:ι->Bool)
@[reducible] def K9:List ι->Type
 |[]=>Unit
 |x::l=>WD (u x) (l.all u) (den x) (K9 l)
variable (un:∀x,u x=true->den x)
def Ac3:(l:List ι)->l.all u=true->K9 den u l
 |[],_=>()
 |x::l,h=>mkP (u x) (l.all u) (den x) (K9 den u l) (un x (by simp at h;exact h.1)) (Ac3 l (by simp at h⊢;exact h.2))
def hdL(x:ι)(l:List ι)(d:K9 den u (x::l)):den x:=AP0 (u x) (l.all u) (den x) (K9 den u l) (un x) d
def tlL(x:ι)(l:List ι)(d:K9 den u (x::l)):K9 den u l:=AQ3 (u x) (l.all u) (den x) (K9 den u l) (Ac3 den u un l) d
def ZF(x:ι)(l:List ι)(a:den x)(d:K9 den u l):K9 den u (x::l):=mkP (u x) (l.all u) (den x) (K9 den u l) a d
end
@[reducible] def AC.den:AC->Type
 |.int _=>Int
 |.bool=>Bool
 |.str=>Str
 |.err=>Bool
 |.im t=>List t.den
 |.at _=>Unit
def AC.isU:AC->Bool
 |.at _=>true
 |_=>false
def X4:(c:AC)->c.isU=true->c.den
 |.at _,_=>()
 |.int _,h=>by cases h
 |.bool,h=>by cases h
 |.str,h=>by cases h
 |.err,h=>by cases h
 |.im _,h=>by cases h
@[reducible] def Ow(cs:List AC):Type:=K9 AC.den AC.isU cs
def hdC(c:AC)(cs:List AC)(d:Ow (c::cs)):c.den:=hdL AC.den AC.isU X4 c cs d
def tlC(c:AC)(cs:List AC)(d:Ow (c::cs)):Ow cs:=tlL AC.den AC.isU X4 c cs d
def An8(c:AC)(cs:List AC)(a:c.den)(d:Ow cs):Ow (c::cs):=ZF AC.den AC.isU c cs a d
@[reducible] def AB.den:AB->Type
 |.arr _ _ t=>List t.den
 |.box _ cs=>Ow cs
@[reducible] def AS.den:AS->Type
 |.cell c=>c.den
 |.agg cs=>Ow cs
 |.ref _ _=>Unit
 |.sub _=>Nat×Nat
 |.clo _=>Unit
 |.cap _ _=>Unit
@[reducible] def Item.den:Item->Type
 |.blk b=>b.den
 |.slot _ a=>a.den
def AB.isU:AB->Bool
 |.arr _ _ _=>false
 |.box _ cs=>cs.all AC.isU
def AS.isU:AS->Bool
 |.cell c=>c.isU
 |.agg cs=>cs.all AC.isU
 |.ref _ _=>true
 |.sub _=>false
 |.clo _=>true
 |.cap _ _=>true
def Item.isU:Item->Bool
 |.blk b=>b.isU
 |.slot _ a=>a.isU
def AR4:(b:AB)->b.isU=true->b.den
 |.box _ cs,h=>Ac3 AC.den AC.isU X4 cs h
 |.arr _ _ _,h=>by cases h
def AR3:(a:AS)->a.isU=true->a.den
 |.cell c,h=>X4 c h
 |.agg cs,h=>Ac3 AC.den AC.isU X4 cs h
 |.ref _ _,_=>()
 |.clo _,_=>()
 |.cap _ _,_=>()
 |.sub _,h=>by cases h
def AH6:(x:Item)->x.isU=true->x.den
 |.blk b,h=>AR4 b h
 |.slot _ a,h=>AR3 a h
@[reducible] def Ca(l:List Item):Type:=K9 Item.den Item.isU l
def hdI(x:Item)(l:List Item)(d:Ca (x::l)):x.den:=hdL Item.den Item.isU AH6 x l d
def tlI(x:Item)(l:List Item)(d:Ca (x::l)):Ca l:=tlL Item.den Item.isU AH6 x l d
def Nu(x:Item)(l:List Item)(a:x.den)(d:Ca l):Ca (x::l):=ZF Item.den Item.isU x l a d
def Af5:(c:AC)->c.den->SV
 |.int k,n=>.int k n
 |.bool,b=>.bool b
 |.str,s=>.str s
 |.err,b=>.er b
 |.im t,l=>.im t l
 |.at j,_=>.ow j
def R5:(cs:List AC)->Ow cs->List SV
 |[],_=>[]
 |c::cs,d=>Af5 c (hdC c cs d)::R5 cs (tlC c cs d)
def AJ3:(b:AB)->b.den->TB
 |.arr ty deep t,l=>.arr ty deep t l
 |.box ty cs,x=>.box ty (R5 cs x)
def W3:(a:AS)->a.den->SV
 |.cell c,x=>Af5 c x
 |.agg cs,x=>.agg (R5 cs x)
 |.ref j false,_=>.ow j
 |.ref j true,_=>.rf j 0 0
 |.sub j,x=>.ar j x.1 x.2
 |.clo g,_=>.cl g []
 |.cap g js,_=>.cl g (js.map fun j=>.rf j 0 0)
def Bm:Nat->(l:List Item)->Ca l->TTm×THp
 |_,[],_=>([],[])
 |k,.blk b::l,d=>((Bm (k+1) l (tlI (.blk b) l d)).1,(k,some (AJ3 b (hdI (.blk b) l d)))::(Bm (k+1) l (tlI (.blk b) l d)).2)
 |k,.slot s a::l,d=>((s,W3 a (hdI (.slot s a) l d))::(Bm k l (tlI (.slot s a) l d)).1,(Bm k l (tlI (.slot s a) l d)).2)
def GT(l:List Item)(d:Ca l):TSt:={tm:=(Bm 0 l d).1,hp:=(Bm 0 l d).2,c:=1}
def E7:List Item->List Nat
 |[]=>[]
 |.blk _::l=>E7 l
 |.slot s _::l=>s::E7 l
def EH:List Item->List AS
 |[]=>[]
 |.blk _::l=>EH l
 |.slot _ a::l=>a::EH l
def Cv:List Item->List AB
 |[]=>[]
 |.blk b::l=>b::Cv l
 |.slot _ _::l=>Cv l
inductive TM where
 |keep
 |own (ty:TypeId) (deep:Bool) (t:Ty)
 |im (t:Ty)
 |sub
inductive TMs where
 |one (m:TM)
 |agg (l:List TM)
 |box (l:List TM)
def AP9(bl:List AB)(j:Nat):TM:=match bl[j]? with|some (.arr ty deep t)=>.own ty deep t|_=>.keep
def tmC(bl:List AB):AC->TM
 |.im t=>.im t
 |.at j=>AP9 bl j
 |_=>.keep
def tmS(bl:List AB):AS->TMs
 |.cell c=>.one (tmC bl c)
 |.agg cs=>.agg (cs.map (tmC bl))
 |.ref j false=>.one (AP9 bl j)
 |.ref j true=>match bl[j]? with|some (.box _ cs)=>.box (cs.map (tmC bl))|_=>.one .keep
 |.sub _=>.one .sub
 |.clo _=>.one .keep
 |.cap _ _=>.one .keep
def TM.md:TM->Md
 |.keep=>.keep
 |.own ty deep t=>.own ty t.size deep
 |.im _=>.im
 |.sub=>.keep
def TMs.mds:TMs->Mds
 |.one m=>.one m.md
 |.agg l=>.agg (l.map TM.md)
 |.box l=>.box (l.map TM.md)
def JC(bl:List AB):List Item->List (Nat×TMs)
 |[]=>[]
 |.blk _::l=>JC bl l
 |.slot s a::l=>(s,tmS bl a)::JC bl l
def EF(l:List (Nat×TMs)):List (Nat×Mds):=l.map fun p=>(p.1,p.2.mds)
def BQ(l:List Item):List (Nat×Mds):=EF (JC (Cv l) l)
def FK(hp:THp)(e:Ty):SV->Option (List e.den)
 |.ow id=>
  match AA hp id with
  |some (.arr _ _ t l)|some (.frz _ _ t l)=>if h:t=e then some (Hd h l)else none
  |_=>none
 |.ar id lo n=>
  match AA hp id with
  |some (.arr _ _ t l)|some (.frz _ _ t l)=>if h:t=e then some (((Hd h l).take (lo+n)).drop lo)else none
  |_=>none
 |v=>asL e v
def frV:SV->List Nat
 |.ow id=>[id]
 |.ar id _ _=>[id]
 |_=>[]
def tnC(m:TM)(v:SV)(hp:THp)(b:Nat):Option (SV×THp×Nat):=
 match m with
 |.keep=>some (v,hp,0)
 |.own ty deep t=>
  match v with
  |.em=>some (.ow b,(b,some (.arr ty deep t []))::hp,1)
  |.ow id=>
   match AA hp id with
   |some (.arr ty' deep' t' _)=>if t'=t then(if Nat.beq ty' ty&&(deep'==deep)then some (.ow id,hp,0)else none)else none
   |_=>none
  |_=>none
 |.im t=>match FK hp t v with|some l=>some (.im t l,DG hp (frV v),0)|none=>none
 |.sub=>
  match v with
  |.ow id=>match AA hp id with|some (.arr _ _ _ l)=>some (.ar id 0 l.length,hp,0)|_=>none
  |.ar id lo n=>some (.ar id lo n,hp,0)
  |_=>none
def tnL:List TM->List SV->THp->Nat->Option (List SV×THp×Nat)
 |[],[],hp,_=>some ([],hp,0)
 |m::ms,x::xs,hp,b=>
  match tnC m x hp b with
  |some (y,hp1,n)=>
   match tnL ms xs hp1 (b+n)with
   |some (ys,hp2,k)=>some (y::ys,hp2,n+k)
   |none=>none
  |none=>none
 |_,_,_,_=>none
def tnV(m:TMs)(v:SV)(hp:THp)(b:Nat):Option (SV×THp×Nat):=
 match m with
 |.one m=>tnC m v hp b
 |.agg l=>match v with|.agg cs=>(match tnL l cs hp b with|some (cs',hp',n)=>some (.agg cs',hp',n)|none=>none)|_=>none
 |.box l=>
  match v with
  |.rf id r c=>
   match AA hp id with
   |some (.box ty cs)=>(match tnL l cs hp b with|some (cs',hp',n)=>if cs'.all okT then some (.rf id r c,(id,some (.box ty cs'))::hp',n)else none|none=>none)
   |_=>none
  |_=>none
def tnS:List (Nat×TMs)->TSt->Option TSt
 |[],st=>some st
 |(s,m)::l,st=>
  match tnV m (Co st.tm s) st.hp (16*st.c)with
  |some (x,hp,n)=>if Nat.ble n 16 then tnS l {tm:=(s,x)::st.tm,hp:=hp,c:=st.c+1}else none
  |none=>none
def On(tm:TTm)(hp:THp)(b:Nat):Bool:=
 tm.all (fun x=>(FQ x.2).all fun i=>Nat.blt i b)&&hp.all fun x=>match x.2 with|some k=>Nat.blt x.1 b&&(I8 k).all fun i=>Nat.blt i b|none=>true
def rf0:SV->List Nat
 |.ow id=>[id]
 |.ar id _ _=>[id]
 |.rf id _ _=>[id]
 |_=>[]
def rf1:SV->List Nat
 |.agg cs=>cs.flatMap rf0
 |.cl _ caps=>caps.flatMap rf0
 |x=>rf0 x
def rfB:TB->List Nat
 |.box _ cs=>cs.flatMap rf0
 |_=>[]
def Io:SV->Bool
 |.agg _|.tup _|.any=>false
 |.cl _ caps=>caps.isEmpty
 |_=>true
def Eh:SV->Bool
 |.agg cs=>cs.all Io
 |.cl _ caps=>caps.all Io
 |x=>Io x
def S7:TB->Bool
 |.box _ cs=>cs.all Io
 |_=>true
def Ah8(i:Nat):List Nat->Bool
 |[]=>false
 |x::l=>cond (Nat.beq x i) true (Ah8 i l)
def FL(hp:THp):Nat->List Nat->List Nat->Option (List Nat)
 |0,_,_=>none
 |_+1,[],acc=>some acc
 |k+1,id::l,acc=>
  cond (Ah8 id acc) (FL hp k l acc)
   (match AA hp id with
   |none=>none
   |some b=>cond (S7 b) (FL hp k (l++rfB b) (acc++[id])) none)
def Dm:List Nat->Nat->Option Nat
 |[],_=>none
 |x::l,id=>cond (Nat.beq x id) (some 0) (match Dm l id with|some j=>some (j+1)|none=>none)
def YG:List Nat->List Nat->Bool
 |[],[]=>true
 |x::l,y::m=>Nat.beq x y&&YG l m
 |_,_=>false
def DJ(f:Nat->Option Nat):SV->SV
 |.ow id=>match f id with|some j=>.ow j|none=>.any
 |.ar id lo n=>match f id with|some j=>.ar j lo n|none=>.any
 |.rf id r c=>match f id with|some j=>.rf j r c|none=>.any
 |.cl g []=>.cl g []
 |.cl _ _|.agg _|.tup _=>.any
 |x=>x
def BB(f:Nat->Option Nat):SV->SV
 |.agg cs=>.agg (cs.map (DJ f))
 |.cl g caps=>.cl g (caps.map (DJ f))
 |x=>DJ f x
def SP(f:Nat->Option Nat):TB->TB
 |.box ty cs=>.box ty (cs.map (DJ f))
 |x=>x
def FU(hp:THp)(f:Nat->Option Nat):Nat->List Nat->THp
 |_,[]=>[]
 |k,id::l=>(k,match AA hp id with|some b=>some (SP f b)|none=>none)::FU hp f (k+1) l
def Ot(e:Nat)(keep:List Nat)(st:TSt):Option TSt:=
 if keep.all (fun s=>Eh (Co st.tm s))then
  match FL st.hp 64 (List.range e++keep.flatMap fun s=>rf1 (Co st.tm s)) []with
  |some o=>
   if Nat.ble o.length 16&&YG (o.take e) (List.range e)then
    some {tm:=keep.map fun s=>(s,BB (Dm o) (Co st.tm s)),hp:=FU st.hp (Dm o) 0 o,c:=1}
   else none
  |none=>none
 else none
def rdC:(c:AC)->SV->Option c.den
 |.int k,.int k' n=>if k'=k then some n else none
 |.bool,.bool b=>some b
 |.str,.str s=>some s
 |.err,.er b=>some b
 |.im t,.im t' l=>if h:t'=t then some (Hd h l)else none
 |.at j,.ow i=>if Nat.beq i j then some ()else none
 |_,_=>none
def Av0:(cs:List AC)->List SV->Option (Ow cs)
 |[],[]=>some ()
 |c::cs,v::vs=>(match rdC c v with|some x=>(match Av0 cs vs with|some y=>some (An8 c cs x y)|none=>none)|none=>none)
 |_,_=>none
def rdB:(b:AB)->TB->Option b.den
 |.arr ty deep t,.arr ty' deep' t' l=>if h:t'=t then(if Nat.beq ty' ty&&(deep'==deep)then some (Hd h l)else none)else none
 |.box ty cs,.box ty' vs=>if Nat.beq ty' ty then Av0 cs vs else none
 |_,_=>none
def V6:List Nat->List SV->Bool
 |[],[]=>true
 |j::js,.rf i 0 0::vs=>cond (Nat.beq i j) (V6 js vs) false
 |_,_=>false
def rdS:(a:AS)->SV->Option a.den
 |.cell c,v=>rdC c v
 |.agg cs,.agg vs=>Av0 cs vs
 |.ref j false,.ow i=>if Nat.beq i j then some ()else none
 |.ref j true,.rf i 0 0=>if Nat.beq i j then some ()else none
 |.sub j,.ar i lo n=>if Nat.beq i j then some (lo,n)else none
 |.clo f,.cl g []=>if Nat.beq g f then some ()else none
 |.cap f js,.cl g vs=>if Nat.beq g f&&V6 js vs then some ()else none
 |_,_=>none
def rdI:Nat->(l:List Item)->TTm->THp->Option (Ca l)
 |_,[],[],[]=>some ()
 |k,.blk b::l,tm,(i,some tb)::hp=>
  if Nat.beq i k then(match rdB b tb with|some x=>(match rdI (k+1) l tm hp with|some y=>some (Nu (.blk b) l x y)|none=>none)|none=>none)else none
 |k,.slot s a::l,(i,v)::tm,hp=>
  if Nat.beq i s then(match rdS a v with|some x=>(match rdI k l tm hp with|some y=>some (Nu (.slot s a) l x y)|none=>none)|none=>none)else none
 |_,_,_,_=>none
def F6(e:Nat)(l:List Item)(st:TSt):Option (Ca l):=
 if On st.tm st.hp (16*st.c)then
  match tnS (JC (Cv l) l) st with
  |some st1=>(match Ot e (E7 l) st1 with|some st2=>rdI 0 l st2.tm st2.hp|none=>none)
  |none=>none
 else none
structure FAnn where
 g:FuncId
 e:Nat:=0
 params:List Item
 res:List Item
 heads:List (Nat×List Item):=[]
 outs:List (Nat×List (Ex×List Item)):=[]
 joins:List (Nat×List Item):=[]
def Le:List FAnn->FuncId->Option FAnn
 |[],_=>none
 |a::l,g=>cond (Nat.beq a.g g) (some a) (Le l g)
def Dl{α:Type}:List (Nat×α)->Nat->Option α
 |[],_=>none
 |(k,x)::l,i=>cond (Nat.beq k i) (some x) (Dl l i)
def Oz:Ex->Ex->Bool
 |.normal,.normal=>true
 |.ret,.ret=>true
 |.exit i,.exit j=>Nat.beq i j
 |_,_=>false
def Mn:List (Ex×List Item)->Ex->Option (List Item)
 |[],_=>none
 |(e,x)::l,i=>cond (Oz e i) (some x) (Mn l i)
def Qu(bl:List AB):Nat->Nat->List AB->List (Nat×TMs)
 |0,_,_=>[]
 |_,_,[]=>[]
 |e+1,k,.box _ cs::l=>(k,.box (cs.map (tmC bl)))::Qu bl e (k+1) l
 |e+1,k,_::l=>Qu bl e (k+1) l
def AS3:AC->Bool
 |.at _=>true
 |_=>false
def SN:AS->Bool
 |.ref _ false=>true
 |.sub _=>true
 |.agg cs=>cs.any AS3
 |.clo _=>true
 |.cap _ _=>true
 |_=>false
def Kz(tab:List FAnn)(ext:FuncId->Bool):Cfg where
 live g r:=match (Le tab g).bind fun a=>Dl a.heads r with|some l=>BQ l|none=>[]
 out g r ex:=match ((Le tab g).bind fun a=>Dl a.outs r).bind fun l=>Mn l ex with|some l=>BQ l|none=>[]
 join g r:=match (Le tab g).bind fun a=>Dl a.joins r with|some l=>some (BQ l)|none=>none
 res g:=match Le tab g with|some a=>(BQ a.res).map (·.2)|none=>[]
 par g:=match Le tab g with|some a=>BQ a.params|none=>[]
 rts g:=match Le tab g with|some a=>EF (Qu (Cv a.res) a.e 0 (Cv a.res))|none=>[]
 byref g:=match Le tab g with|some a=>(EH a.params).map SN|none=>[]
 isExt:=ext
structure Ent where
 a:FAnn
 F:Ca a.params->Option (Ca a.res)
def Ux:List Ent->FuncId->Option Ent
 |[],_=>none
 |x::l,g=>cond (Nat.beq x.a.g g) (some x) (Ux l g)
structure TX where
 ty:List (Nat×TyD)
 cod:List (Nat×Ty)
 eqs:List Nat
 bools:List Nat
 ents:List Ent
 ann:FAnn
def DB:Ty->Bool
 |.sl _=>false
 |.pair a b=>DB a&&DB b
 |_=>true
section
variable {α:Type} (X:TX)
def PW(t:TypeId):Option (TypeId×TyD×Ty):=
 match getD X.ty t with
 |some d=>
  match d.elem with
  |some e=>
   match getD X.ty e,Dl X.cod e with
   |some de,some c=>if Nat.beq de.size c.size&&(de.zero.all Qt==DB c)then some (e,de,c)else none
   |_,_=>none
  |none=>none
 |none=>none
def ZY(t:TypeId):Bool:=match getD X.ty t with|some d=>d.ifc|none=>false
def J7(t:TypeId):Bool:=match getD X.ty t with|some d=>d.str|none=>false
def AF1(op:BinOp)(t:TypeId)(x y:SV)(K:SV->Option α):Option α:=
 match x,y with
 |.int k a,.int k' b=>Fq op k k' a b K
 |.str s,.str u=>Ax4 op s u K
 |.bool a,.bool b=>
  if X.bools.contains t then(match op with|.eql=>K (.bool (a==b))|.neq=>K (.bool (!(a==b)))|_=>none)else none
 |.agg cs,.agg ds=>
  if X.eqs.contains t then
   match getD X.ty t,FN cs ds with
   |some d,some r=>if Nat.beq cs.length d.size then(match op with|.eql=>K (.bool r)|.neq=>K (.bool (!r))|_=>none)else none
   |_,_=>none
  else none
 |_,_=>none
def tMk(g:Bool)(cs:Option (List SV))(K:SV->Option α):Option α:=
 match cs with
 |some cs=>(match mkT g cs with|some x=>PY x K|none=>none)
 |none=>none
def Ab8(t:TypeId)(v:SV)(hp:THp)(K:SV->Option α):Option α:=
 match getD X.ty t,v with
 |some d,.ir ty a c=>tMk d.agg (XO (W4 ty a) c d.size) K
 |some d,.rf id r c=>
  match AA hp id with
  |some (.box _ cs)=>(match r with|0=>tMk d.agg (XO cs c d.size) K|_=>none)
  |some (.arr _ deep ty l)=>if !deep||DB ty then(AO l r).bind fun a=>tMk d.agg (XO (W4 ty a) c d.size) K else none
  |some (.frz _ _ ty l)=>if DB ty then(AO l r).bind fun a=>tMk d.agg (XO (W4 ty a) c d.size) K else none
  |none=>none
 |_,_=>none
def Qx(hp:THp):SV->Option (SV×List Nat×Bool)
 |.int k n=>some (.int k n,[],true)
 |.bool b=>some (.bool b,[],true)
 |.str s=>some (.str s,[],true)
 |.sc x=>some (.sc x,[],true)
 |.em=>some (.em,[],false)
 |.im t l=>some (.im t l,[],false)
 |.ow id=>
  match AA hp id with
  |some (.arr _ deep t l)=>some (.im t l,[id],deep)
  |some (.frz _ _ t l)=>some (.im t l,[],false)
  |_=>none
 |.ar id lo n=>
  match AA hp id with
  |some (.arr _ deep t l)=>some (.im t ((l.take (lo+n)).drop lo),[id],deep)
  |some (.frz _ _ t l)=>some (.im t ((l.take (lo+n)).drop lo),[],false)
  |_=>none
 |_=>none
def IU(hp:THp):List SV->Option (List SV×List Nat×Bool)
 |[]=>some ([],[],true)
 |x::l=>
  match Qx hp x,IU hp l with
  |some (y,a,d),some (ys,as,ds)=>some (y::ys,a++as,d&&ds)
  |_,_=>none
def Ax7(t:TypeId)(a x:SV)(hp:THp)(K:SV->THp->Cls->Option α):Option α:=
 match getD X.ty t,a with
 |some d,.rf id r c=>
  if Nat.beq (CI x).length d.size then
   match AA hp id with
   |some (.box ty cs)=>
    match r with
    |0=>if(CI x).all okT then(match Ai7 cs c (CI x)with|some cs=>K .any ((id,some (.box ty cs))::hp) .E|none=>none)else none
    |_=>none
   |some (.arr ty deep e l)=>
    (AO l r).bind fun y=>
    match IU hp (CI x)with
    |some (cs,kills,deep')=>
     if Dc (id::kills)then
      match Ai7 (W4 e y) c cs with
      |some cs=>(match Ao2 e cs with|some z=>K .any ((id,some (.arr ty (deep&&deep') e (l.set r z)))::C4 hp kills) .E|none=>none)
      |none=>none
     else none
    |none=>none
   |_=>none
  else none
 |_,_=>none
def JY(hp:THp)(tm:TTm)(e:Ty):Nat->List (Nat×Operand)->Option (List e.den×List Nat×Bool)
 |_,[]=>some ([],[],true)
 |n,(k,x)::l=>
  if Nat.beq k n&&Nat.beq (CI (opT tm x)).length e.size then
   match IU hp (CI (opT tm x)),JY hp tm e (n+1) l with
   |some (cs,a,d),some (ys,as,ds)=>(match Ao2 e cs with|some y=>some (y::ys,a++as,d&&ds)|none=>none)
   |_,_=>none
  else none
def RV:SV->Bool
 |.int .. |.bool _|.str _|.sc _|.em|.im .. =>true
 |_=>false
def Yp(tm:TTm)(parts:List (Nat×Operand)):Bool:=parts.all fun p=>(CI (opT tm p.2)).all RV
def XW(t:TypeId)(len:Nat)(parts:List (Nat×Operand))(tm:TTm)(hp:THp)(b:Nat)(K:SV->THp->Cls->Option α):Option α:=
 match PW X t with
 |some (e,de,c)=>
  match len,parts with
  |0,[]=>K .em hp .M
  |0,_::_=>none
  |len+1,parts=>
   match JY hp tm c 0 parts with
   |some (l,kills,deep)=>
    if Nat.beq l.length (len+1)&&Nat.ble ((len+1)*de.size) 16777216&&Dc kills&&FP tm hp b then
     K (.ow b) ((b,some (.arr e deep c l))::C4 hp kills) (An7 kills (Yp tm parts))
    else none
   |none=>none
 |none=>none
def AM9(c:Ty)(x:SV)(hp:THp):Option (List c.den×List Nat×Bool):=
 match x with
 |.ow id=>
  match AA hp id with
  |some (.arr _ deep t l)=>if h:t=c then(if DB c then some (Hd h l,[],true)else some (Hd h l,[id],deep))else none
  |some (.frz _ _ t l)=>if h:t=c then some (Hd h l,[],DB c)else none
  |_=>none
 |.ar id lo n=>
  match AA hp id with
  |some (.arr _ deep t l)=>if h:t=c then(if DB c then some (((Hd h l).take (lo+n)).drop lo,[],true)else some (((Hd h l).take (lo+n)).drop lo,[id],deep))else none
  |some (.frz _ _ t l)=>if h:t=c then some (((Hd h l).take (lo+n)).drop lo,[],DB c)else none
  |_=>none
 |v=>match asL c v with|some l=>some (l,[],DB c)|none=>none
def D8{β:Type}(bytes size:Nat)(l m:List β):Option (List β):=if(l.length+m.length)*bytes<=Ad/\(l.length+m.length)*size<=Ad then some (l++m)else none
def Ab6(ts:List TypeId)(s x:SV)(tm:TTm)(hp:THp)(b:Nat)(K:SV->THp->Cls->Option α):Option α:=
 match ts with
 |[t,t']=>
  if Nat.beq t' t then
   match PW X t with
   |some (e,de,c)=>
    match AM9 c x hp with
    |some (m,kills,deep)=>
     match s with
     |.em=>if Dc kills&&FP tm hp b then cond (Ij m.length de.bytes de.size) (K (.ow b) ((b,some (.arr e deep c m))::C4 hp kills) (match kills with|[]=>.M|_=>.E)) none else none
     |.ow id=>
      match AA hp id with
      |some (.arr ty d0 t0 l)=>
       if h:t0=c then
        if Nat.beq ty e&&Dc (id::kills)&&FP tm hp b then
         (D8 de.bytes de.size (Hd h l) m).bind fun r=>K (.ow b) ((b,some (.arr e (d0&&deep) c r))::C4 hp (id::kills)) .E
        else none
       else none
      |_=>none
     |.ar id 0 n=>
      match AA hp id with
      |some (.arr ty d0 t0 l)=>
       if h:t0=c then
        if Nat.beq ty e&&Dc (id::kills)&&FP tm hp b then
         cond (decide (n<=l.length)) ((D8 de.bytes de.size ((Hd h l).take n) m).bind fun r=>K (.ow b) ((b,some (.arr e (d0&&deep) c r))::C4 hp (id::kills)) .E) none
        else none
       else none
      |_=>none
     |_=>none
    |none=>none
   |none=>none
  else none
 |_=>none
def Wm(tm:TTm)(lo hi:Option Operand)(len:Nat)(K:Nat->Nat->Option α):Option α:=
 match lo,hi with
 |none,none=>K 0 len
 |_,_=>
  match TG tm lo 0,TG tm hi (len:Int)with
  |some l,some h=>(KC l h len).bind fun p=>K p.1 p.2
  |_,_=>none
def AH1(tm:TTm)(lo hi:Option Operand)(len:Nat)(A:Option α)(K:Nat->Nat->Option α):Option α:=
 match lo,hi with
 |none,none=>A
 |_,_=>Wm tm lo hi len K
def Ax6(t:TypeId)(x:SV)(lo hi:Option Operand)(tm:TTm)(hp:THp)(K:SV->Option α):Option α:=
 match x with
 |.str s=>if J7 X t then Wm tm lo hi s.length fun l h=>K (.str ((s.take h).drop l))else none
 |x=>
  match PW X t with
  |some (e,de,c)=>
   match x with
   |.em=>Wm tm lo hi 0 fun _ _=>K .em
   |.im ty l=>if Nat.beq ty.size de.size then Wm tm lo hi l.length fun lo hi=>K (.im ty ((l.take hi).drop lo))else none
   |.ow id=>
    match AA hp id with
    |some (.arr _ _ ty l)|some (.frz _ _ ty l)=>if Nat.beq ty.size de.size then AH1 tm lo hi l.length (K (.ow id)) fun l h=>K (.ar id l (h-l))else none
    |_=>none
   |.ar id l0 n=>
    match AA hp id with
    |some (.arr _ _ ty l)|some (.frz _ _ ty l)=>if Nat.beq ty.size de.size then Wm tm lo hi n fun l h=>K (.ar id (l0+l) (h-l))else none
    |_=>none
   |_=>none
  |none=>none
def AQ4(t:TypeId)(x i:SV)(hp:THp)(K:SV->Cls->Option α):Option α:=
 match PW X t with
 |some (_,de,_)=>
  match x,i with
  |.im ty l,.int _ n=>if Nat.beq ty.size de.size then(AI l n).bind fun a=>K (.ir ty a 0) .T else none
  |.ow id,.int _ n=>
   match AA hp id with
   |some (.arr _ _ ty l)|some (.frz _ _ ty l)=>if Nat.beq ty.size de.size then(AJ n l.length).bind fun k=>K (.rf id k 0) .M else none
   |_=>none
  |.ar id lo len,.int _ n=>
   match AA hp id with
   |some (.arr _ _ ty l)|some (.frz _ _ ty l)=>if Nat.beq ty.size de.size then(AJ n len).bind fun k=>K (.rf id (lo+k) 0) .M else none
   |_=>none
  |_,_=>none
 |none=>none
def AH0(t:TypeId)(same:Bool)(l c:SV)(tm:TTm)(hp:THp)(b:Nat)(K:SV->THp->Cls->Option α):Option α:=
 match PW X t,l,c with
 |some (e,de,ty),.int _ n,.int _ m=>
  match Ao2 ty (de.zero.map Qo)with
  |some z=>
   if FP tm hp b&&de.zero.all DK then
    cond same
     ((Mh m de.bytes de.size).bind fun k=>K (.ow b) ((b,some (.arr e true ty (List.replicate k z)))::hp) .M)
     ((Mh m de.bytes de.size).bind fun _=>cond (decide (0<=n)&&decide (n<=m)) (K (.ow b) ((b,some (.arr e true ty (List.replicate n.toNat z)))::hp) .M) none)
   else none
  |none=>none
 |_,_,_=>none
def Xk(t:TypeId):Bool:=match getD X.ty t with|some d=>d.elem.isSome|none=>false
def NF(t:TypeId):Bool:=match getD X.ty t with|some d=>(match d.elem with|some e=>(match getD X.ty e with|some de=>de.int==some .u8|none=>false)|none=>false)|none=>false
def AG9(s d:TypeId)(x:SV)(hp:THp)(K:SV->Cls->Option α):Option α:=
 match x with
 |.int _ n=>(match getD X.ty s,getD X.ty d with|some _,some dd=>(match dd.int with|some k=>K (.int k (k.wrap n)) .T|none=>none)|_,_=>none)
 |.str v=>
  if J7 X s then
   if NF X d then cond (decide (v.length<=Ad)) (K (.im (.int .u8) (VU v)) .M) none
   else if J7 X d then K (.str v) .T else none
  else none
 |x=>
  if NF X s&&J7 X d then
   match FK hp (.int .u8) x with
   |some l=>K (.str (Va l)) .M
   |none=>none
  else none
def AQ5(t:TypeId)(x:SV)(hp:THp)(K:SV->Option α):Option α:=
 match x with
 |.str s=>if J7 X t&& !Xk X t then K (.int .i64 (s.length:Int))else none
 |x=>
  if Xk X t then
   match x with
   |.em=>K (.int .i64 0)
   |.im _ l=>K (.int .i64 (l.length:Int))
   |.ow id=>
    match AA hp id with
    |some (.arr _ _ _ l)|some (.frz _ _ _ l)=>K (.int .i64 (l.length:Int))
    |_=>none
   |.ar _ _ n=>K (.int .i64 (n:Int))
   |_=>none
  else none
def QT(mx:Bool)(xs:List SV)(K:SV->Option α):Option α:=
 match LO xs with
 |some (k,ns)=>K (.int k (if mx then VQ ns else AP7 ns))
 |none=>none
def Sx:SV->List Nat
 |.ow id=>[id]
 |.ar id _ _=>[id]
 |_=>[]
def VO:SV->List Nat
 |.agg cs=>cs.flatMap Sx
 |.cl _ cs=>cs.flatMap Sx
 |x=>Sx x
def DC(hp:THp):AC->SV->Option SV
 |.im t,v=>match FK hp t v with|some l=>some (.im t l)|none=>none
 |.int _,.int k n=>some (.int k n)
 |.bool,.bool b=>some (.bool b)
 |.str,.str s=>some (.str s)
 |_,_=>none
def NH(hp:THp):List AC->List SV->Option (List SV)
 |[],[]=>some []
 |c::cs,v::vs=>(match DC hp c v with|some x=>(match NH hp cs vs with|some y=>some (x::y)|none=>none)|none=>none)
 |_,_=>none
def Ib(hp:THp):AS->SV->Option SV
 |.cell c,v=>DC hp c v
 |.agg cs,.agg vs=>(match NH hp cs vs with|some l=>some (.agg l)|none=>none)
 |.ref _ true,.rf id r c=>some (.rf id r c)
 |.clo _,.cl g []=>some (.cl g [])
 |_,_=>none
def I9:List AS->List SV->List Nat
 |a::l,v::vs=>(cond (SN a) [] (VO v))++I9 l vs
 |_,_=>[]
def OO(hp:THp):List AS->List SV->Option (List SV)
 |[],[]=>some []
 |a::l,v::vs=>(match (cond (SN a) (cond (Eh v) (some v) none) (Ib hp a v))with|some x=>(match OO hp l vs with|some y=>some (x::y)|none=>none)|none=>none)
 |_,_=>none
def SG:SV->Bool
 |.int .. |.bool _|.str _|.sc _|.ow _|.ar .. |.rf .. =>true
 |.cl _ []=>true
 |_=>false
def VT:SV->Bool
 |.agg cs=>cs.all SG
 |x=>SG x
def At4:TB->Bool
 |.box _ cs=>cs.all SG
 |.arr _ deep _ _=>deep
 |.frz .. =>false
def ddN:List Nat->List Nat->List Nat
 |acc,[]=>acc
 |acc,id::l=>cond (Ah8 id acc) (ddN acc l) (ddN (acc++[id]) l)
def Nn(order:List Nat)(e n b j:Nat):Option Nat:=cond (Nat.blt j e) order[j]? (cond (Nat.blt j n) (some (b+(j-e))) none)
def Ay2(vs:List SV):SV:=match vs with|[v]=>v|vs=>.tup vs
def Xp(hp out:THp):List Nat->Option α->Option α
 |[],A=>A
 |id::l,A=>
  match AA out id,AA hp id with
  |some (.arr _ _ _ l'),some (.arr _ _ _ l0)=>cond (decide (l'.length=l0.length)) (Xp hp out l A) none
  |some (.box _ _),some (.box _ _)=>Xp hp out l A
  |_,_=>none
def At5:Nat×Option TB->Bool
 |(_,some k)=>At4 k
 |(_,none)=>false
def VS(vs:List SV)(bs:THp):Bool:=vs.all VT&&bs.all At5
def AO5(o:List Nat)(c:Bool)(A B C D:Option α):Option α:=
 match o,c with
 |[],true=>A
 |[],false=>B
 |_::_,true=>C
 |_::_,false=>D
def Nx:Nat->List SV->TTm
 |_,[]=>[]
 |n,x::l=>(n,x)::Nx (n+1) l
def Dd(f:Nat->Option Nat):THp->THp
 |[]=>[]
 |(k,b)::l=>match f k with|some i=>(i,match b with|some b=>some (SP f b)|none=>none)::Dd f l|none=>Dd f l
def Ax5(g:FuncId)(args:List SV)(tm:TTm)(hp:THp)(b:Nat)(K:SV->THp->Cls->Option α):Option α:=
 match Ux X.ents g with
 |some E=>
  match OO hp (EH E.a.params) args with
  |some args'=>
   match FL hp 64 (args'.flatMap rf1) []with
   |some o=>
    match F6 E.a.e E.a.params {tm:=Nx 0 (args'.map (BB (Dm o))),hp:=FU hp (Dm o) 0 o,c:=1}with
    |some x=>
     if args'.all Eh&&(args'.map (BB (Dm o))).all Eh&&YG (ddN [] ((args'.map (BB (Dm o))).flatMap rf1)) (List.range E.a.e)&&YG (o.take E.a.e) (ddN [] (args'.flatMap rf1))&&Nat.beq (ddN [] (args'.flatMap rf1)).length E.a.e&&Nat.ble o.length 16&&On tm hp b&&Nat.beq (E7 E.a.params).length args'.length&&o.all (fun id=>Nat.blt id b&&Z5 id (I9 (EH E.a.params) args))then
      (E.F x).bind fun y=>
       let r:=Bm 0 E.a.res y
       let f:=Nn o E.a.e r.2.length b
       if Nat.ble E.a.e r.2.length&&Nat.ble r.2.length (E.a.e+16)then
        Xp hp (Dd f r.2) (o.take E.a.e) (PY (Ay2 (r.1.map fun p=>BB f p.2)) fun v=>
         AO5 o ((I9 (EH E.a.params) args).isEmpty||VS (r.1.map (·.2)) r.2)
          (K v (Dd f r.2++hp) .M)
          (K v (Dd f r.2++DG hp (I9 (EH E.a.params) args)) .E)
          (K v (Dd f r.2++C4 hp (o.drop E.a.e)) .E)
          (K v (Dd f r.2++C4 (DG hp (I9 (EH E.a.params) args)) (o.drop E.a.e)) .E))
       else none
     else none
    |none=>none
   |none=>none
  |none=>none
 |none=>none
def Zd:Operand->Operand->Bool
 |.tmp a,.tmp b=>Nat.beq a b
 |_,_=>false
def erC(b:BinOp)(y:Operand):Option Bool:=
 match b,y with
 |.eql,.const .nilIface=>some true
 |.neq,.const .nilIface=>some false
 |_,_=>none
def Bt(op:Op)(b:Nat)(tm:TTm)(hp:THp)(K:SV->THp->Cls->Option α):Option α:=
 match op with
 |.store t a x=>Ax7 X t (opT tm a) (opT tm x) hp K
 |.buildSlice t len parts=>XW X t len parts.toList tm hp b K
 |.slice t x lo hi none=>Ax6 X t (opT tm x) lo hi tm hp fun v=>K v hp .M
 |.move x|.assign x=>PY (opT tm x) fun v=>K v hp .T
 |.pick c x y=>(match opT tm c with|.bool t=>cond t (PY (opT tm x) fun v=>K v hp .T) (PY (opT tm y) fun v=>K v hp .T)|_=>none)
 |.build t parts=>(match getD X.ty t with|some d=>if d.agg&& !d.flds.isEmpty then Ab7 d.flds tm (d.zero.map Qo) parts.toList fun cs=>K (.agg cs) hp .T else none|none=>none)
 |.nilCheck x=>(match opT tm x with|.rf id r c=>K (.rf id r c) hp .T|.ir t a c=>K (.ir t a c) hp .T|.cl f caps=>K (.cl f caps) hp .T|_=>none)
 |.binOp op t x y _=>
  (match AL2 op y with
  |true=>(match getD X.ty t,opT tm x with|some d,.im _ l=>(match d.elem with|some _=>(neL l).bind fun _=>K (.bool false) hp .T|none=>none)|_,_=>none)
  |false=>(match erC op y with
   |some s=>(match opT tm x with
    |.er e=>cond (ZY X t) (K (.bool (cond s (!e) e)) hp .T) none
    |_=>AF1 X op t (opT tm x) (opT tm y) fun v=>K v hp .T)
   |none=>AF1 X op t (opT tm x) (opT tm y) fun v=>K v hp .T))
 |.unOp u _ x=>tUn u (opT tm x) fun v=>K v hp .T
 |.convert s d x=>AG9 X s d (opT tm x) hp fun v c=>K v hp c
 |.field t x k=>
  match opT tm x,getD X.ty t with
  |.agg cs,some d=>(match d.flds[k]? with|some f=>tMk f.agg (XO cs f.off f.size) fun v=>K v hp .T|none=>none)
  |_,_=>none
 |.fieldAddr t x k=>
  match getD X.ty t with
  |some d=>
   match d.flds[k]?,opT tm x with
   |some f,.rf id r c=>K (.rf id r (c+f.off)) hp .T
   |some f,.ir t a c=>K (.ir t a (c+f.off)) hp .T
   |_,_=>none
  |none=>none
 |.index t x i=>
  match J7 X t,opT tm x,opT tm i with
  |true,.str s,.int _ n=>(AI s n).bind fun c=>K (.int .u8 (c.toNat:Int)) hp .T
  |_,_,_=>none
 |.indexAddr t x i=>AQ4 X t (opT tm x) (opT tm i) hp fun v c=>K v hp c
 |.slice t x lo (some hi) (some mx)=>
  match PW X t,opT tm x with
  |some (_,_,_),.im _ l=>
   match TG tm lo 0,TG tm (some hi) 0,TG tm (some mx) 0 with
   |some lo,some hi,some mx=>cond (decide (lo=0/\hi=0/\mx=0)) (K .em hp .T) none
   |_,_,_=>none
  |_,_=>none
 |.extract x k=>(match opT tm x with|.tup vs=>(match vs[k]? with|some v=>PY v fun v=>K v hp .T|none=>none)|_=>none)
 |.makeFunc (.func f) first caps=>if first.isEmpty&&(caps.toList.map (opT tm)).all okT then K (.cl f (caps.toList.map (opT tm))) hp .T else none
 |.call {callee:=.builtin .append,args,argTypes}=>(match args.toList with|[s,x]=>Ab6 X argTypes.toList (opT tm s) (opT tm x) tm hp b K|_=>none)
 |.call {callee:=.builtin .len,args,argTypes}=>(match args.toList,argTypes.toList with|[x],[t]=>AQ5 X t (opT tm x) hp fun v=>K v hp .T|_,_=>none)
 |.call {callee:=.builtin .min,args, .. }=>QT false (args.toList.map (opT tm)) fun v=>K v hp .T
 |.call {callee:=.builtin .max,args, .. }=>QT true (args.toList.map (opT tm)) fun v=>K v hp .T
 |.call {callee:=.value f,args, .. }=>(match opT tm f with|.cl g caps=>Ax5 X g (args.toList.map (opT tm)++caps) tm hp b K|_=>none)
 |.alloc t=>(match getD X.ty t with|some d=>if FP tm hp b then K (.rf b 0 0) ((b,some (.box t (d.zero.map Qo)))::hp) .M else none|none=>none)
 |.box t x=>(match getD X.ty t with|some d=>if Nat.beq (CI (opT tm x)).length d.size&&(CI (opT tm x)).all okT&&FP tm hp b then K (.rf b 0 0) ((b,some (.box t (CI (opT tm x))))::hp) .M else none|none=>none)
 |.load t a=>Ab8 X t (opT tm a) hp fun v=>K v hp .M
 |.makeSlice t l c=>AH0 X t (Zd l c) (opT tm l) (opT tm c) tm hp b K
 |_=>none
def Az4(draw:Bool)(op:Op)(b:Nat)(tm:TTm)(hp:THp)(K:SV->THp->Cls->Option α):Option α:=
 match draw&&isR op with
 |true=>Bt X op b tm (Xv b hp) fun x _ cls=>K x hp cls
 |false=>Bt X op b tm hp K
def VE(draw ok:Bool)(cls:Cls)(A:Option α):Option α:=
 match draw,cls with
 |true,.E=>cond ok A none
 |_,_=>A
def Ze(tm:TTm)(op:Op):Bool:=(op.operands.toList.map (opT tm)).all Eh
def Ar1(tm:TTm)(op:Op):List Nat:=(op.operands.toList.map (opT tm)).flatMap rf1
def N8(op:Op)(tm:TTm)(hp:THp):Option (List Nat):=
 match op with
 |.store _ a x=>if Eh (opT tm a)&&Eh (opT tm x)then some (rf1 (opT tm a)++rf1 (opT tm x))else none
 |.call {callee:=.value f,args, .. }=>
  match opT tm f with
  |.cl g caps=>
   match Ux X.ents g with
   |some E=>
    match OO hp (EH E.a.params) (args.toList.map (opT tm)++caps)with
    |some args'=>if args'.all Eh then(match FL hp 64 (args'.flatMap rf1) []with|some o=>some (o++I9 (EH E.a.params) (args.toList.map (opT tm)++caps))|none=>none)else none
    |none=>none
   |none=>none
  |_=>none
 |.buildSlice _ (_+1) parts=>if parts.toList.all fun p=>Eh (opT tm p.2)then some (parts.toList.flatMap fun p=>rf1 (opT tm p.2))else none
 |_=>none
def Ag0(ops:List Oper)(tm:TTm)(hp:THp)(i:Nat):Bool:=
 match ops[i]? with
 |some a=> !FR ops a&&(match N8 X a.op tm hp with
  |some ids=>(List.range ops.length).all fun j=>j==i||D7 ops i j||(match ops[j]? with
   |some o=>isT o.op||(isR o.op&&decide (j<i)&&Ar7 ops j i o&&(Ze tm o.op&&(Ar1 tm o.op).all fun id=> !ids.contains id))
   |none=>true)
  |none=>false)
 |none=>false
def Mq(tm:TTm)(dst:Option Tmp)(x:SV):TTm:=
 match dst with
 |some d=>(d,x)::tm
 |none=>tm
def Oe(all:List Oper)(draw:Bool):List Oper->Nat->TSt->(TSt->Option α)->Option α
 |[],_,st,K=>K st
 |o::l,i,st,K=>
  match o.guard with
  |none=>
   Az4 X draw o.op (16*(st.c+i)) st.tm st.hp fun x hp cls=>VE draw (eOK all i||Ag0 X all st.tm st.hp i) cls (Oe all draw l (i+1) {tm:=Mq st.tm o.dst x,hp:=hp,c:=st.c} K)
  |some (j,want)=>
   match (all[j]?).bind (·.dst)with
   |some d=>
    match Co st.tm d with
    |.bool t=>
     let go (tm:TTm):Option α:=Az4 X draw o.op (16*(st.c+i)) tm st.hp fun x hp cls=>VE draw (eOK all i||Ag0 X all tm st.hp i) cls (Oe all draw l (i+1) {tm:=Mq tm o.dst x,hp:=hp,c:=st.c} K)
     let no (tm:TTm):Option α:=Oe all draw l (i+1) {tm:=Mq tm o.dst (.tup []),hp:=st.hp,c:=st.c} K
     match want with
     |true=>cond t (go ((d,.bool true)::st.tm)) (no ((d,.bool false)::st.tm))
     |false=>cond t (no ((d,.bool true)::st.tm)) (go ((d,.bool false)::st.tm))
    |.tup []=>Oe all draw l (i+1) {tm:=Mq st.tm o.dst (.tup []),hp:=st.hp,c:=st.c} K
    |_=>none
   |none=>none
end
@[reducible] def AA9:List (Ex×List Item)->Type
 |[]=>Empty
 |[a]=>Ca a.2
 |a::b::l=>Ca a.2⊕AA9 (b::l)
def YN(e:Nat):(l:List (Ex×List Item))->Ex->TSt->Option (AA9 l)
 |[],_,_=>none
 |[a],ex,st=>cond (Oz a.1 ex) (F6 e a.2 st) none
 |a::b::l,ex,st=>cond (Oz a.1 ex) ((F6 e a.2 st).map .inl) ((YN e (b::l) ex st).map .inr)
def Ao8{α:Type}(K:Ex->TSt->Option α):(l:List (Ex×List Item))->AA9 l->Option α
 |[]=>fun d=>nomatch d
 |[a]=>fun d=>K a.1 (GT a.2 d)
 |a::b::l=>fun d=>Sum.elim (fun d=>K a.1 (GT a.2 d)) (Ao8 K (b::l)) d
abbrev Am5(α:Type):=Ex->TSt->Option α
def TX.e(X:TX):Nat:=X.ann.e
def wtC (X:TX):Code->{α:Type}->TSt->Am5 α->Option α
 |.skip,_,st,Q=>Q .normal st
 |.region _ ops draw,_,st,Q=>Oe X (reo draw ops.toList) draw (reo draw ops.toList) 0 st fun s=>Q .normal {s with c:=s.c+ops.size}
 |.seq a b,_,st,Q=>
  match Dl X.ann.joins (rid b)with
  |none=>wtC X a st fun ex s=>match ex with|.normal=>wtC X b s Q|ex=>Q ex s
  |some an=>
   (wtC X a (α:=_⊕Ca an) st fun ex s=>match ex with|.normal=>(F6 X.e an s).map .inr|ex=>(Q ex s).map .inl).bind fun z=>Sum.elim some (fun d=>wtC X b (GT an d) Q) z
 |.cond c x y,_,st,Q=>
  match opT st.tm c with
  |.bool t=>cond t (wtC X x st Q) (wtC X y st Q)
  |_=>none
 |.block id c,_,st,Q=>wtC X c st fun ex s=>match ex with|.exit j=>cond (Nat.beq j id) (Q .normal s) (Q (.exit j) s)|ex=>Q ex s
 |.loop c,_,st,Q=>
  match Dl X.ann.heads (rid c),Dl X.ann.outs (rid c)with
  |some an,some outs=>
   (F6 X.e an st).bind fun d0=>
   (Ag (fun d=>wtC X c (GT an d) fun ex s=>match ex with|.normal=>(F6 X.e an s).map .inl|ex=>(YN X.e outs ex s).map .inr) d0).bind fun z=>Ao8 Q outs z
  |_,_=>none
 |.exit id,_,st,Q=>Q (.exit id) st
 |.ret,_,st,Q=>Q .ret st
 |_,_,_,_=>none
def Zh{α:Type}(X:TX)(tm:TTm)(hp:THp):List ResultVar->(List SV->Option α)->Option α
 |[],K=>K []
 |.tmp t::l,K=>Zh X tm hp l fun xs=>K (Co tm t::xs)
 |.cell a t::l,K=>Ab8 X t (Co tm a) hp fun x=>Zh X tm hp l fun xs=>K (x::xs)
def tnR:List TMs->List SV->THp->Nat->Option (List SV×THp)
 |[],[],hp,_=>some ([],hp)
 |m::ms,x::xs,hp,c=>
  match tnV m x hp (16*c)with
  |some (y,hp1,n)=>if Nat.ble n 16 then(match tnR ms xs hp1 (c+1)with|some (ys,hp2)=>some (y::ys,hp2)|none=>none)else none
  |none=>none
 |_,_,_,_=>none
def Av7(rts:List (Nat×TMs))(hp:THp):Bool:=rts.all fun p=>Nat.blt p.1 16&&(match AA hp p.1 with|some (.box _ _)=>true|_=>false)
def AD1(res:List Item)(e:Nat)(s:TSt)(xs:List SV):Option (Ca res):=
 let rts:=Qu (Cv res) e 0 (Cv res)
 if Av7 rts s.hp&&xs.all Eh&&On (Nx 0 xs) s.hp (16*(s.c+1))then
  match tnR (rts.map (·.2)++(JC (Cv res) res).map (·.2)) (rts.map (fun p=>SV.rf p.1 0 0)++xs) s.hp (s.c+1)with
  |some (ys,hp)=>
   let zs:=ys.drop rts.length
   if zs.all Eh then
    match FL hp 64 (List.range e++zs.flatMap rf1) []with
    |some o=>if YG (o.take e) (List.range e)then rdI 0 res (Nx 0 (zs.map (BB (Dm o)))) (FU hp (Dm o) 0 o)else none
    |none=>none
   else none
  |none=>none
 else none
def wtF (X:TX) (fn:Func) (x:Ca X.ann.params):Option (Ca X.ann.res):=
 match fn.body with
 |some c=>wtC X c (GT X.ann.params x) fun ex s=>
  match ex with
  |.exit _=>none
  |_=>Zh X s.tm s.hp fn.results.toList fun xs=>AD1 X.ann.res X.e s xs
 |none=>none
end
section
open Go
def RLx{α:Type}(R:α->List V->Prop)(l:List α)(rows:List (List V)):Prop:=
 rows.length=l.length/\∀(i:Nat)(a:α)(r:List V),l[i]? =some a->rows[i]? =some r->R a r
section
variable {α:Type} {R:α->List V->Prop} {l m:List α} {rows rs:List (List V)}
theorem RLx.nil:RLx R ([]:List α) []:=⟨rfl,fun i a r h=>by simp at h⟩
theorem RLx.of_nil(h:RLx R ([]:List α) rows):rows=[]:=zb3 h.1
theorem RLx.get(h:RLx R l rows){i:Nat}{a:α}(hi:l[i]? =some a):∃r,rows[i]? =some r/\R a r:=by
 have hlt:i<rows.length:=by rw[h.1];exact(za3.1 hi).1
 exact⟨rows[i],za1 hlt,h.2 i a _ hi (za1 hlt)⟩
theorem RLx.get'(h:RLx R l rows){i:Nat}{r:List V}(hi:rows[i]? =some r):∃a,l[i]? =some a/\R a r:=by
 have hlt:i<l.length:=by rw[<-h.1];exact(za3.1 hi).1
 exact⟨l[i],za1 hlt,h.2 i _ r (za1 hlt) hi⟩
theorem RLx.mono{R':α->List V->Prop}(h:RLx R l rows)(hm:∀a r,R a r->R' a r):RLx R' l rows:=⟨h.1,fun i a r h1 h2=>hm a r (h.2 i a r h1 h2)⟩
theorem RLx.set(h:RLx R l rows)(k:Nat){z:α}{r:List V}(hz:R z r):RLx R (l.set k z) (rows.set k r):=by
 refine⟨by simp[h.1],fun i a q h1 h2=> ?_⟩
 rw[List.getElem?_set]at h1 h2;by_cases hk:k=i
 ·subst hk;rw[zw rfl]at h1 h2
  split at h1
  ·split at h2
   ·cases h1;cases h2;exact hz
   ·cases h2
  ·cases h1
 ·rw[zi hk]at h1 h2;exact h.2 i a q h1 h2
theorem RLx.append(h:RLx R l rows)(k:RLx R m rs):RLx R (l++m) (rows++rs):=by
 refine⟨by simp[h.1,k.1],fun i a q h1 h2=> ?_⟩
 rw[ze2]at h1 h2;rw[h.1]at h2
 split at h1
 ·rename_i hi;rw[zw hi]at h2;exact h.2 i a q h1 h2
 ·rename_i hi;rw[zi hi]at h2;exact k.2 _ a q h1 h2
theorem RLx.take(h:RLx R l rows)(n:Nat):RLx R (l.take n) (rows.take n):=by
 refine⟨by simp[h.1],fun i a q h1 h2=> ?_⟩
 rw[zb6]at h1 h2
 split at h1
 ·rename_i hi;rw[zw hi]at h2;exact h.2 i a q h1 h2
 ·cases h1
theorem RLx.drop(h:RLx R l rows)(n:Nat):RLx R (l.drop n) (rows.drop n):=by
 refine⟨by simp[h.1],fun i a q h1 h2=> ?_⟩
 rw[zd2]at h1 h2;exact h.2 _ a q h1 h2
theorem RLx.replicate{z:α}{r:List V}(h:R z r)(n:Nat):RLx R (List.replicate n z) (List.replicate n r):=by
 refine⟨by simp,fun i a q h1 h2=> ?_⟩
 rw[zc8]at h1 h2
 split at h1
 ·rename_i hi;rw[zw hi]at h2;cases h1;cases h2;exact h
 ·cases h1
theorem RLx.cons{a:α}{r:List V}(h:R a r)(k:RLx R l rows):RLx R (a::l) (r::rows):=by
 refine⟨by simp[k.1],fun i a' q h1 h2=> ?_⟩
 cases i with
 |zero=>simp at h1 h2;subst h1;subst h2;exact h
 |succ i=>exact k.2 i a' q (by simpa using h1) (by simpa using h2)
end
def RE:(t:Ty)->t.den->List V->Prop
 |.int k,n,row=>row=[.v (.int k n)]
 |.bool,b,row=>row=[.v (.bool b)]
 |.str,s,row=>row=[.v (.string ⟨s.toArray⟩)]
 |.pair a b,x,row=>∃r1 r2,row=r1++r2/\RE a x.1 r1/\RE b x.2 r2
 |.sl e,l,row=>(l=[]/\row=[.em])\/∃rows,row=[.im rows]/\RLx (RE e) l rows
theorem RE.len:∀{t:Ty}{a:t.den}{row:List V},RE t a row->row.length=t.size
 |.int _,_,_,h=>by simp only[RE]at h;subst h;rfl
 |.bool,_,_,h=>by simp only[RE]at h;subst h;rfl
 |.str,_,_,h=>by simp only[RE]at h;subst h;rfl
 |.pair a b,x,_,h=>by
  obtain⟨r1,r2,rfl,h1,h2⟩:=h;simp[Ty.size,h1.len,h2.len]
 |.sl e,_,_,h=>by
  rcases h with⟨_,rfl⟩|⟨rows,rfl,_⟩<;>rfl
def Er:TB->Option Nat
 |.box _ _=>none
 |.arr _ _ _ l=>some l.length
 |.frz _ _ _ l=>some l.length
def RV0(hp:THp):SV->V->Prop
 |.int k n,y=>y=.v (.int k n)
 |.bool b,y=>y=.v (.bool b)
 |.str s,y=>y=.v (.string ⟨s.toArray⟩)
 |.sc x,y=>y=.v x
 |.er b,y=>y=.er b
 |.em,y=>y=.em
 |.im t l,y=>(l=[]/\y=.em)\/∃rows,y=.im rows/\RLx (RE t) l rows
 |.ow id,y=>∃n,y=.ar id 0 n/\∀b,AA hp id=some b->Er b=some n
 |.ar id lo n,y=>y=.ar id lo n
 |.rf id r c,y=>y=.rf id r c
 |.ir t a c,y=>∃row,y=.ir row c/\RE t a row
 |.cl f [],y=>y=.cl f []
 |.any,_=>True
 |_,_=>False
def RC(R:SV->V->Prop):List SV->List V->Prop
 |[],[]=>True
 |x::xs,y::ys=>R x y/\RC R xs ys
 |_,_=>False
def RV1(hp:THp):SV->V->Prop
 |.agg cs,y=>∃us,y=.agg us/\RC (RV0 hp) cs us
 |.cl f caps,y=>∃us,y=.cl f us/\RC (RV0 hp) caps us
 |x,y=>RV0 hp x y
def RV2(hp:THp):SV->V->Prop
 |.tup vs,y=>∃us,y=.tup us/\RC (RV1 hp) vs us
 |x,y=>RV1 hp x y
section
variable {R R':SV->V->Prop}
theorem RC.length:∀{xs:List SV}{ys:List V},RC R xs ys->ys.length=xs.length
 |[],[],_=>rfl
 |_::xs,_::ys,h=>by simp[RC.length (xs:=xs) (ys:=ys) h.2]
 |[],_::_,h=>h.elim
 |_::_,[],h=>h.elim
theorem RC.mono:∀{xs:List SV}{ys:List V},RC R xs ys->(∀x∈xs,∀y,R x y->R' x y)->RC R' xs ys
 |[],[],_,_=>trivial
 |x::xs,y::ys,h,hm=>⟨hm x (by simp) y h.1,RC.mono h.2 fun x hx=>hm x (by simp[hx])⟩
 |[],_::_,h,_=>h.elim
 |_::_,[],h,_=>h.elim
theorem RC.append:∀{xs xs':List SV}{ys ys':List V},RC R xs ys->RC R xs' ys'->RC R (xs++xs') (ys++ys')
 |[],_,[],_,_,h=>h
 |_::xs,_,_::ys,_,h,h'=>⟨h.1,RC.append h.2 h'⟩
 |[],_,_::_,_,h,_=>h.elim
 |_::_,_,[],_,h,_=>h.elim
theorem RC.take:∀{xs:List SV}{ys:List V}(n:Nat),RC R xs ys->RC R (xs.take n) (ys.take n)
 |[],[],n,_=>by simp[RC]
 |a::xs,b::ys,0,_=>by simp[RC]
 |a::xs,b::ys,n+1,h=>⟨h.1,RC.take n h.2⟩
 |[],_::_,_,h=>h.elim
 |_::_,[],_,h=>h.elim
theorem RC.drop:∀{xs:List SV}{ys:List V}(n:Nat),RC R xs ys->RC R (xs.drop n) (ys.drop n)
 |[],[],n,_=>by simp[RC]
 |a::xs,b::ys,0,h=>h
 |a::xs,b::ys,n+1,h=>by simpa using RC.drop n h.2
 |[],_::_,_,h=>h.elim
 |_::_,[],_,h=>h.elim
theorem RC.get:∀{xs:List SV}{ys:List V},RC R xs ys->∀{j:Nat}{x:SV},xs[j]? =some x->∃y,ys[j]? =some y/\R x y
 |[],[],_,j,x,h=>by simp at h
 |a::xs,b::ys,h,0,x,hx=>by simp at hx;subst hx;exact⟨b,by simp,h.1⟩
 |a::xs,b::ys,h,j+1,x,hx=>by simpa using RC.get h.2 (by simpa using hx)
 |[],_::_,h,_,_,_=>h.elim
 |_::_,[],h,_,_,_=>h.elim
theorem RC.map{α:Type}{f:α->SV}{g:α->V}:∀{l:List α},(∀x∈l,R (f x) (g x))->RC R (l.map f) (l.map g)
 |[],_=>trivial
 |x::l,h=>⟨h x (by simp),RC.map fun y hy=>h y (by simp[hy])⟩
end
theorem RC.seg{hp:THp}{cs l:List SV}{us:List V}{off n:Nat}(h:XO cs off n=some l)(hr:RC (RV0 hp) cs us):∃vs,seg us off n=some vs/\RC (RV0 hp) l vs:=by
 unfold XO at h
 split at h
 ·rename_i hn;cases h
  refine⟨_,by unfold Ev.seg;rw[zw (by rw[hr.length];exact hn)],(hr.drop off).take n⟩
 ·cases h
theorem RC.put{hp:THp}{cs cs' new:List SV}{us vs:List V}{off:Nat}(h:Ai7 cs off new=some cs')(hr:RC (RV0 hp) cs us)(hn:RC (RV0 hp) new vs):∃us',FT us off vs=some us'/\RC (RV0 hp) cs' us':=by
 unfold Ai7 at h
 split at h
 ·rename_i hl;cases h
  have h1:=hr.length;have h2:=hn.length;refine⟨_,by unfold FT;rw[zw (by omega)],?_⟩
  rw[h2];exact((hr.take off).append hn).append (hr.drop _)
 ·cases h
theorem RV0.to1{hp:THp}:∀{x:SV}{y:V},RV0 hp x y->RV1 hp x y
 |.cl f [],y,h=>⟨[],h,trivial⟩
 |.cl _ (_::_),_,h=>h.elim
 |.agg _,_,h=>h.elim
 |.tup _,_,h=>h
 |.int ..,_,h|.bool _,_,h|.str _,_,h|.sc _,_,h|.er _,_,h|.em,_,h|.im ..,_,h|.ow _,_,h|.ar ..,_,h|.rf ..,_,h|.ir ..,_,h|.any,_,h=>h
theorem RV1.to2{hp:THp}:∀{x:SV}{y:V},RV1 hp x y->RV2 hp x y
 |.tup _,_,h=>False.elim h
 |.cl ..,_,h|.agg _,_,h|.int ..,_,h|.bool _,_,h|.str _,_,h|.sc _,_,h|.er _,_,h|.em,_,h|.im ..,_,h|.ow _,_,h|.ar ..,_,h|.rf ..,_,h|.ir ..,_,h|.any,_,h=>h
def Ci(hp hp':THp)(id:Nat):Prop:=∀b',AA hp' id=some b'->∃b,AA hp id=some b/\Er b=Er b'
theorem Ci.refl(hp:THp)(id:Nat):Ci hp hp id:=fun b h=>⟨b,h,rfl⟩
theorem Ci.trans{a b c:THp}{id:Nat}(h:Ci a b id)(k:Ci b c id):Ci a c id:=fun x hx=>by
 obtain⟨y,hy,e⟩:=k x hx;obtain⟨z,hz,e'⟩:=h y hy;exact⟨z,hz,e'.trans e⟩
theorem RV0.keeps{hp hp':THp}:∀{x:SV}{y:V},RV0 hp x y->(∀id∈Ey x,Ci hp hp' id)->RV0 hp' x y
 |.ow id,y,⟨n,hy,h⟩,hk=>⟨n,hy,fun b hb=>by
   obtain⟨b0,h0,e⟩:=hk id (by simp[Ey]) b hb;rw[<-e];exact h b0 h0⟩
 |.cl _ [],_,h,_=>h
 |.cl _ (_::_),_,h,_=>h.elim
 |.int ..,_,h,_|.bool _,_,h,_|.str _,_,h,_|.sc _,_,h,_|.er _,_,h,_|.em,_,h,_|.im ..,_,h,_|.ar ..,_,h,_|.rf ..,_,h,_|.ir ..,_,h,_|.any,_,h,_=>h
 |.agg _,_,h,_=>h.elim
 |.tup _,_,h,_=>h.elim
theorem RV1.keeps{hp hp':THp}{x:SV}{y:V}(h:RV1 hp x y)(hk:∀id∈TC x,Ci hp hp' id):RV1 hp' x y:=by
 have key:∀{cs:List SV}{us:List V},(∀id∈cs.flatMap Ey,Ci hp hp' id)->RC (RV0 hp) cs us->RC (RV0 hp') cs us:=fun hk h=>
  h.mono fun x hx y hxy=>hxy.keeps fun id hid=>hk id (zb0.2 ⟨x,hx,hid⟩)
 cases x with
 |agg cs=>obtain⟨us,rfl,h⟩:=h;exact⟨us,rfl,key hk h⟩
 |cl f cs=>obtain⟨us,rfl,h⟩:=h;exact⟨us,rfl,key hk h⟩
 |int k n=>exact RV0.keeps (x:=.int k n) h hk
 |bool b=>exact RV0.keeps (x:=.bool b) h hk
 |str s=>exact RV0.keeps (x:=.str s) h hk
 |sc v=>exact RV0.keeps (x:=.sc v) h hk
 |em=>exact RV0.keeps (x:=.em) h hk
 |er e=>exact RV0.keeps (x:=.er e) h hk
 |im t l=>exact RV0.keeps (x:=.im t l) h hk
 |ow id=>exact RV0.keeps (x:=.ow id) h hk
 |ar a b c=>exact RV0.keeps (x:=.ar a b c) h hk
 |rf a b c=>exact RV0.keeps (x:=.rf a b c) h hk
 |ir a b c=>exact RV0.keeps (x:=.ir a b c) h hk
 |tup l=>exact h.elim
 |any=>trivial
theorem RV2.keeps{hp hp':THp}{x:SV}{y:V}(h:RV2 hp x y)(hk:∀id∈FQ x,Ci hp hp' id):RV2 hp' x y:=by
 cases x with
 |tup vs=>obtain⟨us,rfl,h⟩:=h;exact⟨us,rfl,h.mono fun x hx y hxy=>hxy.keeps fun id hid=>hk id (zb0.2 ⟨x,hx,hid⟩)⟩
 |agg cs=>exact RV1.keeps (x:=.agg cs) h hk
 |cl f cs=>exact RV1.keeps (x:=.cl f cs) h hk
 |int k n=>exact RV1.keeps (x:=.int k n) h hk
 |bool b=>exact RV1.keeps (x:=.bool b) h hk
 |str s=>exact RV1.keeps (x:=.str s) h hk
 |sc v=>exact RV1.keeps (x:=.sc v) h hk
 |em=>exact RV1.keeps (x:=.em) h hk
 |er e=>exact RV1.keeps (x:=.er e) h hk
 |im t l=>exact RV1.keeps (x:=.im t l) h hk
 |ow id=>exact RV1.keeps (x:=.ow id) h hk
 |ar a b c=>exact RV1.keeps (x:=.ar a b c) h hk
 |rf a b c=>exact RV1.keeps (x:=.rf a b c) h hk
 |ir a b c=>exact RV1.keeps (x:=.ir a b c) h hk
 |any=>trivial
def RB(hp:THp):TB->Blk->Prop
 |.box ty cs,k=>k.kind=.box/\k.ty=ty/\∃row,k.rows=[row]/\k.size=row.length/\RC (RV0 hp) cs row
 |.arr ty deep t l,k=>k.kind=.arr/\k.ty=ty/\k.deep=deep/\k.size=t.size/\RLx (RE t) l k.rows
 |.frz ty deep t l,k=>k.kind=.frz/\k.ty=ty/\k.deep=deep/\k.size=t.size/\RLx (RE t) l k.rows
theorem RB.keeps{hp hp':THp}:∀{b:TB}{k:Blk},RB hp b k->(∀id∈I8 b,Ci hp hp' id)->RB hp' b k
 |.box ty cs,k,⟨h1,h2,row,h3,h4,h5⟩,hk=>⟨h1,h2,row,h3,h4,h5.mono fun x hx y hxy=>hxy.keeps fun id hid=>hk id (zb0.2 ⟨x,hx,hid⟩)⟩
 |.arr ..,_,h,_=>h
 |.frz ..,_,h,_=>h
def RH(hp:THp)(h:Hp):Prop:=∀id b,AA hp id=some b->∃k,h id=some k/\RB hp b k
def RT(hp:THp)(tm:TTm)(m:Tm):Prop:=∀t,RV2 hp (Co tm t) (m t)
structure RS (st:TSt) (s:St):Prop where
 tm:RT st.hp st.tm s.tm
 hp:RH st.hp s.hp
 c:s.c=st.c
theorem Au(k:Nat)(x:Option TB)(l:THp)(i:Nat):AA ((k,x)::l) i=if i=k then x else AA l i:=by
 simp only[AA];by_cases h:i=k
 ·subst h;simp
 ·rw[zi h];have:Nat.beq i k=false:=by cases hb:Nat.beq i k with|false=>rfl|true=>exact absurd (za7 hb) h
  rw[this];rfl
theorem Et(k:Nat)(x:SV)(l:TTm)(i:Nat):Co ((k,x)::l) i=if i=k then x else Co l i:=by
 simp only[Co];by_cases h:i=k
 ·subst h;simp
 ·rw[zi h];have:Nat.beq i k=false:=by cases hb:Nat.beq i k with|false=>rfl|true=>exact absurd (za7 hb) h
  rw[this];rfl
theorem Xd{tm:TTm}{t:Nat}:Co tm t=.any\/∃x∈tm,x.2=Co tm t:=by
 induction tm with
 |nil=>exact .inl rfl
 |cons a l ih=>
  obtain⟨k,x⟩:=a;rw[Et]
  split
  ·exact .inr ⟨(k,x),by simp,rfl⟩
  ·rcases ih with h|⟨y,hy,h⟩
   ·exact .inl h
   ·exact .inr ⟨y,by simp[hy],h⟩
theorem Aq2{hp:THp}{id:Nat}{b:TB}(h:AA hp id=some b):∃x∈hp,x.2=some b:=by
 induction hp with
 |nil=>cases h
 |cons a l ih=>
  obtain⟨k,x⟩:=a;rw[Au]at h
  split at h
  ·exact⟨(k,x),by simp,h⟩
  ·obtain⟨y,hy,h⟩:=ih h;exact⟨y,by simp[hy],h⟩
theorem OV{b:Nat}{l:List Nat}(h:Z5 b l=true):b ∉ l:=by
 intro hm;have:=za6.1 h b hm;simp at this
theorem H7{tm:TTm}{hp:THp}{b:Nat}(h:FP tm hp b=true)(t:Nat):b ∉ FQ (Co tm t):=by
 simp only[FP,za2]at h;rcases Xd (tm:=tm) (t:=t)with h'|⟨x,hx,h'⟩
 ·rw[h'];simp[FQ,TC,Ey]
 ·rw[<-h'];exact OV (za6.1 h.1 x hx)
theorem Nz{tm:TTm}{hp:THp}{b:Nat}(h:FP tm hp b=true){id:Nat}{k:TB}(hk:AA hp id=some k):b ∉ I8 k:=by
 simp only[FP,za2]at h;obtain⟨x,hx,h'⟩:=Aq2 hk;have:=za6.1 h.2 x hx;rw[h']at this;exact OV this
theorem RT.keeps{hp hp':THp}{tm:TTm}{m:Tm}(h:RT hp tm m)(hk:∀t,∀id∈FQ (Co tm t),Ci hp hp' id):RT hp' tm m:=fun t=>(h t).keeps (hk t)
theorem JD{hp:THp}{b:Nat}{x:Option TB}{id:Nat}(h:id≠b):Ci hp ((b,x)::hp) id:=fun k hk=>by
 rw[Au,zi h]at hk;exact⟨k,hk,rfl⟩
theorem Sp{hp:THp}{b:Nat}{x y:TB}(hx:AA hp b=some x)(hl:Er x=Er y)(id:Nat):Ci hp ((b,some y)::hp) id:=fun k hk=>by
 rw[Au]at hk
 split at hk
 ·rename_i he;subst he;cases hk;exact⟨x,hx,hl⟩
 ·exact⟨k,hk,rfl⟩
theorem YP{hp:THp}{b:Nat}(id:Nat):Ci hp ((b,none)::hp) id:=fun k hk=>by
 rw[Au]at hk
 split at hk
 ·cases hk
 ·exact⟨k,hk,rfl⟩
theorem Gq:∀(l:List Nat)(hp:THp)(id:Nat),Ci hp (C4 hp l) id
 |[],hp,id=>Ci.refl hp id
 |b::l,hp,id=>(YP id).trans (Gq l _ id)
theorem NG:∀(l:List Nat)(hp:THp)(id:Nat)(b:TB),AA (C4 hp l) id=some b->AA hp id=some b/\id ∉ l
 |[],_,_,_,h=>⟨h,by simp⟩
 |x::l,hp,id,b,h=>by
  obtain⟨h1,h2⟩:=NG l _ id b h;rw[Au]at h1
  split at h1
  ·cases h1
  ·rename_i hne;exact⟨h1,by simp[hne,h2]⟩
theorem RH.kill{hp:THp}{h:Hp}(hr:RH hp h)(l:List Nat):RH (C4 hp l) (Ev.kill h l):=fun id b hb=>by
 obtain⟨h1,h2⟩:=NG l hp id b hb;obtain⟨k,hk,hrb⟩:=hr id b h1;exact⟨k,by rw[Ia l h id h2];exact hk,hrb.keeps fun i _=>Gq l hp i⟩
theorem RH.put{hp:THp}{h:Hp}(hr:RH hp h){b:Nat}{x:TB}{k:Blk}(hk:∀id∈I8 x,Ci hp ((b,some x)::hp) id)(hold:∀id y,id≠b->AA hp id=some y->∀i∈I8 y,Ci hp ((b,some x)::hp) i)(hx:RB hp x k):RH ((b,some x)::hp) (upd h b (some k)):=fun id y hy=>by
 rw[Au]at hy
 split at hy
 ·rename_i he;subst he;cases hy
  exact⟨k,by simp[upd],hx.keeps hk⟩
 ·rename_i he;obtain⟨k',hk',hr'⟩:=hr id y hy;exact⟨k',by simp[upd,he,hk'],hr'.keeps (hold id y he hy)⟩
end
section
open Go
theorem RE.cells{hp:THp}:∀{t:Ty}{a:t.den}{row:List V},RE t a row->RC (RV0 hp) (W4 t a) row
 |.int _,_,_,h=>by simp only[RE]at h;subst h;exact⟨rfl,trivial⟩
 |.bool,_,_,h=>by simp only[RE]at h;subst h;exact⟨rfl,trivial⟩
 |.str,_,_,h=>by simp only[RE]at h;subst h;exact⟨rfl,trivial⟩
 |.pair a b,x,_,h=>by
  obtain⟨r1,r2,rfl,h1,h2⟩:=h;exact h1.cells.append h2.cells
 |.sl e,l,_,h=>by
  rcases h with⟨rfl,rfl⟩|⟨rows,rfl,hr⟩
  ·exact⟨.inl ⟨rfl,rfl⟩,trivial⟩
  ·exact⟨.inr ⟨rows,rfl,hr⟩,trivial⟩
theorem Fm{t e:Ty}(h:t=e){l:List t.den}{rows:List (List V)}(hr:RLx (RE t) l rows):RLx (RE e) (Hd h l) rows:=by subst h;exact hr
theorem Vx{hp:THp}{e:Ty}{x:SV}{l:List e.den}{y:V}(h:asL e x=some l)(hv:RV0 hp x y):(l=[]/\y=.em)\/∃rows,y=.im rows/\RLx (RE e) l rows:=by
 unfold asL at h
 split at h
 ·cases h;exact .inl ⟨rfl,hv⟩
 ·split at h
  ·rename_i t l' he;cases h
   subst he;rcases hv with⟨rfl,rfl⟩|⟨rows,rfl,hr⟩
   ·exact .inl ⟨rfl,rfl⟩
   ·exact .inr ⟨rows,rfl,hr⟩
  ·cases h
 ·cases h
theorem R1{hp:THp}:∀{t:Ty}{cs r:List SV}{x:t.den}{us:List V},Ov t cs=some (x,r)->RC (RV0 hp) cs us->∃row us',us=row++us'/\RE t x row/\RC (RV0 hp) r us'
 |.int k,cs,r,x,us,h,hv=>by
  cases cs with
  |nil=>simp[Ov]at h
  |cons c cs=>
   cases c<;>simp only[Ov,reduceCtorEq]at h
   rename_i k' n
   split at h
   ·rename_i hk;cases h
    subst hk;cases us with
    |nil=>exact hv.elim
    |cons u us=>obtain⟨h1,h2⟩:=hv;exact⟨[u],us,rfl,by simp only[RE];rw[h1],h2⟩
   ·cases h
 |.bool,cs,r,x,us,h,hv=>by
  cases cs with
  |nil=>simp[Ov]at h
  |cons c cs=>
   cases c<;>simp only[Ov,reduceCtorEq]at h
   cases h
   cases us with
   |nil=>exact hv.elim
   |cons u us=>obtain⟨h1,h2⟩:=hv;exact⟨[u],us,rfl,by simp only[RE];rw[h1],h2⟩
 |.str,cs,r,x,us,h,hv=>by
  cases cs with
  |nil=>simp[Ov]at h
  |cons c cs=>
   cases c<;>simp only[Ov,reduceCtorEq]at h
   cases h
   cases us with
   |nil=>exact hv.elim
   |cons u us=>obtain⟨h1,h2⟩:=hv;exact⟨[u],us,rfl,by simp only[RE];rw[h1],h2⟩
 |.pair a b,cs,r,x,us,h,hv=>by
  simp only[Ov]at h
  split at h
  ·rename_i x1 r1 h1
   split at h
   ·rename_i y1 r2 h2;cases h
    obtain⟨row1,us1,rfl,e1,v1⟩:=R1 h1 hv;obtain⟨row2,us2,rfl,e2,v2⟩:=R1 h2 v1;exact⟨row1++row2,us2,by simp,⟨row1,row2,rfl,e1,e2⟩,v2⟩
   ·cases h
  ·cases h
 |.sl e,cs,r,x,us,h,hv=>by
  cases cs with
  |nil=>simp[Ov]at h
  |cons c cs=>
   simp only[Ov]at h
   split at h
   ·rename_i l h1;cases h
    cases us with
    |nil=>exact hv.elim
    |cons u us=>
     obtain⟨q1,q2⟩:=hv;refine⟨[u],us,rfl,?_,q2⟩
     rcases Vx h1 q1 with⟨rfl,rfl⟩|⟨rows,rfl,hr⟩
     ·exact .inl ⟨rfl,rfl⟩
     ·exact .inr ⟨rows,rfl,hr⟩
   ·cases h
theorem R0{hp:THp}{t:Ty}{cs:List SV}{x:t.den}{us:List V}(h:Ao2 t cs=some x)(hv:RC (RV0 hp) cs us):RE t x us:=by
 unfold Ao2 at h
 split at h
 ·rename_i y hd;cases h
  obtain⟨row,us',rfl,e,v⟩:=R1 hd hv;cases us' with
  |nil=>simpa using e
  |cons a l=>exact v.elim
 ·cases h
theorem WV{hp:THp}(c:Value):RV0 hp (Ns c) (CM c):=by
 unfold Ns CM
 split
 ·simp[GD,RV0]
 ·simp[GD,RV0]
 ·simp[GD,RV0]
 ·rfl
 ·split
  ·rename_i h1 h2 h3 h4 h5
   split
   ·exact absurd rfl h4
   ·rw[zw h5];rfl
  ·trivial
theorem Uq{hp:THp}:∀(l:List Value),RC (RV0 hp) (l.map Ns) (l.map CM)
 |[]=>trivial
 |c::l=>⟨WV c,Uq l⟩
theorem Ae7{hp:THp}(c:Value):RV2 hp (RX c) (Hy c):=by
 unfold RX Hy
 split
 ·rename_i cs;exact⟨_,rfl,Uq cs.toList⟩
 ·rename_i hn
  split
  ·rename_i cs;exact absurd rfl (hn cs)
  ·exact(WV c).to1.to2
theorem AX{hp:THp}{tm:TTm}{m:Tm}(h:RT hp tm m)(x:Operand):RV2 hp (opT tm x) (Ax m x):=by
 cases x with
 |tmp t=>exact h t
 |const c=>exact Ae7 c
 |global g=>trivial
 |func f=>exact⟨[],rfl,trivial⟩
theorem Og{hp:THp}:∀(l:List V),RC (RV0 hp) (l.map Qo) l
 |[]=>trivial
 |x::l=>by
  refine⟨?_,Og l⟩
  unfold Qo
  split<;>first|rfl|trivial
theorem H6{α:Type}(x:SV)(F:SV->α):PY x F=F x:=by cases x<;>rfl
section
variable {hp:THp} {x:SV} {y:V}
theorem Il{k:IntKind}{n:Int}(h:RV2 hp (.int k n) y):y=.v (.int k n):=h
theorem L7{b:Bool}(h:RV2 hp (.bool b) y):y=.v (.bool b):=h
theorem O1{s:Str}(h:RV2 hp (.str s) y):y=.v (.string ⟨s.toArray⟩):=h
theorem SY{cs:List SV}(h:RV2 hp (.agg cs) y):∃us,y=.agg us/\RC (RV0 hp) cs us:=h
theorem Aa9{f:FuncId}{cs:List SV}(h:RV2 hp (.cl f cs) y):∃us,y=.cl f us/\RC (RV0 hp) cs us:=h
theorem H5(hv:RV2 hp x y)(hok:(CI x).all okT=true):RC (RV0 hp) (CI x) (flat y)/\(flat y).all Bk=true:=by
 have one:∀{x:SV}{y:V},RV0 hp x y->okT x=true->Bk y=true:=by
  intro x y h hk;cases x with
  |int k n=>have:y=_:=h;subst this;rfl
  |bool b=>have:y=_:=h;subst this;rfl
  |str s=>have:y=_:=h;subst this;rfl
  |sc v=>have:y=_:=h;subst this;rfl
  |em=>have:y=_:=h;subst this;rfl
  |er e=>simp[okT]at hk
  |im t l=>rcases h with⟨_,rfl⟩|⟨rows,rfl,_⟩<;>rfl
  |ow id=>obtain⟨n,rfl,_⟩:=h;rfl
  |ar a b c=>have:y=_:=h;subst this;rfl
  |rf a b c=>have:y=_:=h;subst this;rfl
  |ir a b c=>obtain⟨row,rfl,_⟩:=h;rfl
  |agg cs=>simp[okT]at hk
  |tup cs=>simp[okT]at hk
  |cl f cs=>cases cs with
   |nil=>have:y=_:=h;subst this;rfl
   |cons a l=>simp[okT]at hk
  |any=>simp[okT]at hk
 have many:∀{xs:List SV}{ys:List V},RC (RV0 hp) xs ys->xs.all okT=true->ys.all Bk=true:=by
  intro xs
  induction xs with
  |nil=>intro ys h _;cases ys with|nil=>rfl|cons a l=>exact h.elim
  |cons a l ih=>
   intro ys h hk;cases ys with
   |nil=>exact h.elim
   |cons b m=>
    simp only[zc1,za2]at hk⊢
    exact⟨one h.1 hk.1,ih h.2 hk.2⟩
 have single:RV0 hp x y->CI x=[x]->flat y=[y]->RC (RV0 hp) (CI x) (flat y)/\(flat y).all Bk=true:=by
  intro h h1 h2;rw[h1]at hok⊢
  rw[h2];exact⟨⟨h,trivial⟩,many (xs:=[x]) (ys:=[y]) ⟨h,trivial⟩ hok⟩
 cases x with
 |agg cs=>obtain⟨us,rfl,h⟩:=hv;exact⟨h,many h hok⟩
 |int k n=>have:y=_:=hv;subst this;exact single rfl rfl rfl
 |bool b=>have:y=_:=hv;subst this;exact single rfl rfl rfl
 |str s=>have:y=_:=hv;subst this;exact single rfl rfl rfl
 |sc v=>have:y=_:=hv;subst this;exact single rfl rfl rfl
 |em=>have:y=_:=hv;subst this;exact single rfl rfl rfl
 |er e=>simp[CI,okT]at hok
 |im t l=>have hv':RV0 hp (.im t l) y:=hv;rcases hv with⟨_,rfl⟩|⟨rows,rfl,_⟩<;>exact single hv' rfl rfl
 |ow id=>have hv':RV0 hp (.ow id) y:=hv;obtain⟨n,rfl,_⟩:=hv;exact single hv' rfl rfl
 |ar a b c=>have:y=_:=hv;subst this;exact single rfl rfl rfl
 |rf a b c=>have:y=_:=hv;subst this;exact single rfl rfl rfl
 |ir a b c=>have hv':RV0 hp (.ir a b c) y:=hv;obtain⟨row,rfl,_⟩:=hv;exact single hv' rfl rfl
 |tup cs=>simp[CI,okT]at hok
 |cl f cs=>
  cases cs with
  |nil=>
   obtain⟨us,rfl,h⟩:=hv;cases us with
   |nil=>exact single rfl rfl rfl
   |cons a l=>exact h.elim
  |cons a l=>simp[CI,okT]at hok
 |any=>simp[CI,okT]at hok
end
theorem QJ{hp:THp}{g:Bool}{cs:List SV}{us:List V}{x:SV}(h:mkT g cs=some x)(hr:RC (RV0 hp) cs us):∃y,mk g us=some y/\RV2 hp x y:=by
 unfold mkT at h
 split at h
 ·rename_i hg;cases h
  exact⟨.agg us,by simp[mk,hg],us,rfl,hr⟩
 ·rename_i hg
  split at h
  ·cases h
   cases us with
   |nil=>exact hr.elim
   |cons u us=>
    cases us with
    |nil=>exact⟨u,by simp[mk,hg],hr.1.to1.to2⟩
    |cons a l=>exact hr.2.elim
  ·cases h
theorem N6{α:Type}{g:Bool}{cs:Option (List SV)}{K:SV->Option α}{z:α}(h:tMk g cs K=some z):∃l x,cs=some l/\mkT g l=some x/\K x=some z:=by
 unfold tMk at h
 split at h
 ·split at h
  ·rename_i x hx;rw[H6]at h;exact⟨_,x,rfl,hx,h⟩
  ·cases h
 ·cases h
theorem Bb{α β:Type}{x:Option α}{f:α->Option β}{z:β}(h:x.bind f=some z):∃a,x=some a/\f a=some z:=by
 cases x with
 |none=>cases h
 |some a=>exact⟨a,rfl,h⟩
theorem LU{α:Type}{c:Bool}{A:Option α}{z:α}(h:cond c none A=some z):c=false/\A=some z:=by
 cases c with
 |true=>cases h
 |false=>exact⟨rfl,h⟩
theorem Cw{α:Type}{c:Bool}{A:Option α}{z:α}(h:cond c A none=some z):c=true/\A=some z:=by
 cases c with
 |false=>cases h
 |true=>exact⟨rfl,h⟩
theorem EO{α:Type}{X:Option V}{k:IntKind}{n:Int}{K:SV->Option α}{z:α}(h:K (.int k n)=some z)(he:X=some (.v (.int k n))):∃v u,X=some (.v u)/\(∀hp,RV2 hp v (.v u))/\K v=some z:=⟨.int k n,.int k n,he,fun _=>rfl,h⟩
theorem Gn{α:Type}{X:Option V}{b:Bool}{K:SV->Option α}{z:α}(h:K (.bool b)=some z)(he:X=some (.v (.bool b))):∃v u,X=some (.v u)/\(∀hp,RV2 hp v (.v u))/\K v=some z:=⟨.bool b,.bool b,he,fun _=>rfl,h⟩
theorem Ao3{α:Type}{X:Option V}{s:Str}{K:SV->Option α}{z:α}(h:K (.str s)=some z)(he:X=some (.v (.string ⟨s.toArray⟩))):∃v u,X=some (.v u)/\(∀hp,RV2 hp v (.v u))/\K v=some z:=⟨.str s,.string ⟨s.toArray⟩,he,fun _=>rfl,h⟩
theorem AA1{α:Type}{P:Program}{op:BinOp}{t:TypeId}{x y:Operand}{k k':IntKind}{a b:Int}{K:SV->Option α}{z:α}(h:Fq op k k' a b K=some z):
  ∃v u,((Am P (do eqGuard op t x y (.int k a) (.int k' b);binOp op t (.int k a) (.int k' b))).bind Aw)=some (.v u)/\(∀hp,RV2 hp v (.v u))/\K v=some z:=by
 have hk:k=k'->(op≠ .shl/\op≠ .shr)->∃v u,((Am P (do eqGuard op t x y (.int k a) (.int k b);binOp op t (.int k a) (.int k b))).bind Aw)=some (.v u)/\(∀hp,RV2 hp v (.v u))/\K v=some z:=by
  intro he hop;subst he;cases op
  case quo=>
   simp only[Fq,if_true]at h;obtain⟨h1,h2⟩:=LU h;have h0:¬b=0:=by simpa using h1
   refine EO h2 ?_
   show((Am P (if k≠k then _ else if b=0 then _ else _)).bind Aw)=_;rw[zi (by simp),zi h0];rfl
  case rem=>
   simp only[Fq,if_true]at h;obtain⟨h1,h2⟩:=LU h;have h0:¬b=0:=by simpa using h1
   refine EO h2 ?_
   show((Am P (if k≠k then _ else if b=0 then _ else _)).bind Aw)=_;rw[zi (by simp),zi h0];rfl
  case shl=>exact absurd rfl hop.1
  case shr=>exact absurd rfl hop.2
  case andNot=>simp only[Fq,if_true,reduceCtorEq]at h
  case add=>simp only[Fq,if_true]at h;exact EO h (by show((Am P (if k≠k then _ else _)).bind Aw)=_;rw[zi (by simp)];rfl)
  case sub=>simp only[Fq,if_true]at h;exact EO h (by show((Am P (if k≠k then _ else _)).bind Aw)=_;rw[zi (by simp)];rfl)
  case mul=>simp only[Fq,if_true]at h;exact EO h (by show((Am P (if k≠k then _ else _)).bind Aw)=_;rw[zi (by simp)];rfl)
  case and=>simp only[Fq,if_true]at h;exact EO h (by show((Am P (if k≠k then _ else _)).bind Aw)=_;rw[zi (by simp)];rfl)
  case or=>simp only[Fq,if_true]at h;exact EO h (by show((Am P (if k≠k then _ else _)).bind Aw)=_;rw[zi (by simp)];rfl)
  case xor=>simp only[Fq,if_true]at h;exact EO h (by show((Am P (if k≠k then _ else _)).bind Aw)=_;rw[zi (by simp)];rfl)
  case eql=>simp only[Fq,if_true]at h;exact Gn h (by show((Am P (if k≠k then _ else _)).bind Aw)=_;rw[zi (by simp)];rfl)
  case neq=>simp only[Fq,if_true]at h;exact Gn h (by show((Am P (if k≠k then _ else _)).bind Aw)=_;rw[zi (by simp)];rfl)
  case lss=>simp only[Fq,if_true]at h;exact Gn h (by show((Am P (if k≠k then _ else _)).bind Aw)=_;rw[zi (by simp)];rfl)
  case leq=>simp only[Fq,if_true]at h;exact Gn h (by show((Am P (if k≠k then _ else _)).bind Aw)=_;rw[zi (by simp)];rfl)
  case gtr=>simp only[Fq,if_true]at h;exact Gn h (by show((Am P (if k≠k then _ else _)).bind Aw)=_;rw[zi (by simp)];rfl)
  case geq=>simp only[Fq,if_true]at h;exact Gn h (by show((Am P (if k≠k then _ else _)).bind Aw)=_;rw[zi (by simp)];rfl)
 by_cases h1:op=.shl
 ·subst h1;simp only[Fq]at h;obtain⟨h1,h2⟩:=LU h;have h0:¬b<0:=by simpa using h1
  refine EO h2 ?_
  show((Am P (if b<0 then _ else _)).bind Aw)=_;rw[zi h0];rfl
 ·by_cases h2:op=.shr
  ·subst h2;simp only[Fq]at h;obtain⟨h1,h2⟩:=LU h;have h0:¬b<0:=by simpa using h1
   refine EO h2 ?_
   show((Am P (if b<0 then _ else _)).bind Aw)=_;rw[zi h0];rfl
  ·by_cases hkk:k=k'
   ·subst hkk;exact hk rfl ⟨h1,h2⟩
   ·exfalso
    cases op<;>simp only[Fq,zi hkk,reduceCtorEq]at h
    ·exact h1 rfl
    ·exact h2 rfl
theorem AA2{α:Type}{P:Program}{op:BinOp}{t:TypeId}{x y:Operand}{s u:Str}{K:SV->Option α}{z:α}(h:Ax4 op s u K=some z):
  ∃v w,((Am P (do eqGuard op t x y (.string ⟨s.toArray⟩) (.string ⟨u.toArray⟩);binOp op t (.string ⟨s.toArray⟩) (.string ⟨u.toArray⟩))).bind Aw)=some (.v w)/\(∀hp,RV2 hp v (.v w))/\K v=some z:=by
 have e1:(ByteArray.mk s.toArray).toList=s:=ByteArray.toList_mk s;have e2:(ByteArray.mk u.toArray).toList=u:=ByteArray.toList_mk u;cases op<;>simp only[Ax4,reduceCtorEq]at h
 case add=>
  obtain⟨r,h1,h2⟩:=Bb h;unfold AO6 at h1
  split at h1
  ·rename_i hle;cases h1
   refine Ao3 h2 ?_
   show((Am P (if(((ByteArray.mk s.toArray).size+(ByteArray.mk u.toArray).size:Nat):Int)>IntKind.i64.max then _ else _)).bind Aw)=_;have hs:(ByteArray.mk s.toArray).size=s.length:=by simp[ByteArray.size]
   have hu:(ByteArray.mk u.toArray).size=u.length:=by simp[ByteArray.size]
   have hm:IntKind.i64.max=9223372036854775807:=by decide
   rw[zi (by rw[hs,hu,hm];omega)];have:(ByteArray.mk s.toArray)++(ByteArray.mk u.toArray)=⟨(s++u).toArray⟩:=by
    apply ByteArray.ext;simp
   show some (V.v (.string ((ByteArray.mk s.toArray)++(ByteArray.mk u.toArray))))=_;rw[this]
  ·cases h1
 all_goals
  refine Gn h ?_
  show some (V.v (.bool _))=_;simp only[e1,e2]
end
section
open Go
abbrev EqR:SV->V->Prop:=fun s u=>∃k n,s=.int k n/\u=.v (.int k n)
def AR6(P:Program)(t:TypeId)(n:Nat):Prop:=∀(x y:Operand)(cs ds:List SV)(us vs:List Value)(r:Bool),us.length=n->RC EqR cs (us.map .v)->
 RC EqR ds (vs.map .v)->FN cs ds=some r->
 Am P (do eqGuard .eql t x y (.agg us.toArray) (.agg vs.toArray);binOp .eql t (.agg us.toArray) (.agg vs.toArray))=some (.bool r)/\
 Am P (do eqGuard .neq t x y (.agg us.toArray) (.agg vs.toArray);binOp .neq t (.agg us.toArray) (.agg vs.toArray))=some (.bool (!r))
def AN8(P:Program)(t:TypeId):Prop:=∀d,AY P t=some d->AR6 P t d.size
structure XOK (P:Program) (X:TX):Prop where
 ty:∀t d,getD X.ty t=some d->AY P t=some d
 bools:∀t,X.bools.contains t=true->P.underlying t=some .bool
 eqs:∀t,X.eqs.contains t=true->AN8 P t
section
variable {α:Type} {P:Program} {R:Rel} {cf:Cfg} {X:TX} {b:Nat} {tm:TTm} {m:Tm} {hp hpm:THp} {hv hvm:Hp} {K:SV->THp->Cls->Option α} {z:α}
def Cj(P:Program)(R:Rel)(cf:Cfg)(op:Op)(b:Nat)(m:Tm)(hp:THp)(hpm:THp)(hvm:Hp)(K:SV->THp->Cls->Option α)(z:α):Prop:=
 ∃x y cls,K x hpm cls=some z/\RV2 hp x y/\∀KV:BP,KV y hvm cls->Bi P R cf op b (Ax m) hvm KV
def RHm(hpm hp:THp)(hvm:Hp):Prop:=∀id b,AA hpm id=some b->AA hp id=some b/\∃k,hvm id=some k/\RB hp b k
theorem RH.toM(h:RH hp hv):RHm hp hp hv:=fun id b hb=>⟨hb,h id b hb⟩
theorem AZ{op:Op}{x:SV}{y:V}(h:K x hpm .T=some z)(hr:RV2 hp x y)(hn:Aq P op (Ax m)=some y)
  (hop:∀KV:BP,Bi P R cf op b (Ax m) hvm KV=(match Aq P op (Ax m)with|some x=>KV x hvm .T|none=>Bl (A4 P op (Ax m) hvm b) fun z=>z.2.length<=16/\KV z.1 (inst hvm b z.2) .M)):Cj P R cf op b m hp hpm hvm K z:=
 ⟨x,y,.T,h,hr,fun KV hk=>by rw[hop,hn];exact hk⟩
theorem Ka{op:Op}{x:SV}{y:V}(h:K x hpm .M=some z)(hr:RV2 hp x y)(hn:Aq P op (Ax m)=none)(hm:A4 P op (Ax m) hvm b=some (y,[]))
  (hop:∀KV:BP,Bi P R cf op b (Ax m) hvm KV=(match Aq P op (Ax m)with|some x=>KV x hvm .T|none=>Bl (A4 P op (Ax m) hvm b) fun z=>z.2.length<=16/\KV z.1 (inst hvm b z.2) .M)):Cj P R cf op b m hp hpm hvm K z:=
 ⟨x,y,.M,h,hr,fun KV hk=>by rw[hop,hn];simp only[hm,Aj,inst];exact⟨by simp,hk⟩⟩
theorem AK7{x:Operand}(hr:RT hp tm m)(h:Bt X (.move x) b tm hpm K=some z):Cj P R cf (.move x) b m hp hpm hvm K z:=by
 simp only[Bt,H6]at h;exact AZ h (AX hr x) rfl fun _=>rfl
theorem Ar8{x:Operand}(hr:RT hp tm m)(h:Bt X (.assign x) b tm hpm K=some z):Cj P R cf (.assign x) b m hp hpm hvm K z:=by
 simp only[Bt,H6]at h;exact AZ h (AX hr x) rfl fun _=>rfl
theorem AK8{c x y:Operand}(hr:RT hp tm m)(h:Bt X (.pick c x y) b tm hpm K=some z):Cj P R cf (.pick c x y) b m hp hpm hvm K z:=by
 simp only[Bt,H6]at h
 split at h
 ·rename_i t ht;have hc:=AX hr c;rw[ht]at hc;have hc:=L7 hc;cases t with
  |true=>exact AZ h (AX hr x) (by simp[Aq,hc]) fun _=>rfl
  |false=>exact AZ h (AX hr y) (by simp[Aq,hc]) fun _=>rfl
 ·cases h
theorem AP6{x:Operand}(hr:RT hp tm m)(h:Bt X (.nilCheck x) b tm hpm K=some z):Cj P R cf (.nilCheck x) b m hp hpm hvm K z:=by
 simp only[Bt]at h;have hc:=AX hr x
 split at h
 ·rename_i id r c hx;rw[hx]at hc;have hc':Ax m x=.rf id r c:=hc;exact AZ h (y:=.rf id r c) rfl (by simp[Aq,hc']) fun _=>rfl
 ·rename_i t a c hx;rw[hx]at hc;obtain⟨row,he,hre⟩:=hc;exact AZ h (y:=.ir row c) ⟨row,rfl,hre⟩ (by simp[Aq,he]) fun _=>rfl
 ·rename_i f caps hx;rw[hx]at hc;obtain⟨us,he,hre⟩:=Aa9 hc;exact AZ h (y:=.cl f us) ⟨us,rfl,hre⟩ (by simp[Aq,he]) fun _=>rfl
 ·cases h
theorem AS4{u:UnOp}{t:TypeId}{x:Operand}(hr:RT hp tm m)(h:Bt X (.unOp u t x) b tm hpm K=some z):Cj P R cf (.unOp u t x) b m hp hpm hvm K z:=by
 simp only[Bt,tUn]at h;have hc:=AX hr x
 split at h
 ·rename_i bb hx;rw[hx]at hc;have hc:=L7 hc;exact AZ h (y:=.v (.bool !bb)) rfl (by simp only[Aq,hc];rfl) fun _=>rfl
 ·rename_i k n hx;rw[hx]at hc;have hc:=Il hc;exact AZ h (y:=.v (.int k (k.wrap (0-n)))) rfl (by simp only[Aq,hc];rfl) fun _=>rfl
 ·cases h
theorem Ap3{cs ds:List SV}{r:Bool}(h:FN cs ds=some r):∀{us vs:List V},RC (RV0 hp) cs us->RC (RV0 hp) ds vs->∃us' vs':List Value,us=us'.map .v/\vs=vs'.map .v/\
  RC EqR cs (us'.map .v)/\RC EqR ds (vs'.map .v):=by
 induction cs generalizing ds r with
 |nil=>
  intro us vs h1 h2;cases ds with
  |nil=>
   cases us with
   |nil=>cases vs with
    |nil=>exact⟨[],[],rfl,rfl,trivial,trivial⟩
    |cons a l=>exact h2.elim
   |cons a l=>exact h1.elim
  |cons a l=>simp[FN]at h
 |cons c cs ih=>
  intro us vs h1 h2;cases ds with
  |nil=>cases c<;>simp[FN]at h
  |cons d ds=>
   cases us with
   |nil=>exact h1.elim
   |cons u us=>
    cases vs with
    |nil=>exact h2.elim
    |cons v vs=>
     cases c<;>cases d<;>first|(simp[FN]at h;done)|skip
     rename_i k n k' n';have hrest:∃r',FN cs ds=some r':=by
      cases cs with
      |nil=>
       cases ds with
       |nil=>exact⟨true,rfl⟩
       |cons a l=>simp only[FN]at h;split at h<;>simp_all
      |cons a l=>
       simp only[FN]at h
       split at h
       ·cases he:FN (a::l) ds with
        |none=>rw[he]at h;cases h
        |some r'=>exact⟨r',rfl⟩
       ·cases h
     obtain⟨r',hr'⟩:=hrest;obtain⟨us',vs',e1,e2,e3,e4⟩:=ih hr' h1.2 h2.2;have q1:u=.v (.int k n):=h1.1;have q2:v=.v (.int k' n'):=h2.1;subst q1;subst q2;subst e1;subst e2;exact⟨_::us',_::vs',rfl,rfl,⟨⟨_,_,rfl,rfl⟩,e3⟩,⟨⟨_,_,rfl,rfl⟩,e4⟩⟩
theorem Ed{β:Type}{t:TypeId}{d:TypeDesc}(hu:P.underlying t=some d)(f:TypeDesc->Sem β):Am P (underlying t>>=f)=Am P (f d):=by
 show Am P ((match P.underlying t with|some d=>(pure d:Sem TypeDesc)|none=>stuck "no such type")>>=f)=_;rw[hu];rfl
theorem Ai6{t:TypeId}(hu:P.underlying t=some .bool)(p q:Bool):Am P (Op.equal t (.bool p) (.bool q))=some (p==q):=by
 show Am P (Op.equalIn (9999+1) t (.bool p) (.bool q))=_;unfold Op.equalIn;rw[Ed hu];rfl
theorem NR{α β:Type}(f:α->Sem β)(s:Sem α)(a:α)(h:Am P s=some a):Am P (s>>=f)=Am P (f a):=by
 induction s with
 |pure b=>simp[Am]at h;subst h;rfl
 |program k ih=>exact ih P (by simpa[Am]using h)
 |_=>simp[Am]at h
theorem Kh:∀(l:List Value),Cf (l.map V.v)=some l
 |[]=>rfl
 |x::l=>by simp[Cf,Kh l]
theorem AP2{op:BinOp}{t yt:TypeId}{x y:Operand}(hX:XOK P X)(hr:RT hp tm m)(h:Bt X (.binOp op t x y yt) b tm hpm K=some z):Cj P R cf (.binOp op t x y yt) b m hp hpm hvm K z:=by
 simp only[Bt]at h;have hx:=AX hr x;have hy:=AX hr y;cases hnc:AL2 op y with
 |true=>
  rw[hnc]at h;simp only at h
  split at h
  case h_2=>cases h
  rename_i d ty l hd hl
  split at h
  case h_2=>cases h
  rename_i e he;obtain⟨u,hu,h2⟩:=Bb h;rw[hl]at hx;have hne:∃r rows,Ax m x=.im (r::rows):=by
   cases l with
   |nil=>cases hu
   |cons a l=>
    rcases hx with⟨h0,_⟩|⟨rows,hrow,hrl⟩
    ·cases h0
    ·cases rows with
     |nil=>exact absurd hrl.1 (by simp)
     |cons r rows=>exact⟨r,rows,hrow⟩
  obtain⟨r,rows,hxv⟩:=hne;have hsl:MI P t=true:=by unfold MI;rw[hX.ty t d hd];simp[he]
  refine AZ h2 (y:=.v (.bool false)) rfl ?_ fun _=>rfl
  unfold AL2 at hnc
  split at hnc
  ·simp only[Aq,hxv,GZ,NN,hsl]
  ·cases hnc
 |false=>
 rw[hnc]at h;simp only at h;have h:(∃s e,erC op y=some s/\opT tm x=.er e/\ZY X t=true/\K (.bool (cond s (!e) e)) hpm .T=some z)\/AF1 X op t (opT tm x) (opT tm y) (fun v=>K v hpm .T)=some z:=by
  split at h
  ·rename_i s hs
   split at h
   ·rename_i e he;cases hi:ZY X t with
    |true=>rw[hi]at h;exact .inl ⟨s,e,hs,he,rfl,h⟩
    |false=>rw[hi]at h;cases h
   ·exact .inr h
  ·exact .inr h
 rcases h with⟨s,e,hs,he,hi,h⟩|h
 ·rw[he]at hx;have hx:Ax m x=.er e:=hx;have hic:Xj P t=true:=by
   unfold ZY at hi
   split at hi
   ·rename_i d hd;unfold Xj;rw[hX.ty t d hd];exact hi
   ·cases hi
  unfold erC at hs
  split at hs
  ·cases hs
   refine AZ h (y:=.v (.bool !e)) rfl ?_ fun _=>rfl
   simp only[Aq,hx,GZ,NN,Af9,hic]
  ·cases hs
   refine AZ h (y:=.v (.bool e)) rfl ?_ fun _=>rfl
   simp only[Aq,hx,GZ,NN,Af9,hic]
  ·cases hs
 simp only[AF1]at h
 split at h
 ·rename_i k a k' c e1 e2;rw[e1]at hx;rw[e2]at hy;have hx:=Il hx;have hy:=Il hy;obtain⟨v,u,q1,q2,q3⟩:=AA1 (P:=P) (t:=t) (x:=x) (y:=y) h;exact AZ q3 (q2 hp) (by simp only[Aq,hx,hy,GZ];exact q1) fun _=>rfl
 ·rename_i s u e1 e2;rw[e1]at hx;rw[e2]at hy;have hx:=O1 hx;have hy:=O1 hy;obtain⟨v,u,q1,q2,q3⟩:=AA2 (P:=P) (t:=t) (x:=x) (y:=y) h;exact AZ q3 (q2 hp) (by simp only[Aq,hx,hy,GZ];exact q1) fun _=>rfl
 ·rename_i p q e1 e2;rw[e1]at hx;rw[e2]at hy;have hx:=L7 hx;have hy:=L7 hy
  split at h
  ·rename_i hb;have hu:=hX.bools t hb;have heq:=Ai6 hu p q
   split at h
   ·refine AZ h (y:=.v (.bool (p==q))) rfl ?_ fun _=>rfl
    simp only[Aq,hx,hy,GZ];show((Am P (do let r <-Op.equal t (.bool p) (.bool q);pure (.bool r))).bind Aw)=_;rw[NR _ _ _ heq];rfl
   ·refine AZ h (y:=.v (.bool !(p==q))) rfl ?_ fun _=>rfl
    simp only[Aq,hx,hy,GZ];show((Am P (do let r <-Op.equal t (.bool p) (.bool q);pure (.bool !r))).bind Aw)=_;rw[NR _ _ _ heq];rfl
   ·cases h
  ·cases h
 ·rename_i cs ds e1 e2;rw[e1]at hx;rw[e2]at hy;obtain⟨us,hx,r1⟩:=SY hx;obtain⟨vs,hy,r2⟩:=SY hy
  split at h
  ·rename_i ht
   split at h
   ·rename_i d r hd hq
    split at h
    case isFalse=>cases h
    rename_i hlen;obtain⟨us',vs',rfl,rfl,q1,q2⟩:=Ap3 hq r1 r2;have hl:us'.length=d.size:=by
     have:=RC.length q1;rw[List.length_map]at this;rw[this];exact za7 hlen
    obtain⟨p1,p2⟩:=hX.eqs t ht d (hX.ty t d hd) x y cs ds us' vs' r hl q1 q2 hq
    split at h
    ·exact AZ h (y:=.v (.bool r)) rfl (by simp only[Aq,hx,hy,GZ,Kh];rw[p1];rfl) fun _=>rfl
    ·exact AZ h (y:=.v (.bool !r)) rfl (by simp only[Aq,hx,hy,GZ,Kh];rw[p2];rfl) fun _=>rfl
    ·cases h
   ·cases h
  ·cases h
 ·cases h
end
end
section
open Go
variable {P:Program}
end
section
open Go
section
variable {α:Type} {P:Program} {R:Rel} {cf:Cfg} {X:TX} {b:Nat} {tm:TTm} {m:Tm} {hp hpm:THp} {hv hvm:Hp} {K:SV->THp->Cls->Option α} {z:α}
theorem Vc{β:Type}{flds:List Fld}(hr:RT hp tm m):∀{parts:List (Nat×Operand)}{cs:List SV}{us:List V}{K:List SV->Option β}{z:β},Ab7 flds tm cs parts K=some z->RC (RV0 hp) cs us->
  ∃cs' us',Hf flds (Ax m) us parts=some us'/\RC (RV0 hp) cs' us'/\K cs'=some z
 |[],cs,us,K,z,h,hc=>⟨cs,us,rfl,hc,h⟩
 |(k,x)::rest,cs,us,K,z,h,hc=>by
  simp only[Ab7,H6]at h
  split at h
  ·rename_i f hf
   split at h
   ·rename_i hok;simp only[za2,decide_eq_true_eq]at hok
    split at h
    ·rename_i cs1 hp1;obtain⟨f1,f2⟩:=H5 (AX hr x) hok.2;obtain⟨us1,h1,h2⟩:=RC.put hp1 hc f1;obtain⟨cs2,us2,h3,h4,h5⟩:=Vc hr h h2;refine⟨cs2,us2,?_,h4,h5⟩
     simp only[Hf,hf];have hl:=f1.length;have he:=of_decide_eq_true (by simpa using hok.1:decide ((CI (opT tm x)).length=f.size)=true);rw[zw (by simp only[za2,decide_eq_true_eq];exact⟨by omega,f2⟩),h1];exact h3
    ·cases h
   ·cases h
  ·cases h
theorem AC3{t:TypeId}{parts:Array (Nat×Operand)}(hX:XOK P X)(hr:RT hp tm m)(h:Bt X (.build t parts) b tm hpm K=some z):Cj P R cf (.build t parts) b m hp hpm hvm K z:=by
 simp only[Bt]at h
 split at h
 ·rename_i d hd
  split at h
  ·rename_i hc;obtain⟨cs,us,h1,h2,h3⟩:=Vc hr h (Og d.zero);exact AZ h3 (y:=.agg us) ⟨us,rfl,h2⟩ (by simp only[Aq,hX.ty t d hd,hc,if_true,h1,zd1]) fun _=>rfl
  ·cases h
 ·cases h
theorem AC4{t:TypeId}{x:Operand}{k:Nat}(hX:XOK P X)(hr:RT hp tm m)(h:Bt X (.field t x k) b tm hpm K=some z):Cj P R cf (.field t x k) b m hp hpm hvm K z:=by
 simp only[Bt]at h;have hx:=AX hr x
 split at h
 ·rename_i cs d e1 hd;rw[e1]at hx;obtain⟨us,hx,hc⟩:=SY hx
  split at h
  ·rename_i f hf;obtain⟨l,v,h1,h2,h3⟩:=N6 h;obtain⟨vs,h4,h5⟩:=RC.seg h1 hc;obtain⟨y,h6,h7⟩:=QJ h2 h5;exact AZ h3 h7 (by simp only[Aq,hx,hX.ty t d hd,hf,h4,za0,h6]) fun _=>rfl
  ·cases h
 ·cases h
theorem Xm{t:TypeId}{x:Operand}{k:Nat}(hX:XOK P X)(hr:RT hp tm m)(h:Bt X (.fieldAddr t x k) b tm hpm K=some z):Cj P R cf (.fieldAddr t x k) b m hp hpm hvm K z:=by
 simp only[Bt]at h;have hx:=AX hr x
 split at h
 ·rename_i d hd
  split at h
  ·rename_i f id r c hf e1;rw[e1]at hx;have hx:Ax m x=.rf id r c:=hx;exact AZ h (y:=.rf id r (c+f.off)) rfl (by simp only[Aq,hX.ty t d hd,hf,hx]) fun _=>rfl
  ·rename_i f ty a c hf e1;rw[e1]at hx;obtain⟨row,hx,hre⟩:=hx;exact AZ h (y:=.ir row (c+f.off)) ⟨row,rfl,hre⟩ (by simp only[Aq,hX.ty t d hd,hf,hx]) fun _=>rfl
  ·cases h
 ·cases h
theorem Ak6{t:TypeId}(hX:XOK P X)(h:J7 X t=true):DH P t=true:=by
 unfold J7 at h
 split at h
 ·rename_i d hd;simp only[DH,hX.ty t d hd];exact h
 ·cases h
theorem slX{t:TypeId}(hX:XOK P X)(h:Xk X t=true):MI P t=true:=by
 unfold Xk at h
 split at h
 ·rename_i d hd;simp only[MI,hX.ty t d hd];exact h
 ·cases h
theorem UC{β:Type}{l:List β}{n:Int}{a:β}(h:AI l n=some a):0<=n/\l[n.toNat]? =some a:=by
 unfold AI at h
 split at h
 ·rename_i h0;exact⟨h0,h⟩
 ·cases h
theorem UL{n:Int}{len k:Nat}(h:AJ n len=some k):0<=n/\n.toNat<len/\k=n.toNat:=by
 unfold AJ at h
 split at h
 ·rename_i h0;cases h;exact⟨h0.1,h0.2,rfl⟩
 ·cases h
theorem AC5{t:TypeId}{x i:Operand}(hX:XOK P X)(hr:RT hp tm m)(h:Bt X (.index t x i) b tm hpm K=some z):Cj P R cf (.index t x i) b m hp hpm hvm K z:=by
 simp only[Bt]at h;have hx:=AX hr x;have hi:=AX hr i
 split at h
 ·rename_i s k n hs e1 e2;rw[e1]at hx;rw[e2]at hi;have hx:=O1 hx;have hi:=Il hi;obtain⟨c,h1,h2⟩:=Bb h;obtain⟨h0,hc⟩:=UC h1;have hlt:n.toNat<s.length:=(za3.1 hc).1;refine AZ h2 (y:=.v (.int .u8 (c.toNat:Int))) rfl ?_ fun _=>rfl
  simp only[Aq,Ak6 hX hs,hx,hi];have hsz:n.toNat<(ByteArray.mk s.toArray).size:=by simpa[ByteArray.size]using hlt
  rw[dif_pos ⟨h0,hsz⟩];have:(ByteArray.mk s.toArray)[n.toNat]'hsz=c:=by
   have:=(za3.1 hc).2;rw[<-this];rfl
  rw[this]
 ·cases h
structure ElemOK (P:Program) (t e:TypeId) (d:TyD) (c:Ty):Prop where
 el:(AY P t).bind (·.elem)=some e
 ty:AY P e=some d
 size:d.size=c.size
 flat:d.zero.all Qt=DB c
theorem LV{t e:TypeId}{d:TyD}{c:Ty}(hX:XOK P X)(h:PW X t=some (e,d,c)):ElemOK P t e d c:=by
 unfold PW at h
 split at h
 ·rename_i d0 hd0
  split at h
  ·rename_i e0 he0
   split at h
   ·rename_i de c0 hde hc0
    split at h
    ·rename_i hb;simp only[za2,beq_iff_eq]at hb;simp only[zb,Prod.mk.injEq]at h;obtain⟨rfl,rfl,rfl⟩:=h;exact⟨by rw[hX.ty t d0 hd0];exact he0,hX.ty _ _ hde,za7 hb.1,hb.2⟩
    ·cases h
   ·cases h
  ·cases h
 ·cases h
theorem AG1{t:TypeId}{x i:Operand}(hX:XOK P X)(hr:RT hp tm m)(hh:RHm hpm hp hvm)(h:Bt X (.indexAddr t x i) b tm hpm K=some z):Cj P R cf (.indexAddr t x i) b m hp hpm hvm K z:=by
 simp only[Bt,AQ4]at h;have hx:=AX hr x;have hi:=AX hr i
 split at h
 ·rename_i e de c he;have hE:=LV hX he
  split at h
  ·rename_i ty l k n e1 e2;rw[e1]at hx;rw[e2]at hi;have hi:=Il hi
   split at h
   ·rename_i hsz;obtain⟨a,h1,h2⟩:=Bb h;obtain⟨h0,hc⟩:=UC h1;rcases hx with⟨rfl,hx⟩|⟨rows,hx,hrl⟩
    ·simp at hc
    ·obtain⟨row,hrow,hre⟩:=hrl.get hc;have hlt:n.toNat<rows.length:=(za3.1 hrow).1;refine AZ h2 (y:=.ir row 0) ⟨row,rfl,hre⟩ ?_ fun _=>rfl
     simp only[Aq,hx,hi,hE.el,hE.ty];have hg:rows[n.toNat]'hlt=row:=(za3.1 hrow).2;rw[dif_pos ⟨h0,hlt⟩,hg,zw (by rw[hre.len];exact za7 hsz)]
   ·cases h
  ·rename_i id k n e1 e2;rw[e1]at hx;rw[e2]at hi;have hi:=Il hi;obtain⟨len,hx,hlen⟩:=hx;have key:∀(ty:Ty)(l:List ty.den)(tb:TB),AA hpm id=some tb->Er tb=some l.length->(∀kb,RB hp tb kb->kb.size=ty.size)->(Nat.beq ty.size de.size=true)->((AJ n l.length).bind fun k=>K (.rf id k 0) hpm .M)=some z->Cj P R cf (.indexAddr t x i) b m hp hpm hvm K z:=by
    intro ty l tb hg hbl hks hsz h;obtain⟨hg',kb,hkb,hrb⟩:=hh id tb hg;have hlen':=hlen tb hg';rw[hbl]at hlen';cases hlen'
    obtain⟨kk,h1,h2⟩:=Bb h;obtain⟨h0,h3,rfl⟩:=UL h1;refine Ka h2 (y:=.rf id (0+n.toNat) 0) (by rw[ze6];rfl) (by simp only[Aq,hx,hi]) ?_ fun _=>rfl
    simp only[A4,hx,hi,hE.el,hE.ty,hkb];rw[zw ⟨by rw[hks kb hrb];exact za7 hsz,h0,h3⟩]
   split at h
   ·rename_i a b' ty l hg
    split at h
    ·rename_i hsz;exact key ty l _ hg rfl (fun kb hrb=>hrb.2.2.2.1) hsz h
    ·cases h
   ·rename_i a b' ty l hg
    split at h
    ·rename_i hsz;exact key ty l _ hg rfl (fun kb hrb=>hrb.2.2.2.1) hsz h
    ·cases h
   ·cases h
  ·rename_i id lo len k n e1 e2;rw[e1]at hx;rw[e2]at hi;have hi:=Il hi;have hx:Ax m x=.ar id lo len:=hx;have key:∀(ty:Ty)(tb:TB),AA hpm id=some tb->(∀kb,RB hp tb kb->kb.size=ty.size)->(Nat.beq ty.size de.size=true)->((AJ n len).bind fun k=>K (.rf id (lo+k) 0) hpm .M)=some z->Cj P R cf (.indexAddr t x i) b m hp hpm hvm K z:=by
    intro ty tb hg hks hsz h;obtain⟨hg',kb,hkb,hrb⟩:=hh id tb hg;obtain⟨kk,h1,h2⟩:=Bb h;obtain⟨h0,h3,rfl⟩:=UL h1;refine Ka h2 (y:=.rf id (lo+n.toNat) 0) rfl (by simp only[Aq,hx,hi]) ?_ fun _=>rfl
    simp only[A4,hx,hi,hE.el,hE.ty,hkb];rw[zw ⟨by rw[hks kb hrb];exact za7 hsz,h0,h3⟩]
   split at h
   ·rename_i a b' ty l hg
    split at h
    ·rename_i hsz;exact key ty _ hg (fun kb hrb=>hrb.2.2.2.1) hsz h
    ·cases h
   ·rename_i a b' ty l hg
    split at h
    ·rename_i hsz;exact key ty _ hg (fun kb hrb=>hrb.2.2.2.1) hsz h
    ·cases h
   ·cases h
  ·cases h
 ·cases h
theorem Ah3{x:Operand}{k:Nat}(hr:RT hp tm m)(h:Bt X (.extract x k) b tm hpm K=some z):Cj P R cf (.extract x k) b m hp hpm hvm K z:=by
 simp only[Bt,H6]at h;have hx:=AX hr x
 split at h
 ·rename_i vs e1;rw[e1]at hx;obtain⟨us,hx,hc⟩:=hx
  split at h
  ·rename_i v hv;obtain⟨y,hy,hry⟩:=hc.get hv;exact AZ h hry.to2 (by simp only[Aq,hx,hy]) fun _=>rfl
  ·cases h
 ·cases h
theorem WT(hr:RT hp tm m):∀{l:List Operand},(l.map (opT tm)).all okT=true->RC (RV0 hp) (l.map (opT tm)) (l.map (Ax m))/\(l.map (Ax m)).all Bk=true
 |[],_=>⟨trivial,rfl⟩
 |x::l,h=>by
  simp only[zc2,zc1,za2]at h;obtain⟨h1,h2⟩:=WT hr h.2;have hx:=AX hr x;have hfl:CI (opT tm x)=[opT tm x]:=by
   cases he:opT tm x with
   |agg cs=>rw[he]at h;simp[okT]at h
   |_=>rfl
  obtain⟨f1,f2⟩:=H5 hx (by rw[hfl];simpa using h.1);rw[hfl]at f1;have hfv:flat (Ax m x)=[Ax m x]:=by
   cases he:Ax m x with
   |agg cs=>
    exfalso
    rw[he]at hx;cases ho:opT tm x with
    |agg cs=>rw[ho]at h;simp[okT]at h
    |im t l=>rw[ho]at hx;rcases hx with⟨_,hx⟩|⟨_,hx,_⟩<;>cases hx
    |ow id=>rw[ho]at hx;obtain⟨_,hx,_⟩:=hx;cases hx
    |ir t a c=>rw[ho]at hx;obtain⟨_,hx,_⟩:=hx;cases hx
    |cl f cs=>rw[ho]at hx;obtain⟨_,hx,_⟩:=hx;cases hx
    |tup cs=>rw[ho]at h;simp[okT]at h
    |any=>rw[ho]at h;simp[okT]at h
    |int k n=>rw[ho]at hx;cases hx
    |bool k=>rw[ho]at hx;cases hx
    |str k=>rw[ho]at hx;cases hx
    |sc k=>rw[ho]at hx;cases hx
    |em=>rw[ho]at hx;cases hx
    |er e=>rw[ho]at hx;cases hx
    |ar a b c=>rw[ho]at hx;cases hx
    |rf a b c=>rw[ho]at hx;cases hx
   |_=>rfl
  rw[hfv]at f1 f2;simp only[zc2,zc1,List.all_nil,Bool.and_true,za2]at f2⊢
  exact⟨⟨f1.1,h1⟩,f2,h2⟩
theorem AK6{f:FuncId}{first caps:Array Operand}(hr:RT hp tm m)(h:Bt X (.makeFunc (.func f) first caps) b tm hpm K=some z):Cj P R cf (.makeFunc (.func f) first caps) b m hp hpm hvm K z:=by
 simp only[Bt]at h
 split at h
 ·rename_i hc;simp only[za2]at hc;obtain⟨h1,h2⟩:=WT hr hc.2;exact AZ h (y:=.cl f (caps.toList.map (Ax m))) ⟨_,rfl,h1⟩ (by simp only[Aq,hc.1,h2,Bool.and_self,if_true]) fun _=>rfl
 ·cases h
theorem AP3{args:Array Operand}{ts:Array TypeId}(hX:XOK P X)(hr:RT hp tm m)(hh:RHm hpm hp hvm)(h:Bt X (.call {callee:=.builtin .len,args:=args,argTypes:=ts}) b tm hpm K=some z):
  Cj P R cf (.call {callee:=.builtin .len,args:=args,argTypes:=ts}) b m hp hpm hvm K z:=by
 simp only[Bt]at h
 split at h
 ·rename_i x t hx0 ht0;have hx:=AX hr x;have fin:∀n:Int,K (.int .i64 n) hpm .T=some z->Aq P (.call {callee:=.builtin .len,args:=args,argTypes:=ts}) (Ax m)=some (.v (.int .i64 n))->Cj P R cf (.call {callee:=.builtin .len,args:=args,argTypes:=ts}) b m hp hpm hvm K z:=
   fun n h hn=>AZ h (y:=.v (.int .i64 n)) rfl hn fun _=>rfl
  unfold AQ5 at h
  split at h
  ·rename_i s e1;rw[e1]at hx;have hx:=O1 hx
   split at h
   ·rename_i hc;simp only[za2,zf0]at hc;refine fin _ h ?_
    have h1:=Ak6 hX hc.1;have h2:MI P t=false:=by
     cases hs:MI P t with
     |false=>rfl
     |true=>
      have h3:=hc.2;have h4:=hc.1;unfold Xk at h3;unfold J7 at h4;unfold MI at hs
      split at h4
      ·rename_i d hd;simp only[hd]at h3;rw[hX.ty t d hd]at hs;simp only at hs;rw[h3]at hs;cases hs
      ·cases h4
    simp only[Aq,hx0,ht0,h1,h2,hx];simp[ByteArray.size]
   ·cases h
  ·rename_i hns
   split at h
   ·rename_i hc;have h1:=slX hX hc
    split at h
    ·rename_i e1;rw[e1]at hx;have hx:Ax m x=.em:=hx;exact fin _ h (by simp only[Aq,hx0,ht0,h1,hx])
    ·rename_i ty l e1;rw[e1]at hx;rcases hx with⟨rfl,hx⟩|⟨rows,hx,hrl⟩
     ·exact fin _ h (by simp only[Aq,hx0,ht0,h1,hx];rfl)
     ·exact fin _ h (by simp only[Aq,hx0,ht0,h1,hx,hrl.1])
    ·rename_i id e1;rw[e1]at hx;obtain⟨n,hx,hlen⟩:=hx
     split at h
     ·rename_i a b' ty l hg;have:=hlen _ (hh id _ hg).1;cases this
      exact fin _ h (by simp only[Aq,hx0,ht0,h1,hx])
     ·rename_i a b' ty l hg;have:=hlen _ (hh id _ hg).1;cases this
      exact fin _ h (by simp only[Aq,hx0,ht0,h1,hx])
     ·cases h
    ·rename_i id lo n e1;rw[e1]at hx;have hx:Ax m x=.ar id lo n:=hx;exact fin _ h (by simp only[Aq,hx0,ht0,h1,hx])
    ·cases h
   ·cases h
 ·cases h
theorem K0:∀{xs:List SV}{us:List V}{k:IntKind}{ns:List Int},LO xs=some (k,ns)->RC (RV2 hp) xs us->Cf us=some (ns.map fun n=>.int k n)/\ns≠[]
 |[],us,k,ns,h,_=>by simp[LO]at h
 |[x],us,k,ns,h,hc=>by
  cases x<;>simp[LO]at h
  obtain⟨rfl,rfl⟩:=h;cases us with
  |nil=>exact hc.elim
  |cons u us=>
   cases us with
   |nil=>have:u=_:=hc.1;subst this;exact⟨rfl,by simp⟩
   |cons a l=>exact hc.2.elim
 |x::y::l,us,k,ns,h,hc=>by
  cases x<;>simp[LO]at h
  split at h
  ·rename_i k' ns' hr
   split at h
   ·rename_i hk;simp only[zb,Prod.mk.injEq]at h;obtain⟨rfl,rfl⟩:=h;subst hk;cases us with
    |nil=>exact hc.elim
    |cons u us=>
     have:u=_:=hc.1;subst this;obtain⟨h1,_⟩:=K0 hr hc.2;exact⟨by simp[Cf,h1],by simp⟩
   ·cases h
  ·cases h
theorem Id(hr:RT hp tm m):∀(l:List Operand),RC (RV2 hp) (l.map (opT tm)) (l.map (Ax m))
 |[]=>trivial
 |x::l=>⟨AX hr x,Id hr l⟩
theorem Xb{k:IntKind}:∀(l:List Int)(x:Int),Am P ((l.map fun n=>Value.int k n).foldlM Builtin.min2 (.int k x))=some (.int k (l.foldl (fun a b=>if b<a then b else a) x))
 |[],x=>rfl
 |y::l,x=>by
  simp only[zc2,List.foldlM_cons,List.foldl_cons];exact Xb l (if y<x then y else x)
theorem Xa{k:IntKind}:∀(l:List Int)(x:Int),Am P ((l.map fun n=>Value.int k n).foldlM Builtin.max2 (.int k x))=some (.int k (l.foldl (fun a b=>if b>a then b else a) x))
 |[],x=>rfl
 |y::l,x=>by
  simp only[zc2,List.foldlM_cons,List.foldl_cons];exact Xa l (if y>x then y else x)
theorem AP5{args:Array Operand}{ts:Array TypeId}(hr:RT hp tm m)(h:Bt X (.call {callee:=.builtin .min,args:=args,argTypes:=ts}) b tm hpm K=some z):
  Cj P R cf (.call {callee:=.builtin .min,args:=args,argTypes:=ts}) b m hp hpm hvm K z:=by
 simp only[Bt,QT]at h
 split at h
 ·rename_i k ns hi;obtain⟨h1,h2⟩:=K0 hi (Id hr _);simp only[zb8,if_false]at h;refine AZ h (y:=.v (.int k (AP7 ns))) rfl ?_ fun _=>rfl
  simp only[Aq,h1];cases ns with
  |nil=>exact absurd rfl h2
  |cons x l=>
   show((Am P ((l.map fun n=>Value.int k n).foldlM Builtin.min2 (.int k x))).bind Aw)=_;rw[Xb];rfl
 ·cases h
theorem AP4{args:Array Operand}{ts:Array TypeId}(hr:RT hp tm m)(h:Bt X (.call {callee:=.builtin .max,args:=args,argTypes:=ts}) b tm hpm K=some z):
  Cj P R cf (.call {callee:=.builtin .max,args:=args,argTypes:=ts}) b m hp hpm hvm K z:=by
 simp only[Bt,QT]at h
 split at h
 ·rename_i k ns hi;obtain⟨h1,h2⟩:=K0 hi (Id hr _);simp only[if_true]at h;refine AZ h (y:=.v (.int k (VQ ns))) rfl ?_ fun _=>rfl
  simp only[Aq,h1];cases ns with
  |nil=>exact absurd rfl h2
  |cons x l=>
   show((Am P ((l.map fun n=>Value.int k n).foldlM Builtin.max2 (.int k x))).bind Aw)=_;rw[Xa];rfl
 ·cases h
theorem IV:∀{t:Ty}{a:t.den}{row:List V},DB t=true->RE t a row->row.all DK=true
 |.int _,_,_,_,h=>by simp only[RE]at h;subst h;rfl
 |.bool,_,_,_,h=>by simp only[RE]at h;subst h;rfl
 |.str,_,_,_,h=>by simp only[RE]at h;subst h;rfl
 |.pair a b,x,_,hf,h=>by
  obtain⟨r1,r2,rfl,h1,h2⟩:=h;simp only[DB,za2]at hf;simp[List.all_append,IV hf.1 h1,IV hf.2 h2]
 |.sl e,l,_,hf,_=>by cases hf
theorem AE7{p:V->Bool}{cs l:List V}{off n:Nat}(h:seg cs off n=some l)(ha:cs.all p=true):l.all p=true:=by
 unfold seg at h
 split at h
 ·cases h
  exact za6.2 fun x hx=>za6.1 ha x (List.mem_of_mem_drop (List.mem_of_mem_take hx))
 ·cases h
theorem Xt{β:Type}{t:TypeId}{v:SV}{y:V}{KS:SV->Option β}{z:β}(hX:XOK P X)(hv:RV2 hp v y)(hh:RHm hpm hp hvm)(h:Ab8 X t v hpm KS=some z):
  ∃x u,KS x=some z/\RV2 hp x u/\∀(ρ:Operand->V)(a:Operand)(b:Nat),ρ a=y->A4 P (.load t a) ρ hvm b=some (u,[]):=by
 unfold Ab8 at h
 split at h
 ·rename_i d ty a c hd;obtain⟨row,rfl,hre⟩:=hv;obtain⟨l,x,h1,h2,h3⟩:=N6 h;obtain⟨vs,h4,h5⟩:=RC.seg (hp:=hp) h1 hre.cells;obtain⟨u,h6,h7⟩:=QJ h2 h5;exact⟨x,u,h3,h7,fun ρ a b he=>by simp only[A4,hX.ty t d hd,he,h4,za0,h6]⟩
 ·rename_i d id r c hd;have hy:y=.rf id r c:=hv;subst hy;have arr:∀(ty:Ty)(l:List ty.den)(tb:TB),AA hpm id=some tb->(∀kb,RB hp tb kb->RLx (RE ty) l kb.rows/\(DB ty=true\/kb.deep=false))->((l[r]?).bind fun a=>tMk d.agg (XO (W4 ty a) c d.size) KS)=some z->
    ∃x u,KS x=some z/\RV2 hp x u/\∀(ρ:Operand->V)(a:Operand)(b:Nat),ρ a=.rf id r c->A4 P (.load t a) ρ hvm b=some (u,[]):=by
   intro ty l tb hg hks h;obtain⟨hg',kb,hkb,hrb⟩:=hh id tb hg;obtain⟨q1,q2⟩:=hks kb hrb;obtain⟨a,h0,h⟩:=Bb h;obtain⟨row,hrow,hre⟩:=q1.get h0;obtain⟨l',x,h1,h2,h3⟩:=N6 h;obtain⟨vs,h4,h5⟩:=RC.seg (hp:=hp) h1 hre.cells;obtain⟨u,h6,h7⟩:=QJ h2 h5;have hcond:(decide (kb.kind=.box)|| !kb.deep||vs.all DK)=true:=by
    rcases q2 with hf|hd
    ·simp[AE7 h4 (IV hf hre)]
    ·simp[hd]
   exact⟨x,u,h3,h7,fun ρ a b he=>by simp only[A4,hX.ty t d hd,he,hkb,hrow,h4,hcond,if_true,h6]⟩
  split at h
  ·rename_i ty cs hg
   split at h
   ·rename_i hr0;obtain⟨hg',kb,hkb,hrb⟩:=hh id _ hg;obtain⟨hk1,hk2,row,hk3,hk4,hk5⟩:=hrb;obtain⟨l,x,h1,h2,h3⟩:=N6 h;obtain⟨vs,h4,h5⟩:=RC.seg h1 hk5;obtain⟨u,h6,h7⟩:=QJ h2 h5;refine⟨x,u,h3,h7,fun ρ a b he=> ?_⟩
    simp only[A4,hX.ty t d hd,he,hkb,hk3,List.getElem?_cons_zero,h4,hk1,decide_true,Bool.true_or,if_true,h6]
   ·cases h
  ·rename_i ty deep ty' l hg
   split at h
   ·rename_i hc;refine arr ty' l _ hg (fun kb hrb=>⟨hrb.2.2.2.2,?_⟩) h
    simp only[Bool.or_eq_true,zf0]at hc;rcases hc with hc|hc
    ·right;rw[hrb.2.2.1];exact hc
    ·left;exact hc
   ·cases h
  ·rename_i ty deep ty' l hg
   split at h
   ·rename_i hc;exact arr ty' l _ hg (fun kb hrb=>⟨hrb.2.2.2.2,.inl hc⟩) h
   ·cases h
  ·cases h
 ·cases h
theorem As0{t:TypeId}{a:Operand}(hX:XOK P X)(hr:RT hp tm m)(hh:RHm hpm hp hvm)(h:Bt X (.load t a) b tm hpm K=some z):Cj P R cf (.load t a) b m hp hpm hvm K z:=by
 simp only[Bt]at h;obtain⟨x,u,h1,h2,h3⟩:=Xt hX (AX hr a) hh h;exact Ka h1 h2 rfl (h3 _ _ _ rfl) fun _=>rfl
end
end
section
open Go
section
variable {α:Type} {P:Program} {R:Rel} {cf:Cfg} {X:TX} {b:Nat} {tm:TTm} {m:Tm} {hp hpm:THp} {hv hvm:Hp} {K:SV->THp->Cls->Option α} {z:α}
theorem Nr(hr:RT hp tm m){x:Option Operand}{d:Nat}{n:Int}(h:TG tm x (d:Int)=some n)(h0:0<=n):bnd (Ax m) x d=some n.toNat:=by
 cases x with
 |none=>simp only[TG,zb]at h;subst h;simp[bnd]
 |some x=>
  simp only[TG]at h;have hx:=AX hr x;unfold Ar5 at h
  split at h
  ·rename_i k n' e1;cases h
   rw[e1]at hx;have hx:=Il hx;simp only[bnd,hx,zw h0]
  ·cases h
theorem N3{β:Type}{lo hi:Option Operand}{len:Nat}{KS:Nat->Nat->Option β}{z:β}(hr:RT hp tm m)(h:Wm tm lo hi len KS=some z):
  ∃l r,KS l r=some z/\bnd (Ax m) lo 0=some l/\bnd (Ax m) hi len=some r/\l<=r/\r<=len:=by
 have main:(match TG tm lo 0,TG tm hi (len:Int)with|some l,some h=>(KC l h len).bind fun p=>KS p.1 p.2|_,_=>none)=some z->∃l r,KS l r=some z/\bnd (Ax m) lo 0=some l/\bnd (Ax m) hi len=some r/\l<=r/\r<=len:=by
  intro h
  split at h
  ·rename_i l r e1 e2;obtain⟨p,h1,h2⟩:=Bb h;unfold KC at h1
   split at h1
   ·rename_i hc;cases h1
    exact⟨l.toNat,r.toNat,h2,Nr hr (d:=0) e1 hc.1,Nr hr e2 (by omega),by omega,by omega⟩
   ·cases h1
  ·cases h
 unfold Wm at h;cases lo with
 |none=>
  cases hi with
  |none=>exact⟨0,len,h,rfl,rfl,zf5 _,za8 _⟩
  |some y=>exact main h
 |some x=>exact main h
theorem AJ2{t e:TypeId}(h:(AY P t).bind (·.elem)=some e):DH P t=false:=by
 cases hs:DH P t with
 |false=>rfl
 |true=>
  have h1:=Bn h;have h2:=Dy hs;rw[h1]at h2;cases h2
theorem Z0{t:TypeId}{x:Operand}{lo hi:Option Operand}(hX:XOK P X)(hr:RT hp tm m)(hh:RHm hpm hp hvm)(h:Bt X (.slice t x lo hi none) b tm hpm K=some z):
  Cj P R cf (.slice t x lo hi none) b m hp hpm hvm K z:=by
 simp only[Bt,Ax6]at h;have hx:=AX hr x
 split at h
 ·rename_i s e1;rw[e1]at hx;have hx:=O1 hx
  split at h
  ·rename_i hs;have hs':DH P t=true:=Ak6 hX hs;obtain⟨l,r,h1,h2,h3,h4,h5⟩:=N3 hr h;have hsz:(ByteArray.mk s.toArray).size=s.length:=by simp[ByteArray.size]
   refine⟨_,.v (.string ⟨((s.take r).drop l).toArray⟩),.M,h1,rfl,fun KV hk=> ?_⟩
   show(if DH P t then Bl (Aq P (.slice t x lo hi none) (Ax m)) fun z=>KV z hvm .M else _);rw[zw hs'];have:Aq P (.slice t x lo hi none) (Ax m)=some (.v (.string ⟨((s.take r).drop l).toArray⟩)):=by
    simp only[Aq,hs',hx,h2,hsz,h3];rw[zw ⟨h4,h5⟩]
    congr 3
    apply ByteArray.ext
    simp[List.drop_take]
   rw[this];exact hk
  ·cases h
 ·rename_i hns
  split at h
  ·rename_i e de c he;have hE:=LV hX he;have hs':=AJ2 hE.el;have fin:∀(v:SV)(y:V),K v hpm .M=some z->RV2 hp v y->(∀KV:BP,KV y hvm .M->Bg P t (Ax m x) lo hi (Ax m) hvm KV)->Cj P R cf (.slice t x lo hi none) b m hp hpm hvm K z:=by
    intro v y h hv hw;refine⟨v,y,.M,h,hv,fun KV hk=> ?_⟩
    show(if DH P t then _ else Bg P t (Ax m x) lo hi (Ax m) hvm KV);rw[zi (by rw[hs'];simp)];exact hw KV hk
   split at h
   ·rename_i e1;rw[e1]at hx;have hx:Ax m x=.em:=hx;obtain⟨l,r,h1,h2,h3,h4,h5⟩:=N3 hr h;refine fin _ .em h1 rfl fun KV hk=> ?_
    simp only[Bg,hE.el,hE.ty,Aj,hx,h2,h3];exact⟨by omega,by omega,hk⟩
   ·rename_i ty l0 e1;rw[e1]at hx
    split at h
    ·rename_i hsz;have hsz:=za7 hsz;obtain⟨l,r,h1,h2,h3,h4,h5⟩:=N3 hr h;rcases hx with⟨rfl,hx⟩|⟨rows,hx,hrl⟩
     ·refine fin _ .em h1 (.inl ⟨by simp,rfl⟩) fun KV hk=> ?_
      simp only[List.length_nil]at h3 h5;simp only[Bg,hE.el,hE.ty,Aj,hx,h2,h3];exact⟨by omega,by omega,hk⟩
     ·refine fin _ (.im ((rows.take r).drop l)) h1 (.inr ⟨_,rfl,(hrl.take r).drop l⟩) fun KV hk=> ?_
      simp only[Bg,hE.el,hE.ty,Aj,hx,h2,hrl.1,h3];refine⟨h4,h5,fun row hrow=> ?_,hk⟩
      obtain⟨i,hi⟩:=ze3 hrow;obtain⟨a,_,hre⟩:=hrl.get' hi;rw[hre.len];exact hsz
    ·cases h
   ·rename_i id e1;rw[e1]at hx;obtain⟨len,hx,hlen⟩:=hx;have key:∀(ty:Ty)(l0:List ty.den)(tb:TB),AA hpm id=some tb->Er tb=some l0.length->(∀kb,RB hp tb kb->kb.size=ty.size)->(Nat.beq ty.size de.size=true)->
      AH1 tm lo hi l0.length (K (.ow id) hpm .M) (fun l h=>K (.ar id l (h-l)) hpm .M)=some z->Cj P R cf (.slice t x lo hi none) b m hp hpm hvm K z:=by
     intro ty l0 tb hg hbl hks hsz h;obtain⟨hg',kb,hkb,hrb⟩:=hh id tb hg;have hl:=hlen tb hg';rw[hbl]at hl;cases hl
     have hsz:kb.size=de.size:=by rw[hks kb hrb];exact za7 hsz
     have gen:(Wm tm lo hi l0.length fun l h=>K (.ar id l (h-l)) hpm .M)=some z->Cj P R cf (.slice t x lo hi none) b m hp hpm hvm K z:=by
      intro h;obtain⟨l,r,h1,h2,h3,h4,h5⟩:=N3 hr h;refine fin _ (.ar id (0+l) (r-l)) h1 (by rw[ze6];rfl) fun KV hk=> ?_
      simp only[Bg,hE.el,hE.ty,Aj,hx,h2,h3,hkb];exact⟨h4,h5,hsz,hk⟩
     cases lo with
     |none=>
      cases hi with
      |none=>
       refine fin _ (.ar id (0+0) (l0.length-0)) h ⟨l0.length,by simp,hlen⟩ fun KV hk=> ?_
       simp only[Bg,hE.el,hE.ty,Aj,hx,bnd,hkb];exact⟨zf5 _,za8 _,hsz,hk⟩
      |some y=>exact gen h
     |some y=>exact gen h
    split at h
    ·rename_i a b' ty l hg
     split at h
     ·rename_i hsz;exact key ty l _ hg rfl (fun kb hrb=>hrb.2.2.2.1) hsz h
     ·cases h
    ·rename_i a b' ty l hg
     split at h
     ·rename_i hsz;exact key ty l _ hg rfl (fun kb hrb=>hrb.2.2.2.1) hsz h
     ·cases h
    ·cases h
   ·rename_i id l1 n e1;rw[e1]at hx;have hx:Ax m x=.ar id l1 n:=hx;have key:∀(ty:Ty)(tb:TB),AA hpm id=some tb->(∀kb,RB hp tb kb->kb.size=ty.size)->(Nat.beq ty.size de.size=true)->
      (Wm tm lo hi n fun l h=>K (.ar id (l1+l) (h-l)) hpm .M)=some z->Cj P R cf (.slice t x lo hi none) b m hp hpm hvm K z:=by
     intro ty tb hg hks hsz h;obtain⟨hg',kb,hkb,hrb⟩:=hh id tb hg;have hsz:kb.size=de.size:=by rw[hks kb hrb];exact za7 hsz
     obtain⟨l,r,h1,h2,h3,h4,h5⟩:=N3 hr h;refine fin _ (.ar id (l1+l) (r-l)) h1 rfl fun KV hk=> ?_
     simp only[Bg,hE.el,hE.ty,Aj,hx,h2,h3,hkb];exact⟨h4,h5,hsz,hk⟩
    split at h
    ·rename_i a b' ty l hg
     split at h
     ·rename_i hsz;exact key ty _ hg (fun kb hrb=>hrb.2.2.2.1) hsz h
     ·cases h
    ·rename_i a b' ty l hg
     split at h
     ·rename_i hsz;exact key ty _ hg (fun kb hrb=>hrb.2.2.2.1) hsz h
     ·cases h
    ·cases h
   ·cases h
  ·cases h
theorem Xn{t:TypeId}{x hi mx:Operand}{lo:Option Operand}(hX:XOK P X)(hr:RT hp tm m)(h:Bt X (.slice t x lo (some hi) (some mx)) b tm hpm K=some z):
  Cj P R cf (.slice t x lo (some hi) (some mx)) b m hp hpm hvm K z:=by
 simp only[Bt]at h;have hx:=AX hr x
 split at h
 ·rename_i e de c ty l he e1;rw[e1]at hx;have hE:=LV hX he
  split at h
  ·rename_i l0 h0 m0 q1 q2 q3;obtain⟨hc,h⟩:=Cw h;have hc:=of_decide_eq_true hc;obtain⟨rfl,rfl,rfl⟩:=hc;have b1:=Nr hr (d:=0) q1 (by omega);have b2:=Nr hr (d:=0) q2 (by omega);have b3:=Nr hr (d:=0) q3 (by omega);have hel:((AY P t).bind (·.elem)).bind (AY P)=some de:=by rw[hE.el];exact hE.ty
   refine AZ h (y:=.em) rfl ?_ fun _=>rfl
   rcases hx with⟨rfl,hx⟩|⟨rows,hx,hrl⟩
   ·simp only[Aq,hel,hx,b1,b2,b3];rfl
   ·simp only[Aq,hel,hx,b1,b2,b3];rw[zw (by simp)]
  ·cases h
 ·cases h
theorem An4{t:TypeId}(hX:XOK P X)(h:NF X t=true):GB P t=true:=by
 unfold NF at h
 split at h
 ·rename_i d hd
  split at h
  ·rename_i e he
   split at h
   ·rename_i de hde;have:(AY P t).bind (·.elem)=some e:=by rw[hX.ty t d hd];exact he
    simp only[GB,this,hX.ty e de hde];exact h
   ·cases h
  ·cases h
 ·cases h
theorem RL:∀{l:List Int}{rows:List (List V)},RLx (RE (.int .u8)) l rows->BL rows=some (Va l)
 |[],rows,h=>by rw[h.of_nil];rfl
 |n::l,rows,h=>by
  cases rows with
  |nil=>have:=h.1;simp at this
  |cons r rows=>
   have hr:RE (.int .u8) n r:=h.2 0 n r rfl rfl;have hrest:RLx (RE (.int .u8)) l rows:=⟨by have:=h.1;simpa using this,fun i a q h1 h2=>h.2 (i+1) a q (by simpa using h1) (by simpa using h2)⟩;simp only[RE]at hr;subst hr;simp only[BL,LR,RL hrest,Va,zc2]
theorem AF4(s:Str):RLx (RE (.int .u8)) (VU s) (Gs ⟨s.toArray⟩):=by
 refine⟨by simp[Gs,VU],fun i a r h1 h2=> ?_⟩
 simp only[Gs,VU,zd5,zb4]at h1 h2;obtain⟨c,hc,rfl⟩:=h1;obtain⟨c',hc',rfl⟩:=h2;have:c'=c:=by
  have h3:s[i]? =some c':=by simpa using hc'
  rw[hc]at h3;exact(zy h3).symm
 subst this;rfl
theorem An9{s d:TypeId}{ds dd:TyD}{k k0:IntKind}{n:Int}(h1:AY P s=some ds)(h2:AY P d=some dd)(h3:dd.int=some k):(Am P (Go.convert s d (.int k0 n))).bind Aw=some (.v (.int k (k.wrap n))):=by
 obtain⟨i,u,z,hi,hu,_⟩:=Bx h1;obtain⟨i',u',z',hi',hu',_,_,_,_,rfl⟩:=Bx h2;have hud:u'=.int k:=by cases u'<;>simp[AC2]at h3;rw[h3]
 subst hud;unfold Go.convert;rw[Ed hu,Ed hu'];cases u<;>rfl
theorem Ao0{s d:TypeId}{x:ByteArray}(h1:DH P s=true)(h2:DH P d=true):(Am P (Go.convert s d (.string x))).bind Aw=some (.v (.string x)):=by
 unfold Go.convert;rw[Ed (Dy h1),Ed (Dy h2)];rfl
theorem Yy{s d:TypeId}{x:ByteArray}(h1:DH P s=true)(h2:GB P d=true):(Am P (Go.convert s d (.string x))).bind Aw=none:=by
 obtain⟨e,h3,h4⟩:=O3 h2;unfold Go.convert;rw[Ed (Dy h1),Ed h3];show(Am P (underlying e>>=_)).bind Aw=none;rw[Ed h4];rfl
theorem RG{e:Ty}{x:SV}{l:List e.den}{y:V}(h:FK hpm e x=some l)(hv:RV0 hp x y)(hh:RHm hpm hp hvm):
  (l=[]/\y=.em)\/(∃rows,y=.im rows/\RLx (RE e) l rows)\/∃id lo n kb,y=.ar id lo n/\hvm id=some kb/\kb.kind≠ .box/\RLx (RE e) l ((kb.rows.take (lo+n)).drop lo):=by
 unfold FK at h
 split at h
 ·rename_i id;obtain⟨n,rfl,hlen⟩:=hv;have key:∀(t:Ty)(l0:List t.den)(tb:TB),AA hpm id=some tb->Er tb=some l0.length->(∀kb,RB hp tb kb->kb.kind≠ .box/\RLx (RE t) l0 kb.rows)->(if h:t=e then some (Hd h l0)else none)=some l->
    (l=[]/\V.ar id 0 n=.em)\/(∃rows,V.ar id 0 n=.im rows/\RLx (RE e) l rows)\/∃id' lo n' kb,V.ar id 0 n=.ar id' lo n'/\hvm id'=some kb/\kb.kind≠ .box/\RLx (RE e) l ((kb.rows.take (lo+n')).drop lo):=by
   intro t l0 tb hg hbl hks h;obtain⟨hg',kb,hkb,hrb⟩:=hh id tb hg;have hl:=hlen tb hg';rw[hbl]at hl;cases hl
   obtain⟨q1,q2⟩:=hks kb hrb
   split at h
   ·rename_i he;cases h
    refine .inr (.inr ⟨id,0,l0.length,kb,rfl,hkb,q1,?_⟩)
    have:(kb.rows.take (0+l0.length)).drop 0=kb.rows:=by rw[ze6,<-q2.1];simp
    rw[this];exact Fm he q2
   ·cases h
  split at h
  ·rename_i a b' t l0 hg;exact key t l0 _ hg rfl (fun kb hrb=>⟨by rw[hrb.1];simp,hrb.2.2.2.2⟩) h
  ·rename_i a b' t l0 hg;exact key t l0 _ hg rfl (fun kb hrb=>⟨by rw[hrb.1];simp,hrb.2.2.2.2⟩) h
  ·cases h
 ·rename_i id lo n;have hv:y=.ar id lo n:=hv;subst hv;have key:∀(t:Ty)(l0:List t.den)(tb:TB),AA hpm id=some tb->(∀kb,RB hp tb kb->kb.kind≠ .box/\RLx (RE t) l0 kb.rows)->(if h:t=e then some (((Hd h l0).take (lo+n)).drop lo)else none)=some l->
    (l=[]/\V.ar id lo n=.em)\/(∃rows,V.ar id lo n=.im rows/\RLx (RE e) l rows)\/∃id' lo' n' kb,V.ar id lo n=.ar id' lo' n'/\hvm id'=some kb/\kb.kind≠ .box/\RLx (RE e) l ((kb.rows.take (lo'+n')).drop lo'):=by
   intro t l0 tb hg hks h;obtain⟨hg',kb,hkb,hrb⟩:=hh id tb hg;obtain⟨q1,q2⟩:=hks kb hrb
   split at h
   ·rename_i he;cases h
    exact .inr (.inr ⟨id,lo,n,kb,rfl,hkb,q1,((Fm he q2).take _).drop _⟩)
   ·cases h
  split at h
  ·rename_i a b' t l0 hg;exact key t l0 _ hg (fun kb hrb=>⟨by rw[hrb.1];simp,hrb.2.2.2.2⟩) h
  ·rename_i a b' t l0 hg;exact key t l0 _ hg (fun kb hrb=>⟨by rw[hrb.1];simp,hrb.2.2.2.2⟩) h
  ·cases h
 ·rcases Vx h hv with h1|h1
  ·exact .inl h1
  ·exact .inr (.inl h1)
theorem Ul{e:Ty}{x:SV}{l:List e.den}{y:V}(h:FK hpm e x=some l)(hv:RV2 hp x y):RV0 hp x y:=by
 cases x with
 |agg cs=>simp[FK,asL]at h
 |tup cs=>simp[FK,asL]at h
 |cl f cs=>simp[FK,asL]at h
 |_=>exact hv
theorem Ar9{s d:TypeId}{x:Operand}(hX:XOK P X)(hr:RT hp tm m)(hh:RHm hpm hp hvm)(h:Bt X (.convert s d x) b tm hpm K=some z):Cj P R cf (.convert s d x) b m hp hpm hvm K z:=by
 simp only[Bt,AG9]at h;have hx:=AX hr x
 split at h
 ·rename_i k n e1;rw[e1]at hx;have hx:=Il hx
  split at h
  ·rename_i ds dd h1 h2
   split at h
   ·rename_i k' h3;exact AZ h (y:=.v (.int k' (k'.wrap n))) rfl (by simp only[Aq,hx];exact An9 (hX.ty _ _ h1) (hX.ty _ _ h2) h3) fun _=>rfl
   ·cases h
  ·cases h
 ·rename_i v e1;rw[e1]at hx;have hx:=O1 hx
  split at h
  ·rename_i hs;have hs:=Ak6 hX hs
   split at h
   ·rename_i hd;have hd:=An4 hX hd;obtain⟨hc,h⟩:=Cw h;have hc:=of_decide_eq_true hc;refine Ka h (y:=.im (Gs ⟨v.toArray⟩)) (.inr ⟨_,rfl,AF4 v⟩) (by simp only[Aq,hx];exact Yy hs hd) ?_ fun _=>rfl
    simp only[A4,hx,hs,hd,ze4];have:(ByteArray.mk v.toArray).size<=Ad:=by simpa[ByteArray.size]using hc
    rw[zw (by simpa using this)]
   ·split at h
    ·rename_i hd;have hd:=Ak6 hX hd;exact AZ h (y:=.v (.string ⟨v.toArray⟩)) rfl (by simp only[Aq,hx];exact Ao0 hs hd) fun _=>rfl
    ·cases h
  ·cases h
 ·rename_i hn1 hn2
  split at h
  ·rename_i hc;simp only[za2]at hc;have h1:=An4 hX hc.1;have h2:=Ak6 hX hc.2
   split at h
   ·rename_i l hl;have hx0:=Ul hl hx;have hrel:=RG hl hx0 hh
    ·rcases hrel with⟨rfl,hy⟩|⟨rows,hy,hrl⟩|⟨id,lo,n,kb,hy,hkb,hkk,hrl⟩
     ·refine Ka h (y:=.v (.string ⟨(Va []).toArray⟩)) rfl (by simp only[Aq,hy]) ?_ fun _=>rfl
      simp only[A4,hy,h1,h2,Bool.and_self,if_true];rfl
     ·refine Ka h (y:=.v (.string ⟨(Va l).toArray⟩)) rfl (by simp only[Aq,hy]) ?_ fun _=>rfl
      simp only[A4,hy,h1,h2,Bool.and_self,if_true,RL hrl]
     ·refine Ka h (y:=.v (.string ⟨(Va l).toArray⟩)) rfl (by simp only[Aq,hy]) ?_ fun _=>rfl
      simp only[A4,hy,hkb,h1,h2,Bool.and_self,RL hrl];rw[zw (by simpa using hkk)]
   ·cases h
  ·cases h
end
end
section
open Go
section
variable {α:Type} {P:Program} {R:Rel} {cf:Cfg} {X:TX} {b:Nat} {tm:TTm} {m:Tm} {hp hpm:THp} {hv hvm:Hp} {K:SV->THp->Cls->Option α} {z:α}
def Tn(P:Program)(R:Rel)(cf:Cfg)(op:Op)(b:Nat)(tm:TTm)(m:Tm)(hv:Hp)(K:SV->THp->Cls->Option α)(z:α):Prop:=
 ∃x hp' cls y hv',K x hp' cls=some z/\RV2 hp' x y/\RH hp' hv'/\RT hp' tm m/\∀KV:BP,KV y hv' cls->Bi P R cf op b (Ax m) hv KV
theorem Cj.done{op:Op}(h:Cj P R cf op b m hp hp hv K z)(hh:RH hp hv)(hr:RT hp tm m):Tn P R cf op b tm m hv K z:=by
 obtain⟨x,y,cls,h1,h2,h3⟩:=h;exact⟨x,hp,cls,y,hv,h1,h2,hh,hr,h3⟩
theorem Ol{x:TB}{k:Blk}(hh:RH hp hv)(hr:RT hp tm m)(hf:∀t,b ∉ FQ (Co tm t))(hb:∀id y,AA hp id=some y->b ∉ I8 y)(hx:b ∉ I8 x)(hk:RB hp x k):
  RH ((b,some x)::hp) (upd hv b (some k))/\RT ((b,some x)::hp) tm m:=
 ⟨hh.put (fun id hid=>JD fun he=>hx (he▸hid)) (fun id y _ hy i hi=>JD fun he=>hb id y hy (he▸hi)) hk,hr.keeps fun t id hid=>JD fun he=>hf t (he▸hid)⟩
theorem ME{l:List Nat}(h:FP tm hp b=true){id:Nat}{k:TB}(hk:AA (C4 hp l) id=some k):b ∉ I8 k:=Nz h (NG l hp id k hk).1
theorem Yf:∀(l:List V),(l.map Qo).flatMap Ey=[]
 |[]=>rfl
 |x::l=>by
  rw[zc2,zb2,Yf l];unfold Qo
  split<;>rfl
theorem AA6{t:TypeId}(hX:XOK P X)(hh:RH hp hv)(hr:RT hp tm m)(h:Bt X (.alloc t) b tm hp K=some z):Tn P R cf (.alloc t) b tm m hv K z:=by
 simp only[Bt]at h
 split at h
 ·rename_i d hd
  split at h
  ·rename_i hf;obtain⟨h1,h2⟩:=Ol (x:=.box t (d.zero.map Qo)) (k:=K4 t d.zero) hh hr (H7 hf) (fun id y hy=>Nz hf hy) (by simp only[I8];rw[Yf];simp) ⟨rfl,rfl,d.zero,rfl,rfl,Og d.zero⟩;refine⟨_,_,_,.rf b 0 0,_,h,rfl,h1,h2,fun KV hk=> ?_⟩
   show Bl (A4 P (.alloc t) (Ax m) hv b) (fun z=>z.2.length<=16/\KV z.1 (inst hv b z.2) .M);simp only[A4,hX.ty t d hd,Aj];exact⟨by simp,hk⟩
  ·cases h
 ·cases h
theorem Ap8{x:SV}:∀id∈(CI x).flatMap Ey,id∈FQ x:=by
 intro id hid;cases x with
 |agg cs=>exact hid
 |tup cs=>simp[CI,Ey]at hid
 |cl f cs=>simp[CI,Ey]at hid
 |ow id'=>simpa[CI,Ey,TC,FQ]using hid
 |_=>simp[CI,Ey]at hid
theorem Ae6(c:Value):FQ (RX c)=[]:=by
 have h0:∀c,Ey (Ns c)=[]/\FQ (Ns c)=[]:=by
  intro c;unfold Ns
  split<;>first|exact⟨rfl,rfl⟩|(split<;>exact⟨rfl,rfl⟩)
 unfold RX
 split
 ·rename_i cs;show(cs.toList.map Ns).flatMap Ey=[];rw[List.flatMap_eq_nil_iff];intro x hx;obtain⟨c,_,rfl⟩:=ze0.1 hx;exact(h0 c).1
 ·exact(h0 c).2
theorem Ap9(h:FP tm hp b=true)(x:Operand):b ∉ FQ (opT tm x):=by
 cases x with
 |tmp t=>exact H7 h t
 |const c=>simp only[opT,Ae6];simp
 |global g=>simp[opT,FQ,TC,Ey]
 |func f=>simp[opT,FQ,TC,Ey]
theorem AO7{t:TypeId}{x:Operand}(hX:XOK P X)(hh:RH hp hv)(hr:RT hp tm m)(h:Bt X (.box t x) b tm hp K=some z):Tn P R cf (.box t x) b tm m hv K z:=by
 simp only[Bt]at h
 split at h
 ·rename_i d hd
  split at h
  ·rename_i hc;simp only[za2]at hc;obtain⟨⟨c1,c2⟩,hf⟩:=hc;obtain⟨f1,f2⟩:=H5 (AX hr x) c2;obtain⟨h1,h2⟩:=Ol (x:=.box t (CI (opT tm x))) (k:=K4 t (flat (Ax m x))) hh hr (H7 hf) (fun id y hy=>Nz hf hy) (fun hi=>Ap9 hf x (Ap8 b hi)) ⟨rfl,rfl,_,rfl,rfl,f1⟩;refine⟨_,_,_,.rf b 0 0,_,h,rfl,h1,h2,fun KV hk=> ?_⟩
   show Bl (A4 P (.box t x) (Ax m) hv b) (fun z=>z.2.length<=16/\KV z.1 (inst hv b z.2) .M);simp only[A4,hX.ty t d hd];have hl:(flat (Ax m x)).length=d.size:=by have:=f1.length;have:=za7 c1;omega
   rw[zw (by simp[hl,f2])];exact⟨by simp,hk⟩
  ·cases h
 ·cases h
theorem UP{n:Int}{bytes size k:Nat}(h:Mh n bytes size=some k):0<=n/\n.toNat*bytes<=Ad/\n.toNat*size<=Ad/\k=n.toNat:=by
 unfold Mh at h
 split at h
 ·rename_i hc;cases h;exact⟨hc.1,hc.2.1,hc.2.2,rfl⟩
 ·cases h
theorem AI9{t:TypeId}{l c:Operand}(hX:XOK P X)(hh:RH hp hv)(hr:RT hp tm m)(h:Bt X (.makeSlice t l c) b tm hp K=some z):Tn P R cf (.makeSlice t l c) b tm m hv K z:=by
 simp only[Bt,AH0]at h;have hl:=AX hr l;have hc:=AX hr c
 split at h
 ·rename_i e de ty k1 n k2 n2 he e1 e2;rw[e1]at hl;rw[e2]at hc;have hl:=Il hl;have hc:=Il hc;have hE:=LV hX he
  split at h
  ·rename_i zz hz
   split at h
   ·rename_i hq;simp only[za2]at hq;obtain⟨hf,hsc⟩:=hq;have hre:RE ty zz de.zero:=R0 (hp:=hp) hz (Og de.zero);have fin:∀(kk:Nat),kk=n.toNat->0<=n->n<=n2->n2.toNat*de.bytes<=Ad->n2.toNat*de.size<=Ad->K (.ow b) ((b,some (.arr e true ty (List.replicate kk zz)))::hp) .M=some z->Tn P R cf (.makeSlice t l c) b tm m hv K z:=by
     intro kk hkk h0 h1 h2 h3 hK;obtain⟨g1,g2⟩:=Ol (x:=.arr e true ty (List.replicate kk zz)) (k:=AG e de.size true (List.replicate n.toNat de.zero)) hh hr (H7 hf) (fun id y hy=>Nz hf hy) (by simp[I8]) ⟨rfl,rfl,rfl,hE.size,by rw[hkk];exact RLx.replicate hre _⟩;refine⟨_,_,_,.ar b 0 n.toNat,_,hK,⟨n.toNat,rfl,fun bb hb=> ?_⟩,g1,g2,fun KV hk=> ?_⟩
     ·rw[Au,zw rfl]at hb;cases hb
      simp[Er,hkk]
     ·show Bl (A4 P (.makeSlice t l c) (Ax m) hv b) (fun z=>z.2.length<=16/\KV z.1 (inst hv b z.2) .M);simp only[A4,hl,hc,hE.el,hE.ty];rw[zw ⟨h0,h1,h2,h3,hsc⟩];exact⟨by simp,hk⟩
    cases hs:Zd l c with
    |true=>
     rw[hs]at h;obtain⟨kk,h1,h2⟩:=Bb (show((Mh n2 de.bytes de.size).bind fun k=>K (.ow b) ((b,some (.arr e true ty (List.replicate k zz)))::hp) .M)=some z from h);obtain⟨q1,q2,q3,q4⟩:=UP h1;have hn:n=n2:=by
      have:l=c:=by
       unfold Zd at hs
       split at hs
       ·rw[za7 hs]
       ·cases hs
      subst this;rw[e1]at e2;cases e2
      rfl
     subst hn;exact fin kk q4 q1 (Int.le_refl _) q2 q3 h2
    |false=>
     rw[hs]at h;obtain⟨kk,h1,h2⟩:=Bb (show((Mh n2 de.bytes de.size).bind fun _=>cond (decide (0<=n)&&decide (n<=n2)) (K (.ow b) ((b,some (.arr e true ty (List.replicate n.toNat zz)))::hp) .M) none)=some z from h);obtain⟨q1,q2,q3,q4⟩:=UP h1;obtain⟨c1,h2⟩:=Cw h2;simp only[za2,decide_eq_true_eq]at c1;exact fin n.toNat rfl c1.1 c1.2 q2 q3 h2
   ·cases h
  ·cases h
 ·cases h
theorem WW{x x':SV}{y:V}{kills:List Nat}{deep:Bool}(hh:RH hp hv)(h:Qx hp x=some (x',kills,deep))(hx:RV0 hp x y):
  ∃y',AD hv y=some (y',kills,deep)/\RV0 hp x' y'/\Ey x'=[]:=by
 unfold Qx at h
 split at h
 ·cases h;have:y=_:=hx;subst this;exact⟨_,rfl,rfl,rfl⟩
 ·cases h;have:y=_:=hx;subst this;exact⟨_,rfl,rfl,rfl⟩
 ·cases h;have:y=_:=hx;subst this;exact⟨_,rfl,rfl,rfl⟩
 ·cases h;have:y=_:=hx;subst this;exact⟨_,rfl,rfl,rfl⟩
 ·cases h;have:y=_:=hx;subst this;exact⟨_,rfl,rfl,rfl⟩
 ·cases h
  rcases hx with⟨rfl,rfl⟩|⟨rows,rfl,hr⟩
  ·exact⟨.em,rfl,.inl ⟨rfl,rfl⟩,rfl⟩
  ·exact⟨.im rows,rfl,.inr ⟨rows,rfl,hr⟩,rfl⟩
 ·rename_i id;obtain⟨n,rfl,hlen⟩:=hx
  split at h
  ·rename_i a dd t l hg;cases h
   obtain⟨k,hk,hrb⟩:=hh id _ hg;have:=hlen _ hg;cases this
   have hrows:(k.rows.take (0+l.length)).drop 0=k.rows:=by rw[ze6,<-hrb.2.2.2.2.1];simp
   refine⟨.im k.rows,?_,.inr ⟨_,rfl,hrb.2.2.2.2⟩,rfl⟩
   simp only[AD,hk,hrb.1,hrows,hrb.2.2.1]
  ·rename_i a dd t l hg;cases h
   obtain⟨k,hk,hrb⟩:=hh id _ hg;have:=hlen _ hg;cases this
   have hrows:(k.rows.take (0+l.length)).drop 0=k.rows:=by rw[ze6,<-hrb.2.2.2.2.1];simp
   refine⟨.im k.rows,?_,.inr ⟨_,rfl,hrb.2.2.2.2⟩,rfl⟩
   simp only[AD,hk,hrb.1,hrows]
  ·cases h
 ·rename_i id lo n;have:y=_:=hx;subst this
  split at h
  ·rename_i a dd t l hg;cases h
   obtain⟨k,hk,hrb⟩:=hh id _ hg;refine⟨.im ((k.rows.take (lo+n)).drop lo),?_,.inr ⟨_,rfl,(hrb.2.2.2.2.take _).drop _⟩,rfl⟩
   simp only[AD,hk,hrb.1,hrb.2.2.1]
  ·rename_i a dd t l hg;cases h
   obtain⟨k,hk,hrb⟩:=hh id _ hg;refine⟨.im ((k.rows.take (lo+n)).drop lo),?_,.inr ⟨_,rfl,(hrb.2.2.2.2.take _).drop _⟩,rfl⟩
   simp only[AD,hk,hrb.1]
  ·cases h
 ·cases h
theorem K6(hh:RH hp hv):∀{xs xs':List SV}{ys:List V}{kills:List Nat}{deep:Bool},IU hp xs=some (xs',kills,deep)->RC (RV0 hp) xs ys->
  ∃ys',AN hv ys=some (ys',kills,deep)/\RC (RV0 hp) xs' ys'/\xs'.flatMap Ey=[]
 |[],xs',ys,kills,deep,h,hc=>by
  simp only[IU,zb,Prod.mk.injEq]at h;obtain⟨rfl,rfl,rfl⟩:=h;cases ys with
  |nil=>exact⟨[],rfl,trivial,rfl⟩
  |cons a l=>exact hc.elim
 |x::xs,xs',ys,kills,deep,h,hc=>by
  simp only[IU]at h
  split at h
  ·rename_i x1 a d xs1 as ds h1 h2;simp only[zb,Prod.mk.injEq]at h;obtain⟨rfl,rfl,rfl⟩:=h;cases ys with
   |nil=>exact hc.elim
   |cons y ys=>
    obtain⟨y',q1,q2,q3⟩:=WW hh h1 hc.1;obtain⟨ys',q4,q5,q6⟩:=K6 hh h2 hc.2;exact⟨y'::ys',by simp only[AN,q1,q4],⟨q2,q5⟩,by rw[zb2,q3,q6];rfl⟩
  ·cases h
theorem H1:∀{xs xs':List SV}{kills:List Nat}{deep:Bool},IU hp xs=some (xs',kills,deep)->xs.all okT=true
 |[],_,_,_,_=>rfl
 |x::xs,xs',kills,deep,h=>by
  simp only[IU]at h
  split at h
  ·rename_i x1 a d xs1 as ds h1 h2;have:okT x=true:=by
    cases x<;>first|rfl|(simp[Qx]at h1;done)|skip
   simp only[zc1,this,H1 h2,Bool.and_self]
  ·cases h
theorem AA8{t:TypeId}{a x:Operand}(hX:XOK P X)(hh:RH hp hv)(hr:RT hp tm m)(h:Bt X (.store t a x) b tm hp K=some z):Tn P R cf (.store t a x) b tm m hv K z:=by
 simp only[Bt,Ax7]at h;have ha:=AX hr a;have hx:=AX hr x
 split at h
 ·rename_i d id r c hd e1;rw[e1]at ha;have ha:Ax m a=.rf id r c:=ha
  split at h
  ·rename_i hlen;have hlen:=za7 hlen
   split at h
   ·rename_i ty cs hg
    split at h
    ·split at h
     ·rename_i hok
      split at h
      ·rename_i cs' hput;obtain⟨kb,hkb,hk1,hk2,row,hk3,hk4,hk5⟩:=hh id _ hg;obtain⟨f1,f2⟩:=H5 hx hok;obtain⟨row',p1,p2⟩:=RC.put hput hk5 f1;have hkeep:∀i,Ci hp ((id,some (.box ty cs'))::hp) i:=fun i=>Sp (y:=.box ty cs') hg rfl i
       have hrl:row'.length=row.length:=by
        have q1:=p2.length;have q2:=hk5.length;have q3:cs'.length=cs.length:=by
         unfold Ai7 at hput
         split at hput
         ·cases hput;simp;omega
         ·cases hput
        omega
       refine⟨_,_,_,.any,upd hv id (some {kb with rows:=kb.rows.set 0 row'}),h,trivial,?_,hr.keeps fun t i _=>hkeep i,fun KV hk=> ?_⟩
       ·exact hh.put (fun i _=>hkeep i) (fun _ _ _ _ i _=>hkeep i) ⟨hk1,hk2,row',by rw[hk3];rfl,by show kb.size=_;rw[hk4,hrl],p2⟩
       ·show B0 P t (Ax m a) (Ax m x) hv KV;have hl:(flat (Ax m x)).length=d.size:=by have:=f1.length;omega
        simp only[B0,hX.ty t d hd,ha,hkb,hk3,List.getElem?_cons_zero,hl,if_true,hk1,f2,p1];rw[hk3,hk1]at hk;exact hk
      ·cases h
     ·cases h
    ·cases h
   ·rename_i ty deep e l hg;obtain⟨y,h1,h⟩:=Bb h
    split at h
    ·rename_i cs kills deep' hcl
     split at h
     ·rename_i hnd
      split at h
      ·rename_i cs' hput
       split at h
       ·rename_i zz hz;obtain⟨kb,hkb,hk1,hk2,hk3,hk4,hk5⟩:=hh id _ hg;obtain⟨f1,f2⟩:=H5 hx (H1 hcl);obtain⟨ys,q1,q2,q3⟩:=K6 hh hcl f1;obtain⟨row,hrow,hre⟩:=hk5.get h1;obtain⟨row',p1,p2⟩:=RC.put hput hre.cells q2;have hrz:=R0 hz p2;have hidk:id ∉ kills:=by
         simp only[Dc,za2,zf0,List.contains_eq_mem,decide_eq_false_iff_not]at hnd;exact hnd.1
        have hkeep:∀i,Ci hp ((id,some (.arr ty (deep&&deep') e (l.set r zz)))::C4 hp kills) i:=by
         intro i bb hbb;rw[Au]at hbb
         split at hbb
         ·rename_i hi;subst hi;cases hbb;exact⟨_,hg,by simp[Er]⟩
         ·exact Gq kills hp i bb hbb
        have hkeep':∀i,Ci (C4 hp kills) ((id,some (.arr ty (deep&&deep') e (l.set r zz)))::C4 hp kills) i:=by
         intro i bb hbb;rw[Au]at hbb
         split at hbb
         ·rename_i hi;subst hi;cases hbb
          cases hgk:AA (C4 hp kills) i with
          |none=>
           exfalso
           have:∀(ks:List Nat)(hp:THp),i ∉ ks->AA (C4 hp ks) i=AA hp i:=by
            intro ks
            induction ks with
            |nil=>intro hp _;rfl
            |cons q ks ih=>
             intro hp hq;simp only[zc9,not_or]at hq;rw[C4,ih _ hq.2,Au,zi hq.1]
           rw[this kills hp hidk,hg]at hgk;cases hgk
          |some b0=>
           have:=(NG kills hp i b0 hgk).1;rw[hg]at this;cases this
           exact⟨_,rfl,by simp[Er]⟩
         ·exact⟨bb,hbb,rfl⟩
        refine⟨_,_,_,.any,upd (kill hv kills) id (some {kb with rows:=kb.rows.set r row',deep:=kb.deep&&deep'}),h,trivial,?_,hr.keeps fun t i _=>hkeep i,fun KV hk=> ?_⟩
        ·exact(hh.kill kills).put (fun i _=>hkeep' i) (fun _ _ _ _ i _=>hkeep' i) ⟨hk1,hk2,by show(kb.deep&&deep')=_;rw[hk3],hk4,hk5.set r hrz⟩
        ·show B0 P t (Ax m a) (Ax m x) hv KV;have hl:(flat (Ax m x)).length=d.size:=by have:=f1.length;omega
         simp only[B0,hX.ty t d hd,ha,hkb,hrow,hl,if_true,hk1,q1,hnd,p1];rw[hk1]at hk;exact hk
       ·cases h
      ·cases h
     ·cases h
    ·cases h
   ·cases h
  ·cases h
 ·cases h
theorem PV{e:Ty}{size:Nat}(hr:RT hp tm m)(hh:RH hp hv)(hs:size=e.size):∀{parts:List (Nat×Operand)}{n:Nat}{l:List e.den}{kills:List Nat}{deep:Bool},JY hp tm e n parts=some (l,kills,deep)->
  ∃rows,AW hv (Ax m) size n parts=some (rows,kills,deep)/\RLx (RE e) l rows
 |[],n,l,kills,deep,h=>by
  simp only[JY,zb,Prod.mk.injEq]at h;obtain⟨rfl,rfl,rfl⟩:=h;exact⟨[],rfl,RLx.nil⟩
 |(k,x)::parts,n,l,kills,deep,h=>by
  simp only[JY]at h
  split at h
  ·rename_i hc;simp only[za2]at hc;have h1:=za7 hc.1;have h2:=za7 hc.2
   split at h
   ·rename_i cs a d ys as ds g1 g2
    split at h
    ·rename_i y hy;simp only[zb,Prod.mk.injEq]at h;obtain⟨rfl,rfl,rfl⟩:=h;obtain⟨f1,f2⟩:=H5 (AX hr x) (H1 g1);obtain⟨us,q1,q2,q3⟩:=K6 hh g1 f1;obtain⟨rows,q4,q5⟩:=PV hr hh hs g2;refine⟨us::rows,?_,RLx.cons (R0 hy q2) q5⟩
     simp only[AW,q1,q4];rw[zw ⟨h1,by have:=f1.length;omega⟩]
    ·cases h
   ·cases h
  ·cases h
theorem WM{cs:List SV}:∀{us:List V},RC (RV0 hp) cs us->cs.all okT=true->cs.all RV=us.all Qy:=by
 induction cs with
 |nil=>
  intro us h _;cases us with
  |nil=>rfl
  |cons a l=>exact h.elim
 |cons c cs ih=>
  intro us h hok;cases us with
  |nil=>exact h.elim
  |cons u us=>
   simp only[zc1,za2]at hok;simp only[zc1,ih h.2 hok.2];have h1:RV c=Qy u:=by
    have h0:=h.1;cases c with
    |int k n=>have:u=_:=h0;subst this;rfl
    |bool b=>have:u=_:=h0;subst this;rfl
    |str s=>have:u=_:=h0;subst this;rfl
    |sc x=>have:u=_:=h0;subst this;rfl
    |em=>have:u=_:=h0;subst this;rfl
    |im t l=>rcases h0 with⟨_,rfl⟩|⟨rows,rfl,_⟩<;>rfl
    |ow id=>obtain⟨n,rfl,_⟩:=h0;rfl
    |ar a b c=>have:u=_:=h0;subst this;rfl
    |rf a b c=>have:u=_:=h0;subst this;rfl
    |ir a b c=>obtain⟨row,rfl,_⟩:=h0;rfl
    |cl f caps=>
     cases caps with
     |nil=>have:u=_:=h0;subst this;rfl
     |cons a l=>simp[okT]at hok
    |er b=>simp[okT]at hok
    |agg l=>simp[okT]at hok
    |tup l=>simp[okT]at hok
    |any=>simp[okT]at hok
   rw[h1]
theorem Uk{e:Ty}(hr:RT hp tm m):∀{parts:List (Nat×Operand)}{n:Nat}{l:List e.den}{kills:List Nat}{deep:Bool},JY hp tm e n parts=some (l,kills,deep)->Yp tm parts=I2 (Ax m) parts
 |[],n,l,kills,deep,h=>rfl
 |(k,x)::parts,n,l,kills,deep,h=>by
  simp only[JY]at h
  split at h
  ·split at h
   ·rename_i cs a d ys as ds g1 g2;obtain⟨f1,f2⟩:=H5 (AX hr x) (H1 g1);have h1:=WM f1 (H1 g1);have h2:=Uk hr g2;unfold Yp I2 at h2⊢
    simp only[zc1,h1,h2]
   ·cases h
  ·cases h
theorem AA7{t:TypeId}{len:Nat}{parts:Array (Nat×Operand)}(hX:XOK P X)(hh:RH hp hv)(hr:RT hp tm m)(h:Bt X (.buildSlice t len parts) b tm hp K=some z):
  Tn P R cf (.buildSlice t len parts) b tm m hv K z:=by
 simp only[Bt,XW]at h
 split at h
 ·rename_i e de c he;have hE:=LV hX he;generalize hps:parts.toList=ps at h;cases len with
  |zero=>
   cases ps with
   |nil=>
    refine⟨_,_,_,.em,hv,h,rfl,hh,hr,fun KV hk=> ?_⟩
    show Ap P t 0 parts.toList (Ax m) hv b KV;rw[hps];simp only[Ap,hE.el,hE.ty,Aj,true_and];exact hk
   |cons a l=>cases h
  |succ len=>
   simp only at h
   split at h
   ·rename_i l kills deep hcl
    split at h
    ·rename_i hc;simp only[za2]at hc;obtain⟨⟨⟨c1,c2⟩,c3⟩,hf⟩:=hc;have c1:=za7 c1;have c2:=Nat.le_of_ble_eq_true c2;obtain⟨rows,q1,q2⟩:=PV hr hh hE.size hcl;obtain⟨g1,g2⟩:=Ol (x:=.arr e deep c l) (k:=AG e de.size deep rows) (hh.kill kills) (hr.keeps fun t i _=>Gq kills hp i) (H7 hf) (fun id y hy=>ME hf hy) (by simp[I8]) ⟨rfl,rfl,rfl,hE.size,q2⟩;refine⟨_,_,_,.ar b 0 (len+1),_,h,⟨len+1,rfl,fun bb hb=> ?_⟩,g1,g2,fun KV hk=> ?_⟩
     ·rw[Au,zw rfl]at hb;cases hb
      simp[Er,c1]
     ·show Ap P t (len+1) parts.toList (Ax m) hv b KV;rw[hps];simp only[Ap,hE.el,hE.ty,Aj,q1];rw[Uk hr hcl]at hk;exact⟨by rw[q2.1];exact c1,by simpa using c2,c3,hk⟩
    ·cases h
   ·cases h
 ·cases h
theorem AE9{c:Ty}{d:TyD}{x:SV}{y:V}{l:List c.den}{kills:List Nat}{deep:Bool}(hh:RH hp hv)(hf:d.zero.all Qt=DB c)(h:AM9 c x hp=some (l,kills,deep))(hx:RV2 hp x y):
  ∃rows,RLx (RE c) l rows/\∀KV:List (List V)->List Nat->Bool->Prop,KV rows kills deep->Bp d y hv KV:=by
 have hsc:∀rows,DB c=true->RLx (RE c) l rows->CN rows=true:=by
  intro rows hfl hr;refine za6.2 fun row hrow=> ?_
  obtain⟨i,hi⟩:=ze3 hrow;obtain⟨a,_,hre⟩:=hr.get' hi;exact IV hfl hre
 have im:∀rows,RLx (RE c) l rows->(d.zero.all Qt&&CN rows)=DB c:=by
  intro rows hr;rw[hf];cases hfl:DB c with
  |false=>rfl
  |true=>rw[hsc rows hfl hr];rfl
 unfold AM9 at h
 split at h
 ·rename_i id;obtain⟨n,rfl,hlen⟩:=hx
  split at h
  ·rename_i a dd t l0 hg;obtain⟨k,hk,hk1,hk2,hk3,hk4,hk5⟩:=hh id _ hg;have:=hlen _ hg;cases this
   have hrows:(k.rows.take (0+l0.length)).drop 0=k.rows:=by rw[ze6,<-hk5.1];simp
   split at h
   ·rename_i he
    split at h
    ·rename_i hfl;simp only[zb,Prod.mk.injEq]at h;obtain⟨rfl,rfl,rfl⟩:=h;have hr:=Fm he hk5;refine⟨k.rows,hr,fun KV hK=> ?_⟩
     simp only[Bp,hk,hk1,hrows];rw[zw (by rw[hf];exact hfl)];exact⟨hsc _ hfl hr,hK⟩
    ·rename_i hfl;simp only[zb,Prod.mk.injEq]at h;obtain⟨rfl,rfl,rfl⟩:=h;have hr:=Fm he hk5;refine⟨k.rows,hr,fun KV hK=> ?_⟩
     simp only[Bp,hk,hk1,hrows];rw[zi (by rw[hf];exact hfl),hk3];exact hK
   ·cases h
  ·rename_i a dd t l0 hg;obtain⟨k,hk,hk1,hk2,hk3,hk4,hk5⟩:=hh id _ hg;have:=hlen _ hg;cases this
   have hrows:(k.rows.take (0+l0.length)).drop 0=k.rows:=by rw[ze6,<-hk5.1];simp
   split at h
   ·rename_i he;simp only[zb,Prod.mk.injEq]at h;obtain⟨rfl,rfl,rfl⟩:=h;have hr:=Fm he hk5;refine⟨k.rows,hr,fun KV hK=> ?_⟩
    simp only[Bp,hk,hk1,hrows,im _ hr];exact hK
   ·cases h
  ·cases h
 ·rename_i id lo n;have hx:y=.ar id lo n:=hx;subst hx
  split at h
  ·rename_i a dd t l0 hg;obtain⟨k,hk,hk1,hk2,hk3,hk4,hk5⟩:=hh id _ hg
   split at h
   ·rename_i he
    split at h
    ·rename_i hfl;simp only[zb,Prod.mk.injEq]at h;obtain⟨rfl,rfl,rfl⟩:=h;have hr:=((Fm he hk5).take (lo+n)).drop lo;refine⟨_,hr,fun KV hK=> ?_⟩
     simp only[Bp,hk,hk1];rw[zw (by rw[hf];exact hfl)];exact⟨hsc _ hfl hr,hK⟩
    ·rename_i hfl;simp only[zb,Prod.mk.injEq]at h;obtain⟨rfl,rfl,rfl⟩:=h;have hr:=((Fm he hk5).take (lo+n)).drop lo;refine⟨_,hr,fun KV hK=> ?_⟩
     simp only[Bp,hk,hk1];rw[zi (by rw[hf];exact hfl),hk3];exact hK
   ·cases h
  ·rename_i a dd t l0 hg;obtain⟨k,hk,hk1,hk2,hk3,hk4,hk5⟩:=hh id _ hg
   split at h
   ·rename_i he;simp only[zb,Prod.mk.injEq]at h;obtain⟨rfl,rfl,rfl⟩:=h;have hr:=((Fm he hk5).take (lo+n)).drop lo;refine⟨_,hr,fun KV hK=> ?_⟩
    simp only[Bp,hk,hk1,im _ hr];exact hK
   ·cases h
  ·cases h
 ·split at h
  ·rename_i hl;simp only[zb,Prod.mk.injEq]at h;obtain⟨rfl,rfl,rfl⟩:=h;rename_i l';have hx0:RV0 hp x y:=Ul (hpm:=hp) (e:=c) (l:=l') (by unfold FK;split<;>simp_all [asL]) hx;rcases Vx hl hx0 with⟨rfl,rfl⟩|⟨rows,rfl,hr⟩
   ·exact⟨[],RLx.nil,fun KV hK=>by simp only[Bp];rw[hf];exact hK⟩
   ·exact⟨rows,hr,fun KV hK=>by simp only[Bp];rw[im _ hr];exact hK⟩
  ·cases h
theorem Ad7{β:Type}{bytes size:Nat}{l m r:List β}(h:D8 bytes size l m=some r):r=l++m/\(l.length+m.length)*bytes<=Ad/\(l.length+m.length)*size<=Ad:=by
 unfold D8 at h
 split at h
 ·rename_i hc;cases h;exact⟨rfl,hc⟩
 ·cases h
theorem Ao1 {args : Array Operand} {ts : Array TypeId} (hX : XOK P X) (hh : RH hp hv) (hr : RT hp tm m) (h : Bt X (.call { callee := .builtin .append, args := args, argTypes := ts }) b tm hp K = some z) :
    Tn P R cf (.call { callee := .builtin .append, args := args, argTypes := ts }) b tm m hv K z := by
  simp only [Bt] at h
  split at h
  · rename_i s x hargs
    unfold Ab6 at h
    split at h
    · rename_i t t' hts
      split at h
      · rename_i htt
        have htt := za7 htt
        split at h
        · rename_i e de c he
          have hE := LV hX he
          split at h
          · rename_i mm kills deep hsrc
            obtain ⟨rows, r1, r2⟩ := AE9 (d := de) hh hE.flat hsrc (AX hr x);have hs := AX hr s;have hrl : ∀ r ∈ rows, r.length = de.size := fun row hrow => by
              obtain ⟨i, hi⟩ := ze3 hrow;obtain ⟨a, _, hre⟩ := r1.get' hi;rw [hre.len, hE.size]
            have step : ∀ KV : BP, (∀ s', Ax m s = s' -> Bp de (Ax m x) hv fun rows kills deep =>
                match s' with
                | .em =>
                  rows.length * de.bytes <= Ad /\ rows.length * de.size <= Ad /\ (∀ r ∈ rows, r.length = de.size) /\ Dc kills = true /\
                  KV (.ar b 0 rows.length) (upd (kill hv kills) b (some (AG e de.size deep rows))) (match kills with | [] => .M | _ => .E)
                | .ar id lo n =>
                  Bl (hv id) fun k =>
                    k.kind = .arr /\ lo = 0 /\ k.ty = e /\ k.size = de.size /\ Dc (id :: kills) = true /\
                    (n + rows.length) * de.bytes <= Ad /\ (n + rows.length) * de.size <= Ad /\ (∀ r ∈ rows, r.length = de.size) /\
                    KV (.ar b 0 (n + rows.length)) (upd (kill hv (id :: kills)) b (some (AG e de.size (k.deep && deep) (k.rows.take n ++ rows)))) .E
                | _ => False) -> Bi P R cf (.call { callee := .builtin .append, args := args, argTypes := ts }) b (Ax m) hv KV := by
              intro KV hK;show (match args.toList with | [s, x] => Cb P ts.toList (Ax m s) (Ax m x) hv b KV | _ => False);rw [hargs, hts];simp only [Cb, hE.el, hE.ty, Aj];exact ⟨htt, hK _ rfl⟩
            have own : ∀ (id n ty : Nat) (d0 : Bool) (l : List c.den) (k : Blk), Ax m s = .ar id 0 n -> hv id = some k -> k.kind = .arr -> k.ty = ty -> k.deep = d0 -> k.size = c.size -> RLx (RE c) l (k.rows.take n) -> l.length = n ->
                (Nat.beq ty e && Dc (id :: kills) && FP tm hp b) = true -> ((D8 de.bytes de.size l mm).bind fun r => K (.ow b) ((b, some (.arr e (d0 && deep) c r)) :: C4 hp (id :: kills)) .E) = some z ->
                Tn P R cf (.call { callee := .builtin .append, args := args, argTypes := ts }) b tm m hv K z := by
              intro id n ty d0 l k hs hk k1 k2 k3 k4 hl hln hc h;simp only [za2] at hc;obtain ⟨⟨c1, c2⟩, hf⟩ := hc;have c1 := za7 c1;obtain ⟨r, a1, a2⟩ := Bb h;obtain ⟨rfl, a3, a4⟩ := Ad7 a1;obtain ⟨g1, g2⟩ := Ol (x := .arr e (d0 && deep) c (l ++ mm)) (k := AG e de.size (k.deep && deep) (k.rows.take n ++ rows)) (hh.kill (id :: kills)) (hr.keeps fun t i _ => Gq (id :: kills) hp i) (H7 hf) (fun id y hy => ME hf hy) (by simp [I8])
                ⟨rfl, rfl, by show (k.deep && deep) = _; rw [k3], hE.size, hl.append r1⟩
              refine ⟨_, _, _, .ar b 0 (n + rows.length), _, a2, ⟨n + rows.length, rfl, fun bb hb => ?_⟩, g1, g2, fun KV hk' => step KV fun s' hs' => ?_⟩
              · rw [Au, zw rfl] at hb
                cases hb
                simp [Er, hln, r1.1]
              · rw [hs] at hs'
                subst hs';refine r2 _ ?_
                simp only [hk, Aj];exact ⟨k1, trivial, by rw [k2, c1], by rw [k4, hE.size], c2, by rw [r1.1, <- hln]; exact a3, by rw [r1.1, <- hln]; exact a4, hrl, hk'⟩
            split at h
            · rename_i e1
              rw [e1] at hs;have hs : Ax m s = .em := hs
              split at h
              · rename_i hc
                simp only [za2] at hc;obtain ⟨c1, hf⟩ := hc;obtain ⟨hroom, h⟩ := Cw h;simp only [Ij, za2, decide_eq_true_eq] at hroom;obtain ⟨g1, g2⟩ := Ol (x := .arr e deep c mm) (k := AG e de.size deep rows) (hh.kill kills) (hr.keeps fun t i _ => Gq kills hp i) (H7 hf) (fun id y hy => ME hf hy) (by simp [I8]) ⟨rfl, rfl, rfl, hE.size, r1⟩;refine ⟨_, _, _, .ar b 0 rows.length, _, h, ⟨rows.length, rfl, fun bb hb => ?_⟩, g1, g2, fun KV hk => step KV fun s' hs' => ?_⟩
                · rw [Au, zw rfl] at hb
                  cases hb
                  simp [Er, r1.1]
                · rw [hs] at hs'
                  subst hs';refine r2 _ ?_
                  exact ⟨by rw [r1.1]; exact hroom.1, by rw [r1.1]; exact hroom.2, hrl, c1, hk⟩
              · cases h
            · rename_i id e1
              rw [e1] at hs;obtain ⟨n, hs, hlen⟩ := hs
              split at h
              · rename_i ty d0 t0 l hg
                split at h
                · rename_i ht0
                  split at h
                  · rename_i hc
                    obtain ⟨k, hk, k1, k2, k3, k4, k5⟩ := hh id _ hg;have := hlen _ hg;cases this
                    subst ht0
                    exact own id l.length ty d0 l k hs hk k1 k2 k3 k4 (by have : k.rows.take l.length = k.rows := by rw [<- k5.1]; simp
                                                                          rw [this]; exact k5) rfl hc h
                  · cases h
                · cases h
              · cases h
            · rename_i id n e1
              rw [e1] at hs;have hs : Ax m s = .ar id 0 n := hs
              split at h
              · rename_i ty d0 t0 l hg
                split at h
                · rename_i ht0
                  split at h
                  · rename_i hc
                    obtain ⟨k, hk, k1, k2, k3, k4, k5⟩ := hh id _ hg;subst ht0;obtain ⟨hle, h⟩ := Cw h;have hle := of_decide_eq_true hle;exact own id n ty d0 (l.take n) k hs hk k1 k2 k3 k4 (k5.take n) (by simp; omega) hc h
                  · cases h
                · cases h
              · cases h
            · cases h
          · cases h
        · cases h
      · cases h
    · cases h
  · cases h
end
end
section
open Go
section
variable {tm:TTm} {m:Tm} {hp hp':THp} {hv hv':Hp}
theorem Ag1{id:Nat}(hh:RH hp hv):RH ((id,(AA hp id).map Ag2)::hp) (upd hv id ((hv id).map fun k=>{k with kind:=match k.kind with|.arr=>.frz|x=>x}))/\∀i,Ci hp ((id,(AA hp id).map Ag2)::hp) i:=by
 have hk:∀i,Ci hp ((id,(AA hp id).map Ag2)::hp) i:=by
  intro i b hb;rw[Au]at hb
  split at hb
  ·rename_i hi;subst hi;simp only[zb4]at hb;obtain⟨b0,h0,rfl⟩:=hb;exact⟨b0,h0,by cases b0<;>rfl⟩
  ·exact⟨b,hb,rfl⟩
 refine⟨fun i b hb=> ?_,hk⟩
 rw[Au]at hb
 split at hb
 ·rename_i hi;subst hi;simp only[zb4]at hb;obtain⟨b0,h0,rfl⟩:=hb;obtain⟨k,hk1,hrb⟩:=hh i b0 h0;refine⟨_,by simp only[upd,if_true,hk1,zd1];rfl,RB.keeps (hp:=hp) ?_ fun j _=>hk j⟩
  cases b0 with
  |box ty cs=>obtain⟨h1,h2,h3⟩:=hrb;exact⟨by simp[h1],h2,h3⟩
  |arr ty deep t l=>obtain⟨h1,h2,h3⟩:=hrb;exact⟨by simp[h1],h2,h3⟩
  |frz ty deep t l=>obtain⟨h1,h2,h3⟩:=hrb;exact⟨by simp[h1],h2,h3⟩
 ·rename_i hi;obtain⟨k,hk1,hrb⟩:=hh i b hb;exact⟨k,by simp only[upd,zi hi];exact hk1,hrb.keeps fun j _=>hk j⟩
theorem Sc:∀(l:List Nat){hp:THp}{hv:Hp},RH hp hv->RH (DG hp l) (freeze hv l)/\∀i,Ci hp (DG hp l) i
 |[],hp,hv,h=>⟨h,fun i=>Ci.refl hp i⟩
 |id::l,hp,hv,h=>by
  obtain⟨h1,h2⟩:=Ag1 (id:=id) h;obtain⟨h3,h4⟩:=Sc l h1;exact⟨h3,fun i=>(h2 i).trans (h4 i)⟩
theorem P0:∀(l:List Nat)(hp:THp)(id:Nat),id ∉ l->AA (DG hp l) id=AA hp id
 |[],_,_,_=>rfl
 |x::l,hp,id,h=>by
  simp only[zc9,not_or]at h;rw[DG,P0 l _ id h.2,Au,zi h.1]
theorem PZ:∀(l:List Nat)(hp:THp)(id:Nat)(ty:TypeId)(cs:List SV),AA hp id=some (.box ty cs)->AA (DG hp l) id=some (.box ty cs)
 |[],_,_,_,_,h=>h
 |x::l,hp,id,ty,cs,h=>by
  rw[DG];refine PZ l _ id ty cs ?_
  rw[Au]
  split
  ·rename_i he;subst he;rw[h];rfl
  ·exact h
theorem UB{hp:THp}{id:Nat}{b:TB}(h:AA hp id=some b):(id,some b)∈hp:=by
 induction hp with
 |nil=>cases h
 |cons a l ih=>
  obtain⟨k,x⟩:=a;rw[Au]at h
  split at h
  ·rename_i he;subst he;subst h;simp
  ·exact List.mem_cons_of_mem _ (ih h)
theorem K3{a b:Nat}(h:Nat.blt a b=true):a<b:=Nat.lt_of_succ_le (Nat.le_of_ble_eq_true h)
def Bel(b:Nat)(hp:THp):Prop:=∀id k,AA hp id=some k->id<b/\∀i∈I8 k,i<b
theorem Bel.mono{b b':Nat}{hp:THp}(h:Bel b hp)(hb:b<=b'):Bel b' hp:=fun id k hk=>⟨zd8 (h id k hk).1 hb,fun i hi=>zd8 ((h id k hk).2 i hi) hb⟩
theorem Oo{tm:TTm}{hp:THp}{b:Nat}(h:On tm hp b=true):Bel b hp/\∀t,∀i∈FQ (Co tm t),i<b:=by
 simp only[On,za2]at h;refine⟨fun id k hk=> ?_,fun t i hi=> ?_⟩
 ·have:=za6.1 h.2 _ (UB hk);simp only[za2]at this;exact⟨K3 this.1,fun i hi=>K3 (za6.1 this.2 i hi)⟩
 ·rcases Xd (tm:=tm) (t:=t)with h'|⟨x,hx,h'⟩
  ·rw[h']at hi;simp[FQ,TC,Ey]at hi
  ·rw[<-h']at hi;exact K3 (za6.1 (za6.1 h.1 x hx) i hi)
theorem Aq0{b:TB}{i:Nat}(h:i∈I8 (Ag2 b)):i∈I8 b:=by
 cases b with
 |arr _ _ _ _=>simp[Ag2,I8]at h
 |_=>exact h
theorem Lf:∀(l:List Nat){hp:THp}{b:Nat},Bel b hp->Bel b (DG hp l)
 |[],_,_,h=>h
 |x::l,hp,b,h=>by
  rw[DG];refine Lf l fun id k hk=> ?_
  rw[Au]at hk
  split at hk
  ·rename_i he;subst he;simp only[zb4]at hk;obtain⟨k0,h0,rfl⟩:=hk;exact⟨(h id k0 h0).1,fun i hi=>(h id k0 h0).2 i (Aq0 hi)⟩
  ·exact h id k hk
theorem Ai2{hp:THp}{x:SV}{y:V}(h:RV0 hp x y)(hx:okT x=true):Bk y=true:=by
 cases x with
 |im t l=>rcases h with⟨_,rfl⟩|⟨_,rfl,_⟩<;>rfl
 |ow id=>obtain⟨_,rfl,_⟩:=h;rfl
 |ir t a c=>obtain⟨_,rfl,_⟩:=h;rfl
 |cl f cs=>cases cs with|nil=>have:y=_:=h;subst this;rfl|cons a l=>exact h.elim
 |any=>simp[okT]at hx
 |agg cs=>exact h.elim
 |tup cs=>exact h.elim
 |int k n=>have:y=_:=h;subst this;rfl
 |bool k=>have:y=_:=h;subst this;rfl
 |str k=>have:y=_:=h;subst this;rfl
 |sc k=>have:y=_:=h;subst this;rfl
 |em=>have:y=_:=h;subst this;rfl
 |er e=>simp[okT]at hx
 |ar a b c=>have:y=_:=h;subst this;rfl
 |rf a b c=>have:y=_:=h;subst this;rfl
structure NV (b n:Nat) (hp:THp) (hp':THp) (hv':Hp):Prop where
 rh:RH hp' hv'
 bel:Bel (b+n) hp'
 keep:∀i,i<b->Ci hp hp' i
structure NT (b n:Nat) (hp:THp) (hp':THp) (hv':Hp):Prop extends NV b n hp hp' hv' where
 box:∀i ty cs,i<b->AA hp i=some (.box ty cs)->AA hp' i=some (.box ty cs)
theorem NT.refl(hh:RH hp hv){b:Nat}(hb:Bel b hp):NT b 0 hp hp hv:=⟨⟨hh,hb,fun i _=>Ci.refl hp i⟩,fun _ _ _ _ h=>h⟩
theorem NT.trans{b n k:Nat}{hp1 hp2:THp}{hv1 hv2:Hp}(h:NT b n hp hp1 hv1)(g:NT (b+n) k hp1 hp2 hv2):NT b (n+k) hp hp2 hv2:=
 ⟨⟨g.rh,by have:=g.bel;rwa[Nat.add_assoc]at this,fun i hi=>(h.keep i hi).trans (g.keep i (by omega))⟩,fun i ty cs hi hg=>g.box i ty cs (by omega) (h.box i ty cs hi hg)⟩
theorem Ab9{m:TM}{v v':SV}{y:V}{b n:Nat}(hh:RH hp hv)(hb:Bel b hp)(hi:∀i∈Ey v,i<b)(hv0:RV0 hp v y)(h:tnC m v hp b=some (v',hp',n)):
  ∃y' hv',Kv m.md y hv b=some (y',hv',n)/\NT b n hp hp' hv'/\RV0 hp' v' y'/\∀i∈Ey v',i<b+n:=by
 cases m with
 |keep=>
  simp only[tnC,zb,Prod.mk.injEq]at h;obtain⟨rfl,rfl,rfl⟩:=h;exact⟨y,hv,rfl,NT.refl hh hb,hv0,hi⟩
 |own ty deep t=>
  cases v with
  |em=>
   simp only[tnC,zb,Prod.mk.injEq]at h;obtain⟨rfl,rfl,rfl⟩:=h;have:y=.em:=hv0;subst this;refine⟨.ar b 0 0,upd hv b (some (AG ty t.size deep [])),rfl,⟨⟨?_,fun id k hk=> ?_,fun i hi=>JD (by omega)⟩,fun i ty' cs hi hg=>by rw[Au,zi (by omega)];exact hg⟩,⟨0,rfl,fun k hk=> ?_⟩,fun i hi=>by simp[Ey]at hi;omega⟩
   ·exact hh.put (fun i hi=>by simp[I8]at hi) (fun id z _ hz i hi=>JD fun he=>by have:=(hb id z hz).2 i hi;omega) ⟨rfl,rfl,rfl,rfl,RLx.nil⟩
   ·rw[Au]at hk
    split at hk
    ·cases hk;exact⟨by omega,fun i hi=>by simp[I8]at hi⟩
    ·exact(hb.mono (by omega)) id k hk
   ·rw[Au,zw rfl]at hk;cases hk;rfl
  |ow id=>
   simp only[tnC]at h
   split at h
   ·rename_i ty' deep' t' l hg
    split at h
    ·rename_i he
     split at h
     ·rename_i hc;simp only[za2,beq_iff_eq]at hc;simp only[zb,Prod.mk.injEq]at h;obtain⟨rfl,rfl,rfl⟩:=h;subst he;have e1:=za7 hc.1;have e2:=hc.2;subst e1;subst e2;obtain⟨k,hk,k1,k2,k3,k4,k5⟩:=hh id _ hg;obtain⟨n',rfl,hlen⟩:=hv0;have hn':=hlen _ hg;cases hn'
      refine⟨.ar id 0 l.length,hv,?_,NT.refl hh hb,⟨_,rfl,hlen⟩,hi⟩
      show(match hv id with|some k=>if k.kind=Kind.arr/\0=0/\l.length=k.rows.length/\k.ty=ty'/\k.size=t'.size/\k.deep=deep' then some (V.ar id 0 l.length,hv,0)else none|none=>none)=_;rw[hk];simp only;rw[zw ⟨k1,trivial,k5.1.symm,k2,k4,k3⟩]
     ·cases h
    ·cases h
   ·cases h
  |_=>simp[tnC]at h
 |im t=>
  simp only[tnC]at h
  split at h
  ·rename_i l hl;simp only[zb,Prod.mk.injEq]at h;obtain⟨rfl,rfl,rfl⟩:=h;obtain⟨g1,g2⟩:=Sc (frV v) hh;have nt:NT b 0 hp (DG hp (frV v)) (freeze hv (frV v)):=⟨⟨g1,Lf _ hb,fun i _=>g2 i⟩,fun i ty cs _ hg=>PZ _ _ _ _ _ hg⟩;rcases RG hl hv0 hh.toM with⟨rfl,rfl⟩|⟨rows,rfl,hr⟩|⟨id,lo,n,kb,rfl,hk,hkk,hr⟩
   ·have hf:frV v=[]:=by
     cases v<;>first|rfl|(obtain⟨n,hy,_⟩:=hv0;cases hy)|(have:V.em=_:=hv0;cases this)
    exact⟨.im [],_,by rw[hf];rfl,nt,.inr ⟨[],rfl,RLx.nil⟩,fun i hi=>by simp[Ey]at hi⟩
   ·have hf:frV v=[]:=by
     cases v<;>first|rfl|(obtain⟨n,hy,_⟩:=hv0;cases hy)|(have:V.im rows=_:=hv0;cases this)
    exact⟨.im rows,_,by rw[hf];rfl,nt,.inr ⟨rows,rfl,hr⟩,fun i hi=>by simp[Ey]at hi⟩
   ·have hf:frV v=[id]:=by
     cases v with
     |ow id'=>obtain⟨n',hy,_⟩:=hv0;cases hy;rfl
     |ar a b c=>have:V.ar id lo n=_:=hv0;cases this;rfl
     |em=>have:V.ar id lo n=_:=hv0;cases this
     |er e=>have:V.ar id lo n=_:=hv0;cases this
     |im t' l'=>rcases hv0 with⟨_,hy⟩|⟨_,hy,_⟩<;>cases hy
     |_=>simp[FK,asL]at hl
    refine⟨.im ((kb.rows.take (lo+n)).drop lo),_,?_,nt,.inr ⟨_,rfl,hr⟩,fun i hi=>by simp[Ey]at hi⟩
    rw[hf];show(match hv id with|some k=>(match k.kind with|.box=>none|_=>some (V.im ((k.rows.take (lo+n)).drop lo),freeze hv [id],0))|none=>none)=_;rw[hk];simp only
  ·cases h
 |sub=>
  cases v with
  |ow id=>
   simp only[tnC]at h
   split at h
   ·rename_i ty' deep' t' l hg;simp only[zb,Prod.mk.injEq]at h;obtain⟨rfl,rfl,rfl⟩:=h;obtain⟨n',rfl,hlen⟩:=hv0;have hn':=hlen _ hg;cases hn'
    exact⟨_,hv,rfl,NT.refl hh hb,rfl,fun i hi=>by simp[Ey]at hi⟩
   ·cases h
  |ar id lo n'=>
   simp only[tnC,zb,Prod.mk.injEq]at h;obtain⟨rfl,rfl,rfl⟩:=h;exact⟨y,hv,rfl,NT.refl hh hb,hv0,hi⟩
  |_=>simp[tnC]at h
theorem Wo:∀{ms:List TM}{vs vs':List SV}{ys:List V}{hp hp':THp}{hv:Hp}{b n:Nat},RH hp hv->Bel b hp->(∀i∈vs.flatMap Ey,i<b)->RC (RV0 hp) vs ys->tnL ms vs hp b=some (vs',hp',n)->
  ∃ys' hv',Kw (ms.map TM.md) ys hv b=some (ys',hv',n)/\NT b n hp hp' hv'/\RC (RV0 hp') vs' ys'/\∀i∈vs'.flatMap Ey,i<b+n
 |[],[],vs',ys,hp,hp',hv,b,n,hh,hb,hi,hc,h=>by
  simp only[tnL,zb,Prod.mk.injEq]at h;obtain⟨rfl,rfl,rfl⟩:=h;cases ys with
  |nil=>exact⟨[],hv,rfl,NT.refl hh hb,trivial,fun i hi=>by simp at hi⟩
  |cons a l=>exact hc.elim
 |m::ms,v::vs,vs',ys,hp,hp',hv,b,n,hh,hb,hi,hc,h=>by
  cases ys with
  |nil=>exact hc.elim
  |cons y ys=>
   simp only[tnL]at h
   split at h
   ·rename_i z hp1 n1 h1
    split at h
    ·rename_i zs hp2 k h2;simp only[zb,Prod.mk.injEq]at h;obtain⟨rfl,rfl,rfl⟩:=h;obtain⟨y',hv1,e1,q1,r1,s1⟩:=Ab9 hh hb (fun i hi'=>hi i (by simp[hi'])) hc.1 h1;obtain⟨ys',hv2,e2,q2,r2,s2⟩:=Wo q1.rh q1.bel (fun i hi'=>by have:=hi i (by simp only[zb2,zb5];exact .inr hi');omega) (hc.2.mono fun x hx y hxy=>hxy.keeps fun i hi'=>q1.keep i (hi i (by simp only[zb2,zb5];exact .inr (zb0.2 ⟨x,hx,hi'⟩)))) h2;refine⟨y'::ys',hv2,by simp only[zc2,Kw,e1,e2],q1.trans q2,⟨r1.keeps fun i hi'=>q2.keep i (s1 i hi'),r2⟩,fun i hi'=> ?_⟩
     rcases zb5.1 (by simpa only[zb2]using hi')with hi'|hi'
     ·have:=s1 i hi';omega
     ·have:=s2 i hi';omega
    ·cases h
   ·cases h
 |[],_::_,_,_,_,_,_,_,_,_,_,_,_,h=>by simp[tnL]at h
 |_::_,[],_,_,_,_,_,_,_,_,_,_,_,h=>by simp[tnL]at h
theorem Ac2{m:TMs}{v v':SV}{y:V}{b n:Nat}(hh:RH hp hv)(hb:Bel b hp)(hi:∀i∈FQ v,i<b)(hv2:RV2 hp v y)(h:tnV m v hp b=some (v',hp',n)):
  ∃y' hv',Qc m.mds y hv b=some (y',hv',n)/\NV b n hp hp' hv'/\RV2 hp' v' y'/\∀i∈FQ v',i<b+n:=by
 cases m with
 |one m=>
  have h:tnC m v hp b=some (v',hp',n):=h;have cell:(∃y0,RV0 hp v y0/\y0=y)->FQ v=Ey v->FQ v'=Ey v'->(∀y',RV0 hp' v' y'->RV2 hp' v' y')->∃y' hv',Qc (TMs.one m).mds y hv b=some (y',hv',n)/\NV b n hp hp' hv'/\RV2 hp' v' y'/\∀i∈FQ v',i<b+n:=by
   rintro⟨_,h0,rfl⟩ e1 e2 h2;obtain⟨y',hv',q1,q2,q3,q4⟩:=Ab9 hh hb (by rw[<-e1];exact hi) h0 h;exact⟨y',hv',q1,q2.toNV,h2 y' q3,by rw[e2];exact q4⟩
  cases m with
  |keep=>
   simp only[tnC,zb,Prod.mk.injEq]at h;obtain⟨rfl,rfl,rfl⟩:=h;exact⟨y,hv,rfl,(NT.refl hh hb).toNV,hv2,hi⟩
  |own ty deep t=>
   have hw:∃i,v'=.ow i:=by
    cases v<;>simp only[tnC,reduceCtorEq]at h
    ·simp only[zb,Prod.mk.injEq]at h;exact⟨_,h.1.symm⟩
    ·repeat' (split at h)
     all_goals first|(simp only[zb,Prod.mk.injEq]at h;exact⟨_,h.1.symm⟩)|cases h
   obtain⟨i',rfl⟩:=hw;cases v<;>simp only[tnC,reduceCtorEq]at h
   ·exact cell ⟨y,hv2,rfl⟩ rfl rfl fun y' h=>h
   ·exact cell ⟨y,hv2,rfl⟩ rfl rfl fun y' h=>h
  |im t=>
   have hw:∃l,v'=.im t l:=by
    simp only[tnC]at h
    split at h
    ·simp only[zb,Prod.mk.injEq]at h;exact⟨_,h.1.symm⟩
    ·cases h
   obtain⟨l',rfl⟩:=hw;cases v<;>first|exact cell ⟨y,hv2,rfl⟩ rfl rfl fun y' h=>h|(simp[tnC,FK,asL]at h;done)
  |sub=>
   have hw:∃i lo k,v'=.ar i lo k:=by
    cases v<;>simp only[tnC,reduceCtorEq]at h
    ·split at h
     ·simp only[zb,Prod.mk.injEq]at h;exact⟨_,_,_,h.1.symm⟩
     ·cases h
    ·simp only[zb,Prod.mk.injEq]at h;exact⟨_,_,_,h.1.symm⟩
   obtain⟨i',lo',k',rfl⟩:=hw;cases v<;>first|exact cell ⟨y,hv2,rfl⟩ rfl rfl fun y' h=>h|(simp[tnC]at h;done)
 |agg l=>
  cases v with
  |agg cs=>
   simp only[tnV]at h
   split at h
   ·rename_i cs' hp1 n1 h1;simp only[zb,Prod.mk.injEq]at h;obtain⟨rfl,rfl,rfl⟩:=h;obtain⟨us,rfl,hc⟩:=SY hv2;obtain⟨ys',hv',q1,q2,q3,q4⟩:=Wo hh hb hi hc h1;refine⟨.agg ys',hv',?_,q2.toNV,⟨ys',rfl,q3⟩,q4⟩
    show(Kw (l.map TM.md) us hv b).map _=_;rw[q1];rfl
   ·cases h
  |_=>simp[tnV]at h
 |box l=>
  cases v with
  |rf id r c=>
   simp only[tnV]at h
   split at h
   ·rename_i ty cs hg
    split at h
    ·rename_i cs' hp1 n1 h1
     split at h
     ·rename_i hok;simp only[zb,Prod.mk.injEq]at h;obtain⟨rfl,rfl,rfl⟩:=h;have:y=.rf id r c:=hv2;subst this;obtain⟨k,hk,k1,k2,row,k3,k4,k5⟩:=hh id _ hg;obtain⟨ys',hv',q1,q2,q3,q4⟩:=Wo hh hb (hb id _ hg).2 k5 h1;have hlt:=(hb id _ hg).1;have hbx:=q2.box id ty cs hlt hg;have hkp:∀i,Ci hp1 ((id,some (.box ty cs'))::hp1) i:=fun i=>Sp (y:=.box ty cs') hbx rfl i
      have hoc:ys'.all Bk=true:=by
       have key:∀{xs:List SV}{us:List V},RC (RV0 hp1) xs us->xs.all okT=true->us.all Bk=true:=by
        intro xs
        induction xs with
        |nil=>intro us h _;cases us with|nil=>rfl|cons a l=>exact h.elim
        |cons x xs ih=>
         intro us h ho;cases us with
         |nil=>exact h.elim
         |cons u us=>
          simp only[zc1,za2]at ho⊢
          exact⟨Ai2 h.1 ho.1,ih h.2 ho.2⟩
       exact key q3 hok
      have hlen:cs'.length=cs.length:=by
       have:∀{ms:List TM}{vs vs':List SV}{hp hp':THp}{b n:Nat},tnL ms vs hp b=some (vs',hp',n)->vs'.length=vs.length:=by
        intro ms
        induction ms with
        |nil=>intro vs vs' hp hp' b n h;cases vs with|nil=>simp[tnL]at h;simp[h]|cons _ _=>simp[tnL]at h
        |cons m ms ih=>
         intro vs vs' hp hp' b n h;cases vs with
         |nil=>simp[tnL]at h
         |cons v vs=>
          simp only[tnL]at h
          split at h
          ·split at h
           ·rename_i h2;simp only[zb,Prod.mk.injEq]at h;obtain⟨rfl,_,_⟩:=h;simp[ih h2]
           ·cases h
          ·cases h
       exact this h1
      refine⟨.rf id r c,upd hv' id (some {k with rows:=[ys']}),?_,⟨?_,fun i z hz=> ?_,fun i hi=>(q2.keep i hi).trans (hkp i)⟩,rfl,fun i hi=>by simp[FQ,TC,Ey]at hi⟩
      ·show(match hv id with|some k=>(match k.kind,k.rows with|Kind.box,[row]=>(match Kw (l.map TM.md) row hv b with|some (cs',hp1,n)=>if cs'.all Bk then some (V.rf id r c,upd hp1 id (some {k with rows:=[cs']}),n)else none|none=>none)|_,_=>none)|none=>none)=_;rw[hk];simp only[k1,k3,q1,hoc,if_true]
      ·refine q2.rh.put (fun i _=>hkp i) (fun _ _ _ _ i _=>hkp i) ⟨k1,k2,ys',rfl,?_,q3⟩
       show k.size=ys'.length;rw[k4,k5.length,q3.length,hlen]
      ·rw[Au]at hz
       split at hz
       ·cases hz;rename_i he;subst he;exact⟨by omega,q4⟩
       ·exact q2.bel i z hz
     ·cases h
    ·cases h
   ·cases h
  |_=>simp[tnV]at h
theorem Ac1:∀{l:List (Nat×TMs)}{st st':TSt}{s:St},RS st s->Bel (16*st.c) st.hp->(∀t,∀i∈FQ (Co st.tm t),i<16*st.c)->tnS l st=some st'->
  ∃s',Mp (EF l) s=some s'/\RS st' s'/\Bel (16*st'.c) st'.hp/\∀t,∀i∈FQ (Co st'.tm t),i<16*st'.c
 |[],st,st',s,hs,hb,hi,h=>by
  simp only[tnS,zb]at h;subst h;exact⟨s,rfl,hs,hb,hi⟩
 |(k,m)::l,st,st',s,hs,hb,hi,h=>by
  simp only[tnS]at h
  split at h
  ·rename_i x hp1 n h1
   split at h
   ·rename_i hn;have hn:=Nat.le_of_ble_eq_true hn;obtain⟨y',hv1,q1,q2,q3,q4⟩:=Ac2 hs.hp hb (hi k) (hs.tm k) h1;obtain⟨s',e1,e2,e3,e4⟩:=Ac1 (s:={tm:=upd s.tm k y',hp:=hv1,c:=s.c+1}) (st:={tm:=(k,x)::st.tm,hp:=hp1,c:=st.c+1}) ⟨fun t=>by
      show RV2 hp1 (Co ((k,x)::st.tm) t) (upd s.tm k y' t);rw[Et];unfold upd
      split
      ·exact q3
      ·exact(hs.tm t).keeps fun i hi'=>q2.keep i (hi t i hi'),q2.rh,by show s.c+1=st.c+1;rw[hs.c]⟩ (q2.bel.mono (by show _<=16*(st.c+1);omega)) (fun t i hi'=>by
      have hi':i∈FQ (Co ((k,x)::st.tm) t):=hi';show i<16*(st.c+1);rw[Et]at hi'
      split at hi'
      ·have:=q4 i hi';omega
      ·have:=hi t i hi';omega) h
    refine⟨s',?_,e2,e3,e4⟩
    show Mp ((k,m.mds)::EF l) s=_;simp only[Mp];rw[hs.c,q1];simp only;rw[zw hn];rw[<-hs.c];exact e1
   ·cases h
  ·cases h
theorem Ac0:∀{ms:List TMs}{xs xs':List SV}{ys:List V}{hp hp':THp}{hv:Hp}{c:Nat},RH hp hv->Bel (16*c) hp->(∀i∈xs.flatMap FQ,i<16*c)->RC (RV2 hp) xs ys->tnR ms xs hp c=some (xs',hp')->
  ∃ys' hv' c',Ie (ms.map TMs.mds) ys hv c=some (ys',hv',c')/\RH hp' hv'/\RC (RV2 hp') xs' ys'/\(∀i,i<16*c->Ci hp hp' i)
 |[],[],xs',ys,hp,hp',hv,c,hh,hb,hi,hc,h=>by
  simp only[tnR,zb,Prod.mk.injEq]at h;obtain⟨rfl,rfl⟩:=h;cases ys with
  |nil=>exact⟨[],hv,c,rfl,hh,trivial,fun i _=>Ci.refl hp i⟩
  |cons a l=>exact hc.elim
 |m::ms,x::xs,xs',ys,hp,hp',hv,c,hh,hb,hi,hc,h=>by
  cases ys with
  |nil=>exact hc.elim
  |cons y ys=>
   simp only[tnR]at h
   split at h
   ·rename_i z hp1 n h1
    split at h
    ·rename_i hn;have hn:=Nat.le_of_ble_eq_true hn
     split at h
     ·rename_i zs hp2 h2;simp only[zb,Prod.mk.injEq]at h;obtain⟨rfl,rfl⟩:=h;obtain⟨y',hv1,q1,q2,q3,q4⟩:=Ac2 hh hb (fun i hi'=>hi i (by simp[hi'])) hc.1 h1;obtain⟨ys',hv2,c',e1,e2,e3,e4⟩:=Ac0 q2.rh (q2.bel.mono (show _<=16*(c+1) by omega)) (fun i hi'=>by have:=hi i (by simp only[zb2,zb5];exact .inr hi');omega) (hc.2.mono fun x hx y hxy=>hxy.keeps fun i hi'=>q2.keep i (hi i (by simp only[zb2,zb5];exact .inr (zb0.2 ⟨x,hx,hi'⟩)))) h2;refine⟨y'::ys',hv2,c',?_,e2,⟨q3.keeps fun i hi'=>e4 i (by have:=q4 i hi';omega),e3⟩,fun i hi'=>(q2.keep i hi').trans (e4 i (by omega))⟩
      simp only[zc2,Ie,q1,zw hn,e1]
     ·cases h
    ·cases h
   ·cases h
 |[],_::_,_,_,_,_,_,_,_,_,_,_,h=>by simp[tnR]at h
 |_::_,[],_,_,_,_,_,_,_,_,_,_,h=>by simp[tnR]at h
end
end
section
open Go
section
variable {hp hp' H:THp} {hv hv':Hp}
theorem NL{i:Nat}:∀{l:List Nat},Ah8 i l=l.contains i
 |[]=>rfl
 |x::l=>by
  simp only[Ah8,List.contains_cons];rw[NL];cases h:Nat.beq x i with
  |true=>have:=za7 h;subst this;simp
  |false=>
   have:x≠i:=fun he=>by subst he;rw[Nat.beq_refl]at h;cases h
   have h2:(i==x)=false:=by simpa using fun he:i=x=>this he.symm
   rw[h2];rfl
theorem Jy:∀{l m:List Nat},YG l m=true->l=m
 |[],[],_=>rfl
 |x::l,y::m,h=>by
  simp only[YG,za2]at h;rw[za7 h.1,Jy h.2]
 |[],_::_,h=>by cases h
 |_::_,[],h=>by cases h
theorem AD6{v:SV}{y:V}(hs:Io v=true)(h:RV0 hp v y):Ae y=rf0 v:=by
 cases v with
 |im t l=>rcases h with⟨_,rfl⟩|⟨_,rfl,_⟩<;>rfl
 |ow id=>obtain⟨_,rfl,_⟩:=h;rfl
 |ir t a c=>obtain⟨_,rfl,_⟩:=h;rfl
 |cl f cs=>cases cs with|nil=>have:y=_:=h;subst this;rfl|cons a l=>exact h.elim
 |any=>cases hs
 |agg cs=>exact h.elim
 |tup cs=>exact h.elim
 |_=>have:y=_:=h;subst this;rfl
theorem QP:∀{vs:List SV}{ys:List V},vs.all Io=true->RC (RV0 hp) vs ys->ys.flatMap Ae=vs.flatMap rf0
 |[],[],_,_=>rfl
 |v::vs,y::ys,hs,h=>by
  simp only[zc1,za2]at hs;rw[zb2,zb2,AD6 hs.1 h.1,QP hs.2 h.2]
 |[],_::_,_,h=>h.elim
 |_::_,[],_,h=>h.elim
theorem GC{v:SV}{y:V}(hs:Eh v=true)(h:RV2 hp v y):RV1 hp v y/\Af y=rf1 v/\Ah y=rf1 v/\EG y=true:=by
 have cell:∀{v:SV}{y:V},Io v=true->RV0 hp v y->RV1 hp v y/\Af y=rf0 v/\Ah y=rf0 v/\EG y=true:=by
  intro v y hs h;refine⟨h.to1,?_⟩
  cases v with
  |im t l=>rcases h with⟨_,rfl⟩|⟨_,rfl,_⟩<;>exact⟨rfl,rfl,rfl⟩
  |ow id=>obtain⟨_,rfl,_⟩:=h;exact⟨rfl,rfl,rfl⟩
  |ir t a c=>obtain⟨_,rfl,_⟩:=h;exact⟨rfl,rfl,rfl⟩
  |cl f cs=>cases cs with|nil=>have:y=_:=h;subst this;exact⟨rfl,rfl,rfl⟩|cons a l=>exact h.elim
  |any=>cases hs
  |agg cs=>exact h.elim
  |tup cs=>exact h.elim
  |_=>have:y=_:=h;subst this;exact⟨rfl,rfl,rfl⟩
 cases v with
 |agg cs=>
  obtain⟨us,rfl,hc⟩:=h;have:=QP hs hc;exact⟨⟨us,rfl,hc⟩,this,this,rfl⟩
 |cl f cs=>
  obtain⟨us,rfl,hc⟩:=h;have:=QP hs hc;exact⟨⟨us,rfl,hc⟩,this,this,rfl⟩
 |tup vs=>cases hs
 |any=>cases hs
 |int k n=>exact cell (v:=.int k n) hs h
 |bool b=>exact cell (v:=.bool b) hs h
 |str s=>exact cell (v:=.str s) hs h
 |sc x=>exact cell (v:=.sc x) hs h
 |em=>exact cell (v:=.em) hs h
 |er e=>exact cell (v:=.er e) hs h
 |im t l=>exact cell (v:=.im t l) hs h
 |ow id=>exact cell (v:=.ow id) hs h
 |ar a b c=>exact cell (v:=.ar a b c) hs h
 |rf a b c=>exact cell (v:=.rf a b c) hs h
 |ir a b c=>exact cell (v:=.ir a b c) hs h
theorem Aa5{b:TB}{k:Blk}(hs:S7 b=true)(h:RB hp b k):Ck k=rfB b:=by
 cases b with
 |arr ty deep t l=>obtain⟨h1,_⟩:=h;simp only[Ck,h1,rfB]
 |frz ty deep t l=>obtain⟨h1,_⟩:=h;simp only[Ck,h1,rfB]
 |box ty cs=>
  obtain⟨h1,h2,row,h3,h4,h5⟩:=h;unfold Ck;rw[h1,h3];simp only[zb2,List.flatMap_nil,List.append_nil];exact QP hs h5
theorem Gm(hh:RH hp hv):∀(k:Nat)(l acc:List Nat){o:List Nat},FL hp k l acc=some o->Ec hv k l acc=some o
 |0,_,_,_,h=>by cases h
 |k+1,[],acc,o,h=>h
 |k+1,id::l,acc,o,h=>by
  simp only[FL]at h;simp only[Ec];rw[NL]at h;cases hc:acc.contains id with
  |true=>
   rw[hc]at h;rw[zw rfl];exact Gm hh k l acc h
  |false=>
   rw[hc]at h;rw[zi (by simp)];simp only[cond_false]at h
   split at h
   ·cases h
   ·rename_i b hb;obtain⟨hs,h⟩:=Cw h;obtain⟨kb,hk,hr⟩:=hh id b hb;simp only[hk,Aa5 hs hr];exact Gm hh k _ _ h
theorem L2:∀(o:List Nat)(id:Nat),Dm o id=idx o id
 |[],_=>rfl
 |x::l,id=>by
  unfold idx;rw[List.idxOf?_cons];simp only[Dm];cases h:Nat.beq x id with
  |true=>have:=za7 h;subst this;simp
  |false=>
   have:x≠id:=fun he=>by subst he;rw[Nat.beq_refl]at h;cases h
   have h2:(x==id)=false:=by simpa using this
   rw[h2];simp only[cond_false,zb8,if_false];rw[L2 l id];unfold idx;cases List.idxOf? id l<;>rfl
theorem YM:∀{o:List Nat}{id j:Nat},idx o id=some j->o[j]? =some id:=by
 intro o id j h;rw[<-L2]at h
 induction o generalizing j with
 |nil=>cases h
 |cons x l ih=>
  simp only[Dm]at h;cases hx:Nat.beq x id with
  |true=>
   rw[hx]at h;have:=za7 hx;subst this;cases h
   rfl
  |false=>
   rw[hx]at h;simp only[cond_false]at h
   split at h
   ·rename_i j' hj;cases h
    rw[List.getElem?_cons_succ];exact ih hj
   ·cases h
section
variable {f:Nat->Option Nat} (hlen:∀id j,f id=some j->∀b',AA H j=some b'->∃b,AA hp id=some b/\Er b=Er b')
include hlen
theorem Aa4{v:SV}{y:V}(h:RV0 hp v y):RV0 H (DJ f v) (BR f y):=by
 cases v with
 |im t l=>rcases h with⟨h1,rfl⟩|⟨rows,rfl,h1⟩;exact .inl ⟨h1,rfl⟩;exact .inr ⟨rows,rfl,h1⟩
 |ow id=>
  obtain⟨n,rfl,h1⟩:=h;simp only[DJ,BR];cases hf:f id with
  |none=>trivial
  |some j=>
   refine⟨n,rfl,fun b' hb'=> ?_⟩
   obtain⟨b,q1,q2⟩:=hlen id j hf b' hb';rw[<-q2];exact h1 b q1
 |ar id lo n=>
  have:y=_:=h;subst this;simp only[DJ,BR];cases hf:f id with
  |none=>trivial
  |some j=>rfl
 |rf id r c=>
  have:y=_:=h;subst this;simp only[DJ,BR];cases hf:f id with
  |none=>trivial
  |some j=>rfl
 |ir t a c=>obtain⟨row,rfl,h1⟩:=h;exact⟨row,rfl,h1⟩
 |cl g cs=>cases cs with|nil=>have:y=_:=h;subst this;rfl|cons a l=>exact h.elim
 |any=>trivial
 |agg cs=>exact h.elim
 |tup cs=>exact h.elim
 |_=>have:y=_:=h;subst this;rfl
theorem QO:∀{vs:List SV}{ys:List V},RC (RV0 hp) vs ys->RC (RV0 H) (vs.map (DJ f)) (ys.map (BR f))
 |[],[],_=>trivial
 |v::vs,y::ys,h=>⟨Aa4 hlen h.1,QO h.2⟩
 |[],_::_,h=>h.elim
 |_::_,[],h=>h.elim
theorem V4{v:SV}{y:V}(h:RV1 hp v y)(hs:Eh v=true):RV1 H (BB f v) (Cp f y):=by
 have cell:∀{v:SV}{y:V},RV0 hp v y->BB f v=DJ f v->Cp f y=BR f y->RV1 H (BB f v) (Cp f y):=by
  intro v y h e1 e2;rw[e1,e2];exact(Aa4 hlen h).to1
 cases v with
 |agg cs=>obtain⟨us,rfl,hc⟩:=h;exact⟨_,rfl,QO hlen hc⟩
 |cl g cs=>obtain⟨us,rfl,hc⟩:=h;exact⟨_,rfl,QO hlen hc⟩
 |im t l=>rcases h with⟨h1,rfl⟩|⟨rows,rfl,h1⟩;exact .inl ⟨h1,rfl⟩;exact .inr ⟨rows,rfl,h1⟩
 |ow id=>obtain⟨n,rfl,h1⟩:=h;exact cell (v:=.ow id) ⟨n,rfl,h1⟩ rfl rfl
 |ir t a c=>obtain⟨row,rfl,h1⟩:=h;exact⟨row,rfl,h1⟩
 |any=>trivial
 |tup cs=>exact h.elim
 |ar id lo n=>have:y=_:=h;subst this;exact cell (v:=.ar id lo n) rfl rfl rfl
 |rf id lo n=>have:y=_:=h;subst this;exact cell (v:=.rf id lo n) rfl rfl rfl
 |_=>have:y=_:=h;subst this;rfl
theorem Av2{b:TB}{k:Blk}(h:RB hp b k):RB H (SP f b) (Ee f k):=by
 cases b with
 |arr ty deep t l=>
  obtain⟨h1,h2,h3,h4,h5⟩:=h;have:Ee f k=k:=by unfold Ee;rw[h1]
  rw[this];exact⟨h1,h2,h3,h4,h5⟩
 |frz ty deep t l=>
  obtain⟨h1,h2,h3,h4,h5⟩:=h;have:Ee f k=k:=by unfold Ee;rw[h1]
  rw[this];exact⟨h1,h2,h3,h4,h5⟩
 |box ty cs=>
  obtain⟨h1,h2,row,h3,h4,h5⟩:=h;have e:Ee f k={k with rows:=k.rows.map (·.map (BR f))}:=by unfold Ee;rw[h1]
  rw[e];refine⟨h1,h2,row.map (BR f),by simp[h3],by simpa using h4,QO hlen h5⟩
end
theorem WR{f:Nat->Option Nat}(b:TB):Er (SP f b)=Er b:=by cases b<;>rfl
theorem Se{f:Nat->Option Nat}:∀(o:List Nat)(k j:Nat),AA (FU hp f k o) j=if k<=j then(o[j-k]?).bind fun id=>(AA hp id).map (SP f)else none
 |[],k,j=>by simp[FU,AA]
 |id::o,k,j=>by
  simp only[FU];rw[Au,Se o (k+1) j];by_cases h:j=k
  ·subst h;rw[zw rfl,zw (za8 _)];simp;cases AA hp id<;>rfl
  ·rw[zi h];by_cases h2:k<=j
   ·rw[zw h2,zw (by omega),show j-k=(j-(k+1))+1 by omega,List.getElem?_cons_succ]
   ·rw[zi h2,zi (by omega)]
theorem OZ(hh:RH hp hv)(o:List Nat):RH (FU hp (Dm o) 0 o) (lkB (AF hv o))/\∀id j,idx o id=some j->∀b',AA (FU hp (Dm o) 0 o) j=some b'->∃b,AA hp id=some b/\Er b=Er b':=by
 have hf:Dm o=idx o:=funext fun id=>L2 o id
 have hget:∀j b',AA (FU hp (Dm o) 0 o) j=some b'->∃id b,o[j]? =some id/\AA hp id=some b/\b'=SP (idx o) b:=by
  intro j b' hb;rw[Se,zw (zf5 _),Nat.sub_zero,hf]at hb;obtain⟨id,h1,h2⟩:=Bb hb;simp only[zb4]at h2;obtain⟨b,h3,h4⟩:=h2;exact⟨id,b,h1,h3,h4.symm⟩
 have hlen:∀id j,idx o id=some j->∀b',AA (FU hp (Dm o) 0 o) j=some b'->∃b,AA hp id=some b/\Er b=Er b':=by
  intro id j hj b' hb;obtain⟨id',b,h1,h2,rfl⟩:=hget j b' hb;rw[YM hj]at h1;cases h1
  exact⟨b,h2,(WR b).symm⟩
 refine⟨fun j b' hb=> ?_,hlen⟩
 obtain⟨id,b,h1,h2,rfl⟩:=hget j b' hb;obtain⟨k,hk,hr⟩:=hh id b h2;refine⟨Ee (idx o) k,?_,Av2 hlen hr⟩
 show(AF hv o)[j]? =_;unfold AF;rw[zd5,h1];simp only[zd1,hk,Option.getD_some]
theorem Av1{f:Nat->Option Nat}{y:V}(h:EG y=true):EQ f y=Cp f y:=by
 cases y<;>first|rfl|cases h
theorem Yw{e:Nat}{keep:List Nat}{st st2:TSt}{s:St}(hs:RS st s)(h:Ot e keep st=some st2):∃s2,(∀K:St->Prop,K s2->HX e keep s K)/\RS st2 s2:=by
 unfold Ot at h
 split at h
 ·rename_i hsure
  split at h
  ·rename_i o ho
   split at h
   ·rename_i hc;simp only[za2]at hc;simp only[zb]at h;subst h;have hrefs:∀t∈keep,Ah (s.tm t)=rf1 (Co st.tm t):=fun t ht=>(GC (za6.1 hsure t ht) (hs.tm t)).2.2.1
    have hfl:(keep.flatMap fun t=>Ah (s.tm t))=keep.flatMap fun t=>rf1 (Co st.tm t):=by
     have:∀(l:List Nat),(∀t∈l,Ah (s.tm t)=rf1 (Co st.tm t))->(l.flatMap fun t=>Ah (s.tm t))=l.flatMap fun t=>rf1 (Co st.tm t):=by
      intro l
      induction l with
      |nil=>intro _;rfl
      |cons a l ih=>intro h;rw[zb2,zb2,h a (by simp),ih fun t ht=>h t (by simp[ht])]
     exact this keep hrefs
    have hcl:=Gm hs.hp _ _ _ ho;obtain⟨h1,hlen⟩:=OZ hs.hp o;have hf:Dm o=idx o:=funext fun id=>L2 o id
    refine⟨{tm:=lk .any (keep.map fun t=>(t,EQ (idx o) (s.tm t))),hp:=lkB (AF s.hp o),c:=1},fun K hK=> ?_,⟨?_,h1,rfl⟩⟩
    ·unfold HX;rw[hfl,hcl];exact⟨Nat.le_of_ble_eq_true hc.1,Jy hc.2,hK⟩
    ·have key:∀(l:List Nat),(∀t∈l,t∈keep)->RT (FU st.hp (Dm o) 0 o) (l.map fun t=>(t,BB (Dm o) (Co st.tm t))) (lk .any (l.map fun t=>(t,EQ (idx o) (s.tm t)))):=by
      intro l
      induction l with
      |nil=>intro _ t;trivial
      |cons a l ih=>
       intro hl t;show RV2 _ (Co ((a,_)::l.map _) t) (if t=a then _ else lk .any (l.map _) t);rw[Et]
       split
       ·obtain⟨q1,_,_,q4⟩:=GC (za6.1 hsure a (hl a (by simp))) (hs.tm a);rw[Av1 q4,hf];rw[hf]at hlen;exact(V4 hlen q1 (za6.1 hsure a (hl a (by simp)))).to2
       ·exact ih (fun t ht=>hl t (by simp[ht])) t
     exact key keep fun t ht=>ht
   ·cases h
  ·cases h
 ·cases h
end
end
section
open Go
theorem AJ8:∀(u v:Bool)(A B:Type)(a0:u=true->A)(a:A)(b:B),(u=true->∀x y:A,x=y)->AP0 u v A B a0 (mkP u v A B a b)=a
 |true,_,_,_,_,_,_,h=>h rfl _ _
 |false,true,_,_,_,_,_,_=>rfl
 |false,false,_,_,_,_,_,_=>rfl
theorem AM8:∀(u v:Bool)(A B:Type)(b0:v=true->B)(a:A)(b:B),(v=true->∀x y:B,x=y)->AQ3 u v A B b0 (mkP u v A B a b)=b
 |true,_,_,_,_,_,_,_=>rfl
 |false,true,_,_,_,_,_,h=>h rfl _ _
 |false,false,_,_,_,_,_,_=>rfl
theorem AD2:∀(u v:Bool)(A B:Type),u=true->(v=true->∀x y:B,x=y)->v=true->∀x y:WD u v A B,x=y
 |true,true,_,_,_,h,_,x,y=>h rfl x y
 |false,_,_,_,h,_,_,_,_=>by cases h
 |true,false,_,_,_,_,h,_,_=>by cases h
section
variable {ι:Type} {den:ι->Type} {u:ι->Bool} {un:∀x,u x=true->den x} (hu:∀x,u x=true->∀a b:den x,a=b)
include hu
theorem Oc:∀(l:List ι),l.all u=true->∀a b:K9 den u l,a=b
 |[],_,_,_=>rfl
 |x::l,h,a,b=>by
  simp only[zc1,za2]at h;exact AD2 (u x) (l.all u) (den x) (K9 den u l) h.1 (fun hl=>Oc l hl) h.2 a b
theorem Xg(x:ι)(l:List ι)(a:den x)(d:K9 den u l):hdL den u un x l (ZF den u x l a d)=a:=AJ8 _ _ _ _ _ _ _ fun h=>hu x h
theorem XX(x:ι)(l:List ι)(a:den x)(d:K9 den u l):tlL den u un x l (ZF den u x l a d)=d:=AM8 _ _ _ _ _ _ _ fun h=>Oc hu l h
end
theorem LA:∀(c:AC),c.isU=true->∀a b:c.den,a=b
 |.at _,_,_,_=>rfl
 |.int _,h,_,_=>by cases h
 |.bool,h,_,_=>by cases h
 |.str,h,_,_=>by cases h
 |.im _,h,_,_=>by cases h
theorem Aq4(c:AC)(cs:List AC)(a:c.den)(d:Ow cs):hdC c cs (An8 c cs a d)=a:=Xg LA c cs a d
theorem Ax8(c:AC)(cs:List AC)(a:c.den)(d:Ow cs):tlC c cs (An8 c cs a d)=d:=XX LA c cs a d
theorem X5:∀(x:Item),x.isU=true->∀a b:x.den,a=b
 |.blk (.box _ cs),h,a,b=>Oc LA cs h a b
 |.blk (.arr _ _ _),h,_,_=>by cases h
 |.slot _ (.cell c),h,a,b=>LA c h a b
 |.slot _ (.agg cs),h,a,b=>Oc LA cs h a b
 |.slot _ (.ref _ _),_,_,_=>rfl
 |.slot _ (.clo _),_,_,_=>rfl
 |.slot _ (.cap _ _),_,_,_=>rfl
 |.slot _ (.sub _),h,_,_=>by cases h
theorem QE(x:Item)(l:List Item)(a:x.den)(d:Ca l):hdI x l (Nu x l a d)=a:=Xg X5 x l a d
theorem N7(x:Item)(l:List Item)(a:x.den)(d:Ca l):tlI x l (Nu x l a d)=d:=XX X5 x l a d
theorem Au9{c:AC}{v:SV}{x:c.den}(h:rdC c v=some x):v=Af5 c x:=by
 cases c with
 |int k=>
  cases v<;>simp only[rdC,reduceCtorEq]at h
  split at h
  ·rename_i hk;cases h;subst hk;rfl
  ·cases h
 |bool=>cases v<;>simp only[rdC,reduceCtorEq]at h;cases h;rfl
 |str=>cases v<;>simp only[rdC,reduceCtorEq]at h;cases h;rfl
 |err=>cases v<;>simp only[rdC,reduceCtorEq]at h;cases h;rfl
 |im t=>
  cases v<;>simp only[rdC,reduceCtorEq]at h
  split at h
  ·rename_i he;cases h;subst he;rfl
  ·cases h
 | «at» j=>
  cases v<;>simp only[rdC,reduceCtorEq]at h
  split at h
  ·rename_i he;have:=za7 he;subst this;rfl
  ·cases h
theorem VZ:∀{cs:List AC}{vs:List SV}{x:Ow cs},Av0 cs vs=some x->vs=R5 cs x
 |[],[],_,_=>rfl
 |[],_::_,_,h=>by cases h
 |_::_,[],_,h=>by cases h
 |c::cs,v::vs,x,h=>by
  simp only[Av0]at h
  split at h
  ·rename_i a ha
   split at h
   ·rename_i d hd;cases h
    rw[R5,Aq4,Ax8,<-Au9 ha,<-VZ hd]
   ·cases h
  ·cases h
theorem AM0{b:AB}{tb:TB}{x:b.den}(h:rdB b tb=some x):tb=AJ3 b x:=by
 cases b with
 |arr ty deep t=>
  cases tb<;>simp only[rdB,reduceCtorEq]at h
  split at h
  ·rename_i he
   split at h
   ·rename_i hc;simp only[za2,beq_iff_eq]at hc;cases h
    subst he;rw[za7 hc.1,hc.2];rfl
   ·cases h
  ·cases h
 |box ty cs=>
  cases tb<;>simp only[rdB,reduceCtorEq]at h
  split at h
  ·rename_i hc;rw[za7 hc,VZ h];rfl
  ·cases h
theorem Aa6:∀{js:List Nat}{vs:List SV},V6 js vs=true->vs=js.map fun j=>.rf j 0 0
 |[],[],_=>rfl
 |[],_::_,h=>by simp[V6]at h
 |j::js,v::vs,h=>by
  cases v with
  |rf i r c=>
   cases r with
   |zero=>
    cases c with
    |zero=>
     simp only[V6]at h;cases hb:Nat.beq i j with
     |false=>rw[hb]at h;cases h
     |true=>
      rw[hb]at h;have:=za7 hb;subst this;rw[zc2,<-Aa6 (vs:=vs) h]
    |succ _=>simp[V6]at h
   |succ _=>simp[V6]at h
  |_=>simp[V6]at h
 |_::_,[],h=>by simp[V6]at h
theorem AM1{a:AS}{v:SV}{x:a.den}(h:rdS a v=some x):v=W3 a x:=by
 cases a with
 |cell c=>exact Au9 (by cases v<;>exact h)
 |agg cs=>cases v<;>simp only[rdS,reduceCtorEq]at h;rw[VZ h];rfl
 |ref j isb=>
  cases isb with
  |false=>
   cases v<;>simp only[rdS,reduceCtorEq]at h
   split at h
   ·rename_i he;have:=za7 he;subst this;rfl
   ·cases h
  |true=>
   cases v with
   |rf i r c=>
    cases r with
    |zero=>
     cases c with
     |zero=>
      simp only[rdS]at h
      split at h
      ·rename_i he;have:=za7 he;subst this;rfl
      ·cases h
     |succ _=>simp[rdS]at h
    |succ _=>simp[rdS]at h
   |_=>simp[rdS]at h
 |sub j=>
  cases v<;>simp only[rdS,reduceCtorEq]at h
  split at h
  ·rename_i he;have:=za7 he;subst this;cases h;rfl
  ·cases h
 |clo f=>
  cases v with
  |cl g cs=>
   cases cs with
   |nil=>
    simp only[rdS]at h
    split at h
    ·rename_i he;have:=za7 he;subst this;rfl
    ·cases h
   |cons _ _=>simp[rdS]at h
  |_=>simp[rdS]at h
 |cap f js=>
  cases v with
  |cl g cs=>
   simp only[rdS]at h
   split at h
   ·rename_i he;rw[za2]at he;have:=za7 he.1;subst this;rw[Aa6 he.2];rfl
   ·cases h
  |_=>simp[rdS]at h
theorem V0:∀{l:List Item}{k:Nat}{tm:TTm}{hp:THp}{d:Ca l},rdI k l tm hp=some d->tm=(Bm k l d).1/\hp=(Bm k l d).2
 |[],k,[],[],d,_=>⟨rfl,rfl⟩
 |[],k,_::_,_,_,h=>by simp[rdI]at h
 |[],k,[],_::_,_,h=>by simp[rdI]at h
 |.blk b::l,k,tm,[],_,h=>by simp[rdI]at h
 |.blk b::l,k,tm,(i,none)::hp,_,h=>by simp[rdI]at h
 |.blk b::l,k,tm,(i,some tb)::hp,d,h=>by
  simp only[rdI]at h
  split at h
  ·rename_i hi;have:=za7 hi;subst this
   split at h
   ·rename_i x hx
    split at h
    ·rename_i y hy;cases h
     obtain⟨e1,e2⟩:=V0 hy;rw[Bm,QE,N7,<-AM0 hx,<-e1,<-e2];exact⟨rfl,rfl⟩
    ·cases h
   ·cases h
  ·cases h
 |.slot s a::l,k,[],hp,_,h=>by simp[rdI]at h
 |.slot s a::l,k,(i,v)::tm,hp,d,h=>by
  simp only[rdI]at h
  split at h
  ·rename_i hi;have:=za7 hi;subst this
   split at h
   ·rename_i x hx
    split at h
    ·rename_i y hy;cases h
     obtain⟨e1,e2⟩:=V0 hy;rw[Bm,QE,N7,<-AM1 hx,<-e1,<-e2];exact⟨rfl,rfl⟩
    ·cases h
   ·cases h
  ·cases h
theorem MJ(bl:List AB):∀(l:List Item),(EF (JC bl l)).map (·.1)=E7 l
 |[]=>rfl
 |.blk b::l=>MJ bl l
 |.slot s a::l=>by
  have:=MJ bl l;unfold EF at this⊢
  simp only[JC,E7,zc2,this]
theorem Ju{e:Nat}{l:List Item}{st:TSt}{s:St}{d:Ca l}(hs:RS st s)(h:F6 e l st=some d):∃s',(∀K:St->Prop,K s'->Ea e (BQ l) s K)/\RS (GT l d) s':=by
 unfold F6 at h
 split at h
 ·rename_i hb;obtain⟨b1,b2⟩:=Oo hb
  split at h
  ·rename_i st1 h1;obtain⟨s1,n1,n2,n3,n4⟩:=Ac1 hs b1 b2 h1
   split at h
   ·rename_i st2 h2;obtain⟨s2,c1,c2⟩:=Yw n2 h2;obtain⟨e1,e2⟩:=V0 h;have hc:st2.c=1:=by
     unfold Ot at h2
     split at h2
     ·split at h2
      ·split at h2
       ·simp only[zb]at h2;subst h2;rfl
       ·cases h2
      ·cases h2
     ·cases h2
    have:st2=GT l d:=by
     cases st2 with
     |mk tm hp c=>
      simp only at e1 e2 hc;subst e1;subst e2;subst hc;rfl
    rw[this]at c2;refine⟨s2,fun K hK=> ?_,c2⟩
    unfold Ea;rw[show BQ l=EF (JC (Cv l) l)from rfl,n1];simp only[Aj,MJ];exact c1 K hK
   ·cases h
  ·cases h
 ·cases h
end
section
open Go
structure ResRel (res:List Item) (y:Ca res) (r:V) (blks:List Blk):Prop where
 val:RV2 (Bm 0 res y).2 (Ay2 ((Bm 0 res y).1.map (·.2))) r
 blk:RH (Bm 0 res y).2 (lkB blks)
 len:blks.length=(Bm 0 res y).2.length
def EL(R:Rel)(E:Ent):Prop:=∀x y args blks st,E.F x=some y->RS st (R6 args blks)->F6 E.a.e E.a.params st=some x->Hg args blks=true->args.length=(E7 E.a.params).length->(args.flatMap Af).eraseDups.length=E.a.e->(E.a.e=0->blks=[])->
 ∃r blks',R E.a.g args blks r blks'/\ResRel E.a.res y r blks'
section
variable {P:Program} {X:TX} {g:FuncId}
theorem S8{α:Type}(hX:XOK P X){st:TSt}{s:St}(hs:RS st s):∀(l:List ResultVar){K:List SV->Option α}{z:α},Zh X st.tm st.hp l K=some z->
  ∃xs ys,K xs=some z/\RC (RV2 st.hp) xs ys/\∀KV:List V->Prop,KV ys->Kx P s l KV
 |[],K,z,h=>⟨[],[],h,trivial,fun KV hk=>hk⟩
 |.tmp t::l,K,z,h=>by
  obtain⟨xs,ys,h1,h2,h3⟩:=S8 hX hs l h;exact⟨_,_::ys,h1,⟨hs.tm t,h2⟩,fun KV hk=>h3 _ hk⟩
 |.cell a t::l,K,z,h=>by
  simp only[Zh]at h;obtain⟨x,u,h1,h2,h3⟩:=Xt hX (hs.tm a) hs.hp.toM h;obtain⟨xs,ys,q1,q2,q3⟩:=S8 hX hs l h1;refine⟨_,u::ys,q1,⟨h2,q2⟩,fun KV hk=> ?_⟩
  show(match A4 P (.load t (.tmp a)) (Ax s.tm) s.hp 0 with|some (x,_)=>Kx P s l fun xs=>KV (x::xs)|none=>False);rw[h3 (Ax s.tm) (.tmp a) 0 rfl];exact q3 _ hk
theorem Ut{hp:THp}:∀{xs:List SV}{ys:List V}(k:Nat),RC (RV2 hp) xs ys->RT hp (Nx k xs) (lk .any (Nw k ys))
 |[],[],k,_=>fun t=>trivial
 |x::xs,y::ys,k,h=>by
  intro t;show RV2 hp (Co ((k,x)::Nx (k+1) xs) t) (if t=k then y else lk .any (Nw (k+1) ys) t);rw[Et]
  split
  ·exact h.1
  ·exact Ut (k+1) h.2 t
 |[],_::_,_,h=>h.elim
 |_::_,[],_,h=>h.elim
theorem MD:∀(xs:List SV)(k:Nat),(Nx k xs).map (·.2)=xs
 |[],_=>rfl
 |x::xs,k=>by simp[Nx,MD xs (k+1)]
theorem U2{hp:THp}{f:Nat->Option Nat}:∀(o:List Nat)(k:Nat),(FU hp f k o).length=o.length
 |[],_=>rfl
 |id::o,k=>by simp[FU,U2 o (k+1)]
theorem RC.all1{hp:THp}:∀{vs:List SV}{ys:List V},vs.all Eh=true->RC (RV2 hp) vs ys->RC (RV1 hp) vs ys/\ys.flatMap Af=vs.flatMap rf1/\ys.flatMap Ah=vs.flatMap rf1/\ys.all EG=true
 |[],[],_,_=>⟨trivial,rfl,rfl,rfl⟩
 |v::vs,y::ys,hs,h=>by
  simp only[zc1,za2]at hs;obtain⟨q1,q2,q3,q4⟩:=GC hs.1 h.1;obtain⟨e1,e2,e3,e4⟩:=RC.all1 hs.2 h.2;exact⟨⟨q1,e1⟩,by simp only[zb2,q2,e2],by simp only[zb2,q3,e3],by simp[q4,e4]⟩
 |[],_::_,_,h=>h.elim
 |_::_,[],_,h=>h.elim
theorem RC.ren{hp H:THp}{f:Nat->Option Nat}(hlen:∀id j,f id=some j->∀b',AA H j=some b'->∃b,AA hp id=some b/\Er b=Er b'):∀{vs:List SV}{ys:List V},vs.all Eh=true->RC (RV1 hp) vs ys->RC (RV1 H) (vs.map (BB f)) (ys.map (Cp f))
 |[],[],_,_=>trivial
 |v::vs,y::ys,hs,h=>by
  simp only[zc1,za2]at hs;exact⟨V4 hlen h.1 hs.1,RC.ren hlen hs.2 h.2⟩
 |[],_::_,_,h=>h.elim
 |_::_,[],_,h=>h.elim
theorem Aa8(l:List (Nat×TMs)):(EF l).map (·.2)=(l.map (·.2)).map TMs.mds/\Cy (EF l)=l.map (fun p=>V.rf p.1 0 0)/\(EF l).length=l.length:=by
 refine⟨?_,?_,?_⟩
 ·simp[EF]
 ·unfold Cy EF;simp
 ·simp[EF]
theorem Av6{e:Nat}{st:TSt}{s:St}{res:List Item}{rs:List ResultVar}{y:Ca res}(hX:XOK P X)(hs:RS st s)
  (h:(Zh X st.tm st.hp rs fun xs=>AD1 res e st xs)=some y):
  ∃r blks',(FV (EF (Qu (Cv res) e 0 (Cv res))) s.hp=true/\Kx P s rs fun xs=>Bl (Ie ((EF (Qu (Cv res) e 0 (Cv res))).map (·.2)++(BQ res).map (·.2)) (Cy (EF (Qu (Cv res) e 0 (Cv res)))++xs) s.hp (s.c+1)) fun z=>VW z.2.1 e r blks' (z.1.drop (EF (Qu (Cv res) e 0 (Cv res))).length))/\ResRel res y r blks':=by
 obtain⟨xs,ys,h1,h2,h3⟩:=S8 hX hs rs h;unfold AD1 at h1;simp only at h1;generalize Qu (Cv res) e 0 (Cv res)=rts at h1⊢
 split at h1
 case isFalse=>cases h1
 rename_i hc;simp only[za2]at hc;obtain⟨⟨c1,c2⟩,c3⟩:=hc
 split at h1
 case h_2=>cases h1
 rename_i zs0 hp1 hn
 split at h1
 case isFalse=>cases h1
 rename_i hz
 split at h1
 case h_2=>cases h1
 rename_i o ho
 split at h1
 case isFalse=>cases h1
 rename_i he;obtain⟨m1,m2,m3⟩:=Aa8 rts;have hroot:FV (EF rts) s.hp=true:=by
  unfold Av7 at c1;unfold FV EF;rw[List.all_map];refine za6.2 fun p hp=> ?_
  have:=za6.1 c1 p hp;simp only[za2]at this;simp only[Function.comp,za2,decide_eq_true_eq];refine⟨K3 this.1,?_⟩
  have h4:=this.2
  split at h4
  ·rename_i ty cs hg;obtain⟨k,hk,k1,_⟩:=hs.hp p.1 _ hg;rw[hk];simp[k1]
  ·cases h4
 have hsc:s.c=st.c:=hs.c;obtain⟨b1,_⟩:=Oo c3;have hids:∀i∈(rts.map (fun p=>SV.rf p.1 0 0)++xs).flatMap FQ,i<16*(s.c+1):=by
  intro i hi;rw[List.flatMap_append,zb5]at hi;rcases hi with hi|hi
  ·obtain⟨v,hv,hi⟩:=zb0.1 hi;obtain⟨p,_,rfl⟩:=ze0.1 hv;simp[FQ,TC,Ey]at hi
  ·obtain⟨v,hv,hi⟩:=zb0.1 hi;simp only[On,za2]at c3;rw[<-MD xs 0]at hv;obtain⟨p,hp,rfl⟩:=ze0.1 hv;have:=K3 (za6.1 (za6.1 c3.1 p hp) i hi);omega
 have hrc:RC (RV2 st.hp) (rts.map (fun p=>SV.rf p.1 0 0)++xs) (Cy (EF rts)++ys):=by
  rw[m2];refine RC.append (RC.map fun p _=>rfl) h2
 obtain⟨ys',hv',c',n1,n2,n3,_⟩:=Ac0 (c:=s.c+1) hs.hp (by rw[hsc];exact b1) hids hrc (by rw[hsc];exact hn);have hzc:=n3.drop rts.length;obtain⟨a1,a2,a3,a4⟩:=RC.all1 hz hzc;have hcl:=Gm n2 _ _ _ ho;obtain⟨r1,r2⟩:=OZ n2 o;have hf:Dm o=idx o:=funext fun id=>L2 o id
 obtain⟨e1,e2⟩:=V0 h1;have hvals:(Bm 0 res y).1.map (·.2)=(zs0.drop rts.length).map (BB (Dm o)):=by rw[<-e1,MD]
 have htake:=Jy he;have hrv:RC (RV1 (FU hp1 (Dm o) 0 o)) ((zs0.drop rts.length).map (BB (Dm o))) ((ys'.drop rts.length).map (Cp (idx o))):=by
  rw[hf]at r2⊢
  exact RC.ren r2 hz a1
 have fin:∀r,VW hv' e r (AF hv' o) (ys'.drop rts.length)->RV2 (FU hp1 (Dm o) 0 o) (Ay2 ((zs0.drop rts.length).map (BB (Dm o)))) r->∃r blks',(FV (EF rts) s.hp=true/\Kx P s rs fun xs=>Bl (Ie ((EF rts).map (·.2)++(BQ res).map (·.2)) (Cy (EF rts)++xs) s.hp (s.c+1)) fun z=>VW z.2.1 e r blks' (z.1.drop (EF rts).length))/\ResRel res y r blks':=by
  intro r hr hv;refine⟨r,AF hv' o,⟨hroot,h3 _ ?_⟩,⟨by rw[hvals,<-e2];exact hv,by rw[<-e2];exact r1,by rw[<-e2,U2];simp[AF]⟩⟩
  have:(EF rts).map (·.2)++(BQ res).map (·.2)=(rts.map (·.2)++(JC (Cv res) res).map (·.2)).map TMs.mds:=by
   rw[m1,show BQ res=EF (JC (Cv res) res)from rfl,(Aa8 (JC (Cv res) res)).1,List.map_append]
  rw[this,n1];simp only[Aj,m3];exact hr
 generalize ys'.drop rts.length=zs at a1 a2 a3 a4 hrv fin;generalize zs0.drop rts.length=vs at hrv fin a2 a3 hcl;have many:(Ay2 (vs.map (BB (Dm o)))=.tup (vs.map (BB (Dm o))))->(∀r,VW hv' e r (AF hv' o) zs=(zs.all EG=true/\SI hv' e (.tup zs) r (AF hv' o)))->∃r blks',(FV (EF rts) s.hp=true/\Kx P s rs fun xs=>Bl (Ie ((EF rts).map (·.2)++(BQ res).map (·.2)) (Cy (EF rts)++xs) s.hp (s.c+1)) fun z=>VW z.2.1 e r blks' (z.1.drop (EF rts).length))/\ResRel res y r blks':=by
  intro ht ho';refine fin (.tup (zs.map (Cp (idx o)))) ?_ ?_
  ·rw[ho'];refine⟨a4,?_⟩
   unfold SI;rw[show Ah (.tup zs)=zs.flatMap Af from rfl,a2,hcl];exact⟨htake,rfl,rfl⟩
  ·rw[ht];exact⟨_,rfl,hrv⟩
 match zs,vs,a2,a3,a4,hrv,hcl,fin,many with
 |[z],[v],a2,a3,a4,hrv,hcl,fin,_=>
  refine fin (EQ (idx o) z) ?_ ?_
  ·show SI _ _ _ _ _;unfold SI;have:Ah z=[v].flatMap rf1:=by simpa using a3
   rw[this,hcl];exact⟨htake,rfl,rfl⟩
  ·have:EG z=true:=by simpa using a4
   rw[Av1 this];exact hrv.1.to2
 |[],[],_,_,_,_,_,_,many=>exact many rfl fun r=>rfl
 |_::_::_,_::_::_,_,_,_,_,_,_,many=>exact many rfl fun r=>rfl
 |[],_::_,_,_,_,h,_,_,_=>exact h.elim
 |_::_,[],_,_,_,h,_,_,_=>exact h.elim
 |[_],_::_::_,_,_,_,h,_,_,_=>exact h.2.elim
 |_::_::_,[_],_,_,_,h,_,_,_=>exact h.2.elim
end
end
section
open Go
theorem Sw{hp:THp}{hv:Hp}{c:AC}{v x:SV}{y:V}(hh:RH hp hv)(h:DC hp c v=some x)(hv':RV0 hp v y):
  ∃y',JF hv y=some y'/\RV0 hp x y'/\C1 y=Sx v:=by
 cases c with
 |int k=>
  cases v<;>simp only[DC,reduceCtorEq]at h
  cases h;have:y=_:=hv';subst this;exact⟨_,rfl,rfl,rfl⟩
 |bool=>cases v<;>simp only[DC,reduceCtorEq]at h;cases h;have:y=_:=hv';subst this;exact⟨_,rfl,rfl,rfl⟩
 |str=>cases v<;>simp only[DC,reduceCtorEq]at h;cases h;have:y=_:=hv';subst this;exact⟨_,rfl,rfl,rfl⟩
 |err=>cases v<;>simp only[DC,reduceCtorEq]at h
 | «at» j=>cases v<;>simp[DC]at h
 |im t=>
  have h':∃l,FK hp t v=some l/\x=.im t l:=by
   simp only[DC]at h
   split at h
   ·rename_i l hl;cases h;exact⟨l,hl,rfl⟩
   ·cases h
  obtain⟨l,h',rfl⟩:=h';have hids:C1 y=Sx v:=by
   cases v with
   |ow id=>obtain⟨n,rfl,_⟩:=hv';rfl
   |ar a b c=>have:y=_:=hv';subst this;rfl
   |em=>have:y=_:=hv';subst this;rfl
   |er e=>have:y=_:=hv';subst this;rfl
   |im t' l'=>rcases hv' with⟨_,rfl⟩|⟨_,rfl,_⟩<;>rfl
   |_=>simp[FK,asL]at h'
  rcases RG h' hv' hh.toM with⟨rfl,rfl⟩|⟨rows,rfl,hr⟩|⟨id,lo,n,kb,rfl,hk,hkk,hr⟩
  ·exact⟨.im [],rfl,.inr ⟨[],rfl,RLx.nil⟩,hids⟩
  ·exact⟨.im rows,rfl,.inr ⟨rows,rfl,hr⟩,hids⟩
  ·refine⟨.im ((kb.rows.take (lo+n)).drop lo),?_,.inr ⟨_,rfl,hr⟩,hids⟩
   simp only[JF,hk]
theorem P4{hp:THp}{hv:Hp}(hh:RH hp hv):∀{cs:List AC}{vs xs:List SV}{ys:List V},NH hp cs vs=some xs->RC (RV0 hp) vs ys->
  ∃ys',JG hv ys=some ys'/\RC (RV0 hp) xs ys'/\ys.flatMap C1=vs.flatMap Sx
 |[],[],xs,ys,h,hc=>by
  simp only[NH,zb]at h;subst h;cases ys with
  |nil=>exact⟨[],rfl,trivial,rfl⟩
  |cons a l=>exact hc.elim
 |[],_::_,_,_,h,_=>by cases h
 |_::_,[],_,_,h,_=>by cases h
 |c::cs,v::vs,xs,ys,h,hc=>by
  simp only[NH]at h
  split at h
  ·rename_i x1 hx1
   split at h
   ·rename_i x2 hx2;cases h
    cases ys with
    |nil=>exact hc.elim
    |cons y ys=>
     obtain⟨y',h1,h2,h3⟩:=Sw hh hx1 hc.1;obtain⟨ys',g1,g2,g3⟩:=P4 hh hx2 hc.2;exact⟨y'::ys',by simp only[JG,h1,g1],⟨h2,g2⟩,by rw[zb2,zb2,h3,g3]⟩
   ·cases h
  ·cases h
theorem YS{hp:THp}{hv:Hp}{a:AS}{v x:SV}{y:V}(hh:RH hp hv)(h:Ib hp a v=some x)(hv2:RV2 hp v y):
  ∃y',F7 hv y=some y'/\RV2 hp x y'/\JW y=VO v:=by
 have cell:∀(c:AC),DC hp c v=some x->RV0 hp v y->VO v=Sx v->(∀y',RV0 hp x y'->RV2 hp x y')->F7 hv y=JF hv y->JW y=C1 y->∃y',F7 hv y=some y'/\RV2 hp x y'/\JW y=VO v:=by
  intro c hc h0 e1 e2 e3 e4;obtain⟨y',q1,q2,q3⟩:=Sw hh hc h0;exact⟨y',by rw[e3];exact q1,e2 y' q2,by rw[e4,e1];exact q3⟩
 cases a with
 |cell c=>
  have h:DC hp c v=some x:=by cases v<;>exact h
  have hx:∀y',RV0 hp x y'->RV2 hp x y':=fun y' h=>h.to1.to2
  cases v with
  |int k n=>have:y=_:=hv2;subst this;exact cell c h rfl rfl hx rfl rfl
  |bool b=>have:y=_:=hv2;subst this;exact cell c h rfl rfl hx rfl rfl
  |str s=>have:y=_:=hv2;subst this;exact cell c h rfl rfl hx rfl rfl
  |em=>have:y=_:=hv2;subst this;exact cell c h rfl rfl hx rfl rfl
  |er e=>have:y=_:=hv2;subst this;exact cell c h rfl rfl hx rfl rfl
  |im t l=>rcases hv2 with⟨e,rfl⟩|⟨r,rfl,e⟩;exact cell c h (.inl ⟨e,rfl⟩) rfl hx rfl rfl;exact cell c h (.inr ⟨r,rfl,e⟩) rfl hx rfl rfl
  |ow id=>obtain⟨n,rfl,e⟩:=hv2;exact cell c h ⟨n,rfl,e⟩ rfl hx rfl rfl
  |ar a b d=>have:y=_:=hv2;subst this;exact cell c h rfl rfl hx rfl rfl
  |sc a=>cases c<;>simp[DC,FK,asL]at h
  |rf a b d=>cases c<;>simp[DC,FK,asL]at h
  |ir a b d=>cases c<;>simp[DC,FK,asL]at h
  |agg cs=>cases c<;>simp[DC,FK,asL]at h
  |tup cs=>cases c<;>simp[DC,FK,asL]at h
  |cl f cs=>cases c<;>simp[DC,FK,asL]at h
  |any=>cases c<;>simp[DC,FK,asL]at h
 |agg cs=>
  cases v with
  |agg vs=>
   simp only[Ib]at h
   split at h
   ·rename_i l hl;cases h
    obtain⟨us,rfl,hc⟩:=SY hv2;obtain⟨ys',q1,q2,q3⟩:=P4 hh hl hc;exact⟨.agg ys',by simp only[F7,q1],⟨ys',rfl,q2⟩,q3⟩
   ·cases h
  |_=>simp[Ib]at h
 |ref j isb=>
  cases isb with
  |true=>
   cases v<;>simp only[Ib,reduceCtorEq]at h
   cases h
   have:y=_:=hv2;subst this;exact⟨_,rfl,rfl,rfl⟩
  |false=>cases v<;>simp[Ib]at h
 |sub j=>cases v<;>simp[Ib]at h
 |clo f=>
  cases v with
  |cl g cs=>
   cases cs with
   |nil=>
    simp only[Ib,zb]at h;subst h;obtain⟨us,rfl,hc⟩:=Aa9 hv2;cases us with
    |nil=>exact⟨.cl g [],rfl,⟨[],rfl,trivial⟩,rfl⟩
    |cons a l=>exact hc.elim
   |cons a l=>simp[Ib]at h
  |_=>simp[Ib]at h
 |cap f js=>cases v<;>simp[Ib]at h
theorem MK{hp:THp}{hv:Hp}(hh:RH hp hv):∀{l:List AS}{vs xs:List SV}{ys:List V},OO hp l vs=some xs->RC (RV2 hp) vs ys->
  ∃ys',EC hv (l.map SN) ys=some ys'/\RC (RV2 hp) xs ys'/\Dp (l.map SN) ys=I9 l vs
 |[],[],xs,ys,h,hc=>by
  simp only[OO,zb]at h;subst h;cases ys with
  |nil=>exact⟨[],rfl,trivial,rfl⟩
  |cons a l=>exact hc.elim
 |[],_::_,_,_,h,_=>by cases h
 |_::_,[],_,_,h,_=>by cases h
 |a::l,v::vs,xs,ys,h,hc=>by
  simp only[OO]at h
  split at h
  ·rename_i x1 hx1
   split at h
   ·rename_i x2 hx2;cases h
    cases ys with
    |nil=>exact hc.elim
    |cons y ys=>
     obtain⟨ys',g1,g2,g3⟩:=MK hh hx2 hc.2;cases hra:SN a with
     |true=>
      rw[hra]at hx1;simp only[cond_true]at hx1;obtain⟨hsv,hx1⟩:=Cw hx1;cases hx1
      obtain⟨_,_,_,hnt⟩:=GC hsv hc.1;refine⟨y::ys',?_,⟨hc.1,g2⟩,?_⟩
      ·simp only[EC,zc2,List.headD_cons,List.tail_cons,hra,if_true,hnt,g1]
      ·simp only[Dp,I9,zc2,List.headD_cons,List.tail_cons,hra,if_true,cond_true,g3]
     |false=>
      rw[hra]at hx1;simp only[cond_false]at hx1;obtain⟨y',h1,h2,h3⟩:=YS hh hx1 hc.1;refine⟨y'::ys',?_,⟨h2,g2⟩,?_⟩
      ·simp only[EC,zc2,List.headD_cons,List.tail_cons,hra,zb8,if_false,h1,g1]
      ·simp only[Dp,I9,zc2,List.headD_cons,List.tail_cons,hra,zb8,if_false,cond_false,h3,g3]
   ·cases h
  ·cases h
theorem RZ:∀(l acc:List Nat),ddN acc l=acc++(l.filter fun i=> !acc.contains i).eraseDups
 |[],acc=>by simp[ddN]
 |id::l,acc=>by
  simp only[ddN];rw[NL];cases h:acc.contains id with
  |true=>
   simp only[cond_true];rw[RZ l acc,List.filter_cons,h];rfl
  |false=>
   simp only[cond_false];rw[RZ l (acc++[id]),List.filter_cons,h];simp only[Bool.not_false,if_true];rw[List.eraseDups_cons,List.append_assoc,List.singleton_append,List.filter_filter]
   congr 3
   apply List.filter_congr
   intro x _;simp only[List.contains_append,List.contains_cons,List.contains_nil,Bool.or_false,Bool.not_or];rw[Bool.and_comm]
theorem Yz(l:List Nat):ddN [] l=l.eraseDups:=by
 rw[RZ];simp only[List.contains_nil,Bool.not_false,List.nil_append];rw[List.filter_eq_self.2 (fun _ _=>rfl)]
theorem Aj1{hp:THp}{f:Nat->Option Nat}{v:SV}{y:V}(hs:Io v=true)(h0:rf0 v=[])(h:RV0 hp v y):BR f y=y:=by
 cases v with
 |im t l=>rcases h with⟨_,rfl⟩|⟨_,rfl,_⟩<;>rfl
 |ow id=>simp[rf0]at h0
 |ar a b c=>simp[rf0]at h0
 |rf a b c=>simp[rf0]at h0
 |ir t a c=>obtain⟨_,rfl,_⟩:=h;rfl
 |cl f cs=>cases cs with|nil=>have:y=_:=h;subst this;rfl|cons a l=>exact h.elim
 |any=>cases hs
 |agg cs=>exact h.elim
 |tup cs=>exact h.elim
 |_=>have:y=_:=h;subst this;rfl
theorem O0{hp:THp}{f:Nat->Option Nat}:∀{vs:List SV}{ys:List V},vs.all Io=true->vs.flatMap rf0=[]->RC (RV0 hp) vs ys->ys.map (BR f)=ys
 |[],[],_,_,_=>rfl
 |v::vs,y::ys,hs,h0,h=>by
  simp only[zc1,za2]at hs;rw[zb2,List.append_eq_nil_iff]at h0;rw[zc2,Aj1 hs.1 h0.1 h.1,O0 hs.2 h0.2 h.2]
 |[],_::_,_,_,h=>h.elim
 |_::_,[],_,_,h=>h.elim
theorem Aj2{hp:THp}{f:Nat->Option Nat}{v:SV}{y:V}(hs:Eh v=true)(h0:rf1 v=[])(h:RV1 hp v y):Cp f y=y:=by
 cases v with
 |agg cs=>obtain⟨us,rfl,hc⟩:=h;show V.agg _=_;rw[O0 hs h0 hc]
 |cl g cs=>obtain⟨us,rfl,hc⟩:=h;show V.cl _ _=_;rw[O0 hs h0 hc]
 |im t l=>rcases h with⟨_,rfl⟩|⟨_,rfl,_⟩<;>rfl
 |ow id=>simp[rf1,rf0]at h0
 |ar a b c=>simp[rf1,rf0]at h0
 |rf a b c=>simp[rf1,rf0]at h0
 |ir t a c=>obtain⟨_,rfl,_⟩:=h;rfl
 |any=>cases hs
 |tup cs=>exact h.elim
 |_=>have:y=_:=h;subst this;rfl
theorem U0{hp:THp}{f:Nat->Option Nat}:∀{vs:List SV}{ys:List V},vs.all Eh=true->vs.flatMap rf1=[]->RC (RV1 hp) vs ys->ys.map (Cp f)=ys
 |[],[],_,_,_=>rfl
 |v::vs,y::ys,hs,h0,h=>by
  simp only[zc1,za2]at hs;rw[zb2,List.append_eq_nil_iff]at h0;rw[zc2,Aj2 hs.1 h0.1 h.1,U0 hs.2 h0.2 h.2]
 |[],_::_,_,_,h=>h.elim
 |_::_,[],_,_,h=>h.elim
theorem Af6(c:AC)(x:c.den):Io (Af5 c x)=true:=by cases c<;>rfl
theorem MC:∀(cs:List AC)(x:Ow cs),(R5 cs x).all Io=true
 |[],_=>rfl
 |c::cs,x=>by rw[R5,zc1,Af6,MC cs];rfl
theorem YF(a:AS)(x:a.den):Eh (W3 a x)=true:=by
 cases a with
 |cell c=>cases c<;>rfl
 |agg cs=>exact MC cs x
 |ref j isb=>cases isb<;>rfl
 |sub j=>rfl
 |clo f=>rfl
 |cap f js=>show(js.map fun j=>SV.rf j 0 0).all Io=true;simp[Io]
theorem Af4(b:AB)(x:b.den):S7 (AJ3 b x)=true:=by
 cases b with
 |arr ty deep t=>rfl
 |box ty cs=>exact MC cs x
theorem LW:∀(l:List Item)(k:Nat)(d:Ca l),((Bm k l d).1.map (·.2)).all Eh=true
 |[],_,_=>rfl
 |.blk b::l,k,d=>by simp only[Bm];exact LW l _ _
 |.slot s a::l,k,d=>by simp only[Bm,zc2,zc1,YF,ze4];exact LW l _ _
theorem Lc:∀(l:List Item)(k:Nat)(d:Ca l)(i:Nat),i<(Bm k l d).2.length->∃b,(Bm k l d).2[i]? =some (k+i,some b)/\S7 b=true
 |[],_,_,i,h=>by simp[Bm]at h
 |.blk b::l,k,d,i,h=>by
  simp only[Bm,zc6]at h⊢
  cases i with
  |zero=>exact⟨_,rfl,Af4 _ _⟩
  |succ i=>
   obtain⟨b',h1,h2⟩:=Lc l (k+1) (tlI _ l d) i (by omega);exact⟨b',by rw[List.getElem?_cons_succ,h1];congr 2;omega,h2⟩
 |.slot s a::l,k,d,i,h=>by simp only[Bm]at h⊢;exact Lc l k _ i h
theorem P1:∀{l:THp}{k:Nat},(∀i,i<l.length->∃b,l[i]? =some (k+i,some b))->∀i,i<l.length->∃b,l[i]? =some (k+i,some b)/\AA l (k+i)=some b
 |[],_,_,i,h=>by simp at h
 |a::l,k,hl,i,h=>by
  obtain⟨b0,h0⟩:=hl 0 (by simp);simp at h0;subst h0;cases i with
  |zero=>exact⟨b0,rfl,by rw[Nat.add_zero,Au,zw rfl]⟩
  |succ i=>
   obtain⟨b,h1,h2⟩:=P1 (l:=l) (k:=k+1) (fun j hj=>by
    obtain⟨b,hb⟩:=hl (j+1) (by simpa using hj);exact⟨b,by rw[List.getElem?_cons_succ]at hb;rw[hb];congr 2;omega⟩) i (by simpa using h)
   exact⟨b,by rw[List.getElem?_cons_succ,h1];congr 2;omega,by rw[Au,zi (by omega),show k+(i+1)=k+1+i by omega];exact h2⟩
theorem ZK{l:List Item}{d:Ca l}{i:Nat}(h:i<(Bm 0 l d).2.length):∃b,(Bm 0 l d).2[i]? =some (i,some b)/\AA (Bm 0 l d).2 i=some b/\S7 b=true:=by
 obtain⟨b,h1,h2⟩:=P1 (l:=(Bm 0 l d).2) (k:=0) (fun i hi=>by obtain⟨b,h1,_⟩:=Lc l 0 d i hi;exact⟨b,h1⟩) i h;obtain⟨b',h3,h4⟩:=Lc l 0 d i h;simp only[ze6]at h1 h2 h3;rw[h3]at h1;cases h1
 exact⟨b,h3,h2,h4⟩
theorem Ao9{l:List Item}{d:Ca l}{i:Nat}{b:TB}(h:AA (Bm 0 l d).2 i=some b):i<(Bm 0 l d).2.length:=by
 obtain⟨j,hj⟩:=ze3 (UB h);have hl:=(za3.1 hj).1;obtain⟨b',h1,_⟩:=Lc l 0 d j hl;rw[hj]at h1;simp only[ze6,zb,Prod.mk.injEq]at h1;rw[h1.1];exact hl
theorem Ai0{hp:THp}{v:SV}{y:V}(hs:Io v=true)(h:RV0 hp v y):Fo y=SG v:=by
 cases v with
 |im t l=>rcases h with⟨_,rfl⟩|⟨_,rfl,_⟩<;>rfl
 |ow id=>obtain⟨_,rfl,_⟩:=h;rfl
 |ir t a c=>obtain⟨_,rfl,_⟩:=h;rfl
 |cl f cs=>cases cs with|nil=>have:y=_:=h;subst this;rfl|cons a l=>exact h.elim
 |any=>cases hs
 |agg cs=>exact h.elim
 |tup cs=>exact h.elim
 |_=>have:y=_:=h;subst this;rfl
theorem OU{hp:THp}:∀{vs:List SV}{ys:List V},vs.all Io=true->RC (RV0 hp) vs ys->ys.all Fo=vs.all SG
 |[],[],_,_=>rfl
 |v::vs,y::ys,hs,h=>by
  simp only[zc1,za2]at hs⊢
  rw[Ai0 hs.1 h.1,OU hs.2 h.2]
 |[],_::_,_,h=>h.elim
 |_::_,[],_,h=>h.elim
def niV:V->Bool
 |.agg cs=>cs.all Fo
 |x=>Fo x
theorem XA(vs:List V):Jc (.tup vs)=vs.all niV:=by
 show(vs.all fun|.agg cs=>cs.all Fo|x=>Fo x)=_
 congr 1
theorem UU{hp:THp}{v:SV}{y:V}(hs:Eh v=true)(h:RV1 hp v y):niV y=VT v/\Jc y=VT v:=by
 cases v with
 |agg cs=>obtain⟨us,rfl,hcs⟩:=h;have:=OU hs hcs;exact⟨this,this⟩
 |cl f cs=>
  obtain⟨us,rfl,hcs⟩:=h;cases cs with
  |nil=>cases us with|nil=>exact⟨rfl,rfl⟩|cons a l=>exact hcs.elim
  |cons a l=>cases us with|nil=>exact hcs.elim|cons b m=>exact⟨rfl,rfl⟩
 |im t l=>rcases h with⟨_,rfl⟩|⟨_,rfl,_⟩<;>exact⟨rfl,rfl⟩
 |ow id=>obtain⟨_,rfl,_⟩:=h;exact⟨rfl,rfl⟩
 |ir t a c=>obtain⟨_,rfl,_⟩:=h;exact⟨rfl,rfl⟩
 |any=>cases hs
 |tup cs=>exact h.elim
 |_=>have:y=_:=h;subst this;exact⟨rfl,rfl⟩
theorem Ai1{hp:THp}{b:TB}{k:Blk}(hs:S7 b=true)(h:RB hp b k):Dq k=At4 b:=by
 cases b with
 |arr ty deep t l=>obtain⟨h1,h2,h3,_⟩:=h;unfold Dq;rw[h1];exact h3
 |frz ty deep t l=>obtain⟨h1,h2,h3,_⟩:=h;unfold Dq;rw[h1];rfl
 |box ty cs=>
  obtain⟨h1,h2,row,h3,h4,h5⟩:=h;unfold Dq;rw[h1,h3];simp only[zc1,List.all_nil,Bool.and_true];exact OU hs h5
end
section
open Go
theorem VK:∀(l:List Blk)(hp:Hp)(b i:Nat),inst hp b l i=if b<=i/\i<b+l.length then l[i-b]? else hp i
 |[],hp,b,i=>by rw[zi (by simp)];rfl
 |x::l,hp,b,i=>by
  simp only[inst];rw[VK l];by_cases h:b+1<=i/\i<b+1+l.length
  ·rw[zw h,zw (by simp only[zc6];omega)];rw[show i-b=(i-(b+1))+1 by omega];rfl
  ·rw[zi h];unfold upd;by_cases hi:i=b
   ·subst hi;rw[zw rfl,zw (by simp)];simp
   ·rw[zi hi,zi (by simp only[zc6];omega)]
theorem Lt:∀(ids:List Nat)(ks:List Blk)(hp:Hp)(i:Nat),i ∉ ids->setAt hp ids ks i=hp i
 |[],ks,hp,i,_=>by cases ks<;>rfl
 |_::_,[],hp,i,_=>rfl
 |id::ids,k::ks,hp,i,h=>by
  simp only[zc9,not_or]at h;simp only[setAt];rw[Lt ids ks _ i h.2];simp[upd,h.1]
theorem XP:∀(ids:List Nat)(ks:List Blk)(hp:Hp)(j:Nat)(id:Nat),ids.Nodup->ids[j]? =some id->j<ks.length->setAt hp ids ks id=ks[j]?
 |[],_,_,_,_,_,h,_=>by simp at h
 |_::_,[],_,_,_,_,_,h=>by simp at h
 |i::ids,k::ks,hp,j,id,hn,h,hl=>by
  simp only[List.nodup_cons]at hn;simp only[setAt];cases j with
  |zero=>
   simp at h;subst h;rw[Lt ids ks _ i hn.1];simp[upd]
  |succ j=>
   simp only[List.getElem?_cons_succ]at h⊢
   exact XP ids ks _ j id hn.2 h (by simpa using hl)
theorem Lg{l m:THp}{i:Nat}:AA (l++m) i=if i∈l.map (·.1)then AA l i else AA m i:=by
 induction l with
 |nil=>simp
 |cons a l ih=>
  obtain⟨k,x⟩:=a;rw[List.cons_append,Au,ih,Au];by_cases h:i=k
  ·simp[h]
  ·simp only[zc2,zc9,h,false_or,if_false]
theorem MM{α:Type}{hp out:THp}:∀{l:List Nat}{A:Option α}{z:α},Xp hp out l A=some z->A=some z/\∀id∈l,∃b b',AA hp id=some b/\AA out id=some b'/\Er b=Er b'
 |[],A,z,h=>⟨h,fun id hid=>by simp at hid⟩
 |id::l,A,z,h=>by
  simp only[Xp]at h
  split at h
  ·rename_i t1 d1 e1 l1 t2 d2 e2 l2 g1 g2;obtain⟨hc,h⟩:=Cw h;obtain⟨q1,q2⟩:=MM h;refine⟨q1,fun i hi=> ?_⟩
   rcases zc9.1 hi with rfl|hi
   ·exact⟨_,_,g2,g1,by simp only[Er];rw[of_decide_eq_true hc]⟩
   ·exact q2 i hi
  ·rename_i t1 c1 t2 c2 g1 g2;obtain⟨q1,q2⟩:=MM h;refine⟨q1,fun i hi=> ?_⟩
   rcases zc9.1 hi with rfl|hi
   ·exact⟨_,_,g2,g1,rfl⟩
   ·exact q2 i hi
  ·cases h
theorem MF:∀(l:List Nat)(hp:THp)(i:Nat),AA (C4 hp l) i=if i∈l then none else AA hp i
 |[],hp,i=>by simp[C4]
 |id::l,hp,i=>by
  rw[C4,MF l,Au];by_cases h1:i∈l
  ·simp[h1]
  ·by_cases h2:i=id
   ·subst h2;simp
   ·simp[h1,h2]
theorem An0(o:List Nat)(e n b:Nat):Nn o e n b=BA o e n b:=by
 funext j
 unfold Nn BA;by_cases h:j<e
 ·have:Nat.blt j e=true:=Nat.ble_eq_true_of_le h;rw[this,zw h];rfl
 ·have:Nat.blt j e=false:=by cases hb:Nat.blt j e with|false=>rfl|true=>exact absurd (K3 hb) h
  rw[this,zi h];by_cases h2:j<n
  ·have:Nat.blt j n=true:=Nat.ble_eq_true_of_le h2;rw[this,zw h2];rfl
  ·have:Nat.blt j n=false:=by cases hb:Nat.blt j n with|false=>rfl|true=>exact absurd (K3 hb) h2
   rw[this,zi h2];rfl
theorem Ii{f:Nat->Option Nat}:∀{L:THp}{i:Nat}{bb:TB},AA (Dd f L) i=some bb->∃j b0,(j,some b0)∈L/\f j=some i/\bb=SP f b0
 |[],_,_,h=>by cases h
 |(k,x)::L,i,bb,h=>by
  simp only[Dd]at h
  split at h
  ·rename_i i' hk;rw[Au]at h
   split at h
   ·rename_i he;subst he;cases x with
    |none=>cases h
    |some b0=>cases h;exact⟨k,b0,by simp,hk,rfl⟩
   ·obtain⟨j,b0,h1,h2,h3⟩:=Ii h;exact⟨j,b0,by simp[h1],h2,h3⟩
  ·obtain⟨j,b0,h1,h2,h3⟩:=Ii h;exact⟨j,b0,by simp[h1],h2,h3⟩
theorem SO{f:Nat->Option Nat}:∀{L:THp}{j i:Nat}{x:Option TB},(j,x)∈L->f j=some i->i∈(Dd f L).map (·.1)
 |(k,x')::L,j,i,x,h,hf=>by
  simp only[Dd];rcases zc9.1 h with h|h
  ·cases h
   rw[hf];simp
  ·have:=SO h hf
   split
   ·simp only[zc2,zc9];exact .inr this
   ·exact this
section
variable {hp1:Hp} {o:List Nat} {e b:Nat} {blks:List Blk}
theorem Ad9{i j:Nat}{k:Blk}(hn:o.Nodup)(hlow:∀id∈o,id<b)(heo:e<=o.length)(hen:e<=blks.length)(hj:blks[j]? =some k)(hf:BA o e blks.length b j=some i):
  BV hp1 o e b blks i=some (Ee (BA o e blks.length b) k):=by
 have hjl:=(za3.1 hj).1;unfold BV;rw[VK];unfold BA at hf;by_cases h:j<e
 ·rw[zw h]at hf;have hlt:=hlow i (za5 hf);rw[zi (by omega)];rw[XP _ _ _ j _ (hn.sublist (List.take_sublist _ _)) (by rw[zb6,zw h];exact hf) (by simp;omega)];rw[zb6,zw h,zd5,hj];rfl
 ·rw[zi h,zw hjl]at hf;cases hf
  rw[zw (by simp;omega)];rw[zd2,zd5,show e+(b+(j-e)-b)=j by omega,hj];rfl
theorem Vz{i:Nat}(h1:i ∉ o)(h2:¬(b<=i/\i<b+(blks.length-e))):BV hp1 o e b blks i=hp1 i:=by
 unfold BV;rw[VK,zi (by simpa using h2),Lt _ _ _ _ (fun h=>h1 (List.mem_of_mem_take h)),Ia _ _ _ h1]
end
section
variable {α:Type} {P:Program} {R:Rel} {cf:Cfg} {X:TX} {b:Nat} {tm:TTm} {m:Tm} {hp:THp} {hv:Hp} {K:SV->THp->Cls->Option α} {z:α}
theorem Un{E:Ent}{y:Ca E.a.res}{o:List Nat}{r:V}{blks':List Blk}(hres:ResRel E.a.res y r blks')(hn:o.Nodup)(hlow:∀id∈o,id<b)(heo:E.a.e<=o.length)(hen:E.a.e<=(Bm 0 E.a.res y).2.length)
  (hlens:∀id∈o.take E.a.e,∃b0 b1,AA hp id=some b0/\AA (Dd (Nn o E.a.e (Bm 0 E.a.res y).2.length b) (Bm 0 E.a.res y).2) id=some b1/\Er b0=Er b1)
  {hp1:THp} {hv1:Hp} (hh1:RH hp1 hv1) (hold:∀id∈o,AA hp1 id=AA hp id) (hids:∀i bb,AA hp1 i=some bb->∀q∈I8 bb,q<b) (hr:RT hp1 tm m) (htm:∀t,∀i∈FQ (Co tm t),i<b):
  RV2 (Dd (Nn o E.a.e (Bm 0 E.a.res y).2.length b) (Bm 0 E.a.res y).2++C4 hp1 (o.drop E.a.e)) (Ay2 ((Bm 0 E.a.res y).1.map fun p=>BB (Nn o E.a.e (Bm 0 E.a.res y).2.length b) p.2)) (EQ (BA o E.a.e blks'.length b) r)/\
  RH (Dd (Nn o E.a.e (Bm 0 E.a.res y).2.length b) (Bm 0 E.a.res y).2++C4 hp1 (o.drop E.a.e)) (BV hv1 o E.a.e b blks')/\
  RT (Dd (Nn o E.a.e (Bm 0 E.a.res y).2.length b) (Bm 0 E.a.res y).2++C4 hp1 (o.drop E.a.e)) tm m:=by
 have hlen:=hres.len;have hsure:=LW E.a.res 0 y;have hval:=hres.val;have hblk:=hres.blk;have hget:=fun i (h:i<(Bm 0 E.a.res y).2.length)=>ZK h
 have hnone:=fun i bb (h:AA (Bm 0 E.a.res y).2 i=some bb)=>Ao9 h
 have hmem:∀j x,(j,x)∈(Bm 0 E.a.res y).2->j<(Bm 0 E.a.res y).2.length/\∃b0,x=some b0/\AA (Bm 0 E.a.res y).2 j=some b0:=by
  intro j x h;obtain⟨i,hi⟩:=ze3 h;have hl:=(za3.1 hi).1;obtain⟨b0,h1,h2,_⟩:=hget i hl;rw[hi]at h1;simp only[zb,Prod.mk.injEq]at h1;obtain⟨rfl,rfl⟩:=h1;exact⟨hl,b0,rfl,h2⟩
 rw[hlen];generalize hvs:(Bm 0 E.a.res y).1=vs0 at*
 generalize (Bm 0 E.a.res y).2=L at*
 rw[An0]at*
 generalize hn':L.length=n at*
 have hinj:∀i j k,i<n->j<n->BA o E.a.e n b i=some k->BA o E.a.e n b j=some k->i=j:=by
  intro i j k hi hj h1 h2;unfold BA at h1 h2;by_cases a1:i<E.a.e
  ·rw[zw a1]at h1;by_cases a2:j<E.a.e
   ·rw[zw a2]at h2;have g1:=L3 hn h1;have g2:=L3 hn h2;rw[g1]at g2;exact zy g2
   ·rw[zi a2,zw hj]at h2;cases h2
    have:=hlow _ (za5 h1);omega
  ·rw[zi a1,zw hi]at h1;cases h1
   by_cases a2:j<E.a.e
   ·rw[zw a2]at h2;have:=hlow _ (za5 h2);omega
   ·rw[zi a2,zw hj]at h2;have:=zy h2;omega
 have hfn:∀i k,BA o E.a.e n b i=some k->i<n:=by
  intro i k h;unfold BA at h;by_cases a1:i<E.a.e
  ·omega
  ·rw[zi a1]at h
   split at h
   ·assumption
   ·cases h
 have hkey:∀j i,BA o E.a.e n b j=some i->i∈(Dd (BA o E.a.e n b) L).map (·.1):=by
  intro j i h;obtain⟨b0,h1,_⟩:=hget j (by rw[<-hn']at*;exact hfn j i h);exact SO (za5 h1) h
 have hlow2:∀j i,BA o E.a.e n b j=some i->i<b->j<E.a.e/\i∈o.take E.a.e:=by
  intro j i h hi;unfold BA at h;by_cases a1:j<E.a.e
  ·rw[zw a1]at h;exact⟨a1,za5 (i:=j) (by rw[zb6,zw a1];exact h)⟩
  ·rw[zi a1]at h
   split at h
   ·cases h;omega
   ·cases h
 have hlenT:∀id j,BA o E.a.e n b id=some j->∀b',AA (Dd (BA o E.a.e n b) L++C4 hp1 (o.drop E.a.e)) j=some b'->∃b0,AA L id=some b0/\Er b0=Er b':=by
  intro id j hj b' hb';rw[Lg,zw (hkey id j hj)]at hb';obtain⟨j',b0,h1,h2,rfl⟩:=Ii hb';obtain⟨q1,b1,q2,q3⟩:=hmem j' _ h1;cases q2
  have:=hinj id j' j (hfn _ _ hj) q1 hj h2;subst this;exact⟨b0,q3,(WR b0).symm⟩
 have hkn:∀i,i<b->Ci hp1 (Dd (BA o E.a.e n b) L++C4 hp1 (o.drop E.a.e)) i:=by
  intro i hi b' hb';rw[Lg]at hb'
  split at hb'
  ·rename_i hm;obtain⟨j,b0,h1,h2,rfl⟩:=Ii hb';obtain⟨_,hto⟩:=hlow2 j i h2 hi;obtain⟨c0,c1,q1,q2,q3⟩:=hlens i hto;rw[hb']at q2;cases q2
   exact⟨c0,by rw[hold i (List.mem_of_mem_take hto)];exact q1,q3⟩
  ·rw[MF]at hb'
   split at hb'
   ·cases hb'
   ·exact⟨b',hb',rfl⟩
 refine⟨?_,fun i bb hb=> ?_,hr.keeps fun t i hi=>hkn i (htm t i hi)⟩
 ·
  have e1:(vs0.map fun p=>BB (BA o E.a.e n b) p.2)=(vs0.map (·.2)).map (BB (BA o E.a.e n b)):=by simp
  rw[e1];generalize vs0.map (·.2)=vs at hval hsure⊢
  match vs,hval,hsure with
  |[v],hval,hsure=>
   have hs1:Eh v=true:=by simpa using hsure
   obtain⟨q1,_,_,q4⟩:=GC hs1 (show RV2 L v r from hval);rw[Av1 q4];exact(V4 hlenT q1 hs1).to2
  |[],hval,hsure=>
   obtain⟨us,rfl,hc⟩:=(show ∃us,r=.tup us/\RC (RV1 L) [] us from hval);cases us with
   |nil=>exact⟨[],rfl,trivial⟩
   |cons a l=>exact hc.elim
  |v1::v2::vs,hval,hsure=>
   obtain⟨us,rfl,hc⟩:=(show ∃us,r=.tup us/\RC (RV1 L) (v1::v2::vs) us from hval);exact⟨us.map (Cp (BA o E.a.e n b)),rfl,RC.ren hlenT hsure hc⟩
 ·rw[Lg]at hb
  split at hb
  ·obtain⟨j,b0,h1,h2,rfl⟩:=Ii hb;obtain⟨q1,b1,q2,q3⟩:=hmem j _ h1;cases q2
   obtain⟨kj,hkj,hrb⟩:=hblk j b0 q3;have hkj:blks'[j]? =some kj:=hkj;refine⟨Ee (BA o E.a.e n b) kj,?_,Av2 hlenT hrb⟩
   have:=Ad9 (hp1:=hv1) (e:=E.a.e) hn hlow heo (by omega) hkj (by rw[hlen];exact h2);rw[hlen]at this;exact this
  ·rename_i hm;rw[MF]at hb
   split at hb
   ·cases hb
   ·rename_i hd;obtain⟨k,hk,hrb⟩:=hh1 i bb hb;refine⟨k,?_,hrb.keeps fun q hq=>hkn q (hids i bb hb q hq)⟩
    rw[Vz ?_ ?_]
    ·exact hk
    ·intro hio;rw[<-List.take_append_drop E.a.e o]at hio;rcases zb5.1 hio with hio|hio
     ·obtain⟨j,hj⟩:=ze3 hio;rw[zb6]at hj
      split at hj
      ·rename_i hje;exact hm (hkey j i (by unfold BA;rw[zw hje];exact hj))
      ·cases hj
     ·exact hd hio
    ·rintro⟨h1,h2⟩;rw[hlen]at h2;exact hm (hkey (E.a.e+(i-b)) i (by unfold BA;rw[zi (by omega),zw (by omega)];congr 1;omega))
theorem OT{H:THp}:∀{vs:List SV}{us:List V},vs.all Eh=true->RC (RV1 H) vs us->us.all niV=vs.all VT
 |[],[],_,_=>rfl
 |v::vs,u::us,hs,h=>by
  simp only[zc1,za2]at hs⊢
  rw[(UU hs.1 h.1).1,OT hs.2 h.2]
 |[],_::_,_,h=>h.elim
 |_::_,[],_,h=>h.elim
theorem At6{res:List Item}{y:Ca res}{r:V}{blks':List Blk}(hres:ResRel res y r blks'):VS ((Bm 0 res y).1.map (·.2)) (Bm 0 res y).2=(Jc r&&blks'.all Dq):=by
 have hsure:=LW res 0 y;have hval:=hres.val;unfold VS
 congr 1
 ·generalize (Bm 0 res y).1.map (·.2)=vs at hval hsure
  match vs,hval,hsure with
  |[v],hval,hsure=>
   have hs1:Eh v=true:=by simpa using hsure
   obtain⟨q1,_⟩:=GC hs1 (show RV2 _ v r from hval);simp only[zc1,List.all_nil,Bool.and_true];exact(UU hs1 q1).2.symm
  |[],hval,hsure=>
   obtain⟨us,rfl,hc⟩:=(show ∃us,r=.tup us/\RC (RV1 (Bm 0 res y).2) [] us from hval);rw[XA,OT hsure hc]
  |v1::v2::vs,hval,hsure=>
   obtain⟨us,rfl,hc⟩:=(show ∃us,r=.tup us/\RC (RV1 (Bm 0 res y).2) (v1::v2::vs) us from hval);rw[XA,OT hsure hc]
 ·have h3:(Bm 0 res y).2.map At5=blks'.map Dq:=by
   apply List.ext_getElem?
   intro j;rw[zd5,zd5];by_cases hj:j<(Bm 0 res y).2.length
   ·obtain⟨b0,h1,h2,h3⟩:=ZK hj;obtain⟨kj,hkj,hrb⟩:=hres.blk j b0 h2;have hkj:blks'[j]? =some kj:=hkj;rw[h1,hkj];simp only[zd1,Ai1 h3 hrb,At5]
   ·rw[List.getElem?_eq_none (by omega),List.getElem?_eq_none (by have:=hres.len;omega)];rfl
  have h4:∀{γ:Type}(l:List γ)(f:γ->Bool),l.all f=(l.map f).all id:=by
   intro γ l f
   induction l with
   |nil=>rfl
   |cons a l ih=>simp only[zc1,zc2,ih];rfl
  rw[h4 (Bm 0 res y).2,h4 blks',h3]
theorem My{hp:THp}:∀(n:Nat)(l acc o:List Nat),FL hp n l acc=some o->(∀i∈l,i∈o)/\(∀i∈acc,i∈o)/\∀i∈o,i∈acc\/∃b,AA hp i=some b/\S7 b=true/\∀j∈rfB b,j∈o
 |0,_,_,_,h=>by simp[FL]at h
 |n+1,[],acc,o,h=>by
  simp only[FL,zb]at h;subst h;exact⟨fun _ h=>by simp at h,fun _ h=>h,fun _ h=>.inl h⟩
 |n+1,id::l,acc,o,h=>by
  simp only[FL]at h;cases hm:Ah8 id acc with
  |true=>
   rw[hm]at h;simp only[cond_true]at h;obtain⟨h1,h2,h3⟩:=My n l acc o h;refine⟨fun i hi=> ?_,h2,h3⟩
   rcases zc9.1 hi with rfl|hi
   ·exact h2 _ (by rw[NL]at hm;simpa using hm)
   ·exact h1 i hi
  |false=>
   rw[hm]at h;simp only[cond_false]at h;cases hb:AA hp id with
   |none=>rw[hb]at h;cases h
   |some b=>
    rw[hb]at h;simp only at h;obtain⟨hs,h⟩:=Cw h;obtain⟨h1,h2,h3⟩:=My n _ _ o h;refine⟨fun i hi=> ?_,fun i hi=>h2 i (by simp[hi]),fun i hi=> ?_⟩
    ·rcases zc9.1 hi with rfl|hi
     ·exact h2 _ (by simp)
     ·exact h1 i (by simp[hi])
    ·rcases h3 i hi with h4|h4
     ·rcases zb5.1 h4 with h4|h4
      ·exact .inl h4
      ·simp only[List.mem_singleton]at h4;subst h4;exact .inr ⟨b,hb,hs,fun j hj=>h1 j (by simp[hj])⟩
     ·exact .inr h4
theorem Nt{l o:List Nat}(hh:RH hp hv)(h:FL hp 64 l []=some o):OY hv l o=true:=by
 obtain⟨h1,_,h3⟩:=My 64 l [] o h;unfold OY;simp only[za2,za6];refine⟨fun i hi=>by simpa using h1 i hi,fun i hi=> ?_⟩
 rcases h3 i hi with h4|⟨b,hb,hs,hr⟩
 ·simp at h4
 ·obtain⟨k,hk,hrb⟩:=hh i b hb;rw[hk];simp only;refine za6.2 fun j hj=> ?_
  rw[Aa5 hs hrb]at hj;simpa using hr j hj
theorem Vh{g:FuncId}{ys ys':List V}{lent:List Nat}{KV:BP}(h1:EC hv (cf.byref g) ys=some ys')(h2:DA hv (ys'.flatMap Af)=some [])(h3:Dp (cf.byref g) ys=lent):
  Dr R cf g ys hv b KV=Iq R g ys' lent hv b KV:=by
 unfold Dr;rw[h1]
 dsimp only
 rw[h2,h3]
theorem Th{g:FuncId}{ys ys':List V}{lent:List Nat}{KV:BP}{i:Nat}{l:List Nat}(h1:EC hv (cf.byref g) ys=some ys')(h2:DA hv (ys'.flatMap Af)=some (i::l))(h3:Dp (cf.byref g) ys=lent):
  Dr R cf g ys hv b KV=Ky R g ys' lent (ys'.flatMap Af).eraseDups (i::l) hv b KV:=by
 unfold Dr;rw[h1]
 dsimp only
 rw[h2,h3]
theorem Ae0{g:FuncId}{args:List SV}{ys:List V}(hE:∀g E,Ux X.ents g=some E->EL R E/\E.a.g=g/\cf.byref g=(EH E.a.params).map SN)(hh:RH hp hv)(hr:RT hp tm m)(hargs:RC (RV2 hp) args ys)(h:Ax5 X g args tm hp b K=some z):
  ∃x hp' cls y hv',K x hp' cls=some z/\RV2 hp' x y/\RH hp' hv'/\RT hp' tm m/\∀KV:BP,KV y hv' cls->Dr R cf g ys hv b KV:=by
 unfold Ax5 at h
 split at h
 case h_2=>cases h
 rename_i E hfe;obtain⟨hEnt,hEg,hbr⟩:=hE g E hfe
 split at h
 case h_2=>cases h
 rename_i args' hargs'
 split at h
 case h_2=>cases h
 rename_i o ho
 split at h
 case h_2=>cases h
 rename_i x hx
 split at h
 case isFalse=>cases h
 rename_i hc;simp only[za2]at hc;obtain⟨⟨⟨⟨⟨⟨⟨⟨s1,s2⟩,d1⟩,d2⟩,d3⟩,o16⟩,bel⟩,sl⟩,oall⟩:=hc;obtain⟨y,hFy,h⟩:=Bb h;simp only at h
 split at h
 case isFalse=>cases h
 rename_i hle;simp only[za2]at hle;have hen:=Nat.le_of_ble_eq_true hle.1;have hen16:=Nat.le_of_ble_eq_true hle.2;obtain⟨h,hlens⟩:=MM h;rw[H6]at h;have o16:=Nat.le_of_ble_eq_true o16;obtain⟨bel1,bel2⟩:=Oo bel;obtain⟨ys',hV,hargs2,hlent⟩:=MK hh hargs' hargs;rw[<-hbr]at hV hlent;generalize I9 (EH E.a.params) args=lent at h oall hlent;have hnl:∀id∈o,id ∉ lent:=fun id hid=>by
  have:=za6.1 oall id hid;simp only[za2]at this;exact OV this.2
 obtain⟨a1,a2,a3,a4⟩:=RC.all1 s1 hargs2;have hlow:∀id∈o,id<b:=fun id hid=>by
  have:=za6.1 oall id hid;simp only[za2]at this;exact K3 this.1
 have hclose:Ec hv 64 (ys'.flatMap Af) []=some o:=by rw[a2];exact Gm hh _ _ _ ho
 have hcloseC:DA hv (ys'.flatMap Af)=some o:=by
  unfold DA;rw[hclose];simp only;rw[zw (by rw[a2];exact Nt hh ho)]
 obtain⟨c1,c2,_,_⟩:=EZ hv 64 _ _ _ hclose (by simp) (fun id hid=>by simp at hid);have hdir:(ys'.flatMap Af).eraseDups=o.take E.a.e:=by rw[a2,<-Yz];exact(Jy d2).symm
 have hdl:(o.take E.a.e).length=E.a.e:=by rw[Jy d2];exact za7 d3
 have heo:E.a.e<=o.length:=by rw[zc7]at hdl;omega
 obtain⟨r1,r2⟩:=OZ hh o;have hf:Dm o=idx o:=funext fun id=>L2 o id
 have hren:RC (RV1 (FU hp (Dm o) 0 o)) (args'.map (BB (Dm o))) (ys'.map (Cp (idx o))):=by
  rw[hf]at r2⊢
  exact RC.ren r2 s1 a1
 obtain⟨_,e2,_,_⟩:=RC.all1 s2 (hren.mono fun _ _ _ h=>h.to2);have hed:((ys'.map (Cp (idx o))).flatMap Af).eraseDups=List.range E.a.e:=by rw[e2,<-Yz];exact Jy d1
 have hids:Hg (ys'.map (Cp (idx o))) (AF hv o)=true:=by
  unfold Hg;simp only[za2,decide_eq_true_eq,beq_iff_eq];refine⟨⟨⟨za6.2 fun i hi=> ?_,za6.2 fun i hi=> ?_⟩,by simpa[AF]using o16⟩,by rw[hed,List.length_range]⟩
  ·obtain⟨u,hu,hi⟩:=zb0.1 hi;obtain⟨u0,_,rfl⟩:=ze0.1 hu;obtain⟨j,hj,_⟩:=L6 hi;have:=(za3.1 (YM hj)).1;simp;omega
  ·obtain⟨k,hk,hi⟩:=zb0.1 hi;unfold AF at hk;obtain⟨id,_,rfl⟩:=ze0.1 hk;obtain⟨j,hj,_⟩:=UY hi;have:=(za3.1 (YM hj)).1;simp;omega
 have hRS:RS {tm:=Nx 0 (args'.map (BB (Dm o))),hp:=FU hp (Dm o) 0 o,c:=1} (R6 (ys'.map (Cp (idx o))) (AF hv o)):=
  ⟨Ut 0 (hren.mono fun _ _ _ h=>h.to2),r1,rfl⟩
 have hno:E.a.e=0->o=[]:=by
  intro h0;have h1:(ddN [] (args'.flatMap rf1)).length=0:=by rw[za7 d3,h0]
  have h2:args'.flatMap rf1=[]:=by
   cases hl:args'.flatMap rf1 with
   |nil=>rfl
   |cons i l=>
    rw[hl,Yz]at h1;simp[List.eraseDups_cons]at h1
  rw[h2]at ho;simpa[FL]using ho.symm
 obtain⟨r,blks',hR,hres⟩:=hEnt x y _ _ _ hFy hRS hx hids (by rw[List.length_map,hargs2.length];exact(za7 sl).symm) (by rw[hed,List.length_range]) (fun h0=>by rw[hno h0];rfl);rw[hEg]at hR;have hlenB:=hres.len;have hlens':∀id∈o.take E.a.e,∃b0 b1,AA hp id=some b0/\AA (Dd (Nn o E.a.e (Bm 0 E.a.res y).2.length b) (Bm 0 E.a.res y).2) id=some b1/\Er b0=Er b1:=hlens;obtain⟨f1,f2⟩:=Sc lent hh;have hpl:=Un (E:=E) hres c1 hlow heo hen hlens' hh (fun _ _=>rfl) (fun i bb hb=>(bel1 i bb hb).2) hr bel2
 have hfz:=Un (E:=E) hres c1 hlow heo hen hlens' f1 (fun i hi=>P0 _ _ _ (hnl i hi)) (fun i bb hb=>(Lf lent bel1 i bb hb).2) (hr.keeps fun _ i _=>f2 i) bel2;rw[At6 hres]at h;have hcallR:∀F:V->List Blk->Prop,F r blks'->GR R g (ys'.map (Cp (idx o))) (AF hv o) F:=fun F hF=>⟨r,blks',hR,hF⟩
 cases o with
 |nil=>
  have he0:E.a.e=0:=by simpa using heo
  have hno:args'.flatMap rf1=[]:=by
   rw[<-a2];cases hL:ys'.flatMap Af with
   |nil=>rfl
   |cons i l=>
    exfalso
    have:=hdir;rw[hL,List.eraseDups_cons,he0]at this;simp at this
  have hsame:ys'.map (Cp (idx []))=ys':=U0 s1 hno a1;rw[hsame]at hcallR hids;rw[he0]at hpl hfz hen16 h;simp only[List.drop_nil]at hpl hfz;cases hc:(lent.isEmpty||(Jc r&&blks'.all Dq))with
  |true=>
   rw[hc]at h;obtain⟨m1,m2,m3⟩:=hpl;refine⟨_,_,_,_,_,h,m1,m2,m3,fun KV hK=> ?_⟩
   rw[Vh hV hcloseC hlent];refine hcallR _ ⟨by omega,hids,?_⟩
   rw[zw hc];exact hK
  |false=>
   rw[hc]at h;obtain⟨m1,m2,m3⟩:=hfz;refine⟨_,_,_,_,_,h,m1,m2,m3,fun KV hK=> ?_⟩
   rw[Vh hV hcloseC hlent];refine hcallR _ ⟨by omega,hids,?_⟩
   rw[zi (by rw[hc];simp)];exact hK
 |cons i l=>
  have hall:((i::l).all fun id=> !lent.contains id)=true:=za6.2 fun id hid=>by simpa using hnl id hid
  cases hc:(lent.isEmpty||(Jc r&&blks'.all Dq))with
  |true=>
   rw[hc]at h;obtain⟨m1,m2,m3⟩:=hpl;refine⟨_,_,_,_,_,h,m1,m2,m3,fun KV hK=> ?_⟩
   rw[Th hV hcloseC hlent,hdir];unfold Ky;rw[hdl];refine⟨hall,rfl,hids,hcallR _ ⟨by omega,by omega,?_⟩⟩
   rw[zw hc];exact hK
  |false=>
   rw[hc]at h;obtain⟨m1,m2,m3⟩:=hfz;refine⟨_,_,_,_,_,h,m1,m2,m3,fun KV hK=> ?_⟩
   rw[Th hV hcloseC hlent,hdir];unfold Ky;rw[hdl];refine⟨hall,rfl,hids,hcallR _ ⟨by omega,by omega,?_⟩⟩
   rw[zi (by rw[hc];simp)];exact hK
end
end
end Go.Proofs.YtnohbihcoikkbaaGreat.Ev
