/- What the theorem of this claim leans on, part 3. -/
import Derived.Test.YtiijheppiboglaaGreatDoorKB
import Derived.Laws.Strings
import Derived.Laws.StructEq
set_option maxHeartbeats 2000000
open Option renaming bind_some → za0, map_eq_some_iff → zb6, map_some → zd9
open List renaming getElem?_eq_getElem → za1, getElem?_eq_some_iff → za3, mem_of_getElem? → za4, all_eq_true → za5, drop_eq_getElem_cons → zb0, mem_flatMap → zb1, mem_append → zb3, eq_nil_of_length_eq_zero → zb4, flatMap_cons → zb5, getD_eq_getElem?_getD → zb7, length_cons → zb8, map_cons → zb9, getElem?_take → zc0, take_of_length_le → zc4, length_append → zc7, mem_cons → zc8, getElem?_map → zc9, all_cons → zd0, length_map → zd1, length_pos_iff → zd2, getElem?_drop → zd3, mem_map → zd4, drop_eq_nil_of_le → zd5, mem_singleton → zd8, append_nil → ze5, length_nil → ze7, drop_zero → ze8
open Bool renaming and_eq_true → za2, false_eq_true → zc3, true_and → ze2
open Nat renaming eq_of_beq_eq_true → za6, le_refl → za7, mul_le_mul_right → zd6, lt_of_lt_of_le → zd7, lt_or_ge → ze0, zero_add → ze4, le_trans → ze6, add_mul → zf1
open Sum renaming elim_inr → za8
open Int renaming mul_le_mul_of_nonneg_right → za9, mul_le_mul_of_nonneg_left → zb2, tdiv_eq_ediv_of_nonneg → zc1, toNat_natCast → zc5, tmod_eq_emod_of_nonneg → zc6, mul_add → ze1, le_of_lt → ze3, mul_nonneg → ze9, natCast_mul → zf0
open Array renaming getD_eq_getD_getElem? → zc2
set_option linter.unusedVariables false
set_option linter.unusedSimpArgs false
set_option linter.unusedSectionVars false
namespace Go.Proofs.YtiijheppiboglaaGreatDoor.Ev
section
open Go
inductive Ty where
 | int (k:IntKind)
 | bool
 | str
 | pair (a b:Ty)
 | sl (e:Ty)
 deriving DecidableEq
abbrev Str:=List UInt8
@[reducible] def Ty.den:Ty->Type
 | .int _=>Int
 | .bool=>Bool
 | .str=>Str
 | .pair a b=>a.den×b.den
 | .sl e=>List e.den
def Ty.size:Ty->Nat
 | .pair a b=>a.size + b.size
 | _=>1
inductive SV where
 | int (k:IntKind) (n:Int)
 | bool (b:Bool)
 | str (s:Str)
 | sc (x:Value)
 | er (b:Bool)
 | em
 | im (t:Ty) (l:List t.den)
 | ow (id:Nat)
 | ar (id lo n:Nat)
 | rf (id r c:Nat)
 | ir (t:Ty) (a:t.den) (c:Nat)
 | agg (cs:List SV)
 | tup (vs:List SV)
 | cl (f:FuncId) (caps:List SV)
 | any
 deriving Inhabited
inductive TB where
 | box (ty:TypeId) (cs:List SV)
 | arr (ty:TypeId) (deep:Bool) (t:Ty) (l:List t.den)
 | frz (ty:TypeId) (deep:Bool) (t:Ty) (l:List t.den)
abbrev TTm:=List (Nat×SV)
abbrev THp:=List (Nat×Option TB)
structure TSt where
 tm:TTm
 hp:THp
 c:Nat
def CK:TTm->Nat->SV
 | [],_=>.any
 | (k,x)::l,i=>cond (Nat.beq i k) x (CK l i)
def AQ:THp->Nat->Option TB
 | [],_=>none
 | (k,x)::l,i=>cond (Nat.beq i k) x (AQ l i)
def getD:List (Nat×TyD)->Nat->Option TyD
 | [],_=>none
 | (k,x)::l,i=>cond (Nat.beq i k) (some x) (getD l i)
def VW:Value->SV
 | .int k n=>.int k n
 | .bool b=>.bool b
 | .string s=>.str s.data.toList
 | .slice none 0 0=>.em
 | x=>if IQ x then .sc x else .any
def Ao5:Value->SV
 | .agg cs=>.agg (cs.toList.map VW)
 | x=>VW x
def Yu:V->SV
 | .v (.int k n)=>.int k n
 | .v (.bool b)=>.bool b
 | .v (.string s)=>.str s.data.toList
 | .v x=>.sc x
 | .em=>.em
 | _=>.any
def opT (tm:TTm):Operand->SV
 | .tmp t=>CK tm t
 | .const c=>Ao5 c
 | .global _=>.any
 | .func f=>.cl f []
def Zg {α:Type} (x:SV) (F:SV->α) : α :=
 match x with
 | .int k n=>F (.int k n)
 | .bool b=>F (.bool b)
 | .str s=>F (.str s)
 | .sc x=>F (.sc x)
 | .er b=>F (.er b)
 | .em=>F .em
 | .im t l=>F (.im t l)
 | .ow id=>F (.ow id)
 | .ar id lo n=>F (.ar id lo n)
 | .rf id r c=>F (.rf id r c)
 | .ir t a c=>F (.ir t a c)
 | .agg cs=>F (.agg cs)
 | .tup vs=>F (.tup vs)
 | .cl f caps=>F (.cl f caps)
 | .any=>F .any
def A1u:(t:Ty)->t.den->List SV
 | .int k,n=>[.int k n]
 | .bool,b=>[.bool b]
 | .str,s=>[.str s]
 | .pair a b,x=>A1u a x.1++A1u b x.2
 | .sl e,l=>[.im e l]
def JG {t e:Ty} (h:t=e) (l:List t.den):List e.den:=h▸l
def asL (e:Ty):SV->Option (List e.den)
 | .em=>some []
 | .im t l=>if h:t=e then some (JG h l) else none
 | _=>none
def Xw:(t:Ty)->List SV->Option (t.den×List SV)
 | .int k,.int k' n::r=>if k'=k then some (n,r) else none
 | .bool,.bool b::r=>some (b,r)
 | .str,.str s::r=>some (s,r)
 | .pair a b,cs =>
  match Xw a cs with
  | some (x,r)=>(match Xw b r with | some (y,r')=>some ((x,y),r') | none=>none)
  | none=>none
 | .sl e,v::r=>(match asL e v with | some l=>some (l,r) | none=>none)
 | _,_=>none
def A9W (t:Ty) (cs:List SV):Option t.den :=
 match Xw t cs with
 | some (x,[])=>some x
 | _=>none
def Dw:SV->List SV
 | .agg cs=>cs
 | x=>[x]
def okT:SV->Bool
 | .int .. | .bool _ | .str _ | .sc _ | .em | .im .. | .ow _ | .ar .. | .rf .. | .ir .. => true
 | .cl _ []=>true
 | _=>false
def mkT (g:Bool) (cs:List SV):Option SV :=
 if g then some (.agg cs) else match cs with | [x]=>some x | _=>none
def A2f (cs:List SV) (off n:Nat):Option (List SV):=if off + n<=cs.length then some ((cs.drop off).take n) else none
def A6C (cs:List SV) (off:Nat) (new:List SV):Option (List SV) :=
 if off + new.length<=cs.length then some (cs.take off++new++cs.drop (off + new.length)) else none
def AV {β:Type} (l:List β) (n:Nat):Option β:=l[n]?
def AP {α:Type} (l:List α) (n:Int):Option α:=if 0<=n then l[n.toNat]? else none
def neL {α:Type} (l:List α):Option Unit:=match l with | []=>none | _::_=>some ()
def A2 (n:Int) (len:Nat):Option Nat:=if 0<=n/\n.toNat<len then some n.toNat else none
def JL (lo hi:Int) (len:Nat):Option (Nat×Nat):=if 0<=lo/\lo<=hi/\hi<=len then some (lo.toNat,hi.toNat) else none
def WQ (s t:Str):Option Str:=if s.length + t.length<=9223372036854775807 then some (s++t) else none
def Sa (n:Int) (bytes size:Nat):Option Nat:=if 0<=n/\n.toNat*bytes<=Ag/\n.toNat*size<=Ag then some n.toNat else none
def AD1 (n bytes size:Nat):Bool:=decide (n*bytes<=Ag)&&decide (n*size<=Ag)
def Wh (k:IntKind) (a b:Int):Int:=k.wrap (a*2 ^ (min b.toNat k.bits))
def A8X (k:IntKind) (a b:Int):Int:=a.fdiv (2 ^ (min b.toNat k.bits))
def Bx7 (k:IntKind) (a b:Int):Int:=k.wrap ((BitVec.ofInt k.bits a &&& BitVec.ofInt k.bits b).toNat:Int)
def orI (k:IntKind) (a b:Int):Int:=k.wrap ((BitVec.ofInt k.bits a ||| BitVec.ofInt k.bits b).toNat:Int)
def Bz6 (k:IntKind) (a b:Int):Int:=k.wrap ((BitVec.ofInt k.bits a ^^^ BitVec.ofInt k.bits b).toNat:Int)
def AV2 (s:Str):List Int:=s.map fun c=>(c.toNat:Int)
def Mc (l:List Int):Str:=l.map fun n=>UInt8.ofNat n.toNat
section
variable {α:Type}
def GU (op:BinOp) (k k':IntKind) (a b:Int) (K:SV->Option α):Option α :=
 match op with
 | .shl=>cond (decide (b<0)) none (K (.int k (Wh k a b)))
 | .shr=>cond (decide (b<0)) none (K (.int k (A8X k a b)))
 | _ =>
  if k=k' then
   match op with
   | .add=>K (.int k (k.wrap (a + b)))
   | .sub=>K (.int k (k.wrap (a-b)))
   | .mul=>K (.int k (k.wrap (a*b)))
   | .quo=>cond (b==0) none (K (.int k (k.wrap (a.tdiv b))))
   | .rem=>cond (b==0) none (K (.int k (a.tmod b)))
   | .and=>K (.int k (Bx7 k a b))
   | .or=>K (.int k (orI k a b))
   | .xor=>K (.int k (Bz6 k a b))
   | .eql=>K (.bool (a==b))
   | .neq=>K (.bool (a != b))
   | .lss=>K (.bool (decide (a<b)))
   | .leq=>K (.bool (decide (a<=b)))
   | .gtr=>K (.bool (decide (a>b)))
   | .geq=>K (.bool (decide (a>=b)))
   | _=>none
  else none
def A9v (op:BinOp) (s t:Str) (K:SV->Option α):Option α :=
 match op with
 | .add=>(WQ s t).bind fun u=>K (.str u)
 | .eql=>K (.bool (s==t))
 | .neq=>K (.bool (!(s==t)))
 | .lss=>K (.bool (Op.bytesLess s t))
 | .leq=>K (.bool (Op.bytesLess s t || s==t))
 | .gtr=>K (.bool (!(Op.bytesLess s t || s==t)))
 | .geq=>K (.bool (!(Op.bytesLess s t)))
 | _=>none
def HB:List SV->List SV->Option Bool
 | [],[]=>some true
 | [.int k a],[.int k' b]=>if k=k' then some (a==b) else none
 | .int k a::x,.int k' b::y=>if k=k' then (match HB x y with | some r=>some ((a==b)&&r) | none=>none) else none
 | _,_=>none
def tUn (u:UnOp) (x:SV) (K:SV->Option α):Option α :=
 match u,x with
 | .not,.bool b=>K (.bool (!b))
 | .neg,.int k n=>K (.int k (k.wrap (0-n)))
 | _,_=>none
def A5o (flds:List Fld) (tm:TTm):List SV->List (Nat×Operand)->(List SV->Option α)->Option α
 | cs,[],K=>K cs
 | cs,(k,x)::rest,K =>
  match flds[k]? with
  | some f=>Zg (opT tm x) fun v=>if (Dw v).length=f.size&&(Dw v).all okT then (match A6C cs f.off (Dw v) with | some cs=>A5o flds tm cs rest K | none=>none) else none
  | none=>none
def A8I:SV->Option Int
 | .int _ n=>some n
 | _=>none
def At6 (tm:TTm):Option Operand->Int->Option Int
 | none,d=>some d
 | some x,_=>A8I (opT tm x)
def R1:List SV->Option (IntKind×List Int)
 | [.int k n]=>some (k,[n])
 | .int k n::l=>match R1 l with | some (k',ns)=>if k=k' then some (k,n::ns) else none | none=>none
 | _=>none
def Bt7:List Int->Int
 | []=>0
 | x::l=>l.foldl (fun a b=>if b<a then b else a) x
def Ba2:List Int->Int
 | []=>0
 | x::l=>l.foldl (fun a b=>if b>a then b else a) x
end
def FV:SV->List Nat
 | .ow id=>[id]
 | _=>[]
def Aw2:SV->List Nat
 | .agg cs=>cs.flatMap FV
 | .cl _ cs=>cs.flatMap FV
 | x=>FV x
def HL:SV->List Nat
 | .tup vs=>vs.flatMap Aw2
 | x=>Aw2 x
def MC:TB->List Nat
 | .box _ cs=>cs.flatMap FV
 | _=>[]
def A5B (b:Nat) (l:List Nat):Bool:=l.all fun i=>!Nat.beq i b
def HN (tm:TTm) (hp:THp) (b:Nat):Bool :=
 tm.all (fun x=>A5B b (HL x.2))&&hp.all fun x=>match x.2 with | some k=>A5B b (MC k) | none=>true
def Ee (hp:THp):List Nat->THp
 | []=>hp
 | id::l=>Ee ((id,none)::hp) l
def A7F:TB->TB
 | .arr ty deep t l=>.frz ty deep t l
 | x=>x
def E7 (hp:THp):List Nat->THp
 | []=>hp
 | id::l=>E7 ((id,(AQ hp id).map A7F)::hp) l
def AZ6 (b:Nat) (hp:THp):THp:=hp.filter fun x=>Nat.blt x.1 b
inductive AC where
 | int (k:IntKind)
 | bool
 | str
 | err
 | im (t:Ty)
 | at (j:Nat)
inductive AB where
 | arr (ty:TypeId) (deep:Bool) (t:Ty)
 | box (ty:TypeId) (cs:List AC)
inductive AS where
 | cell (c:AC)
 | agg (cs:List AC)
 | ref (j:Nat) (isbox:Bool)
 | sub (j:Nat)
 | clo (f:FuncId)
 | cap (f:FuncId) (js:List Nat)
inductive Item where
 | blk (b:AB)
 | slot (s:Nat) (a:AS)
@[reducible] def A0Y (u v:Bool) (A B:Type):Type :=
 match u,v with
 | true,_=>B
 | false,true=>A
 | false,false=>A×B
def mkP:(u v:Bool)->(A B:Type)->A->B->A0Y u v A B
 | true,_,_,_,_,b=>b
 | false,true,_,_,a,_=>a
 | false,false,_,_,a,b=>(a,b)
def Bx2:(u v:Bool)->(A B:Type)->(u=true->A)->A0Y u v A B->A
 | true,_,_,_,a,_=>a rfl
 | false,true,_,_,_,x=>x
 | false,false,_,_,_,x=>x.1
def Bu3:(u v:Bool)->(A B:Type)->(v=true->B)->A0Y u v A B->B
 | true,_,_,_,_,x=>x
 | false,true,_,_,b,_=>b rfl
 | false,false,_,_,_,x=>x.2
section
variable {ι:Type} (den : ι->Type) (u : ι->Bool)
@[reducible] def QY:List ι->Type
 | []=>Unit
 | x::l=>A0Y (u x) (l.all u) (den x) (QY l)
variable (un:∀ x,u x=true->den x)
def A4D:(l:List ι)->l.all u=true->QY den u l
 | [],_=>()
 | x::l,h=>mkP (u x) (l.all u) (den x) (QY den u l) (un x (by simp at h; exact h.1)) (A4D l (by simp at h ⊢; exact h.2))
def hdL (x : ι) (l:List ι) (d:QY den u (x::l)):den x:=Bx2 (u x) (l.all u) (den x) (QY den u l) (un x) d
def tlL (x : ι) (l:List ι) (d:QY den u (x::l)):QY den u l:=Bu3 (u x) (l.all u) (den x) (QY den u l) (A4D den u un l) d
def A5x (x : ι) (l:List ι) (a:den x) (d:QY den u l):QY den u (x::l):=mkP (u x) (l.all u) (den x) (QY den u l) a d
end
@[reducible] def AC.den:AC->Type
 | .int _=>Int
 | .bool=>Bool
 | .str=>Str
 | .err=>Bool
 | .im t=>List t.den
 | .at _=>Unit
def AC.isU:AC->Bool
 | .at _=>true
 | _=>false
def A0o:(c:AC)->c.isU=true->c.den
 | .at _,_=>()
 | .int _,h=>by cases h
 | .bool,h=>by cases h
 | .str,h=>by cases h
 | .err,h=>by cases h
 | .im _,h=>by cases h
@[reducible] def TZ (cs:List AC):Type:=QY AC.den AC.isU cs
def hdC (c:AC) (cs:List AC) (d:TZ (c::cs)):c.den:=hdL AC.den AC.isU A0o c cs d
def tlC (c:AC) (cs:List AC) (d:TZ (c::cs)):TZ cs:=tlL AC.den AC.isU A0o c cs d
def AI9 (c:AC) (cs:List AC) (a:c.den) (d:TZ cs):TZ (c::cs):=A5x AC.den AC.isU c cs a d
@[reducible] def AB.den:AB->Type
 | .arr _ _ t=>List t.den
 | .box _ cs=>TZ cs
@[reducible] def AS.den:AS->Type
 | .cell c=>c.den
 | .agg cs=>TZ cs
 | .ref _ _=>Unit
 | .sub _=>Nat×Nat
 | .clo _=>Unit
 | .cap _ _=>Unit
@[reducible] def Item.den:Item->Type
 | .blk b=>b.den
 | .slot _ a=>a.den
def AB.isU:AB->Bool
 | .arr _ _ _=>false
 | .box _ cs=>cs.all AC.isU
def AS.isU:AS->Bool
 | .cell c=>c.isU
 | .agg cs=>cs.all AC.isU
 | .ref _ _=>true
 | .sub _=>false
 | .clo _=>true
 | .cap _ _=>true
def Item.isU:Item->Bool
 | .blk b=>b.isU
 | .slot _ a=>a.isU
def Bw1:(b:AB)->b.isU=true->b.den
 | .box _ cs,h=>A4D AC.den AC.isU A0o cs h
 | .arr _ _ _,h=>by cases h
def Bw0:(a:AS)->a.isU=true->a.den
 | .cell c,h=>A0o c h
 | .agg cs,h=>A4D AC.den AC.isU A0o cs h
 | .ref _ _,_=>()
 | .clo _,_=>()
 | .cap _ _,_=>()
 | .sub _,h=>by cases h
def Bk9:(x:Item)->x.isU=true->x.den
 | .blk b,h=>Bw1 b h
 | .slot _ a,h=>Bw0 a h
@[reducible] def Dp (l:List Item):Type:=QY Item.den Item.isU l
def hdI (x:Item) (l:List Item) (d:Dp (x::l)):x.den:=hdL Item.den Item.isU Bk9 x l d
def tlI (x:Item) (l:List Item) (d:Dp (x::l)):Dp l:=tlL Item.den Item.isU Bk9 x l d
def QJ (x:Item) (l:List Item) (a:x.den) (d:Dp l):Dp (x::l):=A5x Item.den Item.isU x l a d
def A2n:(c:AC)->c.den->SV
 | .int k,n=>.int k n
 | .bool,b=>.bool b
 | .str,s=>.str s
 | .err,b=>.er b
 | .im t,l=>.im t l
 | .at j,_=>.ow j
def Ul:(cs:List AC)->TZ cs->List SV
 | [],_=>[]
 | c::cs,d=>A2n c (hdC c cs d)::Ul cs (tlC c cs d)
def Br7:(b:AB)->b.den->TB
 | .arr ty deep t,l=>.arr ty deep t l
 | .box ty cs,x=>.box ty (Ul cs x)
def A08:(a:AS)->a.den->SV
 | .cell c,x=>A2n c x
 | .agg cs,x=>.agg (Ul cs x)
 | .ref j false,_=>.ow j
 | .ref j true,_=>.rf j 0 0
 | .sub j,x=>.ar j x.1 x.2
 | .clo g,_=>.cl g []
 | .cap g js,_=>.cl g (js.map fun j=>.rf j 0 0)
def BK:Nat->(l:List Item)->Dp l->TTm×THp
 | _,[],_=>([],[])
 | k,.blk b::l,d=>((BK (k + 1) l (tlI (.blk b) l d)).1,(k,some (Br7 b (hdI (.blk b) l d)))::(BK (k + 1) l (tlI (.blk b) l d)).2)
 | k,.slot s a::l,d=>((s,A08 a (hdI (.slot s a) l d))::(BK k l (tlI (.slot s a) l d)).1,(BK k l (tlI (.slot s a) l d)).2)
def LX (l:List Item) (d:Dp l):TSt:={ tm:=(BK 0 l d).1,hp:=(BK 0 l d).2,c:=1 }
def Ir:List Item->List Nat
 | []=>[]
 | .blk _::l=>Ir l
 | .slot s _::l=>s::Ir l
def HX:List Item->List AS
 | []=>[]
 | .blk _::l=>HX l
 | .slot _ a::l=>a::HX l
def DQ:List Item->List AB
 | []=>[]
 | .blk b::l=>b::DQ l
 | .slot _ _::l=>DQ l
inductive TM where
 | keep
 | own (ty:TypeId) (deep:Bool) (t:Ty)
 | im (t:Ty)
 | sub
inductive TMs where
 | one (m:TM)
 | agg (l:List TM)
 | box (l:List TM)
def Bw8 (bl:List AB) (j:Nat):TM:=match bl[j]? with | some (.arr ty deep t)=>.own ty deep t | _=>.keep
def tmC (bl:List AB):AC->TM
 | .im t=>.im t
 | .at j=>Bw8 bl j
 | _=>.keep
def tmS (bl:List AB):AS->TMs
 | .cell c=>.one (tmC bl c)
 | .agg cs=>.agg (cs.map (tmC bl))
 | .ref j false=>.one (Bw8 bl j)
 | .ref j true=>match bl[j]? with | some (.box _ cs)=>.box (cs.map (tmC bl)) | _=>.one .keep
 | .sub _=>.one .sub
 | .clo _=>.one .keep
 | .cap _ _=>.one .keep
def TM.md:TM->Md
 | .keep=>.keep
 | .own ty deep t=>.own ty t.size deep
 | .im _=>.im
 | .sub=>.keep
def TMs.mds:TMs->Mds
 | .one m=>.one m.md
 | .agg l=>.agg (l.map TM.md)
 | .box l=>.box (l.map TM.md)
def Me (bl:List AB):List Item->List (Nat×TMs)
 | []=>[]
 | .blk _::l=>Me bl l
 | .slot s a::l=>(s,tmS bl a)::Me bl l
def GB (l:List (Nat×TMs)):List (Nat×Mds):=l.map fun p=>(p.1,p.2.mds)
def Jf (l:List Item):List (Nat×Mds):=GB (Me (DQ l) l)
def Hx (hp:THp) (e:Ty):SV->Option (List e.den)
 | .ow id =>
  match AQ hp id with
  | some (.arr _ _ t l) | some (.frz _ _ t l)=>if h:t=e then some (JG h l) else none
  | _=>none
 | .ar id lo n =>
  match AQ hp id with
  | some (.arr _ _ t l) | some (.frz _ _ t l)=>if h:t=e then some (((JG h l).take (lo + n)).drop lo) else none
  | _=>none
 | v=>asL e v
def frV:SV->List Nat
 | .ow id=>[id]
 | .ar id _ _=>[id]
 | _=>[]
def tnC (m:TM) (v:SV) (hp:THp) (b:Nat):Option (SV×THp×Nat) :=
 match m with
 | .keep=>some (v,hp,0)
 | .own ty deep t =>
  match v with
  | .em=>some (.ow b,(b,some (.arr ty deep t []))::hp,1)
  | .ow id =>
   match AQ hp id with
   | some (.arr ty' deep' t' _)=>if t'=t then (if Nat.beq ty' ty&&(deep'==deep) then some (.ow id,hp,0) else none) else none
   | _=>none
  | _=>none
 | .im t=>match Hx hp t v with | some l=>some (.im t l,E7 hp (frV v),0) | none=>none
 | .sub =>
  match v with
  | .ow id=>match AQ hp id with | some (.arr _ _ _ l)=>some (.ar id 0 l.length,hp,0) | _=>none
  | .ar id lo n=>some (.ar id lo n,hp,0)
  | _=>none
def tnL:List TM->List SV->THp->Nat->Option (List SV×THp×Nat)
 | [],[],hp,_=>some ([],hp,0)
 | m::ms,x::xs,hp,b =>
  match tnC m x hp b with
  | some (y,hp1,n) =>
   match tnL ms xs hp1 (b + n) with
   | some (ys,hp2,k)=>some (y::ys,hp2,n + k)
   | none=>none
  | none=>none
 | _,_,_,_=>none
def tnV (m:TMs) (v:SV) (hp:THp) (b:Nat):Option (SV×THp×Nat) :=
 match m with
 | .one m=>tnC m v hp b
 | .agg l=>match v with | .agg cs=>(match tnL l cs hp b with | some (cs',hp',n)=>some (.agg cs',hp',n) | none=>none) | _=>none
 | .box l =>
  match v with
  | .rf id r c =>
   match AQ hp id with
   | some (.box ty cs)=>(match tnL l cs hp b with | some (cs',hp',n)=>if cs'.all okT then some (.rf id r c,(id,some (.box ty cs'))::hp',n) else none | none=>none)
   | _=>none
  | _=>none
def tnS:List (Nat×TMs)->TSt->Option TSt
 | [],st=>some st
 | (s,m)::l,st =>
  match tnV m (CK st.tm s) st.hp (16*st.c) with
  | some (x,hp,n)=>if Nat.ble n 16 then tnS l { tm:=(s,x)::st.tm,hp:=hp,c:=st.c + 1 } else none
  | none=>none
def WL (tm:TTm) (hp:THp) (b:Nat):Bool :=
 tm.all (fun x=>(HL x.2).all fun i=>Nat.blt i b)&&hp.all fun x=>match x.2 with | some k=>Nat.blt x.1 b&&(MC k).all fun i=>Nat.blt i b | none=>true
def rf0:SV->List Nat
 | .ow id=>[id]
 | .ar id _ _=>[id]
 | .rf id _ _=>[id]
 | _=>[]
def rf1:SV->List Nat
 | .agg cs=>cs.flatMap rf0
 | .cl _ caps=>caps.flatMap rf0
 | x=>rf0 x
def rfB:TB->List Nat
 | .box _ cs=>cs.flatMap rf0
 | _=>[]
def KX:SV->Bool
 | .agg _ | .tup _ | .any=>false
 | .cl _ caps=>caps.isEmpty
 | _=>true
def FJ:SV->Bool
 | .agg cs=>cs.all KX
 | .cl _ caps=>caps.all KX
 | x=>KX x
def An5:TB->Bool
 | .box _ cs=>cs.all KX
 | _=>true
def A5U (i:Nat):List Nat->Bool
 | []=>false
 | x::l=>cond (Nat.beq x i) true (A5U i l)
def HA (hp:THp):Nat->List Nat->List Nat->Option (List Nat)
 | 0,_,_=>none
 | _ + 1,[],acc=>some acc
 | k + 1,id::l,acc =>
  cond (A5U id acc) (HA hp k l acc)
   (match AQ hp id with
   | none=>none
   | some b=>cond (An5 b) (HA hp k (l++rfB b) (acc ++ [id])) none)
def Eo:List Nat->Nat->Option Nat
 | [],_=>none
 | x::l,id=>cond (Nat.beq x id) (some 0) (match Eo l id with | some j=>some (j + 1) | none=>none)
def A3R:List Nat->List Nat->Bool
 | [],[]=>true
 | x::l,y::m=>Nat.beq x y&&A3R l m
 | _,_=>false
def Fa (f:Nat->Option Nat):SV->SV
 | .ow id=>match f id with | some j=>.ow j | none=>.any
 | .ar id lo n=>match f id with | some j=>.ar j lo n | none=>.any
 | .rf id r c=>match f id with | some j=>.rf j r c | none=>.any
 | .cl g []=>.cl g []
 | .cl _ _ | .agg _ | .tup _=>.any
 | x=>x
def B6 (f:Nat->Option Nat):SV->SV
 | .agg cs=>.agg (cs.map (Fa f))
 | .cl g caps=>.cl g (caps.map (Fa f))
 | x=>Fa f x
def Ae7 (f:Nat->Option Nat):TB->TB
 | .box ty cs=>.box ty (cs.map (Fa f))
 | x=>x
def G9 (hp:THp) (f:Nat->Option Nat):Nat->List Nat->THp
 | _,[]=>[]
 | k,id::l=>(k,match AQ hp id with | some b=>some (Ae7 f b) | none=>none)::G9 hp f (k + 1) l
def Tu (e:Nat) (keep:List Nat) (st:TSt):Option TSt :=
 if keep.all (fun s=>FJ (CK st.tm s)) then
  match HA st.hp 64 (List.range e++keep.flatMap fun s=>rf1 (CK st.tm s)) [] with
  | some o =>
   if Nat.ble o.length 16&&A3R (o.take e) (List.range e) then
    some { tm:=keep.map fun s=>(s,B6 (Eo o) (CK st.tm s)),hp:=G9 st.hp (Eo o) 0 o,c:=1 }
   else none
  | none=>none
 else none
def rdC:(c:AC)->SV->Option c.den
 | .int k,.int k' n=>if k'=k then some n else none
 | .bool,.bool b=>some b
 | .str,.str s=>some s
 | .err,.er b=>some b
 | .im t,.im t' l=>if h:t'=t then some (JG h l) else none
 | .at j,.ow i=>if Nat.beq i j then some () else none
 | _,_=>none
def A8F:(cs:List AC)->List SV->Option (TZ cs)
 | [],[]=>some ()
 | c::cs,v::vs=>(match rdC c v with | some x=>(match A8F cs vs with | some y=>some (AI9 c cs x y) | none=>none) | none=>none)
 | _,_=>none
def rdB:(b:AB)->TB->Option b.den
 | .arr ty deep t,.arr ty' deep' t' l=>if h:t'=t then (if Nat.beq ty' ty&&(deep'==deep) then some (JG h l) else none) else none
 | .box ty cs,.box ty' vs=>if Nat.beq ty' ty then A8F cs vs else none
 | _,_=>none
def AT5:List Nat->List SV->Bool
 | [],[]=>true
 | j::js,.rf i 0 0::vs=>cond (Nat.beq i j) (AT5 js vs) false
 | _,_=>false
def rdS:(a:AS)->SV->Option a.den
 | .cell c,v=>rdC c v
 | .agg cs,.agg vs=>A8F cs vs
 | .ref j false,.ow i=>if Nat.beq i j then some () else none
 | .ref j true,.rf i 0 0=>if Nat.beq i j then some () else none
 | .sub j,.ar i lo n=>if Nat.beq i j then some (lo,n) else none
 | .clo f,.cl g []=>if Nat.beq g f then some () else none
 | .cap f js,.cl g vs=>if Nat.beq g f&&AT5 js vs then some () else none
 | _,_=>none
def rdI:Nat->(l:List Item)->TTm->THp->Option (Dp l)
 | _,[],[],[]=>some ()
 | k,.blk b::l,tm,(i,some tb)::hp =>
  if Nat.beq i k then (match rdB b tb with | some x=>(match rdI (k + 1) l tm hp with | some y=>some (QJ (.blk b) l x y) | none=>none) | none=>none) else none
 | k,.slot s a::l,(i,v)::tm,hp =>
  if Nat.beq i s then (match rdS a v with | some x=>(match rdI k l tm hp with | some y=>some (QJ (.slot s a) l x y) | none=>none) | none=>none) else none
 | _,_,_,_=>none
def HV (e:Nat) (l:List Item) (st:TSt):Option (Dp l) :=
 if WL st.tm st.hp (16*st.c) then
  match tnS (Me (DQ l) l) st with
  | some st1=>(match Tu e (Ir l) st1 with | some st2=>rdI 0 l st2.tm st2.hp | none=>none)
  | none=>none
 else none
structure FAnn where
 g:FuncId
 e:Nat:=0
 params:List Item
 res:List Item
 heads:List (Nat×List Item):=[]
 outs:List (Nat×List (Ex×List Item)):=[]
 joins:List (Nat×List Item):=[]
def VF:List FAnn->FuncId->Option FAnn
 | [],_=>none
 | a::l,g=>cond (Nat.beq a.g g) (some a) (VF l g)
def Nj {α:Type}:List (Nat×α)->Nat->Option α
 | [],_=>none
 | (k,x)::l,i=>cond (Nat.beq k i) (some x) (Nj l i)
def AP3:Ex->Ex->Bool
 | .normal,.normal=>true
 | .ret,.ret=>true
 | .exit i,.exit j=>Nat.beq i j
 | _,_=>false
def A2u:List (Ex×List Item)->Ex->Option (List Item)
 | [],_=>none
 | (e,x)::l,i=>cond (AP3 e i) (some x) (A2u l i)
def At9 (bl:List AB):Nat->Nat->List AB->List (Nat×TMs)
 | 0,_,_=>[]
 | _,_,[]=>[]
 | e + 1,k,.box _ cs::l=>(k,.box (cs.map (tmC bl)))::At9 bl e (k + 1) l
 | e + 1,k,_::l=>At9 bl e (k + 1) l
def By1:AC->Bool
 | .at _=>true
 | _=>false
def AO6:AS->Bool
 | .ref _ false=>true
 | .sub _=>true
 | .agg cs=>cs.any By1
 | .clo _=>true
 | .cap _ _=>true
 | _=>false
def At2 (tab:List FAnn) (ext:FuncId->Bool):Cfg where
 live g r:=match (VF tab g).bind fun a=>Nj a.heads r with | some l=>Jf l | none=>[]
 out g r ex:=match ((VF tab g).bind fun a=>Nj a.outs r).bind fun l=>A2u l ex with | some l=>Jf l | none=>[]
 join g r:=match (VF tab g).bind fun a=>Nj a.joins r with | some l=>some (Jf l) | none=>none
 res g:=match VF tab g with | some a=>(Jf a.res).map (·.2) | none=>[]
 par g:=match VF tab g with | some a=>Jf a.params | none=>[]
 rts g:=match VF tab g with | some a=>GB (At9 (DQ a.res) a.e 0 (DQ a.res)) | none=>[]
 byref g:=match VF tab g with | some a=>(HX a.params).map AO6 | none=>[]
 isExt:=ext
structure Ent where
 a:FAnn
 F:Dp a.params->Option (Dp a.res)
def AH5:List Ent->FuncId->Option Ent
 | [],_=>none
 | x::l,g=>cond (Nat.beq x.a.g g) (some x) (AH5 l g)
structure TX where
 ty:List (Nat×TyD)
 cod:List (Nat×Ty)
 eqs:List Nat
 bools:List Nat
 ents:List Ent
 ann:FAnn
def EZ:Ty->Bool
 | .sl _=>false
 | .pair a b=>EZ a&&EZ b
 | _=>true
section
variable {α:Type} (X:TX)
def Yk (t:TypeId):Option (TypeId×TyD×Ty) :=
 match getD X.ty t with
 | some d =>
  match d.elem with
  | some e =>
   match getD X.ty e,Nj X.cod e with
   | some de,some c=>if Nat.beq de.size c.size&&(de.zero.all ZE==EZ c) then some (e,de,c) else none
   | _,_=>none
  | none=>none
 | none=>none
def A40 (t:TypeId):Bool:=match getD X.ty t with | some d=>d.ifc | none=>false
def N0 (t:TypeId):Bool:=match getD X.ty t with | some d=>d.str | none=>false
def Bc9 (op:BinOp) (t:TypeId) (x y:SV) (K:SV->Option α):Option α :=
 match x,y with
 | .int k a,.int k' b=>GU op k k' a b K
 | .str s,.str u=>A9v op s u K
 | .bool a,.bool b =>
  if X.bools.contains t then (match op with | .eql=>K (.bool (a==b)) | .neq=>K (.bool (!(a==b))) | _=>none) else none
 | .agg cs,.agg ds =>
  if X.eqs.contains t then
   match getD X.ty t,HB cs ds with
   | some d,some r=>if Nat.beq cs.length d.size then (match op with | .eql=>K (.bool r) | .neq=>K (.bool (!r)) | _=>none) else none
   | _,_=>none
  else none
 | _,_=>none
def tMk (g:Bool) (cs:Option (List SV)) (K:SV->Option α):Option α :=
 match cs with
 | some cs=>(match mkT g cs with | some x=>Zg x K | none=>none)
 | none=>none
def A4L (t:TypeId) (v:SV) (hp:THp) (K:SV->Option α):Option α :=
 match getD X.ty t,v with
 | some d,.ir ty a c=>tMk d.agg (A2f (A1u ty a) c d.size) K
 | some d,.rf id r c =>
  match AQ hp id with
  | some (.box _ cs)=>(match r with | 0=>tMk d.agg (A2f cs c d.size) K | _=>none)
  | some (.arr _ deep ty l)=>if !deep || EZ ty then (AV l r).bind fun a=>tMk d.agg (A2f (A1u ty a) c d.size) K else none
  | some (.frz _ _ ty l)=>if EZ ty then (AV l r).bind fun a=>tMk d.agg (A2f (A1u ty a) c d.size) K else none
  | none=>none
 | _,_=>none
def Z8 (hp:THp):SV->Option (SV×List Nat×Bool)
 | .int k n=>some (.int k n,[],true)
 | .bool b=>some (.bool b,[],true)
 | .str s=>some (.str s,[],true)
 | .sc x=>some (.sc x,[],true)
 | .em=>some (.em,[],false)
 | .im t l=>some (.im t l,[],false)
 | .ow id =>
  match AQ hp id with
  | some (.arr _ deep t l)=>some (.im t l,[id],deep)
  | some (.frz _ _ t l)=>some (.im t l,[],false)
  | _=>none
 | .ar id lo n =>
  match AQ hp id with
  | some (.arr _ deep t l)=>some (.im t ((l.take (lo + n)).drop lo),[id],deep)
  | some (.frz _ _ t l)=>some (.im t ((l.take (lo + n)).drop lo),[],false)
  | _=>none
 | _=>none
def L1 (hp:THp):List SV->Option (List SV×List Nat×Bool)
 | []=>some ([],[],true)
 | x::l =>
  match Z8 hp x,L1 hp l with
  | some (y,a,d),some (ys,as,ds)=>some (y::ys,a++as,d&&ds)
  | _,_=>none
def Ba1 (t:TypeId) (a x:SV) (hp:THp) (K:SV->THp->Cls->Option α):Option α :=
 match getD X.ty t,a with
 | some d,.rf id r c =>
  if Nat.beq (Dw x).length d.size then
   match AQ hp id with
   | some (.box ty cs) =>
    match r with
    | 0=>if (Dw x).all okT then (match A6C cs c (Dw x) with | some cs=>K .any ((id,some (.box ty cs))::hp) .E | none=>none) else none
    | _=>none
   | some (.arr ty deep e l) =>
    (AV l r).bind fun y =>
    match L1 hp (Dw x) with
    | some (cs,kills,deep') =>
     if Er (id::kills) then
      match A6C (A1u e y) c cs with
      | some cs=>(match A9W e cs with | some z=>K .any ((id,some (.arr ty (deep&&deep') e (l.set r z)))::Ee hp kills) .E | none=>none)
      | none=>none
     else none
    | none=>none
   | _=>none
  else none
 | _,_=>none
def Ol (hp:THp) (tm:TTm) (e:Ty):Nat->List (Nat×Operand)->Option (List e.den×List Nat×Bool)
 | _,[]=>some ([],[],true)
 | n,(k,x)::l =>
  if Nat.beq k n&&Nat.beq (Dw (opT tm x)).length e.size then
   match L1 hp (Dw (opT tm x)),Ol hp tm e (n + 1) l with
   | some (cs,a,d),some (ys,as,ds)=>(match A9W e cs with | some y=>some (y::ys,a++as,d&&ds) | none=>none)
   | _,_=>none
  else none
def As1:SV->Bool
 | .int .. | .bool _ | .str _ | .sc _ | .em | .im .. => true
 | _=>false
def A4d (tm:TTm) (Ap:List (Nat×Operand)):Bool:=Ap.all fun p=>(Dw (opT tm p.2)).all As1
def A0N (t:TypeId) (len:Nat) (Ap:List (Nat×Operand)) (tm:TTm) (hp:THp) (b:Nat) (K:SV->THp->Cls->Option α):Option α :=
 match Yk X t with
 | some (e,de,c) =>
  match len,Ap with
  | 0,[]=>K .em hp .M
  | 0,_::_=>none
  | len + 1,Ap =>
   match Ol hp tm c 0 Ap with
   | some (l,kills,deep) =>
    if Nat.beq l.length (len + 1)&&Nat.ble ((len + 1)*de.size) 16777216&&Er kills&&HN tm hp b then
     K (.ow b) ((b,some (.arr e deep c l))::Ee hp kills) (A9z kills (A4d tm Ap))
    else none
   | none=>none
 | none=>none
def Bs2 (c:Ty) (x:SV) (hp:THp):Option (List c.den×List Nat×Bool) :=
 match x with
 | .ow id =>
  match AQ hp id with
  | some (.arr _ deep t l)=>if h:t=c then (if EZ c then some (JG h l,[],true) else some (JG h l,[id],deep)) else none
  | some (.frz _ _ t l)=>if h:t=c then some (JG h l,[],EZ c) else none
  | _=>none
 | .ar id lo n =>
  match AQ hp id with
  | some (.arr _ deep t l)=>if h:t=c then (if EZ c then some (((JG h l).take (lo + n)).drop lo,[],true) else some (((JG h l).take (lo + n)).drop lo,[id],deep)) else none
  | some (.frz _ _ t l)=>if h:t=c then some (((JG h l).take (lo + n)).drop lo,[],EZ c) else none
  | _=>none
 | v=>match asL c v with | some l=>some (l,[],EZ c) | none=>none
def Ct {β:Type} (bytes size:Nat) (l m:List β):Option (List β):=if (l.length + m.length)*bytes<=Ag/\(l.length + m.length)*size<=Ag then some (l++m) else none
def A4W (ts:List TypeId) (s x:SV) (tm:TTm) (hp:THp) (b:Nat) (K:SV->THp->Cls->Option α):Option α :=
 match ts with
 | [t,t'] =>
  if Nat.beq t' t then
   match Yk X t with
   | some (e,de,c) =>
    match Bs2 c x hp with
    | some (m,kills,deep) =>
     match s with
     | .em=>if Er kills&&HN tm hp b then cond (AD1 m.length de.bytes de.size) (K (.ow b) ((b,some (.arr e deep c m))::Ee hp kills) (match kills with | []=>.M | _=>.E)) none else none
     | .ow id =>
      match AQ hp id with
      | some (.arr ty d0 t0 l) =>
       if h:t0=c then
        if Nat.beq ty e&&Er (id::kills)&&HN tm hp b then
         (Ct de.bytes de.size (JG h l) m).bind fun r=>K (.ow b) ((b,some (.arr e (d0&&deep) c r))::Ee hp (id::kills)) .E
        else none
       else none
      | _=>none
     | .ar id 0 n =>
      match AQ hp id with
      | some (.arr ty d0 t0 l) =>
       if h:t0=c then
        if Nat.beq ty e&&Er (id::kills)&&HN tm hp b then
         cond (decide (n<=l.length)) ((Ct de.bytes de.size ((JG h l).take n) m).bind fun r=>K (.ow b) ((b,some (.arr e (d0&&deep) c r))::Ee hp (id::kills)) .E) none
        else none
       else none
      | _=>none
     | _=>none
    | none=>none
   | none=>none
  else none
 | _=>none
def AJ9 (tm:TTm) (lo hi:Option Operand) (len:Nat) (K:Nat->Nat->Option α):Option α :=
 match lo,hi with
 | none,none=>K 0 len
 | _,_ =>
  match At6 tm lo 0,At6 tm hi (len:Int) with
  | some l,some h=>(JL l h len).bind fun p=>K p.1 p.2
  | _,_=>none
def Bl6 (tm:TTm) (lo hi:Option Operand) (len:Nat) (A:Option α) (K:Nat->Nat->Option α):Option α :=
 match lo,hi with
 | none,none=>A
 | _,_=>AJ9 tm lo hi len K
def A9A (t:TypeId) (x:SV) (lo hi:Option Operand) (tm:TTm) (hp:THp) (K:SV->Option α):Option α :=
 match x with
 | .str s=>if N0 X t then AJ9 tm lo hi s.length fun l h=>K (.str ((s.take h).drop l)) else none
 | x =>
  match Yk X t with
  | some (e,de,c) =>
   match x with
   | .em=>AJ9 tm lo hi 0 fun _ _=>K .em
   | .im ty l=>if Nat.beq ty.size de.size then AJ9 tm lo hi l.length fun lo hi=>K (.im ty ((l.take hi).drop lo)) else none
   | .ow id =>
    match AQ hp id with
    | some (.arr _ _ ty l) | some (.frz _ _ ty l)=>if Nat.beq ty.size de.size then Bl6 tm lo hi l.length (K (.ow id)) fun l h=>K (.ar id l (h-l)) else none
    | _=>none
   | .ar id l0 n =>
    match AQ hp id with
    | some (.arr _ _ ty l) | some (.frz _ _ ty l)=>if Nat.beq ty.size de.size then AJ9 tm lo hi n fun l h=>K (.ar id (l0 + l) (h-l)) else none
    | _=>none
   | _=>none
  | none=>none
def Bv0 (t:TypeId) (x i:SV) (hp:THp) (K:SV->Cls->Option α):Option α :=
 match Yk X t with
 | some (_,de,_) =>
  match x,i with
  | .im ty l,.int _ n=>if Nat.beq ty.size de.size then (AP l n).bind fun a=>K (.ir ty a 0) .T else none
  | .ow id,.int _ n =>
   match AQ hp id with
   | some (.arr _ _ ty l) | some (.frz _ _ ty l)=>if Nat.beq ty.size de.size then (A2 n l.length).bind fun k=>K (.rf id k 0) .M else none
   | _=>none
  | .ar id lo len,.int _ n =>
   match AQ hp id with
   | some (.arr _ _ ty l) | some (.frz _ _ ty l)=>if Nat.beq ty.size de.size then (A2 n len).bind fun k=>K (.rf id (lo + k) 0) .M else none
   | _=>none
  | _,_=>none
 | none=>none
def Bm3 (t:TypeId) (same:Bool) (l c:SV) (tm:TTm) (hp:THp) (b:Nat) (K:SV->THp->Cls->Option α):Option α :=
 match Yk X t,l,c with
 | some (e,de,ty),.int _ n,.int _ m =>
  match A9W ty (de.zero.map Yu) with
  | some z =>
   if HN tm hp b&&de.zero.all E6 then
    cond same
     ((Sa m de.bytes de.size).bind fun k=>K (.ow b) ((b,some (.arr e true ty (List.replicate k z)))::hp) .M)
     ((Sa m de.bytes de.size).bind fun _=>cond (decide (0<=n)&&decide (n<=m)) (K (.ow b) ((b,some (.arr e true ty (List.replicate n.toNat z)))::hp) .M) none)
   else none
  | none=>none
 | _,_,_=>none
def A1f (t:TypeId):Bool:=match getD X.ty t with | some d=>d.elem.isSome | none=>false
def U9 (t:TypeId):Bool:=match getD X.ty t with | some d=>(match d.elem with | some e=>(match getD X.ty e with | some de=>de.int==some .u8 | none=>false) | none=>false) | none=>false
def Bm8 (s d:TypeId) (x:SV) (hp:THp) (K:SV->Cls->Option α):Option α :=
 match x with
 | .int _ n=>(match getD X.ty s,getD X.ty d with | some _,some dd=>(match dd.int with | some k=>K (.int k (k.wrap n)) .T | none=>none) | _,_=>none)
 | .str v =>
  if N0 X s then
   if U9 X d then cond (decide (v.length<=Ag)) (K (.im (.int .u8) (AV2 v)) .M) none
   else if N0 X d then K (.str v) .T else none
  else none
 | x =>
  if U9 X s&&N0 X d then
   match Hx hp (.int .u8) x with
   | some l=>K (.str (Mc l)) .M
   | none=>none
  else none
def Bs9 (t:TypeId) (x:SV) (hp:THp) (K:SV->Option α):Option α :=
 match x with
 | .str s=>if N0 X t && !A1f X t then K (.int .i64 (s.length:Int)) else none
 | x =>
  if A1f X t then
   match x with
   | .em=>K (.int .i64 0)
   | .im _ l=>K (.int .i64 (l.length:Int))
   | .ow id =>
    match AQ hp id with
    | some (.arr _ _ _ l) | some (.frz _ _ _ l)=>K (.int .i64 (l.length:Int))
    | _=>none
   | .ar _ _ n=>K (.int .i64 (n:Int))
   | _=>none
  else none
def ZX (mx:Bool) (xs:List SV) (K:SV->Option α):Option α :=
 match R1 xs with
 | some (k,ns)=>K (.int k (if mx then Ba2 ns else Bt7 ns))
 | none=>none
def Aa5:SV->List Nat
 | .ow id=>[id]
 | .ar id _ _=>[id]
 | _=>[]
def AJ8:SV->List Nat
 | .agg cs=>cs.flatMap Aa5
 | .cl _ cs=>cs.flatMap Aa5
 | x=>Aa5 x
def EW (hp:THp):AC->SV->Option SV
 | .im t,v=>match Hx hp t v with | some l=>some (.im t l) | none=>none
 | .int _,.int k n=>some (.int k n)
 | .bool,.bool b=>some (.bool b)
 | .str,.str s=>some (.str s)
 | _,_=>none
def Vx (hp:THp):List AC->List SV->Option (List SV)
 | [],[]=>some []
 | c::cs,v::vs=>(match EW hp c v with | some x=>(match Vx hp cs vs with | some y=>some (x::y) | none=>none) | none=>none)
 | _,_=>none
def K3 (hp:THp):AS->SV->Option SV
 | .cell c,v=>EW hp c v
 | .agg cs,.agg vs=>(match Vx hp cs vs with | some l=>some (.agg l) | none=>none)
 | .ref _ true,.rf id r c=>some (.rf id r c)
 | .clo _,.cl g []=>some (.cl g [])
 | _,_=>none
def MD:List AS->List SV->List Nat
 | a::l,v::vs=>(cond (AO6 a) [] (AJ8 v))++MD l vs
 | _,_=>[]
def WU (hp:THp):List AS->List SV->Option (List SV)
 | [],[]=>some []
 | a::l,v::vs=>(match (cond (AO6 a) (cond (FJ v) (some v) none) (K3 hp a v)) with | some x=>(match WU hp l vs with | some y=>some (x::y) | none=>none) | none=>none)
 | _,_=>none
def Aq2:SV->Bool
 | .int .. | .bool _ | .str _ | .sc _ | .ow _ | .ar .. | .rf .. => true
 | .cl _ []=>true
 | _=>false
def AV8:SV->Bool
 | .agg cs=>cs.all Aq2
 | x=>Aq2 x
def A8w:TB->Bool
 | .box _ cs=>cs.all Aq2
 | .arr _ deep _ _=>deep
 | .frz .. => false
def ddN:List Nat->List Nat->List Nat
 | acc,[]=>acc
 | acc,id::l=>cond (A5U id acc) (ddN acc l) (ddN (acc ++ [id]) l)
def Ur (order:List Nat) (e n b j:Nat):Option Nat:=cond (Nat.blt j e) order[j]? (cond (Nat.blt j n) (some (b + (j-e))) none)
def A9p (vs:List SV):SV:=match vs with | [v]=>v | vs=>.tup vs
def A2j (hp out:THp):List Nat->Option α->Option α
 | [],A=>A
 | id::l,A =>
  match AQ out id,AQ hp id with
  | some (.arr _ _ _ l'),some (.arr _ _ _ l0)=>cond (decide (l'.length=l0.length)) (A2j hp out l A) none
  | some (.box _ _),some (.box _ _)=>A2j hp out l A
  | _,_=>none
def A99:Nat×Option TB->Bool
 | (_,some k)=>A8w k
 | (_,none)=>false
def AR8 (vs:List SV) (bs:THp):Bool:=vs.all AV8&&bs.all A99
def Bt1 (o:List Nat) (c:Bool) (A B C D:Option α):Option α :=
 match o,c with
 | [],true=>A
 | [],false=>B
 | _::_,true=>C
 | _::_,false=>D
def Vn:Nat->List SV->TTm
 | _,[]=>[]
 | n,x::l=>(n,x)::Vn (n + 1) l
def EA (f:Nat->Option Nat):THp->THp
 | []=>[]
 | (k,b)::l=>match f k with | some i=>(i,match b with | some b=>some (Ae7 f b) | none=>none)::EA f l | none=>EA f l
def A8s (g:FuncId) (args:List SV) (tm:TTm) (hp:THp) (b:Nat) (K:SV->THp->Cls->Option α):Option α :=
 match AH5 X.ents g with
 | some E =>
  match WU hp (HX E.a.params) args with
  | some args' =>
   match HA hp 64 (args'.flatMap rf1) [] with
   | some o =>
    match HV E.a.e E.a.params { tm:=Vn 0 (args'.map (B6 (Eo o))),hp:=G9 hp (Eo o) 0 o,c:=1 } with
    | some x =>
     if args'.all FJ&&(args'.map (B6 (Eo o))).all FJ&&A3R (ddN [] ((args'.map (B6 (Eo o))).flatMap rf1)) (List.range E.a.e)&&A3R (o.take E.a.e) (ddN [] (args'.flatMap rf1))&&Nat.beq (ddN [] (args'.flatMap rf1)).length E.a.e&&Nat.ble o.length 16&&WL tm hp b&&Nat.beq (Ir E.a.params).length args'.length&&o.all (fun id=>Nat.blt id b&&A5B id (MD (HX E.a.params) args)) then
      (E.F x).bind fun y =>
       let r:=BK 0 E.a.res y
       let f:=Ur o E.a.e r.2.length b
       if Nat.ble E.a.e r.2.length&&Nat.ble r.2.length (E.a.e + 16) then
        A2j hp (EA f r.2) (o.take E.a.e) (Zg (A9p (r.1.map fun p=>B6 f p.2)) fun v =>
         Bt1 o ((MD (HX E.a.params) args).isEmpty || AR8 (r.1.map (·.2)) r.2)
          (K v (EA f r.2++hp) .M)
          (K v (EA f r.2++E7 hp (MD (HX E.a.params) args)) .E)
          (K v (EA f r.2++Ee hp (o.drop E.a.e)) .E)
          (K v (EA f r.2++Ee (E7 hp (MD (HX E.a.params) args)) (o.drop E.a.e)) .E))
       else none
     else none
    | none=>none
   | none=>none
  | none=>none
 | none=>none
def A3P:Operand->Operand->Bool
 | .tmp a,.tmp b=>Nat.beq a b
 | _,_=>false
def erC (b:BinOp) (y:Operand):Option Bool :=
 match b,y with
 | .eql,.const .nilIface=>some true
 | .neq,.const .nilIface=>some false
 | _,_=>none
def BU (op:Op) (b:Nat) (tm:TTm) (hp:THp) (K:SV->THp->Cls->Option α):Option α :=
 match op with
 | .store t a x=>Ba1 X t (opT tm a) (opT tm x) hp K
 | .buildSlice t len Ap=>A0N X t len Ap.toList tm hp b K
 | .slice t x lo hi none=>A9A X t (opT tm x) lo hi tm hp fun v=>K v hp .M
 | .move x | .assign x=>Zg (opT tm x) fun v=>K v hp .T
 | .pick c x y=>(match opT tm c with | .bool t=>cond t (Zg (opT tm x) fun v=>K v hp .T) (Zg (opT tm y) fun v=>K v hp .T) | _=>none)
 | .build t Ap=>(match getD X.ty t with | some d=>if d.agg && !d.flds.isEmpty then A5o d.flds tm (d.zero.map Yu) Ap.toList fun cs=>K (.agg cs) hp .T else none | none=>none)
 | .nilCheck x=>(match opT tm x with | .rf id r c=>K (.rf id r c) hp .T | .ir t a c=>K (.ir t a c) hp .T | .cl f caps=>K (.cl f caps) hp .T | _=>none)
 | .binOp op t x y _ =>
  (match Bp1 op y with
  | true=>(match getD X.ty t,opT tm x with | some d,.im _ l=>(match d.elem with | some _=>(neL l).bind fun _=>K (.bool false) hp .T | none=>none) | _,_=>none)
  | false=>(match erC op y with
   | some s=>(match opT tm x with
    | .er e=>cond (A40 X t) (K (.bool (cond s (!e) e)) hp .T) none
    | _=>Bc9 X op t (opT tm x) (opT tm y) fun v=>K v hp .T)
   | none=>Bc9 X op t (opT tm x) (opT tm y) fun v=>K v hp .T))
 | .unOp u _ x=>tUn u (opT tm x) fun v=>K v hp .T
 | .convert s d x=>Bm8 X s d (opT tm x) hp fun v c=>K v hp c
 | .field t x k =>
  match opT tm x,getD X.ty t with
  | .agg cs,some d=>(match d.flds[k]? with | some f=>tMk f.agg (A2f cs f.off f.size) fun v=>K v hp .T | none=>none)
  | _,_=>none
 | .fieldAddr t x k =>
  match getD X.ty t with
  | some d =>
   match d.flds[k]?,opT tm x with
   | some f,.rf id r c=>K (.rf id r (c + f.off)) hp .T
   | some f,.ir t a c=>K (.ir t a (c + f.off)) hp .T
   | _,_=>none
  | none=>none
 | .index t x i =>
  match N0 X t,opT tm x,opT tm i with
  | true,.str s,.int _ n=>(AP s n).bind fun c=>K (.int .u8 (c.toNat:Int)) hp .T
  | _,_,_=>none
 | .indexAddr t x i=>Bv0 X t (opT tm x) (opT tm i) hp fun v c=>K v hp c
 | .slice t x lo (some hi) (some mx) =>
  match Yk X t,opT tm x with
  | some (_,_,_),.im _ l =>
   match At6 tm lo 0,At6 tm (some hi) 0,At6 tm (some mx) 0 with
   | some lo,some hi,some mx=>cond (decide (lo=0/\hi=0/\mx=0)) (K .em hp .T) none
   | _,_,_=>none
  | _,_=>none
 | .extract x k=>(match opT tm x with | .tup vs=>(match vs[k]? with | some v=>Zg v fun v=>K v hp .T | none=>none) | _=>none)
 | .makeFunc (.func f) first caps=>if first.isEmpty&&(caps.toList.map (opT tm)).all okT then K (.cl f (caps.toList.map (opT tm))) hp .T else none
 | .call { callee:=.builtin .append,args,argTypes }=>(match args.toList with | [s,x]=>A4W X argTypes.toList (opT tm s) (opT tm x) tm hp b K | _=>none)
 | .call { callee:=.builtin .len,args,argTypes }=>(match args.toList,argTypes.toList with | [x],[t]=>Bs9 X t (opT tm x) hp fun v=>K v hp .T | _,_=>none)
 | .call { callee:=.builtin .min,args,.. }=>ZX false (args.toList.map (opT tm)) fun v=>K v hp .T
 | .call { callee:=.builtin .max,args,.. }=>ZX true (args.toList.map (opT tm)) fun v=>K v hp .T
 | .call { callee:=.value f,args,.. }=>(match opT tm f with | .cl g caps=>A8s X g (args.toList.map (opT tm)++caps) tm hp b K | _=>none)
 | .alloc t=>(match getD X.ty t with | some d=>if HN tm hp b then K (.rf b 0 0) ((b,some (.box t (d.zero.map Yu)))::hp) .M else none | none=>none)
 | .box t x=>(match getD X.ty t with | some d=>if Nat.beq (Dw (opT tm x)).length d.size&&(Dw (opT tm x)).all okT&&HN tm hp b then K (.rf b 0 0) ((b,some (.box t (Dw (opT tm x))))::hp) .M else none | none=>none)
 | .load t a=>A4L X t (opT tm a) hp fun v=>K v hp .M
 | .makeSlice t l c=>Bm3 X t (A3P l c) (opT tm l) (opT tm c) tm hp b K
 | _=>none
def A7V (draw:Bool) (op:Op) (b:Nat) (tm:TTm) (hp:THp) (K:SV->THp->Cls->Option α):Option α :=
 match draw&&isR op with
 | true=>BU X op b tm (AZ6 b hp) fun x _ cls=>K x hp cls
 | false=>BU X op b tm hp K
def AQ2 (draw ok:Bool) (cls:Cls) (A:Option α):Option α :=
 match draw,cls with
 | true,.E=>cond ok A none
 | _,_=>A
def A2C (tm:TTm) (op:Op):Bool:=(op.operands.toList.map (opT tm)).all FJ
def A9d (tm:TTm) (op:Op):List Nat:=(op.operands.toList.map (opT tm)).flatMap rf1
def Us (op:Op) (tm:TTm) (hp:THp):Option (List Nat) :=
 match op with
 | .store _ a x=>if FJ (opT tm a)&&FJ (opT tm x) then some (rf1 (opT tm a)++rf1 (opT tm x)) else none
 | .call { callee:=.value f,args,.. } =>
  match opT tm f with
  | .cl g caps =>
   match AH5 X.ents g with
   | some E =>
    match WU hp (HX E.a.params) (args.toList.map (opT tm)++caps) with
    | some args'=>if args'.all FJ then (match HA hp 64 (args'.flatMap rf1) [] with | some o=>some (o++MD (HX E.a.params) (args.toList.map (opT tm)++caps)) | none=>none) else none
    | none=>none
   | none=>none
  | _=>none
 | .buildSlice _ (_ + 1) Ap=>if Ap.toList.all fun p=>FJ (opT tm p.2) then some (Ap.toList.flatMap fun p=>rf1 (opT tm p.2)) else none
 | _=>none
def A6t (ops:List Oper) (tm:TTm) (hp:THp) (i:Nat):Bool :=
 match ops[i]? with
 | some a=>!Hv ops a&&(match Us X a.op tm hp with
  | some ids=>(List.range ops.length).all fun j=>j==i || Fy ops i j || (match ops[j]? with
   | some o=>isT o.op || (isR o.op&&decide (j<i)&&A9m ops j i o&&(A2C tm o.op&&(A9d tm o.op).all fun id=>!ids.contains id))
   | none=>true)
  | none=>false)
 | none=>false
def Sm (tm:TTm) (dst:Option Tmp) (x:SV):TTm :=
 match dst with
 | some d=>(d,x)::tm
 | none=>tm
def UR (all:List Oper) (draw:Bool):List Oper->Nat->TSt->(TSt->Option α)->Option α
 | [],_,st,K=>K st
 | o::l,i,st,K =>
  match o.guard with
  | none =>
   A7V X draw o.op (16*(st.c + i)) st.tm st.hp fun x hp cls=>AQ2 draw (eOK all i || A6t X all st.tm st.hp i) cls (UR all draw l (i + 1) { tm:=Sm st.tm o.dst x,hp:=hp,c:=st.c } K)
  | some (j,want) =>
   match (all[j]?).bind (·.dst) with
   | some d =>
    match CK st.tm d with
    | .bool t =>
     let go (tm:TTm):Option α:=A7V X draw o.op (16*(st.c + i)) tm st.hp fun x hp cls=>AQ2 draw (eOK all i || A6t X all tm st.hp i) cls (UR all draw l (i + 1) { tm:=Sm tm o.dst x,hp:=hp,c:=st.c } K)
     let no (tm:TTm):Option α:=UR all draw l (i + 1) { tm:=Sm tm o.dst (.tup []),hp:=st.hp,c:=st.c } K
     match want with
     | true=>cond t (go ((d,.bool true)::st.tm)) (no ((d,.bool false)::st.tm))
     | false=>cond t (no ((d,.bool true)::st.tm)) (go ((d,.bool false)::st.tm))
    | .tup []=>UR all draw l (i + 1) { tm:=Sm st.tm o.dst (.tup []),hp:=st.hp,c:=st.c } K
    | _=>none
   | none=>none
end
@[reducible] def Bc0:List (Ex×List Item)->Type
 | []=>Empty
 | [a]=>Dp a.2
 | a::b::l=>Dp a.2 ⊕ Bc0 (b::l)
def A3n (e:Nat):(l:List (Ex×List Item))->Ex->TSt->Option (Bc0 l)
 | [],_,_=>none
 | [a],ex,st=>cond (AP3 a.1 ex) (HV e a.2 st) none
 | a::b::l,ex,st=>cond (AP3 a.1 ex) ((HV e a.2 st).map .inl) ((A3n e (b::l) ex st).map .inr)
def A9u {α:Type} (K:Ex->TSt->Option α):(l:List (Ex×List Item))->Bc0 l->Option α
 | []=>fun d=>nomatch d
 | [a]=>fun d=>K a.1 (LX a.2 d)
 | a::b::l=>fun d=>Sum.elim (fun d=>K a.1 (LX a.2 d)) (A9u K (b::l)) d
abbrev A9S (α:Type):=Ex->TSt->Option α
def TX.e (X:TX):Nat:=X.ann.e
noncomputable def wtC (X:TX):Code->{α:Type}->TSt->A9S α->Option α
 | .skip,_,st,Q=>Q .normal st
 | .region _ ops draw,_,st,Q=>UR X (reo draw ops.toList) draw (reo draw ops.toList) 0 st fun s=>Q .normal { s with c:=s.c + ops.size }
 | .seq a b,_,st,Q =>
  match Nj X.ann.joins (rid b) with
  | none=>wtC X a st fun ex s=>match ex with | .normal=>wtC X b s Q | ex=>Q ex s
  | some an =>
   (wtC X a (α:=_ ⊕ Dp an) st fun ex s=>match ex with | .normal=>(HV X.e an s).map .inr | ex=>(Q ex s).map .inl).bind fun z=>Sum.elim some (fun d=>wtC X b (LX an d) Q) z
 | .cond c x y,_,st,Q =>
  match opT st.tm c with
  | .bool t=>cond t (wtC X x st Q) (wtC X y st Q)
  | _=>none
 | .block id c,_,st,Q=>wtC X c st fun ex s=>match ex with | .exit j=>cond (Nat.beq j id) (Q .normal s) (Q (.exit j) s) | ex=>Q ex s
 | .loop c,_,st,Q =>
  match Nj X.ann.heads (rid c),Nj X.ann.outs (rid c) with
  | some an,some outs =>
   (HV X.e an st).bind fun d0 =>
   (Ah (fun d=>wtC X c (LX an d) fun ex s=>match ex with | .normal=>(HV X.e an s).map .inl | ex=>(A3n X.e outs ex s).map .inr) d0).bind fun z=>A9u Q outs z
  | _,_=>none
 | .exit id,_,st,Q=>Q (.exit id) st
 | .ret,_,st,Q=>Q .ret st
 | _,_,_,_=>none
def A4b {α:Type} (X:TX) (tm:TTm) (hp:THp):List ResultVar->(List SV->Option α)->Option α
 | [],K=>K []
 | .tmp t::l,K=>A4b X tm hp l fun xs=>K (CK tm t::xs)
 | .cell a t::l,K=>A4L X t (CK tm a) hp fun x=>A4b X tm hp l fun xs=>K (x::xs)
def tnR:List TMs->List SV->THp->Nat->Option (List SV×THp)
 | [],[],hp,_=>some ([],hp)
 | m::ms,x::xs,hp,c =>
  match tnV m x hp (16*c) with
  | some (y,hp1,n)=>if Nat.ble n 16 then (match tnR ms xs hp1 (c + 1) with | some (ys,hp2)=>some (y::ys,hp2) | none=>none) else none
  | none=>none
 | _,_,_,_=>none
def A8c (rts:List (Nat×TMs)) (hp:THp):Bool:=rts.all fun p=>Nat.blt p.1 16&&(match AQ hp p.1 with | some (.box _ _)=>true | _=>false)
def Bf2 (res:List Item) (e:Nat) (s:TSt) (xs:List SV):Option (Dp res) :=
 let rts:=At9 (DQ res) e 0 (DQ res)
 if A8c rts s.hp&&xs.all FJ&&WL (Vn 0 xs) s.hp (16*(s.c + 1)) then
  match tnR (rts.map (·.2)++(Me (DQ res) res).map (·.2)) (rts.map (fun p=>SV.rf p.1 0 0)++xs) s.hp (s.c + 1) with
  | some (ys,hp) =>
   let zs:=ys.drop rts.length
   if zs.all FJ then
    match HA hp 64 (List.range e++zs.flatMap rf1) [] with
    | some o=>if A3R (o.take e) (List.range e) then rdI 0 res (Vn 0 (zs.map (B6 (Eo o)))) (G9 hp (Eo o) 0 o) else none
    | none=>none
   else none
  | none=>none
 else none
noncomputable def wtF (X:TX) (fn:Func) (x:Dp X.ann.params):Option (Dp X.ann.res) :=
 match fn.body with
 | some c=>wtC X c (LX X.ann.params x) fun ex s =>
  match ex with
  | .exit _=>none
  | _=>A4b X s.tm s.hp fn.results.toList fun xs=>Bf2 X.ann.res X.e s xs
 | none=>none
end
section
open Go
def RLx {α:Type} (R : α->List V->Prop) (l:List α) (rows:List (List V)):Prop :=
 rows.length=l.length/\∀ (i:Nat) (a : α) (r:List V),l[i]? = some a->rows[i]? = some r->R a r
section
variable {α:Type} {R : α->List V->Prop} {l m:List α} {rows rs:List (List V)}
theorem RLx.nil:RLx R ([]:List α) []:=⟨rfl,fun i a r h=>by simp at h⟩
theorem RLx.of_nil (h:RLx R ([]:List α) rows):rows = []:=zb4 h.1
theorem RLx.get (h:RLx R l rows) {i:Nat} {a : α} (hi:l[i]? = some a):∃ r,rows[i]? = some r/\R a r:=by
 have hlt:i<rows.length:=by rw[h.1]; exact (za3.1 hi).1
 exact ⟨rows[i],za1 hlt,h.2 i a _ hi (za1 hlt)⟩
theorem RLx.get' (h:RLx R l rows) {i:Nat} {r:List V} (hi:rows[i]? = some r):∃ a,l[i]? = some a/\R a r:=by
 have hlt:i<l.length:=by rw[<-h.1]; exact (za3.1 hi).1
 exact ⟨l[i],za1 hlt,h.2 i _ r (za1 hlt) hi⟩
theorem RLx.mono {R' : α->List V->Prop} (h:RLx R l rows) (hm:∀ a r,R a r->R' a r):RLx R' l rows:=⟨h.1,fun i a r h1 h2=>hm a r (h.2 i a r h1 h2)⟩
theorem RLx.set (h:RLx R l rows) (k:Nat) {z : α} {r:List V} (hz:R z r):RLx R (l.set k z) (rows.set k r):=by
 refine ⟨by simp[h.1],fun i a q h1 h2=>?_⟩
 rw[List.getElem?_set] at h1 h2;by_cases hk:k=i
 ·subst hk;rw[if_pos rfl] at h1 h2
  split at h1
  ·split at h2
   ·cases h1; cases h2; exact hz
   ·cases h2
  ·cases h1
 ·rw[if_neg hk] at h1 h2;exact h.2 i a q h1 h2
theorem RLx.append (h:RLx R l rows) (k:RLx R m rs):RLx R (l++m) (rows++rs):=by
 refine ⟨by simp[h.1,k.1],fun i a q h1 h2=>?_⟩
 rw[List.getElem?_append] at h1 h2;rw[h.1] at h2
 split at h1
 ·rename_i hi; rw[if_pos hi] at h2; exact h.2 i a q h1 h2
 ·rename_i hi; rw[if_neg hi] at h2; exact k.2 _ a q h1 h2
theorem RLx.take (h:RLx R l rows) (n:Nat):RLx R (l.take n) (rows.take n):=by
 refine ⟨by simp[h.1],fun i a q h1 h2=>?_⟩
 rw[zc0] at h1 h2
 split at h1
 ·rename_i hi; rw[if_pos hi] at h2; exact h.2 i a q h1 h2
 ·cases h1
theorem RLx.drop (h:RLx R l rows) (n:Nat):RLx R (l.drop n) (rows.drop n):=by
 refine ⟨by simp[h.1],fun i a q h1 h2=>?_⟩
 rw[zd3] at h1 h2;exact h.2 _ a q h1 h2
theorem RLx.replicate {z : α} {r:List V} (h:R z r) (n:Nat):RLx R (List.replicate n z) (List.replicate n r):=by
 refine ⟨by simp,fun i a q h1 h2=>?_⟩
 rw[List.getElem?_replicate] at h1 h2
 split at h1
 ·rename_i hi; rw[if_pos hi] at h2; cases h1; cases h2; exact h
 ·cases h1
theorem RLx.cons {a : α} {r:List V} (h:R a r) (k:RLx R l rows):RLx R (a::l) (r::rows):=by
 refine ⟨by simp[k.1],fun i a' q h1 h2=>?_⟩
 cases i with
 | zero=>simp at h1 h2; subst h1; subst h2; exact h
 | succ i=>exact k.2 i a' q (by simpa using h1) (by simpa using h2)
end
def RE:(t:Ty)->t.den->List V->Prop
 | .int k,n,row=>row = [.v (.int k n)]
 | .bool,b,row=>row = [.v (.bool b)]
 | .str,s,row=>row = [.v (.string ⟨s.toArray⟩)]
 | .pair a b,x,row=>∃ r1 r2,row=r1++r2/\RE a x.1 r1/\RE b x.2 r2
 | .sl e,l,row=>(l = []/\row = [.em])\/∃ rows,row = [.im rows]/\RLx (RE e) l rows
theorem RE.len:∀ {t:Ty} {a:t.den} {row:List V},RE t a row->row.length=t.size
 | .int _,_,_,h=>by simp only[RE] at h; subst h; rfl
 | .bool,_,_,h=>by simp only[RE] at h; subst h; rfl
 | .str,_,_,h=>by simp only[RE] at h; subst h; rfl
 | .pair a b,x,_,h=>by
  obtain ⟨r1,r2,rfl,h1,h2⟩:=h;simp[Ty.size,h1.len,h2.len]
 | .sl e,_,_,h=>by
  rcases h with ⟨_,rfl⟩ | ⟨rows,rfl,_⟩ <;> rfl
def FY:TB->Option Nat
 | .box _ _=>none
 | .arr _ _ _ l=>some l.length
 | .frz _ _ _ l=>some l.length
def RV0 (hp:THp):SV->V->Prop
 | .int k n,y=>y = .v (.int k n)
 | .bool b,y=>y = .v (.bool b)
 | .str s,y=>y = .v (.string ⟨s.toArray⟩)
 | .sc x,y=>y = .v x
 | .er b,y=>y = .er b
 | .em,y=>y = .em
 | .im t l,y=>(l = []/\y = .em)\/∃ rows,y = .im rows/\RLx (RE t) l rows
 | .ow id,y=>∃ n,y = .ar id 0 n/\∀ b,AQ hp id=some b->FY b=some n
 | .ar id lo n,y=>y = .ar id lo n
 | .rf id r c,y=>y = .rf id r c
 | .ir t a c,y=>∃ row,y = .ir row c/\RE t a row
 | .cl f [],y=>y = .cl f []
 | .any,_=>True
 | _,_=>False
def RC (R:SV->V->Prop):List SV->List V->Prop
 | [],[]=>True
 | x::xs,y::ys=>R x y/\RC R xs ys
 | _,_=>False
def RV1 (hp:THp):SV->V->Prop
 | .agg cs,y=>∃ us,y = .agg us/\RC (RV0 hp) cs us
 | .cl f caps,y=>∃ us,y = .cl f us/\RC (RV0 hp) caps us
 | x,y=>RV0 hp x y
def RV2 (hp:THp):SV->V->Prop
 | .tup vs,y=>∃ us,y = .tup us/\RC (RV1 hp) vs us
 | x,y=>RV1 hp x y
section
variable {R R':SV->V->Prop}
theorem RC.length:∀ {xs:List SV} {ys:List V},RC R xs ys->ys.length=xs.length
 | [],[],_=>rfl
 | _::xs,_::ys,h=>by simp[RC.length (xs:=xs) (ys:=ys) h.2]
 | [],_::_,h=>h.elim
 | _::_,[],h=>h.elim
theorem RC.mono:∀ {xs:List SV} {ys:List V},RC R xs ys->(∀ x∈xs,∀ y,R x y->R' x y)->RC R' xs ys
 | [],[],_,_=>trivial
 | x::xs,y::ys,h,hm=>⟨hm x (by simp) y h.1,RC.mono h.2 fun x hx=>hm x (by simp[hx])⟩
 | [],_::_,h,_=>h.elim
 | _::_,[],h,_=>h.elim
theorem RC.append:∀ {xs xs':List SV} {ys ys':List V},RC R xs ys->RC R xs' ys'->RC R (xs++xs') (ys++ys')
 | [],_,[],_,_,h=>h
 | _::xs,_,_::ys,_,h,h'=>⟨h.1,RC.append h.2 h'⟩
 | [],_,_::_,_,h,_=>h.elim
 | _::_,_,[],_,h,_=>h.elim
theorem RC.take:∀ {xs:List SV} {ys:List V} (n:Nat),RC R xs ys->RC R (xs.take n) (ys.take n)
 | [],[],n,_=>by simp[RC]
 | a::xs,b::ys,0,_=>by simp[RC]
 | a::xs,b::ys,n + 1,h=>⟨h.1,RC.take n h.2⟩
 | [],_::_,_,h=>h.elim
 | _::_,[],_,h=>h.elim
theorem RC.drop:∀ {xs:List SV} {ys:List V} (n:Nat),RC R xs ys->RC R (xs.drop n) (ys.drop n)
 | [],[],n,_=>by simp[RC]
 | a::xs,b::ys,0,h=>h
 | a::xs,b::ys,n + 1,h=>by simpa using RC.drop n h.2
 | [],_::_,_,h=>h.elim
 | _::_,[],_,h=>h.elim
theorem RC.get:∀ {xs:List SV} {ys:List V},RC R xs ys->∀ {j:Nat} {x:SV},xs[j]? = some x->∃ y,ys[j]? = some y/\R x y
 | [],[],_,j,x,h=>by simp at h
 | a::xs,b::ys,h,0,x,hx=>by simp at hx; subst hx; exact ⟨b,by simp,h.1⟩
 | a::xs,b::ys,h,j + 1,x,hx=>by simpa using RC.get h.2 (by simpa using hx)
 | [],_::_,h,_,_,_=>h.elim
 | _::_,[],h,_,_,_=>h.elim
theorem RC.map {α:Type} {f : α->SV} {g : α->V}:∀ {l:List α},(∀ x∈l,R (f x) (g x))->RC R (l.map f) (l.map g)
 | [],_=>trivial
 | x::l,h=>⟨h x (by simp),RC.map fun y hy=>h y (by simp[hy])⟩
end
theorem RC.seg {hp:THp} {cs l:List SV} {us:List V} {off n:Nat} (h:A2f cs off n=some l) (hr:RC (RV0 hp) cs us):∃ vs,seg us off n=some vs/\RC (RV0 hp) l vs:=by
 unfold A2f at h
 split at h
 ·rename_i hn;cases h
  refine ⟨_,by unfold Ev.seg; rw[if_pos (by rw[hr.length]; exact hn)],(hr.drop off).take n⟩
 ·cases h
theorem RC.put {hp:THp} {cs cs' new:List SV} {us vs:List V} {off:Nat} (h:A6C cs off new=some cs') (hr:RC (RV0 hp) cs us) (hn:RC (RV0 hp) new vs):∃ us',Ht us off vs=some us'/\RC (RV0 hp) cs' us':=by
 unfold A6C at h
 split at h
 ·rename_i hl;cases h
  have h1:=hr.length;have h2:=hn.length;refine ⟨_,by unfold Ht; rw[if_pos (by omega)],?_⟩
  rw[h2];exact ((hr.take off).append hn).append (hr.drop _)
 ·cases h
theorem RV0.to1 {hp:THp}:∀ {x:SV} {y:V},RV0 hp x y->RV1 hp x y
 | .cl f [],y,h=>⟨[],h,trivial⟩
 | .cl _ (_::_),_,h=>h.elim
 | .agg _,_,h=>h.elim
 | .tup _,_,h=>h
 | .int ..,_,h | .bool _,_,h | .str _,_,h | .sc _,_,h | .er _,_,h | .em,_,h | .im ..,_,h | .ow _,_,h | .ar ..,_,h | .rf ..,_,h | .ir ..,_,h | .any,_,h=>h
theorem RV1.to2 {hp:THp}:∀ {x:SV} {y:V},RV1 hp x y->RV2 hp x y
 | .tup _,_,h=>False.elim h
 | .cl ..,_,h | .agg _,_,h | .int ..,_,h | .bool _,_,h | .str _,_,h | .sc _,_,h | .er _,_,h | .em,_,h | .im ..,_,h | .ow _,_,h | .ar ..,_,h | .rf ..,_,h | .ir ..,_,h | .any,_,h=>h
def CY (hp hp':THp) (id:Nat):Prop:=∀ b',AQ hp' id=some b'->∃ b,AQ hp id=some b/\FY b=FY b'
theorem CY.refl (hp:THp) (id:Nat):CY hp hp id:=fun b h=>⟨b,h,rfl⟩
theorem CY.trans {a b c:THp} {id:Nat} (h:CY a b id) (k:CY b c id):CY a c id:=fun x hx=>by
 obtain ⟨y,hy,e⟩:=k x hx;obtain ⟨z,hz,e'⟩:=h y hy;exact ⟨z,hz,e'.trans e⟩
theorem RV0.keeps {hp hp':THp}:∀ {x:SV} {y:V},RV0 hp x y->(∀ id∈FV x,CY hp hp' id)->RV0 hp' x y
 | .ow id,y,⟨n,hy,h⟩,hk=>⟨n,hy,fun b hb=>by
   obtain ⟨b0,h0,e⟩:=hk id (by simp[FV]) b hb;rw[<-e]; exact h b0 h0⟩
 | .cl _ [],_,h,_=>h
 | .cl _ (_::_),_,h,_=>h.elim
 | .int ..,_,h,_ | .bool _,_,h,_ | .str _,_,h,_ | .sc _,_,h,_ | .er _,_,h,_ | .em,_,h,_ | .im ..,_,h,_ | .ar ..,_,h,_ | .rf ..,_,h,_ | .ir ..,_,h,_ | .any,_,h,_=>h
 | .agg _,_,h,_=>h.elim
 | .tup _,_,h,_=>h.elim
theorem RV1.keeps {hp hp':THp} {x:SV} {y:V} (h:RV1 hp x y) (hk:∀ id∈Aw2 x,CY hp hp' id):RV1 hp' x y:=by
 have key:∀ {cs:List SV} {us:List V},(∀ id∈cs.flatMap FV,CY hp hp' id)->RC (RV0 hp) cs us->RC (RV0 hp') cs us:=fun hk h =>
  h.mono fun x hx y hxy=>hxy.keeps fun id hid=>hk id (zb1.2 ⟨x,hx,hid⟩)
 cases x with
 | agg cs=>obtain ⟨us,rfl,h⟩:=h; exact ⟨us,rfl,key hk h⟩
 | cl f cs=>obtain ⟨us,rfl,h⟩:=h; exact ⟨us,rfl,key hk h⟩
 | int k n=>exact RV0.keeps (x:=.int k n) h hk
 | bool b=>exact RV0.keeps (x:=.bool b) h hk
 | str s=>exact RV0.keeps (x:=.str s) h hk
 | sc v=>exact RV0.keeps (x:=.sc v) h hk
 | em=>exact RV0.keeps (x:=.em) h hk
 | er e=>exact RV0.keeps (x:=.er e) h hk
 | im t l=>exact RV0.keeps (x:=.im t l) h hk
 | ow id=>exact RV0.keeps (x:=.ow id) h hk
 | ar a b c=>exact RV0.keeps (x:=.ar a b c) h hk
 | rf a b c=>exact RV0.keeps (x:=.rf a b c) h hk
 | ir a b c=>exact RV0.keeps (x:=.ir a b c) h hk
 | tup l=>exact h.elim
 | any=>trivial
theorem RV2.keeps {hp hp':THp} {x:SV} {y:V} (h:RV2 hp x y) (hk:∀ id∈HL x,CY hp hp' id):RV2 hp' x y:=by
 cases x with
 | tup vs=>obtain ⟨us,rfl,h⟩:=h; exact ⟨us,rfl,h.mono fun x hx y hxy=>hxy.keeps fun id hid=>hk id (zb1.2 ⟨x,hx,hid⟩)⟩
 | agg cs=>exact RV1.keeps (x:=.agg cs) h hk
 | cl f cs=>exact RV1.keeps (x:=.cl f cs) h hk
 | int k n=>exact RV1.keeps (x:=.int k n) h hk
 | bool b=>exact RV1.keeps (x:=.bool b) h hk
 | str s=>exact RV1.keeps (x:=.str s) h hk
 | sc v=>exact RV1.keeps (x:=.sc v) h hk
 | em=>exact RV1.keeps (x:=.em) h hk
 | er e=>exact RV1.keeps (x:=.er e) h hk
 | im t l=>exact RV1.keeps (x:=.im t l) h hk
 | ow id=>exact RV1.keeps (x:=.ow id) h hk
 | ar a b c=>exact RV1.keeps (x:=.ar a b c) h hk
 | rf a b c=>exact RV1.keeps (x:=.rf a b c) h hk
 | ir a b c=>exact RV1.keeps (x:=.ir a b c) h hk
 | any=>trivial
def RB (hp:THp):TB->Blk->Prop
 | .box ty cs,k=>k.kind = .box/\k.ty=ty/\∃ row,k.rows = [row]/\k.size=row.length/\RC (RV0 hp) cs row
 | .arr ty deep t l,k=>k.kind = .arr/\k.ty=ty/\k.deep=deep/\k.size=t.size/\RLx (RE t) l k.rows
 | .frz ty deep t l,k=>k.kind = .frz/\k.ty=ty/\k.deep=deep/\k.size=t.size/\RLx (RE t) l k.rows
theorem RB.keeps {hp hp':THp}:∀ {b:TB} {k:Blk},RB hp b k->(∀ id∈MC b,CY hp hp' id)->RB hp' b k
 | .box ty cs,k,⟨h1,h2,row,h3,h4,h5⟩,hk=>⟨h1,h2,row,h3,h4,h5.mono fun x hx y hxy=>hxy.keeps fun id hid=>hk id (zb1.2 ⟨x,hx,hid⟩)⟩
 | .arr ..,_,h,_=>h
 | .frz ..,_,h,_=>h
def RH (hp:THp) (h:Hp):Prop:=∀ id b,AQ hp id=some b->∃ k,h id=some k/\RB hp b k
def RT (hp:THp) (tm:TTm) (m:Tm):Prop:=∀ t,RV2 hp (CK tm t) (m t)
structure RS (st:TSt) (s:St):Prop where
 tm:RT st.hp st.tm s.tm
 hp:RH st.hp s.hp
 c:s.c=st.c
theorem AL (k:Nat) (x:Option TB) (l:THp) (i:Nat):AQ ((k,x)::l) i=if i=k then x else AQ l i:=by
 simp only[AQ];by_cases h:i=k
 ·subst h; simp
 ·rw[if_neg h];have:Nat.beq i k=false:=by cases hb:Nat.beq i k with | false=>rfl | true=>exact absurd (za6 hb) h
  rw[this]; rfl
theorem GV (k:Nat) (x:SV) (l:TTm) (i:Nat):CK ((k,x)::l) i=if i=k then x else CK l i:=by
 simp only[CK];by_cases h:i=k
 ·subst h; simp
 ·rw[if_neg h];have:Nat.beq i k=false:=by cases hb:Nat.beq i k with | false=>rfl | true=>exact absurd (za6 hb) h
  rw[this]; rfl
theorem A0R {tm:TTm} {t:Nat}:CK tm t = .any\/∃ x∈tm,x.2=CK tm t:=by
 induction tm with
 | nil=>exact .inl rfl
 | cons a l ih =>
  obtain ⟨k,x⟩:=a;rw[GV]
  split
  ·exact .inr ⟨(k,x),by simp,rfl⟩
  ·rcases ih with h | ⟨y,hy,h⟩
   ·exact .inl h
   ·exact .inr ⟨y,by simp[hy],h⟩
theorem A86 {hp:THp} {id:Nat} {b:TB} (h:AQ hp id=some b):∃ x∈hp,x.2=some b:=by
 induction hp with
 | nil=>cases h
 | cons a l ih =>
  obtain ⟨k,x⟩:=a;rw[AL] at h
  split at h
  ·exact ⟨(k,x),by simp,h⟩
  ·obtain ⟨y,hy,h⟩:=ih h;exact ⟨y,by simp[hy],h⟩
theorem Xu {b:Nat} {l:List Nat} (h:A5B b l=true):b ∉ l:=by
 intro hm;have:=za5.1 h b hm;simp at this
theorem Ll {tm:TTm} {hp:THp} {b:Nat} (h:HN tm hp b=true) (t:Nat):b ∉ HL (CK tm t):=by
 simp only[HN,za2] at h;rcases A0R (tm:=tm) (t:=t) with h' | ⟨x,hx,h'⟩
 ·rw[h']; simp[HL,Aw2,FV]
 ·rw[<-h']; exact Xu (za5.1 h.1 x hx)
theorem VD {tm:TTm} {hp:THp} {b:Nat} (h:HN tm hp b=true) {id:Nat} {k:TB} (hk:AQ hp id=some k):b ∉ MC k:=by
 simp only[HN,za2] at h;obtain ⟨x,hx,h'⟩:=A86 hk;have:=za5.1 h.2 x hx;rw[h'] at this;exact Xu this
theorem RT.keeps {hp hp':THp} {tm:TTm} {m:Tm} (h:RT hp tm m) (hk:∀ t,∀ id∈HL (CK tm t),CY hp hp' id):RT hp' tm m:=fun t=>(h t).keeps (hk t)
theorem M4 {hp:THp} {b:Nat} {x:Option TB} {id:Nat} (h:id≠b):CY hp ((b,x)::hp) id:=fun k hk=>by
 rw[AL,if_neg h] at hk;exact ⟨k,hk,rfl⟩
theorem Am3 {hp:THp} {b:Nat} {x y:TB} (hx:AQ hp b=some x) (hl:FY x=FY y) (id:Nat):CY hp ((b,some y)::hp) id:=fun k hk=>by
 rw[AL] at hk
 split at hk
 ·rename_i he; subst he; cases hk; exact ⟨x,hx,hl⟩
 ·exact ⟨k,hk,rfl⟩
theorem A3E {hp:THp} {b:Nat} (id:Nat):CY hp ((b,none)::hp) id:=fun k hk=>by
 rw[AL] at hk
 split at hk
 ·cases hk
 ·exact ⟨k,hk,rfl⟩
theorem Ij:∀ (l:List Nat) (hp:THp) (id:Nat),CY hp (Ee hp l) id
 | [],hp,id=>CY.refl hp id
 | b::l,hp,id=>(A3E id).trans (Ij l _ id)
theorem UK:∀ (l:List Nat) (hp:THp) (id:Nat) (b:TB),AQ (Ee hp l) id=some b->AQ hp id=some b/\id ∉ l
 | [],_,_,_,h=>⟨h,by simp⟩
 | x::l,hp,id,b,h=>by
  obtain ⟨h1,h2⟩:=UK l _ id b h;rw[AL] at h1
  split at h1
  ·cases h1
  ·rename_i hne;exact ⟨h1,by simp[hne,h2]⟩
theorem RH.kill {hp:THp} {h:Hp} (hr:RH hp h) (l:List Nat):RH (Ee hp l) (Ev.kill h l):=fun id b hb=>by
 obtain ⟨h1,h2⟩:=UK l hp id b hb;obtain ⟨k,hk,hrb⟩:=hr id b h1;exact ⟨k,by rw[Lh l h id h2]; exact hk,hrb.keeps fun i _=>Ij l hp i⟩
theorem RH.put {hp:THp} {h:Hp} (hr:RH hp h) {b:Nat} {x:TB} {k:Blk} (hk:∀ id∈MC x,CY hp ((b,some x)::hp) id) (hold:∀ id y,id≠b->AQ hp id=some y->∀ i∈MC y,CY hp ((b,some x)::hp) i) (hx:RB hp x k):RH ((b,some x)::hp) (upd h b (some k)):=fun id y hy=>by
 rw[AL] at hy
 split at hy
 ·rename_i he;subst he;cases hy
  exact ⟨k,by simp[upd],hx.keeps hk⟩
 ·rename_i he;obtain ⟨k',hk',hr'⟩:=hr id y hy;exact ⟨k',by simp[upd,he,hk'],hr'.keeps (hold id y he hy)⟩
end
section
open Go
theorem RE.cells {hp:THp}:∀ {t:Ty} {a:t.den} {row:List V},RE t a row->RC (RV0 hp) (A1u t a) row
 | .int _,_,_,h=>by simp only[RE] at h; subst h; exact ⟨rfl,trivial⟩
 | .bool,_,_,h=>by simp only[RE] at h; subst h; exact ⟨rfl,trivial⟩
 | .str,_,_,h=>by simp only[RE] at h; subst h; exact ⟨rfl,trivial⟩
 | .pair a b,x,_,h=>by
  obtain ⟨r1,r2,rfl,h1,h2⟩:=h;exact h1.cells.append h2.cells
 | .sl e,l,_,h=>by
  rcases h with ⟨rfl,rfl⟩ | ⟨rows,rfl,hr⟩
  ·exact ⟨.inl ⟨rfl,rfl⟩,trivial⟩
  ·exact ⟨.inr ⟨rows,rfl,hr⟩,trivial⟩
theorem Hc {t e:Ty} (h:t=e) {l:List t.den} {rows:List (List V)} (hr:RLx (RE t) l rows):RLx (RE e) (JG h l) rows:=by subst h; exact hr
theorem AR7 {hp:THp} {e:Ty} {x:SV} {l:List e.den} {y:V} (h:asL e x=some l) (hv:RV0 hp x y):(l = []/\y = .em)\/∃ rows,y = .im rows/\RLx (RE e) l rows:=by
 unfold asL at h
 split at h
 ·cases h; exact .inl ⟨rfl,hv⟩
 ·split at h
  ·rename_i t l' he;cases h
   subst he;rcases hv with ⟨rfl,rfl⟩ | ⟨rows,rfl,hr⟩
   ·exact .inl ⟨rfl,rfl⟩
   ·exact .inr ⟨rows,rfl,hr⟩
  ·cases h
 ·cases h
theorem Ag3 {hp:THp}:∀ {t:Ty} {cs r:List SV} {x:t.den} {us:List V},Xw t cs=some (x,r)->RC (RV0 hp) cs us->∃ row us',us=row++us'/\RE t x row/\RC (RV0 hp) r us'
 | .int k,cs,r,x,us,h,hv=>by
  cases cs with
  | nil=>simp[Xw] at h
  | cons c cs =>
   cases c <;> simp only[Xw,reduceCtorEq] at h
   rename_i k' n
   split at h
   ·rename_i hk;cases h
    subst hk;cases us with
    | nil=>exact hv.elim
    | cons u us=>obtain ⟨h1,h2⟩:=hv; exact ⟨[u],us,rfl,by simp only[RE]; rw[h1],h2⟩
   ·cases h
 | .bool,cs,r,x,us,h,hv=>by
  cases cs with
  | nil=>simp[Xw] at h
  | cons c cs =>
   cases c <;> simp only[Xw,reduceCtorEq] at h
   cases h
   cases us with
   | nil=>exact hv.elim
   | cons u us=>obtain ⟨h1,h2⟩:=hv; exact ⟨[u],us,rfl,by simp only[RE]; rw[h1],h2⟩
 | .str,cs,r,x,us,h,hv=>by
  cases cs with
  | nil=>simp[Xw] at h
  | cons c cs =>
   cases c <;> simp only[Xw,reduceCtorEq] at h
   cases h
   cases us with
   | nil=>exact hv.elim
   | cons u us=>obtain ⟨h1,h2⟩:=hv; exact ⟨[u],us,rfl,by simp only[RE]; rw[h1],h2⟩
 | .pair a b,cs,r,x,us,h,hv=>by
  simp only[Xw] at h
  split at h
  ·rename_i x1 r1 h1
   split at h
   ·rename_i y1 r2 h2;cases h
    obtain ⟨row1,us1,rfl,e1,v1⟩:=Ag3 h1 hv;obtain ⟨row2,us2,rfl,e2,v2⟩:=Ag3 h2 v1;exact ⟨row1++row2,us2,by simp,⟨row1,row2,rfl,e1,e2⟩,v2⟩
   ·cases h
  ·cases h
 | .sl e,cs,r,x,us,h,hv=>by
  cases cs with
  | nil=>simp[Xw] at h
  | cons c cs =>
   simp only[Xw] at h
   split at h
   ·rename_i l h1;cases h
    cases us with
    | nil=>exact hv.elim
    | cons u us =>
     obtain ⟨q1,q2⟩:=hv;refine ⟨[u],us,rfl,?_,q2⟩
     rcases AR7 h1 q1 with ⟨rfl,rfl⟩ | ⟨rows,rfl,hr⟩
     ·exact .inl ⟨rfl,rfl⟩
     ·exact .inr ⟨rows,rfl,hr⟩
   ·cases h
theorem Ap0 {hp:THp} {t:Ty} {cs:List SV} {x:t.den} {us:List V} (h:A9W t cs=some x) (hv:RC (RV0 hp) cs us):RE t x us:=by
 unfold A9W at h
 split at h
 ·rename_i y hd;cases h
  obtain ⟨row,us',rfl,e,v⟩:=Ag3 hd hv;cases us' with
  | nil=>simpa using e
  | cons a l=>exact v.elim
 ·cases h
theorem A1A {hp:THp} (c:Value):RV0 hp (VW c) (DG c):=by
 unfold VW DG
 split
 ·simp[IQ,RV0]
 ·simp[IQ,RV0]
 ·simp[IQ,RV0]
 ·rfl
 ·split
  ·rename_i h1 h2 h3 h4 h5
   split
   ·exact absurd rfl h4
   ·rw[if_pos h5]; rfl
  ·trivial
theorem Ay6 {hp:THp}:∀ (l:List Value),RC (RV0 hp) (l.map VW) (l.map DG)
 | []=>trivial
 | c::l=>⟨A1A c,Ay6 l⟩
theorem A6a {hp:THp} (c:Value):RV2 hp (Ao5 c) (JX c):=by
 unfold Ao5 JX
 split
 ·rename_i cs;exact ⟨_,rfl,Ay6 cs.toList⟩
 ·rename_i hn
  split
  ·rename_i cs; exact absurd rfl (hn cs)
  ·exact (A1A c).to1.to2
theorem Bd {hp:THp} {tm:TTm} {m:Tm} (h:RT hp tm m) (x:Operand):RV2 hp (opT tm x) (AR m x):=by
 cases x with
 | tmp t=>exact h t
 | const c=>exact A6a c
 | global g=>trivial
 | func f=>exact ⟨[],rfl,trivial⟩
theorem VV {hp:THp}:∀ (l:List V),RC (RV0 hp) (l.map Yu) l
 | []=>trivial
 | x::l=>by
  refine ⟨?_,VV l⟩
  unfold Yu
  split <;> first | rfl | trivial
theorem Lz {α:Type} (x:SV) (F:SV->α):Zg x F=F x:=by cases x <;> rfl
section
variable {hp:THp} {x:SV} {y:V}
theorem LR {k:IntKind} {n:Int} (h:RV2 hp (.int k n) y):y = .v (.int k n):=h
theorem RA {b:Bool} (h:RV2 hp (.bool b) y):y = .v (.bool b):=h
theorem Wx {s:Str} (h:RV2 hp (.str s) y):y = .v (.string ⟨s.toArray⟩):=h
theorem Ak7 {cs:List SV} (h:RV2 hp (.agg cs) y):∃ us,y = .agg us/\RC (RV0 hp) cs us:=h
theorem A4B {f:FuncId} {cs:List SV} (h:RV2 hp (.cl f cs) y):∃ us,y = .cl f us/\RC (RV0 hp) cs us:=h
theorem LL (hv:RV2 hp x y) (hok:(Dw x).all okT=true):RC (RV0 hp) (Dw x) (flat y)/\(flat y).all BG=true:=by
 have one:∀ {x:SV} {y:V},RV0 hp x y->okT x=true->BG y=true:=by
  intro x y h hk;cases x with
  | int k n=>have:y=_:=h; subst this; rfl
  | bool b=>have:y=_:=h; subst this; rfl
  | str s=>have:y=_:=h; subst this; rfl
  | sc v=>have:y=_:=h; subst this; rfl
  | em=>have:y=_:=h; subst this; rfl
  | er e=>simp[okT] at hk
  | im t l=>rcases h with ⟨_,rfl⟩ | ⟨rows,rfl,_⟩ <;> rfl
  | ow id=>obtain ⟨n,rfl,_⟩:=h; rfl
  | ar a b c=>have:y=_:=h; subst this; rfl
  | rf a b c=>have:y=_:=h; subst this; rfl
  | ir a b c=>obtain ⟨row,rfl,_⟩:=h; rfl
  | agg cs=>simp[okT] at hk
  | tup cs=>simp[okT] at hk
  | cl f cs=>cases cs with
   | nil=>have:y=_:=h; subst this; rfl
   | cons a l=>simp[okT] at hk
  | any=>simp[okT] at hk
 have many:∀ {xs:List SV} {ys:List V},RC (RV0 hp) xs ys->xs.all okT=true->ys.all BG=true:=by
  intro xs
  induction xs with
  | nil=>intro ys h _; cases ys with | nil=>rfl | cons a l=>exact h.elim
  | cons a l ih =>
   intro ys h hk;cases ys with
   | nil=>exact h.elim
   | cons b m =>
    simp only[zd0,za2] at hk ⊢
    exact ⟨one h.1 hk.1,ih h.2 hk.2⟩
 have single:RV0 hp x y->Dw x = [x]->flat y = [y]->RC (RV0 hp) (Dw x) (flat y)/\(flat y).all BG=true:=by
  intro h h1 h2;rw[h1] at hok ⊢
  rw[h2];exact ⟨⟨h,trivial⟩,many (xs:=[x]) (ys:=[y]) ⟨h,trivial⟩ hok⟩
 cases x with
 | agg cs=>obtain ⟨us,rfl,h⟩:=hv; exact ⟨h,many h hok⟩
 | int k n=>have:y=_:=hv; subst this; exact single rfl rfl rfl
 | bool b=>have:y=_:=hv; subst this; exact single rfl rfl rfl
 | str s=>have:y=_:=hv; subst this; exact single rfl rfl rfl
 | sc v=>have:y=_:=hv; subst this; exact single rfl rfl rfl
 | em=>have:y=_:=hv; subst this; exact single rfl rfl rfl
 | er e=>simp[Dw,okT] at hok
 | im t l=>have hv':RV0 hp (.im t l) y:=hv; rcases hv with ⟨_,rfl⟩ | ⟨rows,rfl,_⟩ <;> exact single hv' rfl rfl
 | ow id=>have hv':RV0 hp (.ow id) y:=hv; obtain ⟨n,rfl,_⟩:=hv; exact single hv' rfl rfl
 | ar a b c=>have:y=_:=hv; subst this; exact single rfl rfl rfl
 | rf a b c=>have:y=_:=hv; subst this; exact single rfl rfl rfl
 | ir a b c=>have hv':RV0 hp (.ir a b c) y:=hv; obtain ⟨row,rfl,_⟩:=hv; exact single hv' rfl rfl
 | tup cs=>simp[Dw,okT] at hok
 | cl f cs =>
  cases cs with
  | nil =>
   obtain ⟨us,rfl,h⟩:=hv;cases us with
   | nil=>exact single rfl rfl rfl
   | cons a l=>exact h.elim
  | cons a l=>simp[Dw,okT] at hok
 | any=>simp[Dw,okT] at hok
end
theorem ZT {hp:THp} {g:Bool} {cs:List SV} {us:List V} {x:SV} (h:mkT g cs=some x) (hr:RC (RV0 hp) cs us):∃ y,mk g us=some y/\RV2 hp x y:=by
 unfold mkT at h
 split at h
 ·rename_i hg;cases h
  exact ⟨.agg us,by simp[mk,hg],us,rfl,hr⟩
 ·rename_i hg
  split at h
  ·cases h
   cases us with
   | nil=>exact hr.elim
   | cons u us =>
    cases us with
    | nil=>exact ⟨u,by simp[mk,hg],hr.1.to1.to2⟩
    | cons a l=>exact hr.2.elim
  ·cases h
theorem UL {α:Type} {g:Bool} {cs:Option (List SV)} {K:SV->Option α} {z : α} (h:tMk g cs K=some z):∃ l x,cs=some l/\mkT g l=some x/\K x=some z:=by
 unfold tMk at h
 split at h
 ·split at h
  ·rename_i x hx;rw[Lz] at h;exact ⟨_,x,rfl,hx,h⟩
  ·cases h
 ·cases h
theorem Bt {α β:Type} {x:Option α} {f : α->Option β} {z : β} (h:x.bind f=some z):∃ a,x=some a/\f a=some z:=by
 cases x with
 | none=>cases h
 | some a=>exact ⟨a,rfl,h⟩
theorem R3 {α:Type} {c:Bool} {A:Option α} {z : α} (h:cond c none A=some z):c=false/\A=some z:=by
 cases c with
 | true=>cases h
 | false=>exact ⟨rfl,h⟩
theorem Dh {α:Type} {c:Bool} {A:Option α} {z : α} (h:cond c A none=some z):c=true/\A=some z:=by
 cases c with
 | false=>cases h
 | true=>exact ⟨rfl,h⟩
theorem Gk {α:Type} {X:Option V} {k:IntKind} {n:Int} {K:SV->Option α} {z : α} (h:K (.int k n)=some z) (he:X=some (.v (.int k n))):∃ v u,X=some (.v u)/\(∀ hp,RV2 hp v (.v u))/\K v=some z:=⟨.int k n,.int k n,he,fun _=>rfl,h⟩
theorem Iv {α:Type} {X:Option V} {b:Bool} {K:SV->Option α} {z : α} (h:K (.bool b)=some z) (he:X=some (.v (.bool b))):∃ v u,X=some (.v u)/\(∀ hp,RV2 hp v (.v u))/\K v=some z:=⟨.bool b,.bool b,he,fun _=>rfl,h⟩
theorem A8i {α:Type} {X:Option V} {s:Str} {K:SV->Option α} {z : α} (h:K (.str s)=some z) (he:X=some (.v (.string ⟨s.toArray⟩))):∃ v u,X=some (.v u)/\(∀ hp,RV2 hp v (.v u))/\K v=some z:=⟨.str s,.string ⟨s.toArray⟩,he,fun _=>rfl,h⟩
theorem Bd5 {α:Type} {P:Program} {op:BinOp} {t:TypeId} {x y:Operand} {k k':IntKind} {a b:Int} {K:SV->Option α} {z : α} (h:GU op k k' a b K=some z) :
  ∃ v u,((Aw P (do eqGuard op t x y (.int k a) (.int k' b); binOp op t (.int k a) (.int k' b))).bind AN)=some (.v u)/\(∀ hp,RV2 hp v (.v u))/\K v=some z:=by
 have hk:k=k'->(op≠.shl/\op≠.shr)->∃ v u,((Aw P (do eqGuard op t x y (.int k a) (.int k b); binOp op t (.int k a) (.int k b))).bind AN)=some (.v u)/\(∀ hp,RV2 hp v (.v u))/\K v=some z:=by
  intro he hop;subst he;cases op
  case quo =>
   simp only[GU,if_true] at h;obtain ⟨h1,h2⟩:=R3 h;have h0:¬b=0:=by simpa using h1
   refine Gk h2 ?_
   show ((Aw P (if k≠k then _ else if b=0 then _ else _)).bind AN)=_;rw[if_neg (by simp),if_neg h0]; rfl
  case rem =>
   simp only[GU,if_true] at h;obtain ⟨h1,h2⟩:=R3 h;have h0:¬b=0:=by simpa using h1
   refine Gk h2 ?_
   show ((Aw P (if k≠k then _ else if b=0 then _ else _)).bind AN)=_;rw[if_neg (by simp),if_neg h0]; rfl
  case shl=>exact absurd rfl hop.1
  case shr=>exact absurd rfl hop.2
  case andNot=>simp only[GU,if_true,reduceCtorEq] at h
  case add=>simp only[GU,if_true] at h; exact Gk h (by show ((Aw P (if k≠k then _ else _)).bind AN)=_; rw[if_neg (by simp)]; rfl)
  case sub=>simp only[GU,if_true] at h; exact Gk h (by show ((Aw P (if k≠k then _ else _)).bind AN)=_; rw[if_neg (by simp)]; rfl)
  case mul=>simp only[GU,if_true] at h; exact Gk h (by show ((Aw P (if k≠k then _ else _)).bind AN)=_; rw[if_neg (by simp)]; rfl)
  case and=>simp only[GU,if_true] at h; exact Gk h (by show ((Aw P (if k≠k then _ else _)).bind AN)=_; rw[if_neg (by simp)]; rfl)
  case or=>simp only[GU,if_true] at h; exact Gk h (by show ((Aw P (if k≠k then _ else _)).bind AN)=_; rw[if_neg (by simp)]; rfl)
  case xor=>simp only[GU,if_true] at h; exact Gk h (by show ((Aw P (if k≠k then _ else _)).bind AN)=_; rw[if_neg (by simp)]; rfl)
  case eql=>simp only[GU,if_true] at h; exact Iv h (by show ((Aw P (if k≠k then _ else _)).bind AN)=_; rw[if_neg (by simp)]; rfl)
  case neq=>simp only[GU,if_true] at h; exact Iv h (by show ((Aw P (if k≠k then _ else _)).bind AN)=_; rw[if_neg (by simp)]; rfl)
  case lss=>simp only[GU,if_true] at h; exact Iv h (by show ((Aw P (if k≠k then _ else _)).bind AN)=_; rw[if_neg (by simp)]; rfl)
  case leq=>simp only[GU,if_true] at h; exact Iv h (by show ((Aw P (if k≠k then _ else _)).bind AN)=_; rw[if_neg (by simp)]; rfl)
  case gtr=>simp only[GU,if_true] at h; exact Iv h (by show ((Aw P (if k≠k then _ else _)).bind AN)=_; rw[if_neg (by simp)]; rfl)
  case geq=>simp only[GU,if_true] at h; exact Iv h (by show ((Aw P (if k≠k then _ else _)).bind AN)=_; rw[if_neg (by simp)]; rfl)
 by_cases h1:op = .shl
 ·subst h1;simp only[GU] at h;obtain ⟨h1,h2⟩:=R3 h;have h0:¬b<0:=by simpa using h1
  refine Gk h2 ?_
  show ((Aw P (if b<0 then _ else _)).bind AN)=_;rw[if_neg h0]; rfl
 ·by_cases h2:op = .shr
  ·subst h2;simp only[GU] at h;obtain ⟨h1,h2⟩:=R3 h;have h0:¬b<0:=by simpa using h1
   refine Gk h2 ?_
   show ((Aw P (if b<0 then _ else _)).bind AN)=_;rw[if_neg h0]; rfl
  ·by_cases hkk:k=k'
   ·subst hkk; exact hk rfl ⟨h1,h2⟩
   ·exfalso
    cases op <;> simp only[GU,if_neg hkk,reduceCtorEq] at h
    ·exact h1 rfl
    ·exact h2 rfl
theorem Be5 {α:Type} {P:Program} {op:BinOp} {t:TypeId} {x y:Operand} {s u:Str} {K:SV->Option α} {z : α} (h:A9v op s u K=some z) :
  ∃ v w,((Aw P (do eqGuard op t x y (.string ⟨s.toArray⟩) (.string ⟨u.toArray⟩); binOp op t (.string ⟨s.toArray⟩) (.string ⟨u.toArray⟩))).bind AN)=some (.v w)/\(∀ hp,RV2 hp v (.v w))/\K v=some z:=by
 have e1:(ByteArray.mk s.toArray).toList=s:=ByteArray.toList_mk s;have e2:(ByteArray.mk u.toArray).toList=u:=ByteArray.toList_mk u;cases op <;> simp only[A9v,reduceCtorEq] at h
 case add =>
  obtain ⟨r,h1,h2⟩:=Bt h;unfold WQ at h1
  split at h1
  ·rename_i hle;cases h1
   refine A8i h2 ?_
   show ((Aw P (if (((ByteArray.mk s.toArray).size + (ByteArray.mk u.toArray).size:Nat):Int)>IntKind.i64.max then _ else _)).bind AN)=_;have hs:(ByteArray.mk s.toArray).size=s.length:=by simp[ByteArray.size]
   have hu:(ByteArray.mk u.toArray).size=u.length:=by simp[ByteArray.size]
   have hm:IntKind.i64.max=9223372036854775807:=by decide
   rw[if_neg (by rw[hs,hu,hm]; omega)];have:(ByteArray.mk s.toArray)++(ByteArray.mk u.toArray)=⟨(s++u).toArray⟩:=by
    apply ByteArray.ext; simp
   show some (V.v (.string ((ByteArray.mk s.toArray)++(ByteArray.mk u.toArray))))=_;rw[this]
  ·cases h1
 all_goals
  refine Iv h ?_
  show some (V.v (.bool _))=_;simp only[e1,e2]
end
section
open Go
abbrev EqR:SV->V->Prop:=fun s u=>∃ k n,s = .int k n/\u = .v (.int k n)
def Bz8 (P:Program) (t:TypeId) (n:Nat):Prop:=∀ (x y:Operand) (cs ds:List SV) (us vs:List Value) (r:Bool),us.length=n->RC EqR cs (us.map .v) ->
 RC EqR ds (vs.map .v)->HB cs ds=some r ->
 Aw P (do eqGuard .eql t x y (.agg us.toArray) (.agg vs.toArray); binOp .eql t (.agg us.toArray) (.agg vs.toArray))=some (.bool r) /\
 Aw P (do eqGuard .neq t x y (.agg us.toArray) (.agg vs.toArray); binOp .neq t (.agg us.toArray) (.agg vs.toArray))=some (.bool (!r))
def Bu1 (P:Program) (t:TypeId):Prop:=∀ d,AY P t=some d->Bz8 P t d.size
structure XOK (P:Program) (X:TX):Prop where
 ty:∀ t d,getD X.ty t=some d->AY P t=some d
 bools:∀ t,X.bools.contains t=true->P.underlying t=some .bool
 eqs:∀ t,X.eqs.contains t=true->Bu1 P t
section
variable {α:Type} {P:Program} {R:Rel} {cf:Cfg} {X:TX} {b:Nat} {tm:TTm} {m:Tm} {hp hpm:THp} {hv hvm:Hp} {K:SV->THp->Cls->Option α} {z : α}
def CZ (P:Program) (R:Rel) (cf:Cfg) (op:Op) (b:Nat) (m:Tm) (hp:THp) (hpm:THp) (hvm:Hp) (K:SV->THp->Cls->Option α) (z : α):Prop :=
 ∃ x y cls,K x hpm cls=some z/\RV2 hp x y/\∀ KV:Cq,KV y hvm cls->BB P R cf op b (AR m) hvm KV
def RHm (hpm hp:THp) (hvm:Hp):Prop:=∀ id b,AQ hpm id=some b->AQ hp id=some b/\∃ k,hvm id=some k/\RB hp b k
theorem RH.toM (h:RH hp hv):RHm hp hp hv:=fun id b hb=>⟨hb,h id b hb⟩
theorem Bg {op:Op} {x:SV} {y:V} (h:K x hpm .T=some z) (hr:RV2 hp x y) (hn:AI P op (AR m)=some y)
  (hop:∀ KV:Cq,BB P R cf op b (AR m) hvm KV=(match AI P op (AR m) with | some x=>KV x hvm .T | none=>BI (Bn P op (AR m) hvm b) fun z=>z.2.length<=16/\KV z.1 (inst hvm b z.2) .M)):CZ P R cf op b m hp hpm hvm K z :=
 ⟨x,y,.T,h,hr,fun KV hk=>by rw[hop,hn]; exact hk⟩
theorem Ob {op:Op} {x:SV} {y:V} (h:K x hpm .M=some z) (hr:RV2 hp x y) (hn:AI P op (AR m)=none) (hm:Bn P op (AR m) hvm b=some (y,[]))
  (hop:∀ KV:Cq,BB P R cf op b (AR m) hvm KV=(match AI P op (AR m) with | some x=>KV x hvm .T | none=>BI (Bn P op (AR m) hvm b) fun z=>z.2.length<=16/\KV z.1 (inst hvm b z.2) .M)):CZ P R cf op b m hp hpm hvm K z :=
 ⟨x,y,.M,h,hr,fun KV hk=>by rw[hop,hn]; simp only[hm,Au,inst]; exact ⟨by simp,hk⟩⟩
theorem Bn9 {x:Operand} (hr:RT hp tm m) (h:BU X (.move x) b tm hpm K=some z):CZ P R cf (.move x) b m hp hpm hvm K z:=by
 simp only[BU,Lz] at h;exact Bg h (Bd hr x) rfl fun _=>rfl
theorem A8H {x:Operand} (hr:RT hp tm m) (h:BU X (.assign x) b tm hpm K=some z):CZ P R cf (.assign x) b m hp hpm hvm K z:=by
 simp only[BU,Lz] at h;exact Bg h (Bd hr x) rfl fun _=>rfl
theorem Br4 {c x y:Operand} (hr:RT hp tm m) (h:BU X (.pick c x y) b tm hpm K=some z):CZ P R cf (.pick c x y) b m hp hpm hvm K z:=by
 simp only[BU,Lz] at h
 split at h
 ·rename_i t ht;have hc:=Bd hr c;rw[ht] at hc;have hc:=RA hc;cases t with
  | true=>exact Bg h (Bd hr x) (by simp[AI,hc]) fun _=>rfl
  | false=>exact Bg h (Bd hr y) (by simp[AI,hc]) fun _=>rfl
 ·cases h
theorem Bw2 {x:Operand} (hr:RT hp tm m) (h:BU X (.nilCheck x) b tm hpm K=some z):CZ P R cf (.nilCheck x) b m hp hpm hvm K z:=by
 simp only[BU] at h;have hc:=Bd hr x
 split at h
 ·rename_i id r c hx;rw[hx] at hc;have hc':AR m x = .rf id r c:=hc;exact Bg h (y:=.rf id r c) rfl (by simp[AI,hc']) fun _=>rfl
 ·rename_i t a c hx;rw[hx] at hc;obtain ⟨row,he,hre⟩:=hc;exact Bg h (y:=.ir row c) ⟨row,rfl,hre⟩ (by simp[AI,he]) fun _=>rfl
 ·rename_i f caps hx;rw[hx] at hc;obtain ⟨us,he,hre⟩:=A4B hc;exact Bg h (y:=.cl f us) ⟨us,rfl,hre⟩ (by simp[AI,he]) fun _=>rfl
 ·cases h
theorem Bx8 {u:UnOp} {t:TypeId} {x:Operand} (hr:RT hp tm m) (h:BU X (.unOp u t x) b tm hpm K=some z):CZ P R cf (.unOp u t x) b m hp hpm hvm K z:=by
 simp only[BU,tUn] at h;have hc:=Bd hr x
 split at h
 ·rename_i bb hx;rw[hx] at hc;have hc:=RA hc;exact Bg h (y:=.v (.bool !bb)) rfl (by simp only[AI,hc]; rfl) fun _=>rfl
 ·rename_i k n hx;rw[hx] at hc;have hc:=LR hc;exact Bg h (y:=.v (.int k (k.wrap (0-n)))) rfl (by simp only[AI,hc]; rfl) fun _=>rfl
 ·cases h
theorem A8t {cs ds:List SV} {r:Bool} (h:HB cs ds=some r):∀ {us vs:List V},RC (RV0 hp) cs us->RC (RV0 hp) ds vs->∃ us' vs':List Value,us=us'.map .v/\vs=vs'.map .v /\
  RC EqR cs (us'.map .v)/\RC EqR ds (vs'.map .v):=by
 induction cs generalizing ds r with
 | nil =>
  intro us vs h1 h2;cases ds with
  | nil =>
   cases us with
   | nil=>cases vs with
    | nil=>exact ⟨[],[],rfl,rfl,trivial,trivial⟩
    | cons a l=>exact h2.elim
   | cons a l=>exact h1.elim
  | cons a l=>simp[HB] at h
 | cons c cs ih =>
  intro us vs h1 h2;cases ds with
  | nil=>cases c <;> simp[HB] at h
  | cons d ds =>
   cases us with
   | nil=>exact h1.elim
   | cons u us =>
    cases vs with
    | nil=>exact h2.elim
    | cons v vs =>
     cases c <;> cases d <;> first | (simp[HB] at h; done) | skip
     rename_i k n k' n';have hrest:∃ r',HB cs ds=some r':=by
      cases cs with
      | nil =>
       cases ds with
       | nil=>exact ⟨true,rfl⟩
       | cons a l=>simp only[HB] at h; split at h <;> simp_all
      | cons a l =>
       simp only[HB] at h
       split at h
       ·cases he:HB (a::l) ds with
        | none=>rw[he] at h; cases h
        | some r'=>exact ⟨r',rfl⟩
       ·cases h
     obtain ⟨r',hr'⟩:=hrest;obtain ⟨us',vs',e1,e2,e3,e4⟩:=ih hr' h1.2 h2.2;have q1:u = .v (.int k n):=h1.1;have q2:v = .v (.int k' n'):=h2.1;subst q1;subst q2;subst e1;subst e2;exact ⟨_::us',_::vs',rfl,rfl,⟨⟨_,_,rfl,rfl⟩,e3⟩,⟨⟨_,_,rfl,rfl⟩,e4⟩⟩
theorem Fw {β:Type} {t:TypeId} {d:TypeDesc} (hu:P.underlying t=some d) (f:TypeDesc->Sem β):Aw P (underlying t >>= f)=Aw P (f d):=by
 show Aw P ((match P.underlying t with | some d=>(pure d:Sem TypeDesc) | none=>stuck "no such type") >>= f)=_;rw[hu]; rfl
theorem A5P {t:TypeId} (hu:P.underlying t=some .bool) (p q:Bool):Aw P (Op.equal t (.bool p) (.bool q))=some (p==q):=by
 show Aw P (Op.equalIn (9999 + 1) t (.bool p) (.bool q))=_;unfold Op.equalIn;rw[Fw hu];rfl
theorem Vi {α β:Type} (f : α->Sem β) (s:Sem α) (a : α) (h:Aw P s=some a):Aw P (s >>= f)=Aw P (f a):=by
 induction s with
 | pure b=>simp[Aw] at h; subst h; rfl
 | program k ih=>exact ih P (by simpa[Aw] using h)
 | _=>simp[Aw] at h
theorem Nu:∀ (l:List Value),CS (l.map V.v)=some l
 | []=>rfl
 | x::l=>by simp[CS,Nu l]
theorem Bv9 {op:BinOp} {t yt:TypeId} {x y:Operand} (hX:XOK P X) (hr:RT hp tm m) (h:BU X (.binOp op t x y yt) b tm hpm K=some z):CZ P R cf (.binOp op t x y yt) b m hp hpm hvm K z:=by
 simp only[BU] at h;have hx:=Bd hr x;have hy:=Bd hr y;cases hnc:Bp1 op y with
 | true =>
  rw[hnc] at h;simp only at h
  split at h
  case h_2=>cases h
  rename_i d ty l hd hl
  split at h
  case h_2=>cases h
  rename_i e he;obtain ⟨u,hu,h2⟩:=Bt h;rw[hl] at hx;have hne:∃ r rows,AR m x = .im (r::rows):=by
   cases l with
   | nil=>cases hu
   | cons a l =>
    rcases hx with ⟨h0,_⟩ | ⟨rows,hrow,hrl⟩
    ·cases h0
    ·cases rows with
     | nil=>exact absurd hrl.1 (by simp)
     | cons r rows=>exact ⟨r,rows,hrow⟩
  obtain ⟨r,rows,hxv⟩:=hne;have hsl:SY P t=true:=by unfold SY; rw[hX.ty t d hd]; simp[he]
  refine Bg h2 (y:=.v (.bool false)) rfl ?_ fun _=>rfl
  unfold Bp1 at hnc
  split at hnc
  ·simp only[AI,hxv,I8,U5,hsl]
  ·cases hnc
 | false =>
 rw[hnc] at h;simp only at h;have h:(∃ s e,erC op y=some s/\opT tm x = .er e/\A40 X t=true/\K (.bool (cond s (!e) e)) hpm .T=some z)\/Bc9 X op t (opT tm x) (opT tm y) (fun v=>K v hpm .T)=some z:=by
  split at h
  ·rename_i s hs
   split at h
   ·rename_i e he;cases hi:A40 X t with
    | true=>rw[hi] at h; exact .inl ⟨s,e,hs,he,rfl,h⟩
    | false=>rw[hi] at h; cases h
   ·exact .inr h
  ·exact .inr h
 rcases h with ⟨s,e,hs,he,hi,h⟩ | h
 ·rw[he] at hx;have hx:AR m x = .er e:=hx;have hic:A0M P t=true:=by
   unfold A40 at hi
   split at hi
   ·rename_i d hd;unfold A0M;rw[hX.ty t d hd];exact hi
   ·cases hi
  unfold erC at hs
  split at hs
  ·cases hs
   refine Bg h (y:=.v (.bool !e)) rfl ?_ fun _=>rfl
   simp only[AI,hx,I8,U5,A50,hic]
  ·cases hs
   refine Bg h (y:=.v (.bool e)) rfl ?_ fun _=>rfl
   simp only[AI,hx,I8,U5,A50,hic]
  ·cases hs
 simp only[Bc9] at h
 split at h
 ·rename_i k a k' c e1 e2;rw[e1] at hx;rw[e2] at hy;have hx:=LR hx;have hy:=LR hy;obtain ⟨v,u,q1,q2,q3⟩:=Bd5 (P:=P) (t:=t) (x:=x) (y:=y) h;exact Bg q3 (q2 hp) (by simp only[AI,hx,hy,I8]; exact q1) fun _=>rfl
 ·rename_i s u e1 e2;rw[e1] at hx;rw[e2] at hy;have hx:=Wx hx;have hy:=Wx hy;obtain ⟨v,u,q1,q2,q3⟩:=Be5 (P:=P) (t:=t) (x:=x) (y:=y) h;exact Bg q3 (q2 hp) (by simp only[AI,hx,hy,I8]; exact q1) fun _=>rfl
 ·rename_i p q e1 e2;rw[e1] at hx;rw[e2] at hy;have hx:=RA hx;have hy:=RA hy
  split at h
  ·rename_i hb;have hu:=hX.bools t hb;have heq:=A5P hu p q
   split at h
   ·refine Bg h (y:=.v (.bool (p==q))) rfl ?_ fun _=>rfl
    simp only[AI,hx,hy,I8];show ((Aw P (do let r <-Op.equal t (.bool p) (.bool q); pure (.bool r))).bind AN)=_;rw[Vi _ _ _ heq]; rfl
   ·refine Bg h (y:=.v (.bool !(p==q))) rfl ?_ fun _=>rfl
    simp only[AI,hx,hy,I8];show ((Aw P (do let r <-Op.equal t (.bool p) (.bool q); pure (.bool !r))).bind AN)=_;rw[Vi _ _ _ heq]; rfl
   ·cases h
  ·cases h
 ·rename_i cs ds e1 e2;rw[e1] at hx;rw[e2] at hy;obtain ⟨us,hx,r1⟩:=Ak7 hx;obtain ⟨vs,hy,r2⟩:=Ak7 hy
  split at h
  ·rename_i ht
   split at h
   ·rename_i d r hd hq
    split at h
    case isFalse=>cases h
    rename_i hlen;obtain ⟨us',vs',rfl,rfl,q1,q2⟩:=A8t hq r1 r2;have hl:us'.length=d.size:=by
     have:=RC.length q1;rw[zd1] at this;rw[this];exact za6 hlen
    obtain ⟨p1,p2⟩:=hX.eqs t ht d (hX.ty t d hd) x y cs ds us' vs' r hl q1 q2 hq
    split at h
    ·exact Bg h (y:=.v (.bool r)) rfl (by simp only[AI,hx,hy,I8,Nu]; rw[p1]; rfl) fun _=>rfl
    ·exact Bg h (y:=.v (.bool !r)) rfl (by simp only[AI,hx,hy,I8,Nu]; rw[p2]; rfl) fun _=>rfl
    ·cases h
   ·cases h
  ·cases h
 ·cases h
end
end
section
open Go
variable {P:Program}
end
section
open Go
section
variable {α:Type} {P:Program} {R:Rel} {cf:Cfg} {X:TX} {b:Nat} {tm:TTm} {m:Tm} {hp hpm:THp} {hv hvm:Hp} {K:SV->THp->Cls->Option α} {z : α}
theorem AB3 {β:Type} {flds:List Fld} (hr:RT hp tm m):∀ {Ap:List (Nat×Operand)} {cs:List SV} {us:List V} {K:List SV->Option β} {z : β},A5o flds tm cs Ap K=some z->RC (RV0 hp) cs us ->
  ∃ cs' us',JD flds (AR m) us Ap=some us'/\RC (RV0 hp) cs' us'/\K cs'=some z
 | [],cs,us,K,z,h,hc=>⟨cs,us,rfl,hc,h⟩
 | (k,x)::rest,cs,us,K,z,h,hc=>by
  simp only[A5o,Lz] at h
  split at h
  ·rename_i f hf
   split at h
   ·rename_i hok;simp only[za2,decide_eq_true_eq] at hok
    split at h
    ·rename_i cs1 hp1;obtain ⟨f1,f2⟩:=LL (Bd hr x) hok.2;obtain ⟨us1,h1,h2⟩:=RC.put hp1 hc f1;obtain ⟨cs2,us2,h3,h4,h5⟩:=AB3 hr h h2;refine ⟨cs2,us2,?_,h4,h5⟩
     simp only[JD,hf];have hl:=f1.length;have he:=of_decide_eq_true (by simpa using hok.1:decide ((Dw (opT tm x)).length=f.size)=true);rw[if_pos (by simp only[za2,decide_eq_true_eq]; exact ⟨by omega,f2⟩),h1];exact h3
    ·cases h
   ·cases h
  ·cases h
theorem Bj1 {t:TypeId} {Ap:Array (Nat×Operand)} (hX:XOK P X) (hr:RT hp tm m) (h:BU X (.build t Ap) b tm hpm K=some z):CZ P R cf (.build t Ap) b m hp hpm hvm K z:=by
 simp only[BU] at h
 split at h
 ·rename_i d hd
  split at h
  ·rename_i hc;obtain ⟨cs,us,h1,h2,h3⟩:=AB3 hr h (VV d.zero);exact Bg h3 (y:=.agg us) ⟨us,rfl,h2⟩ (by simp only[AI,hX.ty t d hd,hc,if_true,h1,zd9]) fun _=>rfl
  ·cases h
 ·cases h
theorem Bi7 {t:TypeId} {x:Operand} {k:Nat} (hX:XOK P X) (hr:RT hp tm m) (h:BU X (.field t x k) b tm hpm K=some z):CZ P R cf (.field t x k) b m hp hpm hvm K z:=by
 simp only[BU] at h;have hx:=Bd hr x
 split at h
 ·rename_i cs d e1 hd;rw[e1] at hx;obtain ⟨us,hx,hc⟩:=Ak7 hx
  split at h
  ·rename_i f hf;obtain ⟨l,v,h1,h2,h3⟩:=UL h;obtain ⟨vs,h4,h5⟩:=RC.seg h1 hc;obtain ⟨y,h6,h7⟩:=ZT h2 h5;exact Bg h3 h7 (by simp only[AI,hx,hX.ty t d hd,hf,h4,za0,h6]) fun _=>rfl
  ·cases h
 ·cases h
theorem AZ7 {t:TypeId} {x:Operand} {k:Nat} (hX:XOK P X) (hr:RT hp tm m) (h:BU X (.fieldAddr t x k) b tm hpm K=some z):CZ P R cf (.fieldAddr t x k) b m hp hpm hvm K z:=by
 simp only[BU] at h;have hx:=Bd hr x
 split at h
 ·rename_i d hd
  split at h
  ·rename_i f id r c hf e1;rw[e1] at hx;have hx:AR m x = .rf id r c:=hx;exact Bg h (y:=.rf id r (c + f.off)) rfl (by simp only[AI,hX.ty t d hd,hf,hx]) fun _=>rfl
  ·rename_i f ty a c hf e1;rw[e1] at hx;obtain ⟨row,hx,hre⟩:=hx;exact Bg h (y:=.ir row (c + f.off)) ⟨row,rfl,hre⟩ (by simp only[AI,hX.ty t d hd,hf,hx]) fun _=>rfl
  ·cases h
 ·cases h
theorem A5I {t:TypeId} (hX:XOK P X) (h:N0 X t=true):Fb P t=true:=by
 unfold N0 at h
 split at h
 ·rename_i d hd;simp only[Fb,hX.ty t d hd]; exact h
 ·cases h
theorem slX {t:TypeId} (hX:XOK P X) (h:A1f X t=true):SY P t=true:=by
 unfold A1f at h
 split at h
 ·rename_i d hd;simp only[SY,hX.ty t d hd]; exact h
 ·cases h
theorem AA6 {β:Type} {l:List β} {n:Int} {a : β} (h:AP l n=some a) : 0<=n/\l[n.toNat]? = some a:=by
 unfold AP at h
 split at h
 ·rename_i h0; exact ⟨h0,h⟩
 ·cases h
theorem AC9 {n:Int} {len k:Nat} (h:A2 n len=some k) : 0<=n/\n.toNat<len/\k=n.toNat:=by
 unfold A2 at h
 split at h
 ·rename_i h0; cases h; exact ⟨h0.1,h0.2,rfl⟩
 ·cases h
theorem Bc5 {t:TypeId} {x i:Operand} (hX:XOK P X) (hr:RT hp tm m) (h:BU X (.index t x i) b tm hpm K=some z):CZ P R cf (.index t x i) b m hp hpm hvm K z:=by
 simp only[BU] at h;have hx:=Bd hr x;have hi:=Bd hr i
 split at h
 ·rename_i s k n hs e1 e2;rw[e1] at hx;rw[e2] at hi;have hx:=Wx hx;have hi:=LR hi;obtain ⟨c,h1,h2⟩:=Bt h;obtain ⟨h0,hc⟩:=AA6 h1;have hlt:n.toNat<s.length:=(za3.1 hc).1;refine Bg h2 (y:=.v (.int .u8 (c.toNat:Int))) rfl ?_ fun _=>rfl
  simp only[AI,A5I hX hs,hx,hi];have hsz:n.toNat<(ByteArray.mk s.toArray).size:=by simpa[ByteArray.size] using hlt
  rw[dif_pos ⟨h0,hsz⟩];have:(ByteArray.mk s.toArray)[n.toNat]'hsz=c:=by
   have:=(za3.1 hc).2;rw[<-this]; rfl
  rw[this]
 ·cases h
structure ElemOK (P:Program) (t e:TypeId) (d:TyD) (c:Ty):Prop where
 el:(AY P t).bind (·.elem)=some e
 ty:AY P e=some d
 size:d.size=c.size
 flat:d.zero.all ZE=EZ c
theorem R7 {t e:TypeId} {d:TyD} {c:Ty} (hX:XOK P X) (h:Yk X t=some (e,d,c)):ElemOK P t e d c:=by
 unfold Yk at h
 split at h
 ·rename_i d0 hd0
  split at h
  ·rename_i e0 he0
   split at h
   ·rename_i de c0 hde hc0
    split at h
    ·rename_i hb;simp only[za2,beq_iff_eq] at hb;simp only[Option.some.injEq,Prod.mk.injEq] at h;obtain ⟨rfl,rfl,rfl⟩:=h;exact ⟨by rw[hX.ty t d0 hd0]; exact he0,hX.ty _ _ hde,za6 hb.1,hb.2⟩
    ·cases h
   ·cases h
  ·cases h
 ·cases h
theorem Bk2 {t:TypeId} {x i:Operand} (hX:XOK P X) (hr:RT hp tm m) (hh:RHm hpm hp hvm) (h:BU X (.indexAddr t x i) b tm hpm K=some z):CZ P R cf (.indexAddr t x i) b m hp hpm hvm K z:=by
 simp only[BU,Bv0] at h;have hx:=Bd hr x;have hi:=Bd hr i
 split at h
 ·rename_i e de c he;have hE:=R7 hX he
  split at h
  ·rename_i ty l k n e1 e2;rw[e1] at hx;rw[e2] at hi;have hi:=LR hi
   split at h
   ·rename_i hsz;obtain ⟨a,h1,h2⟩:=Bt h;obtain ⟨h0,hc⟩:=AA6 h1;rcases hx with ⟨rfl,hx⟩ | ⟨rows,hx,hrl⟩
    ·simp at hc
    ·obtain ⟨row,hrow,hre⟩:=hrl.get hc;have hlt:n.toNat<rows.length:=(za3.1 hrow).1;refine Bg h2 (y:=.ir row 0) ⟨row,rfl,hre⟩ ?_ fun _=>rfl
     simp only[AI,hx,hi,hE.el,hE.ty];have hg:rows[n.toNat]'hlt=row:=(za3.1 hrow).2;rw[dif_pos ⟨h0,hlt⟩,hg,if_pos (by rw[hre.len]; exact za6 hsz)]
   ·cases h
  ·rename_i id k n e1 e2;rw[e1] at hx;rw[e2] at hi;have hi:=LR hi;obtain ⟨len,hx,hlen⟩:=hx;have key:∀ (ty:Ty) (l:List ty.den) (tb:TB),AQ hpm id=some tb->FY tb=some l.length->(∀ kb,RB hp tb kb->kb.size=ty.size)->(Nat.beq ty.size de.size=true)->((A2 n l.length).bind fun k=>K (.rf id k 0) hpm .M)=some z->CZ P R cf (.indexAddr t x i) b m hp hpm hvm K z:=by
    intro ty l tb hg hbl hks hsz h;obtain ⟨hg',kb,hkb,hrb⟩:=hh id tb hg;have hlen':=hlen tb hg';rw[hbl] at hlen';cases hlen'
    obtain ⟨kk,h1,h2⟩:=Bt h;obtain ⟨h0,h3,rfl⟩:=AC9 h1;refine Ob h2 (y:=.rf id (0 + n.toNat) 0) (by rw[ze4]; rfl) (by simp only[AI,hx,hi]) ?_ fun _=>rfl
    simp only[Bn,hx,hi,hE.el,hE.ty,hkb];rw[if_pos ⟨by rw[hks kb hrb]; exact za6 hsz,h0,h3⟩]
   split at h
   ·rename_i a b' ty l hg
    split at h
    ·rename_i hsz; exact key ty l _ hg rfl (fun kb hrb=>hrb.2.2.2.1) hsz h
    ·cases h
   ·rename_i a b' ty l hg
    split at h
    ·rename_i hsz; exact key ty l _ hg rfl (fun kb hrb=>hrb.2.2.2.1) hsz h
    ·cases h
   ·cases h
  ·rename_i id lo len k n e1 e2;rw[e1] at hx;rw[e2] at hi;have hi:=LR hi;have hx:AR m x = .ar id lo len:=hx;have key:∀ (ty:Ty) (tb:TB),AQ hpm id=some tb->(∀ kb,RB hp tb kb->kb.size=ty.size)->(Nat.beq ty.size de.size=true)->((A2 n len).bind fun k=>K (.rf id (lo + k) 0) hpm .M)=some z->CZ P R cf (.indexAddr t x i) b m hp hpm hvm K z:=by
    intro ty tb hg hks hsz h;obtain ⟨hg',kb,hkb,hrb⟩:=hh id tb hg;obtain ⟨kk,h1,h2⟩:=Bt h;obtain ⟨h0,h3,rfl⟩:=AC9 h1;refine Ob h2 (y:=.rf id (lo + n.toNat) 0) rfl (by simp only[AI,hx,hi]) ?_ fun _=>rfl
    simp only[Bn,hx,hi,hE.el,hE.ty,hkb];rw[if_pos ⟨by rw[hks kb hrb]; exact za6 hsz,h0,h3⟩]
   split at h
   ·rename_i a b' ty l hg
    split at h
    ·rename_i hsz; exact key ty _ hg (fun kb hrb=>hrb.2.2.2.1) hsz h
    ·cases h
   ·rename_i a b' ty l hg
    split at h
    ·rename_i hsz; exact key ty _ hg (fun kb hrb=>hrb.2.2.2.1) hsz h
    ·cases h
   ·cases h
  ·cases h
 ·cases h
theorem A5T {x:Operand} {k:Nat} (hr:RT hp tm m) (h:BU X (.extract x k) b tm hpm K=some z):CZ P R cf (.extract x k) b m hp hpm hvm K z:=by
 simp only[BU,Lz] at h;have hx:=Bd hr x
 split at h
 ·rename_i vs e1;rw[e1] at hx;obtain ⟨us,hx,hc⟩:=hx
  split at h
  ·rename_i v hv;obtain ⟨y,hy,hry⟩:=hc.get hv;exact Bg h hry.to2 (by simp only[AI,hx,hy]) fun _=>rfl
  ·cases h
 ·cases h
theorem A0a (hr:RT hp tm m):∀ {l:List Operand},(l.map (opT tm)).all okT=true->RC (RV0 hp) (l.map (opT tm)) (l.map (AR m))/\(l.map (AR m)).all BG=true
 | [],_=>⟨trivial,rfl⟩
 | x::l,h=>by
  simp only[zb9,zd0,za2] at h;obtain ⟨h1,h2⟩:=A0a hr h.2;have hx:=Bd hr x;have hfl:Dw (opT tm x) = [opT tm x]:=by
   cases he:opT tm x with
   | agg cs=>rw[he] at h; simp[okT] at h
   | _=>rfl
  obtain ⟨f1,f2⟩:=LL hx (by rw[hfl]; simpa using h.1);rw[hfl] at f1;have hfv:flat (AR m x) = [AR m x]:=by
   cases he:AR m x with
   | agg cs =>
    exfalso
    rw[he] at hx;cases ho:opT tm x with
    | agg cs=>rw[ho] at h; simp[okT] at h
    | im t l=>rw[ho] at hx; rcases hx with ⟨_,hx⟩ | ⟨_,hx,_⟩ <;> cases hx
    | ow id=>rw[ho] at hx; obtain ⟨_,hx,_⟩:=hx; cases hx
    | ir t a c=>rw[ho] at hx; obtain ⟨_,hx,_⟩:=hx; cases hx
    | cl f cs=>rw[ho] at hx; obtain ⟨_,hx,_⟩:=hx; cases hx
    | tup cs=>rw[ho] at h; simp[okT] at h
    | any=>rw[ho] at h; simp[okT] at h
    | int k n=>rw[ho] at hx; cases hx
    | bool k=>rw[ho] at hx; cases hx
    | str k=>rw[ho] at hx; cases hx
    | sc k=>rw[ho] at hx; cases hx
    | em=>rw[ho] at hx; cases hx
    | er e=>rw[ho] at hx; cases hx
    | ar a b c=>rw[ho] at hx; cases hx
    | rf a b c=>rw[ho] at hx; cases hx
   | _=>rfl
  rw[hfv] at f1 f2;simp only[zb9,zd0,List.all_nil,Bool.and_true,za2] at f2 ⊢
  exact ⟨⟨f1.1,h1⟩,f2,h2⟩
theorem Bn7 {f:FuncId} {first caps:Array Operand} (hr:RT hp tm m) (h:BU X (.makeFunc (.func f) first caps) b tm hpm K=some z):CZ P R cf (.makeFunc (.func f) first caps) b m hp hpm hvm K z:=by
 simp only[BU] at h
 split at h
 ·rename_i hc;simp only[za2] at hc;obtain ⟨h1,h2⟩:=A0a hr hc.2;exact Bg h (y:=.cl f (caps.toList.map (AR m))) ⟨_,rfl,h1⟩ (by simp only[AI,hc.1,h2,Bool.and_self,if_true]) fun _=>rfl
 ·cases h
theorem Bv5 {args:Array Operand} {ts:Array TypeId} (hX:XOK P X) (hr:RT hp tm m) (hh:RHm hpm hp hvm) (h:BU X (.call { callee:=.builtin .len,args:=args,argTypes:=ts }) b tm hpm K=some z) :
  CZ P R cf (.call { callee:=.builtin .len,args:=args,argTypes:=ts }) b m hp hpm hvm K z:=by
 simp only[BU] at h
 split at h
 ·rename_i x t hx0 ht0;have hx:=Bd hr x;have fin:∀ n:Int,K (.int .i64 n) hpm .T=some z->AI P (.call { callee:=.builtin .len,args:=args,argTypes:=ts }) (AR m)=some (.v (.int .i64 n))->CZ P R cf (.call { callee:=.builtin .len,args:=args,argTypes:=ts }) b m hp hpm hvm K z :=
   fun n h hn=>Bg h (y:=.v (.int .i64 n)) rfl hn fun _=>rfl
  unfold Bs9 at h
  split at h
  ·rename_i s e1;rw[e1] at hx;have hx:=Wx hx
   split at h
   ·rename_i hc;simp only[za2,Bool.not_eq_true'] at hc;refine fin _ h ?_
    have h1:=A5I hX hc.1;have h2:SY P t=false:=by
     cases hs:SY P t with
     | false=>rfl
     | true =>
      have h3:=hc.2;have h4:=hc.1;unfold A1f at h3;unfold N0 at h4;unfold SY at hs
      split at h4
      ·rename_i d hd;simp only[hd] at h3;rw[hX.ty t d hd] at hs;simp only at hs;rw[h3] at hs;cases hs
      ·cases h4
    simp only[AI,hx0,ht0,h1,h2,hx];simp[ByteArray.size]
   ·cases h
  ·rename_i hns
   split at h
   ·rename_i hc;have h1:=slX hX hc
    split at h
    ·rename_i e1;rw[e1] at hx;have hx:AR m x = .em:=hx;exact fin _ h (by simp only[AI,hx0,ht0,h1,hx])
    ·rename_i ty l e1;rw[e1] at hx;rcases hx with ⟨rfl,hx⟩ | ⟨rows,hx,hrl⟩
     ·exact fin _ h (by simp only[AI,hx0,ht0,h1,hx]; rfl)
     ·exact fin _ h (by simp only[AI,hx0,ht0,h1,hx,hrl.1])
    ·rename_i id e1;rw[e1] at hx;obtain ⟨n,hx,hlen⟩:=hx
     split at h
     ·rename_i a b' ty l hg;have:=hlen _ (hh id _ hg).1;cases this
      exact fin _ h (by simp only[AI,hx0,ht0,h1,hx])
     ·rename_i a b' ty l hg;have:=hlen _ (hh id _ hg).1;cases this
      exact fin _ h (by simp only[AI,hx0,ht0,h1,hx])
     ·cases h
    ·rename_i id lo n e1;rw[e1] at hx;have hx:AR m x = .ar id lo n:=hx;exact fin _ h (by simp only[AI,hx0,ht0,h1,hx])
    ·cases h
   ·cases h
 ·cases h
theorem PD:∀ {xs:List SV} {us:List V} {k:IntKind} {ns:List Int},R1 xs=some (k,ns)->RC (RV2 hp) xs us->CS us=some (ns.map fun n=>.int k n)/\ns≠[]
 | [],us,k,ns,h,_=>by simp[R1] at h
 | [x],us,k,ns,h,hc=>by
  cases x <;> simp[R1] at h
  obtain ⟨rfl,rfl⟩:=h;cases us with
  | nil=>exact hc.elim
  | cons u us =>
   cases us with
   | nil=>have:u=_:=hc.1; subst this; exact ⟨rfl,by simp⟩
   | cons a l=>exact hc.2.elim
 | x::y::l,us,k,ns,h,hc=>by
  cases x <;> simp[R1] at h
  split at h
  ·rename_i k' ns' hr
   split at h
   ·rename_i hk;simp only[Option.some.injEq,Prod.mk.injEq] at h;obtain ⟨rfl,rfl⟩:=h;subst hk;cases us with
    | nil=>exact hc.elim
    | cons u us =>
     have:u=_:=hc.1;subst this;obtain ⟨h1,_⟩:=PD hr hc.2;exact ⟨by simp[CS,h1],by simp⟩
   ·cases h
  ·cases h
theorem Lk (hr:RT hp tm m):∀ (l:List Operand),RC (RV2 hp) (l.map (opT tm)) (l.map (AR m))
 | []=>trivial
 | x::l=>⟨Bd hr x,Lk hr l⟩
theorem A2w {k:IntKind}:∀ (l:List Int) (x:Int),Aw P ((l.map fun n=>Value.int k n).foldlM Builtin.min2 (.int k x))=some (.int k (l.foldl (fun a b=>if b<a then b else a) x))
 | [],x=>rfl
 | y::l,x=>by
  simp only[zb9,List.foldlM_cons,List.foldl_cons];exact A2w l (if y<x then y else x)
theorem AW0 {k:IntKind}:∀ (l:List Int) (x:Int),Aw P ((l.map fun n=>Value.int k n).foldlM Builtin.max2 (.int k x))=some (.int k (l.foldl (fun a b=>if b>a then b else a) x))
 | [],x=>rfl
 | y::l,x=>by
  simp only[zb9,List.foldlM_cons,List.foldl_cons];exact AW0 l (if y>x then y else x)
theorem Bv4 {args:Array Operand} {ts:Array TypeId} (hr:RT hp tm m) (h:BU X (.call { callee:=.builtin .min,args:=args,argTypes:=ts }) b tm hpm K=some z) :
  CZ P R cf (.call { callee:=.builtin .min,args:=args,argTypes:=ts }) b m hp hpm hvm K z:=by
 simp only[BU,ZX] at h
 split at h
 ·rename_i k ns hi;obtain ⟨h1,h2⟩:=PD hi (Lk hr _);simp only[zc3,if_false] at h;refine Bg h (y:=.v (.int k (Bt7 ns))) rfl ?_ fun _=>rfl
  simp only[AI,h1];cases ns with
  | nil=>exact absurd rfl h2
  | cons x l =>
   show ((Aw P ((l.map fun n=>Value.int k n).foldlM Builtin.min2 (.int k x))).bind AN)=_;rw[A2w]; rfl
 ·cases h
theorem Bs7 {args:Array Operand} {ts:Array TypeId} (hr:RT hp tm m) (h:BU X (.call { callee:=.builtin .max,args:=args,argTypes:=ts }) b tm hpm K=some z) :
  CZ P R cf (.call { callee:=.builtin .max,args:=args,argTypes:=ts }) b m hp hpm hvm K z:=by
 simp only[BU,ZX] at h
 split at h
 ·rename_i k ns hi;obtain ⟨h1,h2⟩:=PD hi (Lk hr _);simp only[if_true] at h;refine Bg h (y:=.v (.int k (Ba2 ns))) rfl ?_ fun _=>rfl
  simp only[AI,h1];cases ns with
  | nil=>exact absurd rfl h2
  | cons x l =>
   show ((Aw P ((l.map fun n=>Value.int k n).foldlM Builtin.max2 (.int k x))).bind AN)=_;rw[AW0]; rfl
 ·cases h
theorem L0:∀ {t:Ty} {a:t.den} {row:List V},EZ t=true->RE t a row->row.all E6=true
 | .int _,_,_,_,h=>by simp only[RE] at h; subst h; rfl
 | .bool,_,_,_,h=>by simp only[RE] at h; subst h; rfl
 | .str,_,_,_,h=>by simp only[RE] at h; subst h; rfl
 | .pair a b,x,_,hf,h=>by
  obtain ⟨r1,r2,rfl,h1,h2⟩:=h;simp only[EZ,za2] at hf;simp[List.all_append,L0 hf.1 h1,L0 hf.2 h2]
 | .sl e,l,_,hf,_=>by cases hf
theorem Bc7 {p:V->Bool} {cs l:List V} {off n:Nat} (h:seg cs off n=some l) (ha:cs.all p=true):l.all p=true:=by
 unfold seg at h
 split at h
 ·cases h
  exact za5.2 fun x hx=>za5.1 ha x (List.mem_of_mem_drop (List.mem_of_mem_take hx))
 ·cases h
theorem A1Q {β:Type} {t:TypeId} {v:SV} {y:V} {KS:SV->Option β} {z : β} (hX:XOK P X) (hv:RV2 hp v y) (hh:RHm hpm hp hvm) (h:A4L X t v hpm KS=some z) :
  ∃ x u,KS x=some z/\RV2 hp x u/\∀ (ρ:Operand->V) (a:Operand) (b:Nat),ρ a=y->Bn P (.load t a) ρ hvm b=some (u,[]):=by
 unfold A4L at h
 split at h
 ·rename_i d ty a c hd;obtain ⟨row,rfl,hre⟩:=hv;obtain ⟨l,x,h1,h2,h3⟩:=UL h;obtain ⟨vs,h4,h5⟩:=RC.seg (hp:=hp) h1 hre.cells;obtain ⟨u,h6,h7⟩:=ZT h2 h5;exact ⟨x,u,h3,h7,fun ρ a b he=>by simp only[Bn,hX.ty t d hd,he,h4,za0,h6]⟩
 ·rename_i d id r c hd;have hy:y = .rf id r c:=hv;subst hy;have arr:∀ (ty:Ty) (l:List ty.den) (tb:TB),AQ hpm id=some tb->(∀ kb,RB hp tb kb->RLx (RE ty) l kb.rows/\(EZ ty=true\/kb.deep=false))->((l[r]?).bind fun a=>tMk d.agg (A2f (A1u ty a) c d.size) KS)=some z ->
    ∃ x u,KS x=some z/\RV2 hp x u/\∀ (ρ:Operand->V) (a:Operand) (b:Nat),ρ a = .rf id r c->Bn P (.load t a) ρ hvm b=some (u,[]):=by
   intro ty l tb hg hks h;obtain ⟨hg',kb,hkb,hrb⟩:=hh id tb hg;obtain ⟨q1,q2⟩:=hks kb hrb;obtain ⟨a,h0,h⟩:=Bt h;obtain ⟨row,hrow,hre⟩:=q1.get h0;obtain ⟨l',x,h1,h2,h3⟩:=UL h;obtain ⟨vs,h4,h5⟩:=RC.seg (hp:=hp) h1 hre.cells;obtain ⟨u,h6,h7⟩:=ZT h2 h5;have hcond:(decide (kb.kind = .box) || !kb.deep || vs.all E6)=true:=by
    rcases q2 with hf | hd
    ·simp[Bc7 h4 (L0 hf hre)]
    ·simp[hd]
   exact ⟨x,u,h3,h7,fun ρ a b he=>by simp only[Bn,hX.ty t d hd,he,hkb,hrow,h4,hcond,if_true,h6]⟩
  split at h
  ·rename_i ty cs hg
   split at h
   ·rename_i hr0;obtain ⟨hg',kb,hkb,hrb⟩:=hh id _ hg;obtain ⟨hk1,hk2,row,hk3,hk4,hk5⟩:=hrb;obtain ⟨l,x,h1,h2,h3⟩:=UL h;obtain ⟨vs,h4,h5⟩:=RC.seg h1 hk5;obtain ⟨u,h6,h7⟩:=ZT h2 h5;refine ⟨x,u,h3,h7,fun ρ a b he=>?_⟩
    simp only[Bn,hX.ty t d hd,he,hkb,hk3,List.getElem?_cons_zero,h4,hk1,decide_true,Bool.true_or,if_true,h6]
   ·cases h
  ·rename_i ty deep ty' l hg
   split at h
   ·rename_i hc;refine arr ty' l _ hg (fun kb hrb=>⟨hrb.2.2.2.2,?_⟩) h
    simp only[Bool.or_eq_true,Bool.not_eq_true'] at hc;rcases hc with hc | hc
    ·right; rw[hrb.2.2.1]; exact hc
    ·left; exact hc
   ·cases h
  ·rename_i ty deep ty' l hg
   split at h
   ·rename_i hc;exact arr ty' l _ hg (fun kb hrb=>⟨hrb.2.2.2.2,.inl hc⟩) h
   ·cases h
  ·cases h
 ·cases h
theorem A9y {t:TypeId} {a:Operand} (hX:XOK P X) (hr:RT hp tm m) (hh:RHm hpm hp hvm) (h:BU X (.load t a) b tm hpm K=some z):CZ P R cf (.load t a) b m hp hpm hvm K z:=by
 simp only[BU] at h;obtain ⟨x,u,h1,h2,h3⟩:=A1Q hX (Bd hr a) hh h;exact Ob h1 h2 rfl (h3 _ _ _ rfl) fun _=>rfl
end
end
section
open Go
section
variable {α:Type} {P:Program} {R:Rel} {cf:Cfg} {X:TX} {b:Nat} {tm:TTm} {m:Tm} {hp hpm:THp} {hv hvm:Hp} {K:SV->THp->Cls->Option α} {z : α}
theorem UM (hr:RT hp tm m) {x:Option Operand} {d:Nat} {n:Int} (h:At6 tm x (d:Int)=some n) (h0 : 0<=n):bnd (AR m) x d=some n.toNat:=by
 cases x with
 | none=>simp only[At6,Option.some.injEq] at h; subst h; simp[bnd]
 | some x =>
  simp only[At6] at h;have hx:=Bd hr x;unfold A8I at h
  split at h
  ·rename_i k n' e1;cases h
   rw[e1] at hx;have hx:=LR hx;simp only[bnd,hx,if_pos h0]
  ·cases h
theorem Uv {β:Type} {lo hi:Option Operand} {len:Nat} {KS:Nat->Nat->Option β} {z : β} (hr:RT hp tm m) (h:AJ9 tm lo hi len KS=some z) :
  ∃ l r,KS l r=some z/\bnd (AR m) lo 0=some l/\bnd (AR m) hi len=some r/\l<=r/\r<=len:=by
 have main:(match At6 tm lo 0,At6 tm hi (len:Int) with | some l,some h=>(JL l h len).bind fun p=>KS p.1 p.2 | _,_=>none)=some z->∃ l r,KS l r=some z/\bnd (AR m) lo 0=some l/\bnd (AR m) hi len=some r/\l<=r/\r<=len:=by
  intro h
  split at h
  ·rename_i l r e1 e2;obtain ⟨p,h1,h2⟩:=Bt h;unfold JL at h1
   split at h1
   ·rename_i hc;cases h1
    exact ⟨l.toNat,r.toNat,h2,UM hr (d:=0) e1 hc.1,UM hr e2 (by omega),by omega,by omega⟩
   ·cases h1
  ·cases h
 unfold AJ9 at h;cases lo with
 | none =>
  cases hi with
  | none=>exact ⟨0,len,h,rfl,rfl,Nat.zero_le _,za7 _⟩
  | some y=>exact main h
 | some x=>exact main h
theorem Bq1 {t e:TypeId} (h:(AY P t).bind (·.elem)=some e):Fb P t=false:=by
 cases hs:Fb P t with
 | false=>rfl
 | true =>
  have h1:=BJ h;have h2:=EU hs;rw[h1] at h2;cases h2
theorem A4y {t:TypeId} {x:Operand} {lo hi:Option Operand} (hX:XOK P X) (hr:RT hp tm m) (hh:RHm hpm hp hvm) (h:BU X (.slice t x lo hi none) b tm hpm K=some z) :
  CZ P R cf (.slice t x lo hi none) b m hp hpm hvm K z:=by
 simp only[BU,A9A] at h;have hx:=Bd hr x
 split at h
 ·rename_i s e1;rw[e1] at hx;have hx:=Wx hx
  split at h
  ·rename_i hs;have hs':Fb P t=true:=A5I hX hs;obtain ⟨l,r,h1,h2,h3,h4,h5⟩:=Uv hr h;have hsz:(ByteArray.mk s.toArray).size=s.length:=by simp[ByteArray.size]
   refine ⟨_,.v (.string ⟨((s.take r).drop l).toArray⟩),.M,h1,rfl,fun KV hk=>?_⟩
   show (if Fb P t then BI (AI P (.slice t x lo hi none) (AR m)) fun z=>KV z hvm .M else _);rw[if_pos hs'];have:AI P (.slice t x lo hi none) (AR m)=some (.v (.string ⟨((s.take r).drop l).toArray⟩)):=by
    simp only[AI,hs',hx,h2,hsz,h3];rw[if_pos ⟨h4,h5⟩]
    congr 3
    apply ByteArray.ext
    simp[List.drop_take]
   rw[this];exact hk
  ·cases h
 ·rename_i hns
  split at h
  ·rename_i e de c he;have hE:=R7 hX he;have hs':=Bq1 hE.el;have fin:∀ (v:SV) (y:V),K v hpm .M=some z->RV2 hp v y->(∀ KV:Cq,KV y hvm .M->Bu P t (AR m x) lo hi (AR m) hvm KV)->CZ P R cf (.slice t x lo hi none) b m hp hpm hvm K z:=by
    intro v y h hv hw;refine ⟨v,y,.M,h,hv,fun KV hk=>?_⟩
    show (if Fb P t then _ else Bu P t (AR m x) lo hi (AR m) hvm KV);rw[if_neg (by rw[hs']; simp)];exact hw KV hk
   split at h
   ·rename_i e1;rw[e1] at hx;have hx:AR m x = .em:=hx;obtain ⟨l,r,h1,h2,h3,h4,h5⟩:=Uv hr h;refine fin _ .em h1 rfl fun KV hk=>?_
    simp only[Bu,hE.el,hE.ty,Au,hx,h2,h3];exact ⟨by omega,by omega,hk⟩
   ·rename_i ty l0 e1;rw[e1] at hx
    split at h
    ·rename_i hsz;have hsz:=za6 hsz;obtain ⟨l,r,h1,h2,h3,h4,h5⟩:=Uv hr h;rcases hx with ⟨rfl,hx⟩ | ⟨rows,hx,hrl⟩
     ·refine fin _ .em h1 (.inl ⟨by simp,rfl⟩) fun KV hk=>?_
      simp only[ze7] at h3 h5;simp only[Bu,hE.el,hE.ty,Au,hx,h2,h3];exact ⟨by omega,by omega,hk⟩
     ·refine fin _ (.im ((rows.take r).drop l)) h1 (.inr ⟨_,rfl,(hrl.take r).drop l⟩) fun KV hk=>?_
      simp only[Bu,hE.el,hE.ty,Au,hx,h2,hrl.1,h3];refine ⟨h4,h5,fun row hrow=>?_,hk⟩
      obtain ⟨i,hi⟩:=List.getElem?_of_mem hrow;obtain ⟨a,_,hre⟩:=hrl.get' hi;rw[hre.len]; exact hsz
    ·cases h
   ·rename_i id e1;rw[e1] at hx;obtain ⟨len,hx,hlen⟩:=hx;have key:∀ (ty:Ty) (l0:List ty.den) (tb:TB),AQ hpm id=some tb->FY tb=some l0.length->(∀ kb,RB hp tb kb->kb.size=ty.size)->(Nat.beq ty.size de.size=true) ->
      Bl6 tm lo hi l0.length (K (.ow id) hpm .M) (fun l h=>K (.ar id l (h-l)) hpm .M)=some z->CZ P R cf (.slice t x lo hi none) b m hp hpm hvm K z:=by
     intro ty l0 tb hg hbl hks hsz h;obtain ⟨hg',kb,hkb,hrb⟩:=hh id tb hg;have hl:=hlen tb hg';rw[hbl] at hl;cases hl
     have hsz:kb.size=de.size:=by rw[hks kb hrb]; exact za6 hsz
     have gen:(AJ9 tm lo hi l0.length fun l h=>K (.ar id l (h-l)) hpm .M)=some z->CZ P R cf (.slice t x lo hi none) b m hp hpm hvm K z:=by
      intro h;obtain ⟨l,r,h1,h2,h3,h4,h5⟩:=Uv hr h;refine fin _ (.ar id (0 + l) (r-l)) h1 (by rw[ze4]; rfl) fun KV hk=>?_
      simp only[Bu,hE.el,hE.ty,Au,hx,h2,h3,hkb];exact ⟨h4,h5,hsz,hk⟩
     cases lo with
     | none =>
      cases hi with
      | none =>
       refine fin _ (.ar id (0 + 0) (l0.length-0)) h ⟨l0.length,by simp,hlen⟩ fun KV hk=>?_
       simp only[Bu,hE.el,hE.ty,Au,hx,bnd,hkb];exact ⟨Nat.zero_le _,za7 _,hsz,hk⟩
      | some y=>exact gen h
     | some y=>exact gen h
    split at h
    ·rename_i a b' ty l hg
     split at h
     ·rename_i hsz; exact key ty l _ hg rfl (fun kb hrb=>hrb.2.2.2.1) hsz h
     ·cases h
    ·rename_i a b' ty l hg
     split at h
     ·rename_i hsz; exact key ty l _ hg rfl (fun kb hrb=>hrb.2.2.2.1) hsz h
     ·cases h
    ·cases h
   ·rename_i id l1 n e1;rw[e1] at hx;have hx:AR m x = .ar id l1 n:=hx;have key:∀ (ty:Ty) (tb:TB),AQ hpm id=some tb->(∀ kb,RB hp tb kb->kb.size=ty.size)->(Nat.beq ty.size de.size=true) ->
      (AJ9 tm lo hi n fun l h=>K (.ar id (l1 + l) (h-l)) hpm .M)=some z->CZ P R cf (.slice t x lo hi none) b m hp hpm hvm K z:=by
     intro ty tb hg hks hsz h;obtain ⟨hg',kb,hkb,hrb⟩:=hh id tb hg;have hsz:kb.size=de.size:=by rw[hks kb hrb]; exact za6 hsz
     obtain ⟨l,r,h1,h2,h3,h4,h5⟩:=Uv hr h;refine fin _ (.ar id (l1 + l) (r-l)) h1 rfl fun KV hk=>?_
     simp only[Bu,hE.el,hE.ty,Au,hx,h2,h3,hkb];exact ⟨h4,h5,hsz,hk⟩
    split at h
    ·rename_i a b' ty l hg
     split at h
     ·rename_i hsz; exact key ty _ hg (fun kb hrb=>hrb.2.2.2.1) hsz h
     ·cases h
    ·rename_i a b' ty l hg
     split at h
     ·rename_i hsz; exact key ty _ hg (fun kb hrb=>hrb.2.2.2.1) hsz h
     ·cases h
    ·cases h
   ·cases h
  ·cases h
theorem A0I {t:TypeId} {x hi mx:Operand} {lo:Option Operand} (hX:XOK P X) (hr:RT hp tm m) (h:BU X (.slice t x lo (some hi) (some mx)) b tm hpm K=some z) :
  CZ P R cf (.slice t x lo (some hi) (some mx)) b m hp hpm hvm K z:=by
 simp only[BU] at h;have hx:=Bd hr x
 split at h
 ·rename_i e de c ty l he e1;rw[e1] at hx;have hE:=R7 hX he
  split at h
  ·rename_i l0 h0 m0 q1 q2 q3;obtain ⟨hc,h⟩:=Dh h;have hc:=of_decide_eq_true hc;obtain ⟨rfl,rfl,rfl⟩:=hc;have b1:=UM hr (d:=0) q1 (by omega);have b2:=UM hr (d:=0) q2 (by omega);have b3:=UM hr (d:=0) q3 (by omega);have hel:((AY P t).bind (·.elem)).bind (AY P)=some de:=by rw[hE.el]; exact hE.ty
   refine Bg h (y:=.em) rfl ?_ fun _=>rfl
   rcases hx with ⟨rfl,hx⟩ | ⟨rows,hx,hrl⟩
   ·simp only[AI,hel,hx,b1,b2,b3]; rfl
   ·simp only[AI,hel,hx,b1,b2,b3];rw[if_pos (by simp)]
  ·cases h
 ·cases h
theorem A8V {t:TypeId} (hX:XOK P X) (h:U9 X t=true):II P t=true:=by
 unfold U9 at h
 split at h
 ·rename_i d hd
  split at h
  ·rename_i e he
   split at h
   ·rename_i de hde;have:(AY P t).bind (·.elem)=some e:=by rw[hX.ty t d hd]; exact he
    simp only[II,this,hX.ty e de hde]; exact h
   ·cases h
  ·cases h
 ·cases h
theorem Ai8:∀ {l:List Int} {rows:List (List V)},RLx (RE (.int .u8)) l rows->Cm rows=some (Mc l)
 | [],rows,h=>by rw[h.of_nil]; rfl
 | n::l,rows,h=>by
  cases rows with
  | nil=>have:=h.1; simp at this
  | cons r rows =>
   have hr:RE (.int .u8) n r:=h.2 0 n r rfl rfl;have hrest:RLx (RE (.int .u8)) l rows:=⟨by have:=h.1; simpa using this,fun i a q h1 h2=>h.2 (i + 1) a q (by simpa using h1) (by simpa using h2)⟩;simp only[RE] at hr;subst hr;simp only[Cm,RZ,Ai8 hrest,Mc,zb9]
theorem Bh5 (s:Str):RLx (RE (.int .u8)) (AV2 s) (Ip ⟨s.toArray⟩):=by
 refine ⟨by simp[Ip,AV2],fun i a r h1 h2=>?_⟩
 simp only[Ip,AV2,zc9,zb6] at h1 h2;obtain ⟨c,hc,rfl⟩:=h1;obtain ⟨c',hc',rfl⟩:=h2;have:c'=c:=by
  have h3:s[i]? = some c':=by simpa using hc'
  rw[hc] at h3;exact (Option.some.inj h3).symm
 subst this;rfl
theorem A83 {s d:TypeId} {ds dd:TyD} {k k0:IntKind} {n:Int} (h1:AY P s=some ds) (h2:AY P d=some dd) (h3:dd.int=some k):(Aw P (Go.convert s d (.int k0 n))).bind AN=some (.v (.int k (k.wrap n))):=by
 obtain ⟨i,u,z,hi,hu,_⟩:=B3 h1;obtain ⟨i',u',z',hi',hu',_,_,_,_,rfl⟩:=B3 h2;have hud:u' = .int k:=by cases u' <;> simp[Bg3] at h3; rw[h3]
 subst hud;unfold Go.convert;rw[Fw hu,Fw hu'];cases u <;> rfl
theorem A8g {s d:TypeId} {x:ByteArray} (h1:Fb P s=true) (h2:Fb P d=true):(Aw P (Go.convert s d (.string x))).bind AN=some (.v (.string x)):=by
 unfold Go.convert;rw[Fw (EU h1),Fw (EU h2)];rfl
theorem A4t {s d:TypeId} {x:ByteArray} (h1:Fb P s=true) (h2:II P d=true):(Aw P (Go.convert s d (.string x))).bind AN=none:=by
 obtain ⟨e,h3,h4⟩:=Xi h2;unfold Go.convert;rw[Fw (EU h1),Fw h3];show (Aw P (underlying e >>= _)).bind AN=none;rw[Fw h4];rfl
theorem Ab9 {e:Ty} {x:SV} {l:List e.den} {y:V} (h:Hx hpm e x=some l) (hv:RV0 hp x y) (hh:RHm hpm hp hvm) :
  (l = []/\y = .em)\/(∃ rows,y = .im rows/\RLx (RE e) l rows)\/∃ id lo n kb,y = .ar id lo n/\hvm id=some kb/\kb.kind≠.box/\RLx (RE e) l ((kb.rows.take (lo + n)).drop lo):=by
 unfold Hx at h
 split at h
 ·rename_i id;obtain ⟨n,rfl,hlen⟩:=hv;have key:∀ (t:Ty) (l0:List t.den) (tb:TB),AQ hpm id=some tb->FY tb=some l0.length->(∀ kb,RB hp tb kb->kb.kind≠.box/\RLx (RE t) l0 kb.rows)->(if h:t=e then some (JG h l0) else none)=some l ->
    (l = []/\V.ar id 0 n = .em)\/(∃ rows,V.ar id 0 n = .im rows/\RLx (RE e) l rows)\/∃ id' lo n' kb,V.ar id 0 n = .ar id' lo n'/\hvm id'=some kb/\kb.kind≠.box/\RLx (RE e) l ((kb.rows.take (lo + n')).drop lo):=by
   intro t l0 tb hg hbl hks h;obtain ⟨hg',kb,hkb,hrb⟩:=hh id tb hg;have hl:=hlen tb hg';rw[hbl] at hl;cases hl
   obtain ⟨q1,q2⟩:=hks kb hrb
   split at h
   ·rename_i he;cases h
    refine .inr (.inr ⟨id,0,l0.length,kb,rfl,hkb,q1,?_⟩)
    have:(kb.rows.take (0 + l0.length)).drop 0=kb.rows:=by rw[ze4,<-q2.1]; simp
    rw[this];exact Hc he q2
   ·cases h
  split at h
  ·rename_i a b' t l0 hg; exact key t l0 _ hg rfl (fun kb hrb=>⟨by rw[hrb.1]; simp,hrb.2.2.2.2⟩) h
  ·rename_i a b' t l0 hg; exact key t l0 _ hg rfl (fun kb hrb=>⟨by rw[hrb.1]; simp,hrb.2.2.2.2⟩) h
  ·cases h
 ·rename_i id lo n;have hv:y = .ar id lo n:=hv;subst hv;have key:∀ (t:Ty) (l0:List t.den) (tb:TB),AQ hpm id=some tb->(∀ kb,RB hp tb kb->kb.kind≠.box/\RLx (RE t) l0 kb.rows)->(if h:t=e then some (((JG h l0).take (lo + n)).drop lo) else none)=some l ->
    (l = []/\V.ar id lo n = .em)\/(∃ rows,V.ar id lo n = .im rows/\RLx (RE e) l rows)\/∃ id' lo' n' kb,V.ar id lo n = .ar id' lo' n'/\hvm id'=some kb/\kb.kind≠.box/\RLx (RE e) l ((kb.rows.take (lo' + n')).drop lo'):=by
   intro t l0 tb hg hks h;obtain ⟨hg',kb,hkb,hrb⟩:=hh id tb hg;obtain ⟨q1,q2⟩:=hks kb hrb
   split at h
   ·rename_i he;cases h
    exact .inr (.inr ⟨id,lo,n,kb,rfl,hkb,q1,((Hc he q2).take _).drop _⟩)
   ·cases h
  split at h
  ·rename_i a b' t l0 hg; exact key t l0 _ hg (fun kb hrb=>⟨by rw[hrb.1]; simp,hrb.2.2.2.2⟩) h
  ·rename_i a b' t l0 hg; exact key t l0 _ hg (fun kb hrb=>⟨by rw[hrb.1]; simp,hrb.2.2.2.2⟩) h
  ·cases h
 ·rcases AR7 h hv with h1 | h1
  ·exact .inl h1
  ·exact .inr (.inl h1)
theorem AH3 {e:Ty} {x:SV} {l:List e.den} {y:V} (h:Hx hpm e x=some l) (hv:RV2 hp x y):RV0 hp x y:=by
 cases x with
 | agg cs=>simp[Hx,asL] at h
 | tup cs=>simp[Hx,asL] at h
 | cl f cs=>simp[Hx,asL] at h
 | _=>exact hv
theorem A9i {s d:TypeId} {x:Operand} (hX:XOK P X) (hr:RT hp tm m) (hh:RHm hpm hp hvm) (h:BU X (.convert s d x) b tm hpm K=some z):CZ P R cf (.convert s d x) b m hp hpm hvm K z:=by
 simp only[BU,Bm8] at h;have hx:=Bd hr x
 split at h
 ·rename_i k n e1;rw[e1] at hx;have hx:=LR hx
  split at h
  ·rename_i ds dd h1 h2
   split at h
   ·rename_i k' h3;exact Bg h (y:=.v (.int k' (k'.wrap n))) rfl (by simp only[AI,hx]; exact A83 (hX.ty _ _ h1) (hX.ty _ _ h2) h3) fun _=>rfl
   ·cases h
  ·cases h
 ·rename_i v e1;rw[e1] at hx;have hx:=Wx hx
  split at h
  ·rename_i hs;have hs:=A5I hX hs
   split at h
   ·rename_i hd;have hd:=A8V hX hd;obtain ⟨hc,h⟩:=Dh h;have hc:=of_decide_eq_true hc;refine Ob h (y:=.im (Ip ⟨v.toArray⟩)) (.inr ⟨_,rfl,Bh5 v⟩) (by simp only[AI,hx]; exact A4t hs hd) ?_ fun _=>rfl
    simp only[Bn,hx,hs,hd,ze2];have:(ByteArray.mk v.toArray).size<=Ag:=by simpa[ByteArray.size] using hc
    rw[if_pos (by simpa using this)]
   ·split at h
    ·rename_i hd;have hd:=A5I hX hd;exact Bg h (y:=.v (.string ⟨v.toArray⟩)) rfl (by simp only[AI,hx]; exact A8g hs hd) fun _=>rfl
    ·cases h
  ·cases h
 ·rename_i hn1 hn2
  split at h
  ·rename_i hc;simp only[za2] at hc;have h1:=A8V hX hc.1;have h2:=A5I hX hc.2
   split at h
   ·rename_i l hl;have hx0:=AH3 hl hx;have hrel:=Ab9 hl hx0 hh
    ·rcases hrel with ⟨rfl,hy⟩ | ⟨rows,hy,hrl⟩ | ⟨id,lo,n,kb,hy,hkb,hkk,hrl⟩
     ·refine Ob h (y:=.v (.string ⟨(Mc []).toArray⟩)) rfl (by simp only[AI,hy]) ?_ fun _=>rfl
      simp only[Bn,hy,h1,h2,Bool.and_self,if_true];rfl
     ·refine Ob h (y:=.v (.string ⟨(Mc l).toArray⟩)) rfl (by simp only[AI,hy]) ?_ fun _=>rfl
      simp only[Bn,hy,h1,h2,Bool.and_self,if_true,Ai8 hrl]
     ·refine Ob h (y:=.v (.string ⟨(Mc l).toArray⟩)) rfl (by simp only[AI,hy]) ?_ fun _=>rfl
      simp only[Bn,hy,hkb,h1,h2,Bool.and_self,Ai8 hrl];rw[if_pos (by simpa using hkk)]
   ·cases h
  ·cases h
end
end
section
open Go
section
variable {α:Type} {P:Program} {R:Rel} {cf:Cfg} {X:TX} {b:Nat} {tm:TTm} {m:Tm} {hp hpm:THp} {hv hvm:Hp} {K:SV->THp->Cls->Option α} {z : α}
def At1 (P:Program) (R:Rel) (cf:Cfg) (op:Op) (b:Nat) (tm:TTm) (m:Tm) (hv:Hp) (K:SV->THp->Cls->Option α) (z : α):Prop :=
 ∃ x hp' cls y hv',K x hp' cls=some z/\RV2 hp' x y/\RH hp' hv'/\RT hp' tm m/\∀ KV:Cq,KV y hv' cls->BB P R cf op b (AR m) hv KV
theorem CZ.done {op:Op} (h:CZ P R cf op b m hp hp hv K z) (hh:RH hp hv) (hr:RT hp tm m):At1 P R cf op b tm m hv K z:=by
 obtain ⟨x,y,cls,h1,h2,h3⟩:=h;exact ⟨x,hp,cls,y,hv,h1,h2,hh,hr,h3⟩
theorem Xo {x:TB} {k:Blk} (hh:RH hp hv) (hr:RT hp tm m) (hf:∀ t,b ∉ HL (CK tm t)) (hb:∀ id y,AQ hp id=some y->b ∉ MC y) (hx:b ∉ MC x) (hk:RB hp x k) :
  RH ((b,some x)::hp) (upd hv b (some k))/\RT ((b,some x)::hp) tm m :=
 ⟨hh.put (fun id hid=>M4 fun he=>hx (he▸hid)) (fun id y _ hy i hi=>M4 fun he=>hb id y hy (he▸hi)) hk,hr.keeps fun t id hid=>M4 fun he=>hf t (he▸hid)⟩
theorem Tn {l:List Nat} (h:HN tm hp b=true) {id:Nat} {k:TB} (hk:AQ (Ee hp l) id=some k):b ∉ MC k:=VD h (UK l hp id k hk).1
theorem A0Q:∀ (l:List V),(l.map Yu).flatMap FV = []
 | []=>rfl
 | x::l=>by
  rw[zb9,zb5,A0Q l];unfold Yu
  split <;> rfl
theorem Bd7 {t:TypeId} (hX:XOK P X) (hh:RH hp hv) (hr:RT hp tm m) (h:BU X (.alloc t) b tm hp K=some z):At1 P R cf (.alloc t) b tm m hv K z:=by
 simp only[BU] at h
 split at h
 ·rename_i d hd
  split at h
  ·rename_i hf;obtain ⟨h1,h2⟩:=Xo (x:=.box t (d.zero.map Yu)) (k:=PC t d.zero) hh hr (Ll hf) (fun id y hy=>VD hf hy) (by simp only[MC]; rw[A0Q]; simp) ⟨rfl,rfl,d.zero,rfl,rfl,VV d.zero⟩;refine ⟨_,_,_,.rf b 0 0,_,h,rfl,h1,h2,fun KV hk=>?_⟩
   show BI (Bn P (.alloc t) (AR m) hv b) (fun z=>z.2.length<=16/\KV z.1 (inst hv b z.2) .M);simp only[Bn,hX.ty t d hd,Au];exact ⟨by simp,hk⟩
  ·cases h
 ·cases h
theorem A7Z {x:SV}:∀ id∈(Dw x).flatMap FV,id∈HL x:=by
 intro id hid;cases x with
 | agg cs=>exact hid
 | tup cs=>simp[Dw,FV] at hid
 | cl f cs=>simp[Dw,FV] at hid
 | ow id'=>simpa[Dw,FV,Aw2,HL] using hid
 | _=>simp[Dw,FV] at hid
theorem A5O (c:Value):HL (Ao5 c) = []:=by
 have h0:∀ c,FV (VW c) = []/\HL (VW c) = []:=by
  intro c;unfold VW
  split <;> first | exact ⟨rfl,rfl⟩ | (split <;> exact ⟨rfl,rfl⟩)
 unfold Ao5
 split
 ·rename_i cs;show (cs.toList.map VW).flatMap FV = [];rw[List.flatMap_eq_nil_iff];intro x hx;obtain ⟨c,_,rfl⟩:=zd4.1 hx;exact (h0 c).1
 ·exact (h0 c).2
theorem A8a (h:HN tm hp b=true) (x:Operand):b ∉ HL (opT tm x):=by
 cases x with
 | tmp t=>exact Ll h t
 | const c=>simp only[opT,A5O]; simp
 | global g=>simp[opT,HL,Aw2,FV]
 | func f=>simp[opT,HL,Aw2,FV]
theorem Bw4 {t:TypeId} {x:Operand} (hX:XOK P X) (hh:RH hp hv) (hr:RT hp tm m) (h:BU X (.box t x) b tm hp K=some z):At1 P R cf (.box t x) b tm m hv K z:=by
 simp only[BU] at h
 split at h
 ·rename_i d hd
  split at h
  ·rename_i hc;simp only[za2] at hc;obtain ⟨⟨c1,c2⟩,hf⟩:=hc;obtain ⟨f1,f2⟩:=LL (Bd hr x) c2;obtain ⟨h1,h2⟩:=Xo (x:=.box t (Dw (opT tm x))) (k:=PC t (flat (AR m x))) hh hr (Ll hf) (fun id y hy=>VD hf hy) (fun hi=>A8a hf x (A7Z b hi)) ⟨rfl,rfl,_,rfl,rfl,f1⟩;refine ⟨_,_,_,.rf b 0 0,_,h,rfl,h1,h2,fun KV hk=>?_⟩
   show BI (Bn P (.box t x) (AR m) hv b) (fun z=>z.2.length<=16/\KV z.1 (inst hv b z.2) .M);simp only[Bn,hX.ty t d hd];have hl:(flat (AR m x)).length=d.size:=by have:=f1.length; have:=za6 c1; omega
   rw[if_pos (by simp[hl,f2])];exact ⟨by simp,hk⟩
  ·cases h
 ·cases h
theorem AG5 {n:Int} {bytes size k:Nat} (h:Sa n bytes size=some k) : 0<=n/\n.toNat*bytes<=Ag/\n.toNat*size<=Ag/\k=n.toNat:=by
 unfold Sa at h
 split at h
 ·rename_i hc; cases h; exact ⟨hc.1,hc.2.1,hc.2.2,rfl⟩
 ·cases h
theorem Bo5 {t:TypeId} {l c:Operand} (hX:XOK P X) (hh:RH hp hv) (hr:RT hp tm m) (h:BU X (.makeSlice t l c) b tm hp K=some z):At1 P R cf (.makeSlice t l c) b tm m hv K z:=by
 simp only[BU,Bm3] at h;have hl:=Bd hr l;have hc:=Bd hr c
 split at h
 ·rename_i e de ty k1 n k2 n2 he e1 e2;rw[e1] at hl;rw[e2] at hc;have hl:=LR hl;have hc:=LR hc;have hE:=R7 hX he
  split at h
  ·rename_i zz hz
   split at h
   ·rename_i hq;simp only[za2] at hq;obtain ⟨hf,hsc⟩:=hq;have hre:RE ty zz de.zero:=Ap0 (hp:=hp) hz (VV de.zero);have fin:∀ (kk:Nat),kk=n.toNat->0<=n->n<=n2->n2.toNat*de.bytes<=Ag->n2.toNat*de.size<=Ag->K (.ow b) ((b,some (.arr e true ty (List.replicate kk zz)))::hp) .M=some z->At1 P R cf (.makeSlice t l c) b tm m hv K z:=by
     intro kk hkk h0 h1 h2 h3 hK;obtain ⟨g1,g2⟩:=Xo (x:=.arr e true ty (List.replicate kk zz)) (k:=AW e de.size true (List.replicate n.toNat de.zero)) hh hr (Ll hf) (fun id y hy=>VD hf hy) (by simp[MC]) ⟨rfl,rfl,rfl,hE.size,by rw[hkk]; exact RLx.replicate hre _⟩;refine ⟨_,_,_,.ar b 0 n.toNat,_,hK,⟨n.toNat,rfl,fun bb hb=>?_⟩,g1,g2,fun KV hk=>?_⟩
     ·rw[AL,if_pos rfl] at hb;cases hb
      simp[FY,hkk]
     ·show BI (Bn P (.makeSlice t l c) (AR m) hv b) (fun z=>z.2.length<=16/\KV z.1 (inst hv b z.2) .M);simp only[Bn,hl,hc,hE.el,hE.ty];rw[if_pos ⟨h0,h1,h2,h3,hsc⟩];exact ⟨by simp,hk⟩
    cases hs:A3P l c with
    | true =>
     rw[hs] at h;obtain ⟨kk,h1,h2⟩:=Bt (show ((Sa n2 de.bytes de.size).bind fun k=>K (.ow b) ((b,some (.arr e true ty (List.replicate k zz)))::hp) .M)=some z from h);obtain ⟨q1,q2,q3,q4⟩:=AG5 h1;have hn:n=n2:=by
      have:l=c:=by
       unfold A3P at hs
       split at hs
       ·rw[za6 hs]
       ·cases hs
      subst this;rw[e1] at e2;cases e2
      rfl
     subst hn;exact fin kk q4 q1 (Int.le_refl _) q2 q3 h2
    | false =>
     rw[hs] at h;obtain ⟨kk,h1,h2⟩:=Bt (show ((Sa n2 de.bytes de.size).bind fun _=>cond (decide (0<=n)&&decide (n<=n2)) (K (.ow b) ((b,some (.arr e true ty (List.replicate n.toNat zz)))::hp) .M) none)=some z from h);obtain ⟨q1,q2,q3,q4⟩:=AG5 h1;obtain ⟨c1,h2⟩:=Dh h2;simp only[za2,decide_eq_true_eq] at c1;exact fin n.toNat rfl c1.1 c1.2 q2 q3 h2
   ·cases h
  ·cases h
 ·cases h
theorem A0D {x x':SV} {y:V} {kills:List Nat} {deep:Bool} (hh:RH hp hv) (h:Z8 hp x=some (x',kills,deep)) (hx:RV0 hp x y) :
  ∃ y',AT hv y=some (y',kills,deep)/\RV0 hp x' y'/\FV x' = []:=by
 unfold Z8 at h
 split at h
 ·cases h; have:y=_:=hx; subst this; exact ⟨_,rfl,rfl,rfl⟩
 ·cases h; have:y=_:=hx; subst this; exact ⟨_,rfl,rfl,rfl⟩
 ·cases h; have:y=_:=hx; subst this; exact ⟨_,rfl,rfl,rfl⟩
 ·cases h; have:y=_:=hx; subst this; exact ⟨_,rfl,rfl,rfl⟩
 ·cases h; have:y=_:=hx; subst this; exact ⟨_,rfl,rfl,rfl⟩
 ·cases h
  rcases hx with ⟨rfl,rfl⟩ | ⟨rows,rfl,hr⟩
  ·exact ⟨.em,rfl,.inl ⟨rfl,rfl⟩,rfl⟩
  ·exact ⟨.im rows,rfl,.inr ⟨rows,rfl,hr⟩,rfl⟩
 ·rename_i id;obtain ⟨n,rfl,hlen⟩:=hx
  split at h
  ·rename_i a dd t l hg;cases h
   obtain ⟨k,hk,hrb⟩:=hh id _ hg;have:=hlen _ hg;cases this
   have hrows:(k.rows.take (0 + l.length)).drop 0=k.rows:=by rw[ze4,<-hrb.2.2.2.2.1]; simp
   refine ⟨.im k.rows,?_,.inr ⟨_,rfl,hrb.2.2.2.2⟩,rfl⟩
   simp only[AT,hk,hrb.1,hrows,hrb.2.2.1]
  ·rename_i a dd t l hg;cases h
   obtain ⟨k,hk,hrb⟩:=hh id _ hg;have:=hlen _ hg;cases this
   have hrows:(k.rows.take (0 + l.length)).drop 0=k.rows:=by rw[ze4,<-hrb.2.2.2.2.1]; simp
   refine ⟨.im k.rows,?_,.inr ⟨_,rfl,hrb.2.2.2.2⟩,rfl⟩
   simp only[AT,hk,hrb.1,hrows]
  ·cases h
 ·rename_i id lo n;have:y=_:=hx;subst this
  split at h
  ·rename_i a dd t l hg;cases h
   obtain ⟨k,hk,hrb⟩:=hh id _ hg;refine ⟨.im ((k.rows.take (lo + n)).drop lo),?_,.inr ⟨_,rfl,(hrb.2.2.2.2.take _).drop _⟩,rfl⟩
   simp only[AT,hk,hrb.1,hrb.2.2.1]
  ·rename_i a dd t l hg;cases h
   obtain ⟨k,hk,hrb⟩:=hh id _ hg;refine ⟨.im ((k.rows.take (lo + n)).drop lo),?_,.inr ⟨_,rfl,(hrb.2.2.2.2.take _).drop _⟩,rfl⟩
   simp only[AT,hk,hrb.1]
  ·cases h
 ·cases h
theorem QF (hh:RH hp hv):∀ {xs xs':List SV} {ys:List V} {kills:List Nat} {deep:Bool},L1 hp xs=some (xs',kills,deep)->RC (RV0 hp) xs ys ->
  ∃ ys',A5 hv ys=some (ys',kills,deep)/\RC (RV0 hp) xs' ys'/\xs'.flatMap FV = []
 | [],xs',ys,kills,deep,h,hc=>by
  simp only[L1,Option.some.injEq,Prod.mk.injEq] at h;obtain ⟨rfl,rfl,rfl⟩:=h;cases ys with
  | nil=>exact ⟨[],rfl,trivial,rfl⟩
  | cons a l=>exact hc.elim
 | x::xs,xs',ys,kills,deep,h,hc=>by
  simp only[L1] at h
  split at h
  ·rename_i x1 a d xs1 as ds h1 h2;simp only[Option.some.injEq,Prod.mk.injEq] at h;obtain ⟨rfl,rfl,rfl⟩:=h;cases ys with
   | nil=>exact hc.elim
   | cons y ys =>
    obtain ⟨y',q1,q2,q3⟩:=A0D hh h1 hc.1;obtain ⟨ys',q4,q5,q6⟩:=QF hh h2 hc.2;exact ⟨y'::ys',by simp only[A5,q1,q4],⟨q2,q5⟩,by rw[zb5,q3,q6]; rfl⟩
  ·cases h
theorem KR:∀ {xs xs':List SV} {kills:List Nat} {deep:Bool},L1 hp xs=some (xs',kills,deep)->xs.all okT=true
 | [],_,_,_,_=>rfl
 | x::xs,xs',kills,deep,h=>by
  simp only[L1] at h
  split at h
  ·rename_i x1 a d xs1 as ds h1 h2;have:okT x=true:=by
    cases x <;> first | rfl | (simp[Z8] at h1; done) | skip
   simp only[zd0,this,KR h2,Bool.and_self]
  ·cases h
theorem Bi6 {t:TypeId} {a x:Operand} (hX:XOK P X) (hh:RH hp hv) (hr:RT hp tm m) (h:BU X (.store t a x) b tm hp K=some z):At1 P R cf (.store t a x) b tm m hv K z:=by
 simp only[BU,Ba1] at h;have ha:=Bd hr a;have hx:=Bd hr x
 split at h
 ·rename_i d id r c hd e1;rw[e1] at ha;have ha:AR m a = .rf id r c:=ha
  split at h
  ·rename_i hlen;have hlen:=za6 hlen
   split at h
   ·rename_i ty cs hg
    split at h
    ·split at h
     ·rename_i hok
      split at h
      ·rename_i cs' hput;obtain ⟨kb,hkb,hk1,hk2,row,hk3,hk4,hk5⟩:=hh id _ hg;obtain ⟨f1,f2⟩:=LL hx hok;obtain ⟨row',p1,p2⟩:=RC.put hput hk5 f1;have hkeep:∀ i,CY hp ((id,some (.box ty cs'))::hp) i:=fun i=>Am3 (y:=.box ty cs') hg rfl i
       have hrl:row'.length=row.length:=by
        have q1:=p2.length;have q2:=hk5.length;have q3:cs'.length=cs.length:=by
         unfold A6C at hput
         split at hput
         ·cases hput; simp; omega
         ·cases hput
        omega
       refine ⟨_,_,_,.any,upd hv id (some { kb with rows:=kb.rows.set 0 row' }),h,trivial,?_,hr.keeps fun t i _=>hkeep i,fun KV hk=>?_⟩
       ·exact hh.put (fun i _=>hkeep i) (fun _ _ _ _ i _=>hkeep i) ⟨hk1,hk2,row',by rw[hk3]; rfl,by show kb.size=_; rw[hk4,hrl],p2⟩
       ·show CC P t (AR m a) (AR m x) hv KV;have hl:(flat (AR m x)).length=d.size:=by have:=f1.length; omega
        simp only[CC,hX.ty t d hd,ha,hkb,hk3,List.getElem?_cons_zero,hl,if_true,hk1,f2,p1];rw[hk3,hk1] at hk;exact hk
      ·cases h
     ·cases h
    ·cases h
   ·rename_i ty deep e l hg;obtain ⟨y,h1,h⟩:=Bt h
    split at h
    ·rename_i cs kills deep' hcl
     split at h
     ·rename_i hnd
      split at h
      ·rename_i cs' hput
       split at h
       ·rename_i zz hz;obtain ⟨kb,hkb,hk1,hk2,hk3,hk4,hk5⟩:=hh id _ hg;obtain ⟨f1,f2⟩:=LL hx (KR hcl);obtain ⟨ys,q1,q2,q3⟩:=QF hh hcl f1;obtain ⟨row,hrow,hre⟩:=hk5.get h1;obtain ⟨row',p1,p2⟩:=RC.put hput hre.cells q2;have hrz:=Ap0 hz p2;have hidk:id ∉ kills:=by
         simp only[Er,za2,Bool.not_eq_true',List.contains_eq_mem,decide_eq_false_iff_not] at hnd;exact hnd.1
        have hkeep:∀ i,CY hp ((id,some (.arr ty (deep&&deep') e (l.set r zz)))::Ee hp kills) i:=by
         intro i bb hbb;rw[AL] at hbb
         split at hbb
         ·rename_i hi; subst hi; cases hbb; exact ⟨_,hg,by simp[FY]⟩
         ·exact Ij kills hp i bb hbb
        have hkeep':∀ i,CY (Ee hp kills) ((id,some (.arr ty (deep&&deep') e (l.set r zz)))::Ee hp kills) i:=by
         intro i bb hbb;rw[AL] at hbb
         split at hbb
         ·rename_i hi;subst hi;cases hbb
          cases hgk:AQ (Ee hp kills) i with
          | none =>
           exfalso
           have:∀ (ks:List Nat) (hp:THp),i ∉ ks->AQ (Ee hp ks) i=AQ hp i:=by
            intro ks
            induction ks with
            | nil=>intro hp _; rfl
            | cons q ks ih =>
             intro hp hq;simp only[zc8,not_or] at hq;rw[Ee,ih _ hq.2,AL,if_neg hq.1]
           rw[this kills hp hidk,hg] at hgk;cases hgk
          | some b0 =>
           have:=(UK kills hp i b0 hgk).1;rw[hg] at this;cases this
           exact ⟨_,rfl,by simp[FY]⟩
         ·exact ⟨bb,hbb,rfl⟩
        refine ⟨_,_,_,.any,upd (kill hv kills) id (some { kb with rows:=kb.rows.set r row',deep:=kb.deep&&deep' }),h,trivial,?_,hr.keeps fun t i _=>hkeep i,fun KV hk=>?_⟩
        ·exact (hh.kill kills).put (fun i _=>hkeep' i) (fun _ _ _ _ i _=>hkeep' i) ⟨hk1,hk2,by show (kb.deep&&deep')=_; rw[hk3],hk4,hk5.set r hrz⟩
        ·show CC P t (AR m a) (AR m x) hv KV;have hl:(flat (AR m x)).length=d.size:=by have:=f1.length; omega
         simp only[CC,hX.ty t d hd,ha,hkb,hrow,hl,if_true,hk1,q1,hnd,p1];rw[hk1] at hk;exact hk
       ·cases h
      ·cases h
     ·cases h
    ·cases h
   ·cases h
  ·cases h
 ·cases h
theorem Zq {e:Ty} {size:Nat} (hr:RT hp tm m) (hh:RH hp hv) (hs:size=e.size):∀ {Ap:List (Nat×Operand)} {n:Nat} {l:List e.den} {kills:List Nat} {deep:Bool},Ol hp tm e n Ap=some (l,kills,deep) ->
  ∃ rows,Be hv (AR m) size n Ap=some (rows,kills,deep)/\RLx (RE e) l rows
 | [],n,l,kills,deep,h=>by
  simp only[Ol,Option.some.injEq,Prod.mk.injEq] at h;obtain ⟨rfl,rfl,rfl⟩:=h;exact ⟨[],rfl,RLx.nil⟩
 | (k,x)::Ap,n,l,kills,deep,h=>by
  simp only[Ol] at h
  split at h
  ·rename_i hc;simp only[za2] at hc;have h1:=za6 hc.1;have h2:=za6 hc.2
   split at h
   ·rename_i cs a d ys as ds g1 g2
    split at h
    ·rename_i y hy;simp only[Option.some.injEq,Prod.mk.injEq] at h;obtain ⟨rfl,rfl,rfl⟩:=h;obtain ⟨f1,f2⟩:=LL (Bd hr x) (KR g1);obtain ⟨us,q1,q2,q3⟩:=QF hh g1 f1;obtain ⟨rows,q4,q5⟩:=Zq hr hh hs g2;refine ⟨us::rows,?_,RLx.cons (Ap0 hy q2) q5⟩
     simp only[Be,q1,q4];rw[if_pos ⟨h1,by have:=f1.length; omega⟩]
    ·cases h
   ·cases h
  ·cases h
theorem A1q {cs:List SV}:∀ {us:List V},RC (RV0 hp) cs us->cs.all okT=true->cs.all As1=us.all Aa1:=by
 induction cs with
 | nil =>
  intro us h _;cases us with
  | nil=>rfl
  | cons a l=>exact h.elim
 | cons c cs ih =>
  intro us h hok;cases us with
  | nil=>exact h.elim
  | cons u us =>
   simp only[zd0,za2] at hok;simp only[zd0,ih h.2 hok.2];have h1:As1 c=Aa1 u:=by
    have h0:=h.1;cases c with
    | int k n=>have:u=_:=h0; subst this; rfl
    | bool b=>have:u=_:=h0; subst this; rfl
    | str s=>have:u=_:=h0; subst this; rfl
    | sc x=>have:u=_:=h0; subst this; rfl
    | em=>have:u=_:=h0; subst this; rfl
    | im t l=>rcases h0 with ⟨_,rfl⟩ | ⟨rows,rfl,_⟩ <;> rfl
    | ow id=>obtain ⟨n,rfl,_⟩:=h0; rfl
    | ar a b c=>have:u=_:=h0; subst this; rfl
    | rf a b c=>have:u=_:=h0; subst this; rfl
    | ir a b c=>obtain ⟨row,rfl,_⟩:=h0; rfl
    | cl f caps =>
     cases caps with
     | nil=>have:u=_:=h0; subst this; rfl
     | cons a l=>simp[okT] at hok
    | er b=>simp[okT] at hok
    | agg l=>simp[okT] at hok
    | tup l=>simp[okT] at hok
    | any=>simp[okT] at hok
   rw[h1]
theorem Az5 {e:Ty} (hr:RT hp tm m):∀ {Ap:List (Nat×Operand)} {n:Nat} {l:List e.den} {kills:List Nat} {deep:Bool},Ol hp tm e n Ap=some (l,kills,deep)->A4d tm Ap=My (AR m) Ap
 | [],n,l,kills,deep,h=>rfl
 | (k,x)::Ap,n,l,kills,deep,h=>by
  simp only[Ol] at h
  split at h
  ·split at h
   ·rename_i cs a d ys as ds g1 g2;obtain ⟨f1,f2⟩:=LL (Bd hr x) (KR g1);have h1:=A1q f1 (KR g1);have h2:=Az5 hr g2;unfold A4d My at h2 ⊢
    simp only[zd0,h1,h2]
   ·cases h
  ·cases h
theorem Bd4 {t:TypeId} {len:Nat} {Ap:Array (Nat×Operand)} (hX:XOK P X) (hh:RH hp hv) (hr:RT hp tm m) (h:BU X (.buildSlice t len Ap) b tm hp K=some z) :
  At1 P R cf (.buildSlice t len Ap) b tm m hv K z:=by
 simp only[BU,A0N] at h
 split at h
 ·rename_i e de c he;have hE:=R7 hX he;generalize hps:Ap.toList=ps at h;cases len with
  | zero =>
   cases ps with
   | nil =>
    refine ⟨_,_,_,.em,hv,h,rfl,hh,hr,fun KV hk=>?_⟩
    show AF P t 0 Ap.toList (AR m) hv b KV;rw[hps];simp only[AF,hE.el,hE.ty,Au,true_and];exact hk
   | cons a l=>cases h
  | succ len =>
   simp only at h
   split at h
   ·rename_i l kills deep hcl
    split at h
    ·rename_i hc;simp only[za2] at hc;obtain ⟨⟨⟨c1,c2⟩,c3⟩,hf⟩:=hc;have c1:=za6 c1;have c2:=Nat.le_of_ble_eq_true c2;obtain ⟨rows,q1,q2⟩:=Zq hr hh hE.size hcl;obtain ⟨g1,g2⟩:=Xo (x:=.arr e deep c l) (k:=AW e de.size deep rows) (hh.kill kills) (hr.keeps fun t i _=>Ij kills hp i) (Ll hf) (fun id y hy=>Tn hf hy) (by simp[MC]) ⟨rfl,rfl,rfl,hE.size,q2⟩;refine ⟨_,_,_,.ar b 0 (len + 1),_,h,⟨len + 1,rfl,fun bb hb=>?_⟩,g1,g2,fun KV hk=>?_⟩
     ·rw[AL,if_pos rfl] at hb;cases hb
      simp[FY,c1]
     ·show AF P t (len + 1) Ap.toList (AR m) hv b KV;rw[hps];simp only[AF,hE.el,hE.ty,Au,q1];rw[Az5 hr hcl] at hk;exact ⟨by rw[q2.1]; exact c1,by simpa using c2,c3,hk⟩
    ·cases h
   ·cases h
 ·cases h
theorem Bc2 {c:Ty} {d:TyD} {x:SV} {y:V} {l:List c.den} {kills:List Nat} {deep:Bool} (hh:RH hp hv) (hf:d.zero.all ZE=EZ c) (h:Bs2 c x hp=some (l,kills,deep)) (hx:RV2 hp x y) :
  ∃ rows,RLx (RE c) l rows/\∀ KV:List (List V)->List Nat->Bool->Prop,KV rows kills deep->BL d y hv KV:=by
 have hsc:∀ rows,EZ c=true->RLx (RE c) l rows->DL rows=true:=by
  intro rows hfl hr;refine za5.2 fun row hrow=>?_
  obtain ⟨i,hi⟩:=List.getElem?_of_mem hrow;obtain ⟨a,_,hre⟩:=hr.get' hi;exact L0 hfl hre
 have im:∀ rows,RLx (RE c) l rows->(d.zero.all ZE&&DL rows)=EZ c:=by
  intro rows hr;rw[hf];cases hfl:EZ c with
  | false=>rfl
  | true=>rw[hsc rows hfl hr]; rfl
 unfold Bs2 at h
 split at h
 ·rename_i id;obtain ⟨n,rfl,hlen⟩:=hx
  split at h
  ·rename_i a dd t l0 hg;obtain ⟨k,hk,hk1,hk2,hk3,hk4,hk5⟩:=hh id _ hg;have:=hlen _ hg;cases this
   have hrows:(k.rows.take (0 + l0.length)).drop 0=k.rows:=by rw[ze4,<-hk5.1]; simp
   split at h
   ·rename_i he
    split at h
    ·rename_i hfl;simp only[Option.some.injEq,Prod.mk.injEq] at h;obtain ⟨rfl,rfl,rfl⟩:=h;have hr:=Hc he hk5;refine ⟨k.rows,hr,fun KV hK=>?_⟩
     simp only[BL,hk,hk1,hrows];rw[if_pos (by rw[hf]; exact hfl)];exact ⟨hsc _ hfl hr,hK⟩
    ·rename_i hfl;simp only[Option.some.injEq,Prod.mk.injEq] at h;obtain ⟨rfl,rfl,rfl⟩:=h;have hr:=Hc he hk5;refine ⟨k.rows,hr,fun KV hK=>?_⟩
     simp only[BL,hk,hk1,hrows];rw[if_neg (by rw[hf]; exact hfl),hk3];exact hK
   ·cases h
  ·rename_i a dd t l0 hg;obtain ⟨k,hk,hk1,hk2,hk3,hk4,hk5⟩:=hh id _ hg;have:=hlen _ hg;cases this
   have hrows:(k.rows.take (0 + l0.length)).drop 0=k.rows:=by rw[ze4,<-hk5.1]; simp
   split at h
   ·rename_i he;simp only[Option.some.injEq,Prod.mk.injEq] at h;obtain ⟨rfl,rfl,rfl⟩:=h;have hr:=Hc he hk5;refine ⟨k.rows,hr,fun KV hK=>?_⟩
    simp only[BL,hk,hk1,hrows,im _ hr];exact hK
   ·cases h
  ·cases h
 ·rename_i id lo n;have hx:y = .ar id lo n:=hx;subst hx
  split at h
  ·rename_i a dd t l0 hg;obtain ⟨k,hk,hk1,hk2,hk3,hk4,hk5⟩:=hh id _ hg
   split at h
   ·rename_i he
    split at h
    ·rename_i hfl;simp only[Option.some.injEq,Prod.mk.injEq] at h;obtain ⟨rfl,rfl,rfl⟩:=h;have hr:=((Hc he hk5).take (lo + n)).drop lo;refine ⟨_,hr,fun KV hK=>?_⟩
     simp only[BL,hk,hk1];rw[if_pos (by rw[hf]; exact hfl)];exact ⟨hsc _ hfl hr,hK⟩
    ·rename_i hfl;simp only[Option.some.injEq,Prod.mk.injEq] at h;obtain ⟨rfl,rfl,rfl⟩:=h;have hr:=((Hc he hk5).take (lo + n)).drop lo;refine ⟨_,hr,fun KV hK=>?_⟩
     simp only[BL,hk,hk1];rw[if_neg (by rw[hf]; exact hfl),hk3];exact hK
   ·cases h
  ·rename_i a dd t l0 hg;obtain ⟨k,hk,hk1,hk2,hk3,hk4,hk5⟩:=hh id _ hg
   split at h
   ·rename_i he;simp only[Option.some.injEq,Prod.mk.injEq] at h;obtain ⟨rfl,rfl,rfl⟩:=h;have hr:=((Hc he hk5).take (lo + n)).drop lo;refine ⟨_,hr,fun KV hK=>?_⟩
    simp only[BL,hk,hk1,im _ hr];exact hK
   ·cases h
  ·cases h
 ·split at h
  ·rename_i hl;simp only[Option.some.injEq,Prod.mk.injEq] at h;obtain ⟨rfl,rfl,rfl⟩:=h;rename_i l';have hx0:RV0 hp x y:=AH3 (hpm:=hp) (e:=c) (l:=l') (by unfold Hx; split <;> simp_all [asL]) hx;rcases AR7 hl hx0 with ⟨rfl,rfl⟩ | ⟨rows,rfl,hr⟩
   ·exact ⟨[],RLx.nil,fun KV hK=>by simp only[BL]; rw[hf]; exact hK⟩
   ·exact ⟨rows,hr,fun KV hK=>by simp only[BL]; rw[im _ hr]; exact hK⟩
  ·cases h
theorem A7e {β:Type} {bytes size:Nat} {l m r:List β} (h:Ct bytes size l m=some r):r=l++m/\(l.length + m.length)*bytes<=Ag/\(l.length + m.length)*size<=Ag:=by
 unfold Ct at h
 split at h
 ·rename_i hc; cases h; exact ⟨rfl,hc⟩
 ·cases h
theorem A78 {args : Array Operand} {ts : Array TypeId} (hX : XOK P X) (hh : RH hp hv) (hr : RT hp tm m) (h : BU X (.call { callee := .builtin .append, args := args, argTypes := ts }) b tm hp K = some z) :
    At1 P R cf (.call { callee := .builtin .append, args := args, argTypes := ts }) b tm m hv K z := by
  simp only [BU] at h
  split at h
  · rename_i s x hargs
    unfold A4W at h
    split at h
    · rename_i t t' hts
      split at h
      · rename_i htt
        have htt := za6 htt
        split at h
        · rename_i e de c he
          have hE := R7 hX he
          split at h
          · rename_i mm kills deep hsrc
            obtain ⟨rows, r1, r2⟩ := Bc2 (d := de) hh hE.flat hsrc (Bd hr x);have hs := Bd hr s;have hrl : ∀ r ∈ rows, r.length = de.size := fun row hrow => by
              obtain ⟨i, hi⟩ := List.getElem?_of_mem hrow;obtain ⟨a, _, hre⟩ := r1.get' hi;rw [hre.len, hE.size]
            have step : ∀ KV : Cq, (∀ s', AR m s = s' -> BL de (AR m x) hv fun rows kills deep =>
                match s' with
                | .em =>
                  rows.length * de.bytes <= Ag /\ rows.length * de.size <= Ag /\ (∀ r ∈ rows, r.length = de.size) /\ Er kills = true /\
                  KV (.ar b 0 rows.length) (upd (kill hv kills) b (some (AW e de.size deep rows))) (match kills with | [] => .M | _ => .E)
                | .ar id lo n =>
                  BI (hv id) fun k =>
                    k.kind = .arr /\ lo = 0 /\ k.ty = e /\ k.size = de.size /\ Er (id :: kills) = true /\
                    (n + rows.length) * de.bytes <= Ag /\ (n + rows.length) * de.size <= Ag /\ (∀ r ∈ rows, r.length = de.size) /\
                    KV (.ar b 0 (n + rows.length)) (upd (kill hv (id :: kills)) b (some (AW e de.size (k.deep && deep) (k.rows.take n ++ rows)))) .E
                | _ => False) -> BB P R cf (.call { callee := .builtin .append, args := args, argTypes := ts }) b (AR m) hv KV := by
              intro KV hK;show (match args.toList with | [s, x] => CO P ts.toList (AR m s) (AR m x) hv b KV | _ => False);rw [hargs, hts];simp only [CO, hE.el, hE.ty, Au];exact ⟨htt, hK _ rfl⟩
            have own : ∀ (id n ty : Nat) (d0 : Bool) (l : List c.den) (k : Blk), AR m s = .ar id 0 n -> hv id = some k -> k.kind = .arr -> k.ty = ty -> k.deep = d0 -> k.size = c.size -> RLx (RE c) l (k.rows.take n) -> l.length = n ->
                (Nat.beq ty e && Er (id :: kills) && HN tm hp b) = true -> ((Ct de.bytes de.size l mm).bind fun r => K (.ow b) ((b, some (.arr e (d0 && deep) c r)) :: Ee hp (id :: kills)) .E) = some z ->
                At1 P R cf (.call { callee := .builtin .append, args := args, argTypes := ts }) b tm m hv K z := by
              intro id n ty d0 l k hs hk k1 k2 k3 k4 hl hln hc h;simp only [za2] at hc;obtain ⟨⟨c1, c2⟩, hf⟩ := hc;have c1 := za6 c1;obtain ⟨r, a1, a2⟩ := Bt h;obtain ⟨rfl, a3, a4⟩ := A7e a1;obtain ⟨g1, g2⟩ := Xo (x := .arr e (d0 && deep) c (l ++ mm)) (k := AW e de.size (k.deep && deep) (k.rows.take n ++ rows)) (hh.kill (id :: kills)) (hr.keeps fun t i _ => Ij (id :: kills) hp i) (Ll hf) (fun id y hy => Tn hf hy) (by simp [MC])
                ⟨rfl, rfl, by show (k.deep && deep) = _; rw [k3], hE.size, hl.append r1⟩
              refine ⟨_, _, _, .ar b 0 (n + rows.length), _, a2, ⟨n + rows.length, rfl, fun bb hb => ?_⟩, g1, g2, fun KV hk' => step KV fun s' hs' => ?_⟩
              · rw [AL, if_pos rfl] at hb
                cases hb
                simp [FY, hln, r1.1]
              · rw [hs] at hs'
                subst hs';refine r2 _ ?_
                simp only [hk, Au];exact ⟨k1, trivial, by rw [k2, c1], by rw [k4, hE.size], c2, by rw [r1.1, <- hln]; exact a3, by rw [r1.1, <- hln]; exact a4, hrl, hk'⟩
            split at h
            · rename_i e1
              rw [e1] at hs;have hs : AR m s = .em := hs
              split at h
              · rename_i hc
                simp only [za2] at hc;obtain ⟨c1, hf⟩ := hc;obtain ⟨hroom, h⟩ := Dh h;simp only [AD1, za2, decide_eq_true_eq] at hroom;obtain ⟨g1, g2⟩ := Xo (x := .arr e deep c mm) (k := AW e de.size deep rows) (hh.kill kills) (hr.keeps fun t i _ => Ij kills hp i) (Ll hf) (fun id y hy => Tn hf hy) (by simp [MC]) ⟨rfl, rfl, rfl, hE.size, r1⟩;refine ⟨_, _, _, .ar b 0 rows.length, _, h, ⟨rows.length, rfl, fun bb hb => ?_⟩, g1, g2, fun KV hk => step KV fun s' hs' => ?_⟩
                · rw [AL, if_pos rfl] at hb
                  cases hb
                  simp [FY, r1.1]
                · rw [hs] at hs'
                  subst hs';refine r2 _ ?_
                  exact ⟨by rw [r1.1]; exact hroom.1, by rw [r1.1]; exact hroom.2, hrl, c1, hk⟩
              · cases h
            · rename_i id e1
              rw [e1] at hs;obtain ⟨n, hs, hlen⟩ := hs
              split at h
              · rename_i ty d0 t0 l hg
                split at h
                · rename_i ht0
                  split at h
                  · rename_i hc
                    obtain ⟨k, hk, k1, k2, k3, k4, k5⟩ := hh id _ hg;have := hlen _ hg;cases this
                    subst ht0
                    exact own id l.length ty d0 l k hs hk k1 k2 k3 k4 (by have : k.rows.take l.length = k.rows := by rw [<- k5.1]; simp
                                                                          rw [this]; exact k5) rfl hc h
                  · cases h
                · cases h
              · cases h
            · rename_i id n e1
              rw [e1] at hs;have hs : AR m s = .ar id 0 n := hs
              split at h
              · rename_i ty d0 t0 l hg
                split at h
                · rename_i ht0
                  split at h
                  · rename_i hc
                    obtain ⟨k, hk, k1, k2, k3, k4, k5⟩ := hh id _ hg;subst ht0;obtain ⟨hle, h⟩ := Dh h;have hle := of_decide_eq_true hle;exact own id n ty d0 (l.take n) k hs hk k1 k2 k3 k4 (k5.take n) (by simp; omega) hc h
                  · cases h
                · cases h
              · cases h
            · cases h
          · cases h
        · cases h
      · cases h
    · cases h
  · cases h
end
end
section
open Go
section
variable {tm:TTm} {m:Tm} {hp hp':THp} {hv hv':Hp}
theorem A52 {id:Nat} (hh:RH hp hv):RH ((id,(AQ hp id).map A7F)::hp) (upd hv id ((hv id).map fun k=>{ k with kind:=match k.kind with | .arr=>.frz | x=>x }))/\∀ i,CY hp ((id,(AQ hp id).map A7F)::hp) i:=by
 have hk:∀ i,CY hp ((id,(AQ hp id).map A7F)::hp) i:=by
  intro i b hb;rw[AL] at hb
  split at hb
  ·rename_i hi;subst hi;simp only[zb6] at hb;obtain ⟨b0,h0,rfl⟩:=hb;exact ⟨b0,h0,by cases b0 <;> rfl⟩
  ·exact ⟨b,hb,rfl⟩
 refine ⟨fun i b hb=>?_,hk⟩
 rw[AL] at hb
 split at hb
 ·rename_i hi;subst hi;simp only[zb6] at hb;obtain ⟨b0,h0,rfl⟩:=hb;obtain ⟨k,hk1,hrb⟩:=hh i b0 h0;refine ⟨_,by simp only[upd,if_true,hk1,zd9]; rfl,RB.keeps (hp:=hp) ?_ fun j _=>hk j⟩
  cases b0 with
  | box ty cs=>obtain ⟨h1,h2,h3⟩:=hrb; exact ⟨by simp[h1],h2,h3⟩
  | arr ty deep t l=>obtain ⟨h1,h2,h3⟩:=hrb; exact ⟨by simp[h1],h2,h3⟩
  | frz ty deep t l=>obtain ⟨h1,h2,h3⟩:=hrb; exact ⟨by simp[h1],h2,h3⟩
 ·rename_i hi;obtain ⟨k,hk1,hrb⟩:=hh i b hb;exact ⟨k,by simp only[upd,if_neg hi]; exact hk1,hrb.keeps fun j _=>hk j⟩
theorem An0:∀ (l:List Nat) {hp:THp} {hv:Hp},RH hp hv->RH (E7 hp l) (freeze hv l)/\∀ i,CY hp (E7 hp l) i
 | [],hp,hv,h=>⟨h,fun i=>CY.refl hp i⟩
 | id::l,hp,hv,h=>by
  obtain ⟨h1,h2⟩:=A52 (id:=id) h;obtain ⟨h3,h4⟩:=An0 l h1;exact ⟨h3,fun i=>(h2 i).trans (h4 i)⟩
theorem Zb:∀ (l:List Nat) (hp:THp) (id:Nat),id ∉ l->AQ (E7 hp l) id=AQ hp id
 | [],_,_,_=>rfl
 | x::l,hp,id,h=>by
  simp only[zc8,not_or] at h;rw[E7,Zb l _ id h.2,AL,if_neg h.1]
theorem X6:∀ (l:List Nat) (hp:THp) (id:Nat) (ty:TypeId) (cs:List SV),AQ hp id=some (.box ty cs)->AQ (E7 hp l) id=some (.box ty cs)
 | [],_,_,_,_,h=>h
 | x::l,hp,id,ty,cs,h=>by
  rw[E7];refine X6 l _ id ty cs ?_
  rw[AL]
  split
  ·rename_i he; subst he; rw[h]; rfl
  ·exact h
theorem AG7 {hp:THp} {id:Nat} {b:TB} (h:AQ hp id=some b):(id,some b)∈hp:=by
 induction hp with
 | nil=>cases h
 | cons a l ih =>
  obtain ⟨k,x⟩:=a;rw[AL] at h
  split at h
  ·rename_i he; subst he; subst h; simp
  ·exact List.mem_cons_of_mem _ (ih h)
theorem Rf {a b:Nat} (h:Nat.blt a b=true):a<b:=Nat.lt_of_succ_le (Nat.le_of_ble_eq_true h)
def Bel (b:Nat) (hp:THp):Prop:=∀ id k,AQ hp id=some k->id<b/\∀ i∈MC k,i<b
theorem Bel.mono {b b':Nat} {hp:THp} (h:Bel b hp) (hb:b<=b'):Bel b' hp:=fun id k hk=>⟨zd7 (h id k hk).1 hb,fun i hi=>zd7 ((h id k hk).2 i hi) hb⟩
theorem W7 {tm:TTm} {hp:THp} {b:Nat} (h:WL tm hp b=true):Bel b hp/\∀ t,∀ i∈HL (CK tm t),i<b:=by
 simp only[WL,za2] at h;refine ⟨fun id k hk=>?_,fun t i hi=>?_⟩
 ·have:=za5.1 h.2 _ (AG7 hk);simp only[za2] at this;exact ⟨Rf this.1,fun i hi=>Rf (za5.1 this.2 i hi)⟩
 ·rcases A0R (tm:=tm) (t:=t) with h' | ⟨x,hx,h'⟩
  ·rw[h'] at hi; simp[HL,Aw2,FV] at hi
  ·rw[<-h'] at hi;exact Rf (za5.1 (za5.1 h.1 x hx) i hi)
theorem A97 {b:TB} {i:Nat} (h:i∈MC (A7F b)):i∈MC b:=by
 cases b with
 | arr _ _ _ _=>simp[A7F,MC] at h
 | _=>exact h
theorem Qj:∀ (l:List Nat) {hp:THp} {b:Nat},Bel b hp->Bel b (E7 hp l)
 | [],_,_,h=>h
 | x::l,hp,b,h=>by
  rw[E7];refine Qj l fun id k hk=>?_
  rw[AL] at hk
  split at hk
  ·rename_i he;subst he;simp only[zb6] at hk;obtain ⟨k0,h0,rfl⟩:=hk;exact ⟨(h id k0 h0).1,fun i hi=>(h id k0 h0).2 i (A97 hi)⟩
  ·exact h id k hk
theorem A7i {hp:THp} {x:SV} {y:V} (h:RV0 hp x y) (hx:okT x=true):BG y=true:=by
 cases x with
 | im t l=>rcases h with ⟨_,rfl⟩ | ⟨_,rfl,_⟩ <;> rfl
 | ow id=>obtain ⟨_,rfl,_⟩:=h; rfl
 | ir t a c=>obtain ⟨_,rfl,_⟩:=h; rfl
 | cl f cs=>cases cs with | nil=>have:y=_:=h; subst this; rfl | cons a l=>exact h.elim
 | any=>simp[okT] at hx
 | agg cs=>exact h.elim
 | tup cs=>exact h.elim
 | int k n=>have:y=_:=h; subst this; rfl
 | bool k=>have:y=_:=h; subst this; rfl
 | str k=>have:y=_:=h; subst this; rfl
 | sc k=>have:y=_:=h; subst this; rfl
 | em=>have:y=_:=h; subst this; rfl
 | er e=>simp[okT] at hx
 | ar a b c=>have:y=_:=h; subst this; rfl
 | rf a b c=>have:y=_:=h; subst this; rfl
structure NV (b n:Nat) (hp:THp) (hp':THp) (hv':Hp):Prop where
 rh:RH hp' hv'
 bel:Bel (b + n) hp'
 keep:∀ i,i<b->CY hp hp' i
structure NT (b n:Nat) (hp:THp) (hp':THp) (hv':Hp):Prop extends NV b n hp hp' hv' where
 box:∀ i ty cs,i<b->AQ hp i=some (.box ty cs)->AQ hp' i=some (.box ty cs)
theorem NT.refl (hh:RH hp hv) {b:Nat} (hb:Bel b hp):NT b 0 hp hp hv:=⟨⟨hh,hb,fun i _=>CY.refl hp i⟩,fun _ _ _ _ h=>h⟩
theorem NT.trans {b n k:Nat} {hp1 hp2:THp} {hv1 hv2:Hp} (h:NT b n hp hp1 hv1) (g:NT (b + n) k hp1 hp2 hv2):NT b (n + k) hp hp2 hv2 :=
 ⟨⟨g.rh,by have:=g.bel; rwa [Nat.add_assoc] at this,fun i hi=>(h.keep i hi).trans (g.keep i (by omega))⟩,fun i ty cs hi hg=>g.box i ty cs (by omega) (h.box i ty cs hi hg)⟩
theorem A42 {m:TM} {v v':SV} {y:V} {b n:Nat} (hh:RH hp hv) (hb:Bel b hp) (hi:∀ i∈FV v,i<b) (hv0:RV0 hp v y) (h:tnC m v hp b=some (v',hp',n)) :
  ∃ y' hv',Pg m.md y hv b=some (y',hv',n)/\NT b n hp hp' hv'/\RV0 hp' v' y'/\∀ i∈FV v',i<b + n:=by
 cases m with
 | keep =>
  simp only[tnC,Option.some.injEq,Prod.mk.injEq] at h;obtain ⟨rfl,rfl,rfl⟩:=h;exact ⟨y,hv,rfl,NT.refl hh hb,hv0,hi⟩
 | own ty deep t =>
  cases v with
  | em =>
   simp only[tnC,Option.some.injEq,Prod.mk.injEq] at h;obtain ⟨rfl,rfl,rfl⟩:=h;have:y = .em:=hv0;subst this;refine ⟨.ar b 0 0,upd hv b (some (AW ty t.size deep [])),rfl,⟨⟨?_,fun id k hk=>?_,fun i hi=>M4 (by omega)⟩,fun i ty' cs hi hg=>by rw[AL,if_neg (by omega)]; exact hg⟩,⟨0,rfl,fun k hk=>?_⟩,fun i hi=>by simp[FV] at hi; omega⟩
   ·exact hh.put (fun i hi=>by simp[MC] at hi) (fun id z _ hz i hi=>M4 fun he=>by have:=(hb id z hz).2 i hi; omega) ⟨rfl,rfl,rfl,rfl,RLx.nil⟩
   ·rw[AL] at hk
    split at hk
    ·cases hk; exact ⟨by omega,fun i hi=>by simp[MC] at hi⟩
    ·exact (hb.mono (by omega)) id k hk
   ·rw[AL,if_pos rfl] at hk;cases hk; rfl
  | ow id =>
   simp only[tnC] at h
   split at h
   ·rename_i ty' deep' t' l hg
    split at h
    ·rename_i he
     split at h
     ·rename_i hc;simp only[za2,beq_iff_eq] at hc;simp only[Option.some.injEq,Prod.mk.injEq] at h;obtain ⟨rfl,rfl,rfl⟩:=h;subst he;have e1:=za6 hc.1;have e2:=hc.2;subst e1;subst e2;obtain ⟨k,hk,k1,k2,k3,k4,k5⟩:=hh id _ hg;obtain ⟨n',rfl,hlen⟩:=hv0;have hn':=hlen _ hg;cases hn'
      refine ⟨.ar id 0 l.length,hv,?_,NT.refl hh hb,⟨_,rfl,hlen⟩,hi⟩
      show (match hv id with | some k=>if k.kind=Kind.arr/\0=0/\l.length=k.rows.length/\k.ty=ty'/\k.size=t'.size/\k.deep=deep' then some (V.ar id 0 l.length,hv,0) else none | none=>none)=_;rw[hk];simp only;rw[if_pos ⟨k1,trivial,k5.1.symm,k2,k4,k3⟩]
     ·cases h
    ·cases h
   ·cases h
  | _=>simp[tnC] at h
 | im t =>
  simp only[tnC] at h
  split at h
  ·rename_i l hl;simp only[Option.some.injEq,Prod.mk.injEq] at h;obtain ⟨rfl,rfl,rfl⟩:=h;obtain ⟨g1,g2⟩:=An0 (frV v) hh;have nt:NT b 0 hp (E7 hp (frV v)) (freeze hv (frV v)):=⟨⟨g1,Qj _ hb,fun i _=>g2 i⟩,fun i ty cs _ hg=>X6 _ _ _ _ _ hg⟩;rcases Ab9 hl hv0 hh.toM with ⟨rfl,rfl⟩ | ⟨rows,rfl,hr⟩ | ⟨id,lo,n,kb,rfl,hk,hkk,hr⟩
   ·have hf:frV v = []:=by
     cases v <;> first | rfl | (obtain ⟨n,hy,_⟩:=hv0; cases hy) | (have:V.em=_:=hv0; cases this)
    exact ⟨.im [],_,by rw[hf]; rfl,nt,.inr ⟨[],rfl,RLx.nil⟩,fun i hi=>by simp[FV] at hi⟩
   ·have hf:frV v = []:=by
     cases v <;> first | rfl | (obtain ⟨n,hy,_⟩:=hv0; cases hy) | (have:V.im rows=_:=hv0; cases this)
    exact ⟨.im rows,_,by rw[hf]; rfl,nt,.inr ⟨rows,rfl,hr⟩,fun i hi=>by simp[FV] at hi⟩
   ·have hf:frV v = [id]:=by
     cases v with
     | ow id'=>obtain ⟨n',hy,_⟩:=hv0; cases hy; rfl
     | ar a b c=>have:V.ar id lo n=_:=hv0; cases this; rfl
     | em=>have:V.ar id lo n=_:=hv0; cases this
     | er e=>have:V.ar id lo n=_:=hv0; cases this
     | im t' l'=>rcases hv0 with ⟨_,hy⟩ | ⟨_,hy,_⟩ <;> cases hy
     | _=>simp[Hx,asL] at hl
    refine ⟨.im ((kb.rows.take (lo + n)).drop lo),_,?_,nt,.inr ⟨_,rfl,hr⟩,fun i hi=>by simp[FV] at hi⟩
    rw[hf];show (match hv id with | some k=>(match k.kind with | .box=>none | _=>some (V.im ((k.rows.take (lo + n)).drop lo),freeze hv [id],0)) | none=>none)=_;rw[hk];simp only
  ·cases h
 | sub =>
  cases v with
  | ow id =>
   simp only[tnC] at h
   split at h
   ·rename_i ty' deep' t' l hg;simp only[Option.some.injEq,Prod.mk.injEq] at h;obtain ⟨rfl,rfl,rfl⟩:=h;obtain ⟨n',rfl,hlen⟩:=hv0;have hn':=hlen _ hg;cases hn'
    exact ⟨_,hv,rfl,NT.refl hh hb,rfl,fun i hi=>by simp[FV] at hi⟩
   ·cases h
  | ar id lo n' =>
   simp only[tnC,Option.some.injEq,Prod.mk.injEq] at h;obtain ⟨rfl,rfl,rfl⟩:=h;exact ⟨y,hv,rfl,NT.refl hh hb,hv0,hi⟩
  | _=>simp[tnC] at h
theorem AK5:∀ {ms:List TM} {vs vs':List SV} {ys:List V} {hp hp':THp} {hv:Hp} {b n:Nat},RH hp hv->Bel b hp->(∀ i∈vs.flatMap FV,i<b)->RC (RV0 hp) vs ys->tnL ms vs hp b=some (vs',hp',n) ->
  ∃ ys' hv',Pi (ms.map TM.md) ys hv b=some (ys',hv',n)/\NT b n hp hp' hv'/\RC (RV0 hp') vs' ys'/\∀ i∈vs'.flatMap FV,i<b + n
 | [],[],vs',ys,hp,hp',hv,b,n,hh,hb,hi,hc,h=>by
  simp only[tnL,Option.some.injEq,Prod.mk.injEq] at h;obtain ⟨rfl,rfl,rfl⟩:=h;cases ys with
  | nil=>exact ⟨[],hv,rfl,NT.refl hh hb,trivial,fun i hi=>by simp at hi⟩
  | cons a l=>exact hc.elim
 | m::ms,v::vs,vs',ys,hp,hp',hv,b,n,hh,hb,hi,hc,h=>by
  cases ys with
  | nil=>exact hc.elim
  | cons y ys =>
   simp only[tnL] at h
   split at h
   ·rename_i z hp1 n1 h1
    split at h
    ·rename_i zs hp2 k h2;simp only[Option.some.injEq,Prod.mk.injEq] at h;obtain ⟨rfl,rfl,rfl⟩:=h;obtain ⟨y',hv1,e1,q1,r1,s1⟩:=A42 hh hb (fun i hi'=>hi i (by simp[hi'])) hc.1 h1;obtain ⟨ys',hv2,e2,q2,r2,s2⟩:=AK5 q1.rh q1.bel (fun i hi'=>by have:=hi i (by simp only[zb5,zb3]; exact .inr hi'); omega) (hc.2.mono fun x hx y hxy=>hxy.keeps fun i hi'=>q1.keep i (hi i (by simp only[zb5,zb3]; exact .inr (zb1.2 ⟨x,hx,hi'⟩)))) h2;refine ⟨y'::ys',hv2,by simp only[zb9,Pi,e1,e2],q1.trans q2,⟨r1.keeps fun i hi'=>q2.keep i (s1 i hi'),r2⟩,fun i hi'=>?_⟩
     rcases zb3.1 (by simpa only[zb5] using hi') with hi' | hi'
     ·have:=s1 i hi'; omega
     ·have:=s2 i hi'; omega
    ·cases h
   ·cases h
 | [],_::_,_,_,_,_,_,_,_,_,_,_,_,h=>by simp[tnL] at h
 | _::_,[],_,_,_,_,_,_,_,_,_,_,_,h=>by simp[tnL] at h
theorem A49 {m:TMs} {v v':SV} {y:V} {b n:Nat} (hh:RH hp hv) (hb:Bel b hp) (hi:∀ i∈HL v,i<b) (hv2:RV2 hp v y) (h:tnV m v hp b=some (v',hp',n)) :
  ∃ y' hv',Ya m.mds y hv b=some (y',hv',n)/\NV b n hp hp' hv'/\RV2 hp' v' y'/\∀ i∈HL v',i<b + n:=by
 cases m with
 | one m =>
  have h:tnC m v hp b=some (v',hp',n):=h;have cell:(∃ y0,RV0 hp v y0/\y0=y)->HL v=FV v->HL v'=FV v'->(∀ y',RV0 hp' v' y'->RV2 hp' v' y')->∃ y' hv',Ya (TMs.one m).mds y hv b=some (y',hv',n)/\NV b n hp hp' hv'/\RV2 hp' v' y'/\∀ i∈HL v',i<b + n:=by
   rintro ⟨_,h0,rfl⟩ e1 e2 h2;obtain ⟨y',hv',q1,q2,q3,q4⟩:=A42 hh hb (by rw[<-e1]; exact hi) h0 h;exact ⟨y',hv',q1,q2.toNV,h2 y' q3,by rw[e2]; exact q4⟩
  cases m with
  | keep =>
   simp only[tnC,Option.some.injEq,Prod.mk.injEq] at h;obtain ⟨rfl,rfl,rfl⟩:=h;exact ⟨y,hv,rfl,(NT.refl hh hb).toNV,hv2,hi⟩
  | own ty deep t =>
   have hw:∃ i,v' = .ow i:=by
    cases v <;> simp only[tnC,reduceCtorEq] at h
    ·simp only[Option.some.injEq,Prod.mk.injEq] at h; exact ⟨_,h.1.symm⟩
    ·repeat' (split at h)
     all_goals first | (simp only[Option.some.injEq,Prod.mk.injEq] at h; exact ⟨_,h.1.symm⟩) | cases h
   obtain ⟨i',rfl⟩:=hw;cases v <;> simp only[tnC,reduceCtorEq] at h
   ·exact cell ⟨y,hv2,rfl⟩ rfl rfl fun y' h=>h
   ·exact cell ⟨y,hv2,rfl⟩ rfl rfl fun y' h=>h
  | im t =>
   have hw:∃ l,v' = .im t l:=by
    simp only[tnC] at h
    split at h
    ·simp only[Option.some.injEq,Prod.mk.injEq] at h; exact ⟨_,h.1.symm⟩
    ·cases h
   obtain ⟨l',rfl⟩:=hw;cases v <;> first | exact cell ⟨y,hv2,rfl⟩ rfl rfl fun y' h=>h | (simp[tnC,Hx,asL] at h; done)
  | sub =>
   have hw:∃ i lo k,v' = .ar i lo k:=by
    cases v <;> simp only[tnC,reduceCtorEq] at h
    ·split at h
     ·simp only[Option.some.injEq,Prod.mk.injEq] at h; exact ⟨_,_,_,h.1.symm⟩
     ·cases h
    ·simp only[Option.some.injEq,Prod.mk.injEq] at h; exact ⟨_,_,_,h.1.symm⟩
   obtain ⟨i',lo',k',rfl⟩:=hw;cases v <;> first | exact cell ⟨y,hv2,rfl⟩ rfl rfl fun y' h=>h | (simp[tnC] at h; done)
 | agg l =>
  cases v with
  | agg cs =>
   simp only[tnV] at h
   split at h
   ·rename_i cs' hp1 n1 h1;simp only[Option.some.injEq,Prod.mk.injEq] at h;obtain ⟨rfl,rfl,rfl⟩:=h;obtain ⟨us,rfl,hc⟩:=Ak7 hv2;obtain ⟨ys',hv',q1,q2,q3,q4⟩:=AK5 hh hb hi hc h1;refine ⟨.agg ys',hv',?_,q2.toNV,⟨ys',rfl,q3⟩,q4⟩
    show (Pi (l.map TM.md) us hv b).map _=_;rw[q1]; rfl
   ·cases h
  | _=>simp[tnV] at h
 | box l =>
  cases v with
  | rf id r c =>
   simp only[tnV] at h
   split at h
   ·rename_i ty cs hg
    split at h
    ·rename_i cs' hp1 n1 h1
     split at h
     ·rename_i hok;simp only[Option.some.injEq,Prod.mk.injEq] at h;obtain ⟨rfl,rfl,rfl⟩:=h;have:y = .rf id r c:=hv2;subst this;obtain ⟨k,hk,k1,k2,row,k3,k4,k5⟩:=hh id _ hg;obtain ⟨ys',hv',q1,q2,q3,q4⟩:=AK5 hh hb (hb id _ hg).2 k5 h1;have hlt:=(hb id _ hg).1;have hbx:=q2.box id ty cs hlt hg;have hkp:∀ i,CY hp1 ((id,some (.box ty cs'))::hp1) i:=fun i=>Am3 (y:=.box ty cs') hbx rfl i
      have hoc:ys'.all BG=true:=by
       have key:∀ {xs:List SV} {us:List V},RC (RV0 hp1) xs us->xs.all okT=true->us.all BG=true:=by
        intro xs
        induction xs with
        | nil=>intro us h _; cases us with | nil=>rfl | cons a l=>exact h.elim
        | cons x xs ih =>
         intro us h ho;cases us with
         | nil=>exact h.elim
         | cons u us =>
          simp only[zd0,za2] at ho ⊢
          exact ⟨A7i h.1 ho.1,ih h.2 ho.2⟩
       exact key q3 hok
      have hlen:cs'.length=cs.length:=by
       have:∀ {ms:List TM} {vs vs':List SV} {hp hp':THp} {b n:Nat},tnL ms vs hp b=some (vs',hp',n)->vs'.length=vs.length:=by
        intro ms
        induction ms with
        | nil=>intro vs vs' hp hp' b n h; cases vs with | nil=>simp[tnL] at h; simp[h] | cons _ _=>simp[tnL] at h
        | cons m ms ih =>
         intro vs vs' hp hp' b n h;cases vs with
         | nil=>simp[tnL] at h
         | cons v vs =>
          simp only[tnL] at h
          split at h
          ·split at h
           ·rename_i h2;simp only[Option.some.injEq,Prod.mk.injEq] at h;obtain ⟨rfl,_,_⟩:=h;simp[ih h2]
           ·cases h
          ·cases h
       exact this h1
      refine ⟨.rf id r c,upd hv' id (some { k with rows:=[ys'] }),?_,⟨?_,fun i z hz=>?_,fun i hi=>(q2.keep i hi).trans (hkp i)⟩,rfl,fun i hi=>by simp[HL,Aw2,FV] at hi⟩
      ·show (match hv id with | some k=>(match k.kind,k.rows with | Kind.box,[row]=>(match Pi (l.map TM.md) row hv b with | some (cs',hp1,n)=>if cs'.all BG then some (V.rf id r c,upd hp1 id (some { k with rows:=[cs'] }),n) else none | none=>none) | _,_=>none) | none=>none)=_;rw[hk];simp only[k1,k3,q1,hoc,if_true]
      ·refine q2.rh.put (fun i _=>hkp i) (fun _ _ _ _ i _=>hkp i) ⟨k1,k2,ys',rfl,?_,q3⟩
       show k.size=ys'.length;rw[k4,k5.length,q3.length,hlen]
      ·rw[AL] at hz
       split at hz
       ·cases hz; rename_i he; subst he; exact ⟨by omega,q4⟩
       ·exact q2.bel i z hz
     ·cases h
    ·cases h
   ·cases h
  | _=>simp[tnV] at h
theorem A47:∀ {l:List (Nat×TMs)} {st st':TSt} {s:St},RS st s->Bel (16*st.c) st.hp->(∀ t,∀ i∈HL (CK st.tm t),i<16*st.c)->tnS l st=some st' ->
  ∃ s',Sg (GB l) s=some s'/\RS st' s'/\Bel (16*st'.c) st'.hp/\∀ t,∀ i∈HL (CK st'.tm t),i<16*st'.c
 | [],st,st',s,hs,hb,hi,h=>by
  simp only[tnS,Option.some.injEq] at h;subst h;exact ⟨s,rfl,hs,hb,hi⟩
 | (k,m)::l,st,st',s,hs,hb,hi,h=>by
  simp only[tnS] at h
  split at h
  ·rename_i x hp1 n h1
   split at h
   ·rename_i hn;have hn:=Nat.le_of_ble_eq_true hn;obtain ⟨y',hv1,q1,q2,q3,q4⟩:=A49 hs.hp hb (hi k) (hs.tm k) h1;obtain ⟨s',e1,e2,e3,e4⟩:=A47 (s:={ tm:=upd s.tm k y',hp:=hv1,c:=s.c + 1 }) (st:={ tm:=(k,x)::st.tm,hp:=hp1,c:=st.c + 1 }) ⟨fun t=>by
      show RV2 hp1 (CK ((k,x)::st.tm) t) (upd s.tm k y' t);rw[GV];unfold upd
      split
      ·exact q3
      ·exact (hs.tm t).keeps fun i hi'=>q2.keep i (hi t i hi'),q2.rh,by show s.c + 1=st.c + 1; rw[hs.c]⟩ (q2.bel.mono (by show _<=16*(st.c + 1); omega)) (fun t i hi'=>by
      have hi':i∈HL (CK ((k,x)::st.tm) t):=hi';show i<16*(st.c + 1);rw[GV] at hi'
      split at hi'
      ·have:=q4 i hi'; omega
      ·have:=hi t i hi'; omega) h
    refine ⟨s',?_,e2,e3,e4⟩
    show Sg ((k,m.mds)::GB l) s=_;simp only[Sg];rw[hs.c,q1];simp only;rw[if_pos hn];rw[<-hs.c];exact e1
   ·cases h
  ·cases h
theorem A41:∀ {ms:List TMs} {xs xs':List SV} {ys:List V} {hp hp':THp} {hv:Hp} {c:Nat},RH hp hv->Bel (16*c) hp->(∀ i∈xs.flatMap HL,i<16*c)->RC (RV2 hp) xs ys->tnR ms xs hp c=some (xs',hp') ->
  ∃ ys' hv' c',Ku (ms.map TMs.mds) ys hv c=some (ys',hv',c')/\RH hp' hv'/\RC (RV2 hp') xs' ys'/\(∀ i,i<16*c->CY hp hp' i)
 | [],[],xs',ys,hp,hp',hv,c,hh,hb,hi,hc,h=>by
  simp only[tnR,Option.some.injEq,Prod.mk.injEq] at h;obtain ⟨rfl,rfl⟩:=h;cases ys with
  | nil=>exact ⟨[],hv,c,rfl,hh,trivial,fun i _=>CY.refl hp i⟩
  | cons a l=>exact hc.elim
 | m::ms,x::xs,xs',ys,hp,hp',hv,c,hh,hb,hi,hc,h=>by
  cases ys with
  | nil=>exact hc.elim
  | cons y ys =>
   simp only[tnR] at h
   split at h
   ·rename_i z hp1 n h1
    split at h
    ·rename_i hn;have hn:=Nat.le_of_ble_eq_true hn
     split at h
     ·rename_i zs hp2 h2;simp only[Option.some.injEq,Prod.mk.injEq] at h;obtain ⟨rfl,rfl⟩:=h;obtain ⟨y',hv1,q1,q2,q3,q4⟩:=A49 hh hb (fun i hi'=>hi i (by simp[hi'])) hc.1 h1;obtain ⟨ys',hv2,c',e1,e2,e3,e4⟩:=A41 q2.rh (q2.bel.mono (show _<=16*(c + 1) by omega)) (fun i hi'=>by have:=hi i (by simp only[zb5,zb3]; exact .inr hi'); omega) (hc.2.mono fun x hx y hxy=>hxy.keeps fun i hi'=>q2.keep i (hi i (by simp only[zb5,zb3]; exact .inr (zb1.2 ⟨x,hx,hi'⟩)))) h2
      refine ⟨y'::ys',hv2,c',?_,e2,⟨q3.keeps fun i hi'=>e4 i (by have:=q4 i hi'; omega),e3⟩,fun i hi'=>(q2.keep i hi').trans (e4 i (by omega))⟩
      simp only[zb9,Ku,q1,if_pos hn,e1]
     ·cases h
    ·cases h
   ·cases h
 | [],_::_,_,_,_,_,_,_,_,_,_,_,h=>by simp[tnR] at h
 | _::_,[],_,_,_,_,_,_,_,_,_,_,h=>by simp[tnR] at h
end
end
section
open Go
section
variable {hp hp' H:THp} {hv hv':Hp}
theorem UC {i:Nat}:∀ {l:List Nat},A5U i l=l.contains i
 | []=>rfl
 | x::l=>by
  simp only[A5U,List.contains_cons];rw[UC];cases h:Nat.beq x i with
  | true=>have:=za6 h; subst this; simp
  | false =>
   have:x≠i:=fun he=>by subst he; rw[Nat.beq_refl] at h; cases h
   have h2:(i==x)=false:=by simpa using fun he:i=x=>this he.symm
   rw[h2]; rfl
theorem Nm:∀ {l m:List Nat},A3R l m=true->l=m
 | [],[],_=>rfl
 | x::l,y::m,h=>by
  simp only[A3R,za2] at h;rw[za6 h.1,Nm h.2]
 | [],_::_,h=>by cases h
 | _::_,[],h=>by cases h
theorem Bf5 {v:SV} {y:V} (hs:KX v=true) (h:RV0 hp v y):Am y=rf0 v:=by
 cases v with
 | im t l=>rcases h with ⟨_,rfl⟩ | ⟨_,rfl,_⟩ <;> rfl
 | ow id=>obtain ⟨_,rfl,_⟩:=h; rfl
 | ir t a c=>obtain ⟨_,rfl,_⟩:=h; rfl
 | cl f cs=>cases cs with | nil=>have:y=_:=h; subst this; rfl | cons a l=>exact h.elim
 | any=>cases hs
 | agg cs=>exact h.elim
 | tup cs=>exact h.elim
 | _=>have:y=_:=h; subst this; rfl
theorem Z5:∀ {vs:List SV} {ys:List V},vs.all KX=true->RC (RV0 hp) vs ys->ys.flatMap Am=vs.flatMap rf0
 | [],[],_,_=>rfl
 | v::vs,y::ys,hs,h=>by
  simp only[zd0,za2] at hs;rw[zb5,zb5,Bf5 hs.1 h.1,Z5 hs.2 h.2]
 | [],_::_,_,h=>h.elim
 | _::_,[],_,h=>h.elim
theorem IS {v:SV} {y:V} (hs:FJ v=true) (h:RV2 hp v y):RV1 hp v y/\Ao y=rf1 v/\Ar y=rf1 v/\F5 y=true:=by
 have cell:∀ {v:SV} {y:V},KX v=true->RV0 hp v y->RV1 hp v y/\Ao y=rf0 v/\Ar y=rf0 v/\F5 y=true:=by
  intro v y hs h;refine ⟨h.to1,?_⟩
  cases v with
  | im t l=>rcases h with ⟨_,rfl⟩ | ⟨_,rfl,_⟩ <;> exact ⟨rfl,rfl,rfl⟩
  | ow id=>obtain ⟨_,rfl,_⟩:=h; exact ⟨rfl,rfl,rfl⟩
  | ir t a c=>obtain ⟨_,rfl,_⟩:=h; exact ⟨rfl,rfl,rfl⟩
  | cl f cs=>cases cs with | nil=>have:y=_:=h; subst this; exact ⟨rfl,rfl,rfl⟩ | cons a l=>exact h.elim
  | any=>cases hs
  | agg cs=>exact h.elim
  | tup cs=>exact h.elim
  | _=>have:y=_:=h; subst this; exact ⟨rfl,rfl,rfl⟩
 cases v with
 | agg cs =>
  obtain ⟨us,rfl,hc⟩:=h;have:=Z5 hs hc;exact ⟨⟨us,rfl,hc⟩,this,this,rfl⟩
 | cl f cs =>
  obtain ⟨us,rfl,hc⟩:=h;have:=Z5 hs hc;exact ⟨⟨us,rfl,hc⟩,this,this,rfl⟩
 | tup vs=>cases hs
 | any=>cases hs
 | int k n=>exact cell (v:=.int k n) hs h
 | bool b=>exact cell (v:=.bool b) hs h
 | str s=>exact cell (v:=.str s) hs h
 | sc x=>exact cell (v:=.sc x) hs h
 | em=>exact cell (v:=.em) hs h
 | er e=>exact cell (v:=.er e) hs h
 | im t l=>exact cell (v:=.im t l) hs h
 | ow id=>exact cell (v:=.ow id) hs h
 | ar a b c=>exact cell (v:=.ar a b c) hs h
 | rf a b c=>exact cell (v:=.rf a b c) hs h
 | ir a b c=>exact cell (v:=.ir a b c) hs h
theorem A4J {b:TB} {k:Blk} (hs:An5 b=true) (h:RB hp b k):CW k=rfB b:=by
 cases b with
 | arr ty deep t l=>obtain ⟨h1,_⟩:=h; simp only[CW,h1,rfB]
 | frz ty deep t l=>obtain ⟨h1,_⟩:=h; simp only[CW,h1,rfB]
 | box ty cs =>
  obtain ⟨h1,h2,row,h3,h4,h5⟩:=h;unfold CW;rw[h1,h3];simp only[zb5,List.flatMap_nil,ze5];exact Z5 hs h5
theorem Ig (hh:RH hp hv):∀ (k:Nat) (l acc:List Nat) {o:List Nat},HA hp k l acc=some o->Fn hv k l acc=some o
 | 0,_,_,_,h=>by cases h
 | k + 1,[],acc,o,h=>h
 | k + 1,id::l,acc,o,h=>by
  simp only[HA] at h;simp only[Fn];rw[UC] at h;cases hc:acc.contains id with
  | true =>
   rw[hc] at h;rw[if_pos rfl];exact Ig hh k l acc h
  | false =>
   rw[hc] at h;rw[if_neg (by simp)];simp only[cond_false] at h
   split at h
   ·cases h
   ·rename_i b hb;obtain ⟨hs,h⟩:=Dh h;obtain ⟨kb,hk,hr⟩:=hh id b hb;simp only[hk,A4J hs hr];exact Ig hh k _ _ h
theorem Rv:∀ (o:List Nat) (id:Nat),Eo o id=idx o id
 | [],_=>rfl
 | x::l,id=>by
  unfold idx;rw[List.idxOf?_cons];simp only[Eo];cases h:Nat.beq x id with
  | true=>have:=za6 h; subst this; simp
  | false =>
   have:x≠id:=fun he=>by subst he; rw[Nat.beq_refl] at h; cases h
   have h2:(x==id)=false:=by simpa using this
   rw[h2];simp only[cond_false,zc3,if_false];rw[Rv l id];unfold idx;cases List.idxOf? id l <;> rfl
theorem A3S:∀ {o:List Nat} {id j:Nat},idx o id=some j->o[j]? = some id:=by
 intro o id j h;rw[<-Rv] at h
 induction o generalizing j with
 | nil=>cases h
 | cons x l ih =>
  simp only[Eo] at h;cases hx:Nat.beq x id with
  | true =>
   rw[hx] at h;have:=za6 hx;subst this;cases h
   rfl
  | false =>
   rw[hx] at h;simp only[cond_false] at h
   split at h
   ·rename_i j' hj;cases h
    rw[List.getElem?_cons_succ];exact ih hj
   ·cases h
section
variable {f:Nat->Option Nat} (hlen:∀ id j,f id=some j->∀ b',AQ H j=some b'->∃ b,AQ hp id=some b/\FY b=FY b')
include hlen
theorem A4F {v:SV} {y:V} (h:RV0 hp v y):RV0 H (Fa f v) (Cs f y):=by
 cases v with
 | im t l=>rcases h with ⟨h1,rfl⟩ | ⟨rows,rfl,h1⟩; exact .inl ⟨h1,rfl⟩; exact .inr ⟨rows,rfl,h1⟩
 | ow id =>
  obtain ⟨n,rfl,h1⟩:=h;simp only[Fa,Cs];cases hf:f id with
  | none=>trivial
  | some j =>
   refine ⟨n,rfl,fun b' hb'=>?_⟩
   obtain ⟨b,q1,q2⟩:=hlen id j hf b' hb';rw[<-q2]; exact h1 b q1
 | ar id lo n =>
  have:y=_:=h;subst this;simp only[Fa,Cs];cases hf:f id with
  | none=>trivial
  | some j=>rfl
 | rf id r c =>
  have:y=_:=h;subst this;simp only[Fa,Cs];cases hf:f id with
  | none=>trivial
  | some j=>rfl
 | ir t a c=>obtain ⟨row,rfl,h1⟩:=h; exact ⟨row,rfl,h1⟩
 | cl g cs=>cases cs with | nil=>have:y=_:=h; subst this; rfl | cons a l=>exact h.elim
 | any=>trivial
 | agg cs=>exact h.elim
 | tup cs=>exact h.elim
 | _=>have:y=_:=h; subst this; rfl
theorem ZU:∀ {vs:List SV} {ys:List V},RC (RV0 hp) vs ys->RC (RV0 H) (vs.map (Fa f)) (ys.map (Cs f))
 | [],[],_=>trivial
 | v::vs,y::ys,h=>⟨A4F hlen h.1,ZU h.2⟩
 | [],_::_,h=>h.elim
 | _::_,[],h=>h.elim
theorem AL7 {v:SV} {y:V} (h:RV1 hp v y) (hs:FJ v=true):RV1 H (B6 f v) (C2 f y):=by
 have cell:∀ {v:SV} {y:V},RV0 hp v y->B6 f v=Fa f v->C2 f y=Cs f y->RV1 H (B6 f v) (C2 f y):=by
  intro v y h e1 e2;rw[e1,e2];exact (A4F hlen h).to1
 cases v with
 | agg cs=>obtain ⟨us,rfl,hc⟩:=h; exact ⟨_,rfl,ZU hlen hc⟩
 | cl g cs=>obtain ⟨us,rfl,hc⟩:=h; exact ⟨_,rfl,ZU hlen hc⟩
 | im t l=>rcases h with ⟨h1,rfl⟩ | ⟨rows,rfl,h1⟩; exact .inl ⟨h1,rfl⟩; exact .inr ⟨rows,rfl,h1⟩
 | ow id=>obtain ⟨n,rfl,h1⟩:=h; exact cell (v:=.ow id) ⟨n,rfl,h1⟩ rfl rfl
 | ir t a c=>obtain ⟨row,rfl,h1⟩:=h; exact ⟨row,rfl,h1⟩
 | any=>trivial
 | tup cs=>exact h.elim
 | ar id lo n=>have:y=_:=h; subst this; exact cell (v:=.ar id lo n) rfl rfl rfl
 | rf id lo n=>have:y=_:=h; subst this; exact cell (v:=.rf id lo n) rfl rfl rfl
 | _=>have:y=_:=h; subst this; rfl
theorem A9K {b:TB} {k:Blk} (h:RB hp b k):RB H (Ae7 f b) (Fl f k):=by
 cases b with
 | arr ty deep t l =>
  obtain ⟨h1,h2,h3,h4,h5⟩:=h;have:Fl f k=k:=by unfold Fl; rw[h1]
  rw[this]; exact ⟨h1,h2,h3,h4,h5⟩
 | frz ty deep t l =>
  obtain ⟨h1,h2,h3,h4,h5⟩:=h;have:Fl f k=k:=by unfold Fl; rw[h1]
  rw[this]; exact ⟨h1,h2,h3,h4,h5⟩
 | box ty cs =>
  obtain ⟨h1,h2,row,h3,h4,h5⟩:=h;have e:Fl f k = { k with rows:=k.rows.map (·.map (Cs f)) }:=by unfold Fl; rw[h1]
  rw[e];refine ⟨h1,h2,row.map (Cs f),by simp[h3],by simpa using h4,ZU hlen h5⟩
end
theorem A2e {f:Nat->Option Nat} (b:TB):FY (Ae7 f b)=FY b:=by cases b <;> rfl
theorem Ar7 {f:Nat->Option Nat}:∀ (o:List Nat) (k j:Nat),AQ (G9 hp f k o) j=if k<=j then (o[j-k]?).bind fun id=>(AQ hp id).map (Ae7 f) else none
 | [],k,j=>by simp[G9,AQ]
 | id::o,k,j=>by
  simp only[G9];rw[AL,Ar7 o (k + 1) j];by_cases h:j=k
  ·subst h;rw[if_pos rfl,if_pos (za7 _)];simp;cases AQ hp id <;> rfl
  ·rw[if_neg h];by_cases h2:k<=j
   ·rw[if_pos h2,if_pos (by omega),show j-k=(j-(k + 1)) + 1 by omega,List.getElem?_cons_succ]
   ·rw[if_neg h2,if_neg (by omega)]
theorem We (hh:RH hp hv) (o:List Nat):RH (G9 hp (Eo o) 0 o) (lkB (AU hv o))/\∀ id j,idx o id=some j->∀ b',AQ (G9 hp (Eo o) 0 o) j=some b'->∃ b,AQ hp id=some b/\FY b=FY b':=by
 have hf:Eo o=idx o:=funext fun id=>Rv o id
 have hget:∀ j b',AQ (G9 hp (Eo o) 0 o) j=some b'->∃ id b,o[j]? = some id/\AQ hp id=some b/\b'=Ae7 (idx o) b:=by
  intro j b' hb;rw[Ar7,if_pos (Nat.zero_le _),Nat.sub_zero,hf] at hb;obtain ⟨id,h1,h2⟩:=Bt hb;simp only[zb6] at h2;obtain ⟨b,h3,h4⟩:=h2;exact ⟨id,b,h1,h3,h4.symm⟩
 have hlen:∀ id j,idx o id=some j->∀ b',AQ (G9 hp (Eo o) 0 o) j=some b'->∃ b,AQ hp id=some b/\FY b=FY b':=by
  intro id j hj b' hb;obtain ⟨id',b,h1,h2,rfl⟩:=hget j b' hb;rw[A3S hj] at h1;cases h1
  exact ⟨b,h2,(A2e b).symm⟩
 refine ⟨fun j b' hb=>?_,hlen⟩
 obtain ⟨id,b,h1,h2,rfl⟩:=hget j b' hb;obtain ⟨k,hk,hr⟩:=hh id b h2;refine ⟨Fl (idx o) k,?_,A9K hlen hr⟩
 show (AU hv o)[j]? = _;unfold AU;rw[zc9,h1];simp only[zd9,hk,Option.getD_some]
theorem A9j {f:Nat->Option Nat} {y:V} (h:F5 y=true):F8 f y=C2 f y:=by
 cases y <;> first | rfl | cases h
theorem A4j {e:Nat} {keep:List Nat} {st st2:TSt} {s:St} (hs:RS st s) (h:Tu e keep st=some st2):∃ s2,(∀ K:St->Prop,K s2->KI e keep s K)/\RS st2 s2:=by
 unfold Tu at h
 split at h
 ·rename_i hsure
  split at h
  ·rename_i o ho
   split at h
   ·rename_i hc;simp only[za2] at hc;simp only[Option.some.injEq] at h;subst h;have hrefs:∀ t∈keep,Ar (s.tm t)=rf1 (CK st.tm t):=fun t ht=>(IS (za5.1 hsure t ht) (hs.tm t)).2.2.1
    have hfl:(keep.flatMap fun t=>Ar (s.tm t))=keep.flatMap fun t=>rf1 (CK st.tm t):=by
     have:∀ (l:List Nat),(∀ t∈l,Ar (s.tm t)=rf1 (CK st.tm t))->(l.flatMap fun t=>Ar (s.tm t))=l.flatMap fun t=>rf1 (CK st.tm t):=by
      intro l
      induction l with
      | nil=>intro _; rfl
      | cons a l ih=>intro h; rw[zb5,zb5,h a (by simp),ih fun t ht=>h t (by simp[ht])]
     exact this keep hrefs
    have hcl:=Ig hs.hp _ _ _ ho;obtain ⟨h1,hlen⟩:=We hs.hp o;have hf:Eo o=idx o:=funext fun id=>Rv o id
    refine ⟨{ tm:=lk .any (keep.map fun t=>(t,F8 (idx o) (s.tm t))),hp:=lkB (AU s.hp o),c:=1 },fun K hK=>?_,⟨?_,h1,rfl⟩⟩
    ·unfold KI;rw[hfl,hcl];exact ⟨Nat.le_of_ble_eq_true hc.1,Nm hc.2,hK⟩
    ·have key:∀ (l:List Nat),(∀ t∈l,t∈keep)->RT (G9 st.hp (Eo o) 0 o) (l.map fun t=>(t,B6 (Eo o) (CK st.tm t))) (lk .any (l.map fun t=>(t,F8 (idx o) (s.tm t)))):=by
      intro l
      induction l with
      | nil=>intro _ t; trivial
      | cons a l ih =>
       intro hl t;show RV2 _ (CK ((a,_)::l.map _) t) (if t=a then _ else lk .any (l.map _) t);rw[GV]
       split
       ·obtain ⟨q1,_,_,q4⟩:=IS (za5.1 hsure a (hl a (by simp))) (hs.tm a);rw[A9j q4,hf];rw[hf] at hlen;exact (AL7 hlen q1 (za5.1 hsure a (hl a (by simp)))).to2
       ·exact ih (fun t ht=>hl t (by simp[ht])) t
     exact key keep fun t ht=>ht
   ·cases h
  ·cases h
 ·cases h
end
end
section
open Go
theorem Br0:∀ (u v:Bool) (A B:Type) (a0:u=true->A) (a:A) (b:B),(u=true->∀ x y:A,x=y)->Bx2 u v A B a0 (mkP u v A B a b)=a
 | true,_,_,_,_,_,_,h=>h rfl _ _
 | false,true,_,_,_,_,_,_=>rfl
 | false,false,_,_,_,_,_,_=>rfl
theorem Bn1:∀ (u v:Bool) (A B:Type) (b0:v=true->B) (a:A) (b:B),(v=true->∀ x y:B,x=y)->Bu3 u v A B b0 (mkP u v A B a b)=b
 | true,_,_,_,_,_,_,_=>rfl
 | false,true,_,_,_,_,_,h=>h rfl _ _
 | false,false,_,_,_,_,_,_=>rfl
theorem Bi0:∀ (u v:Bool) (A B:Type),u=true->(v=true->∀ x y:B,x=y)->v=true->∀ x y:A0Y u v A B,x=y
 | true,true,_,_,_,h,_,x,y=>h rfl x y
 | false,_,_,_,h,_,_,_,_=>by cases h
 | true,false,_,_,_,_,h,_,_=>by cases h
section
variable {ι:Type} {den : ι->Type} {u : ι->Bool} {un:∀ x,u x=true->den x} (hu:∀ x,u x=true->∀ a b:den x,a=b)
include hu
theorem V2:∀ (l:List ι),l.all u=true->∀ a b:QY den u l,a=b
 | [],_,_,_=>rfl
 | x::l,h,a,b=>by
  simp only[zd0,za2] at h;exact Bi0 (u x) (l.all u) (den x) (QY den u l) h.1 (fun hl=>V2 l hl) h.2 a b
theorem AX4 (x : ι) (l:List ι) (a:den x) (d:QY den u l):hdL den u un x l (A5x den u x l a d)=a:=Br0 _ _ _ _ _ _ _ fun h=>hu x h
theorem A0J (x : ι) (l:List ι) (a:den x) (d:QY den u l):tlL den u un x l (A5x den u x l a d)=d:=Bn1 _ _ _ _ _ _ _ fun h=>V2 hu l h
end
theorem P5:∀ (c:AC),c.isU=true->∀ a b:c.den,a=b
 | .at _,_,_,_=>rfl
 | .int _,h,_,_=>by cases h
 | .bool,h,_,_=>by cases h
 | .str,h,_,_=>by cases h
 | .im _,h,_,_=>by cases h
theorem Ad9 (c:AC) (cs:List AC) (a:c.den) (d:TZ cs):hdC c cs (AI9 c cs a d)=a:=AX4 P5 c cs a d
theorem Ac0 (c:AC) (cs:List AC) (a:c.den) (d:TZ cs):tlC c cs (AI9 c cs a d)=d:=A0J P5 c cs a d
theorem A1N:∀ (x:Item),x.isU=true->∀ a b:x.den,a=b
 | .blk (.box _ cs),h,a,b=>V2 P5 cs h a b
 | .blk (.arr _ _ _),h,_,_=>by cases h
 | .slot _ (.cell c),h,a,b=>P5 c h a b
 | .slot _ (.agg cs),h,a,b=>V2 P5 cs h a b
 | .slot _ (.ref _ _),_,_,_=>rfl
 | .slot _ (.clo _),_,_,_=>rfl
 | .slot _ (.cap _ _),_,_,_=>rfl
 | .slot _ (.sub _),h,_,_=>by cases h
theorem Z9 (x:Item) (l:List Item) (a:x.den) (d:Dp l):hdI x l (QJ x l a d)=a:=AX4 A1N x l a d
theorem VB (x:Item) (l:List Item) (a:x.den) (d:Dp l):tlI x l (QJ x l a d)=d:=A0J A1N x l a d
theorem A9N {c:AC} {v:SV} {x:c.den} (h:rdC c v=some x):v=A2n c x:=by
 cases c with
 | int k =>
  cases v <;> simp only[rdC,reduceCtorEq] at h
  split at h
  ·rename_i hk; cases h; subst hk; rfl
  ·cases h
 | bool=>cases v <;> simp only[rdC,reduceCtorEq] at h; cases h; rfl
 | str=>cases v <;> simp only[rdC,reduceCtorEq] at h; cases h; rfl
 | err=>cases v <;> simp only[rdC,reduceCtorEq] at h; cases h; rfl
 | im t =>
  cases v <;> simp only[rdC,reduceCtorEq] at h
  split at h
  ·rename_i he; cases h; subst he; rfl
  ·cases h
 | «at» j =>
  cases v <;> simp only[rdC,reduceCtorEq] at h
  split at h
  ·rename_i he; have:=za6 he; subst this; rfl
  ·cases h
theorem AJ5:∀ {cs:List AC} {vs:List SV} {x:TZ cs},A8F cs vs=some x->vs=Ul cs x
 | [],[],_,_=>rfl
 | [],_::_,_,h=>by cases h
 | _::_,[],_,h=>by cases h
 | c::cs,v::vs,x,h=>by
  simp only[A8F] at h
  split at h
  ·rename_i a ha
   split at h
   ·rename_i d hd;cases h
    rw[Ul,Ad9,Ac0,<-A9N ha,<-AJ5 hd]
   ·cases h
  ·cases h
theorem Bs0 {b:AB} {tb:TB} {x:b.den} (h:rdB b tb=some x):tb=Br7 b x:=by
 cases b with
 | arr ty deep t =>
  cases tb <;> simp only[rdB,reduceCtorEq] at h
  split at h
  ·rename_i he
   split at h
   ·rename_i hc;simp only[za2,beq_iff_eq] at hc;cases h
    subst he;rw[za6 hc.1,hc.2];rfl
   ·cases h
  ·cases h
 | box ty cs =>
  cases tb <;> simp only[rdB,reduceCtorEq] at h
  split at h
  ·rename_i hc;rw[za6 hc,AJ5 h];rfl
  ·cases h
theorem A4w:∀ {js:List Nat} {vs:List SV},AT5 js vs=true->vs=js.map fun j=>.rf j 0 0
 | [],[],_=>rfl
 | [],_::_,h=>by simp[AT5] at h
 | j::js,v::vs,h=>by
  cases v with
  | rf i r c =>
   cases r with
   | zero =>
    cases c with
    | zero =>
     simp only[AT5] at h;cases hb:Nat.beq i j with
     | false=>rw[hb] at h; cases h
     | true =>
      rw[hb] at h;have:=za6 hb;subst this;rw[zb9,<-A4w (vs:=vs) h]
    | succ _=>simp[AT5] at h
   | succ _=>simp[AT5] at h
  | _=>simp[AT5] at h
 | _::_,[],h=>by simp[AT5] at h
theorem Bs5 {a:AS} {v:SV} {x:a.den} (h:rdS a v=some x):v=A08 a x:=by
 cases a with
 | cell c=>exact A9N (by cases v <;> exact h)
 | agg cs=>cases v <;> simp only[rdS,reduceCtorEq] at h; rw[AJ5 h]; rfl
 | ref j isb =>
  cases isb with
  | false =>
   cases v <;> simp only[rdS,reduceCtorEq] at h
   split at h
   ·rename_i he; have:=za6 he; subst this; rfl
   ·cases h
  | true =>
   cases v with
   | rf i r c =>
    cases r with
    | zero =>
     cases c with
     | zero =>
      simp only[rdS] at h
      split at h
      ·rename_i he; have:=za6 he; subst this; rfl
      ·cases h
     | succ _=>simp[rdS] at h
    | succ _=>simp[rdS] at h
   | _=>simp[rdS] at h
 | sub j =>
  cases v <;> simp only[rdS,reduceCtorEq] at h
  split at h
  ·rename_i he; have:=za6 he; subst this; cases h; rfl
  ·cases h
 | clo f =>
  cases v with
  | cl g cs =>
   cases cs with
   | nil =>
    simp only[rdS] at h
    split at h
    ·rename_i he; have:=za6 he; subst this; rfl
    ·cases h
   | cons _ _=>simp[rdS] at h
  | _=>simp[rdS] at h
 | cap f js =>
  cases v with
  | cl g cs =>
   simp only[rdS] at h
   split at h
   ·rename_i he;rw[za2] at he;have:=za6 he.1;subst this;rw[A4w he.2];rfl
   ·cases h
  | _=>simp[rdS] at h
theorem AN7:∀ {l:List Item} {k:Nat} {tm:TTm} {hp:THp} {d:Dp l},rdI k l tm hp=some d->tm=(BK k l d).1/\hp=(BK k l d).2
 | [],k,[],[],d,_=>⟨rfl,rfl⟩
 | [],k,_::_,_,_,h=>by simp[rdI] at h
 | [],k,[],_::_,_,h=>by simp[rdI] at h
 | .blk b::l,k,tm,[],_,h=>by simp[rdI] at h
 | .blk b::l,k,tm,(i,none)::hp,_,h=>by simp[rdI] at h
 | .blk b::l,k,tm,(i,some tb)::hp,d,h=>by
  simp only[rdI] at h
  split at h
  ·rename_i hi;have:=za6 hi;subst this
   split at h
   ·rename_i x hx
    split at h
    ·rename_i y hy;cases h
     obtain ⟨e1,e2⟩:=AN7 hy;rw[BK,Z9,VB,<-Bs0 hx,<-e1,<-e2];exact ⟨rfl,rfl⟩
    ·cases h
   ·cases h
  ·cases h
 | .slot s a::l,k,[],hp,_,h=>by simp[rdI] at h
 | .slot s a::l,k,(i,v)::tm,hp,d,h=>by
  simp only[rdI] at h
  split at h
  ·rename_i hi;have:=za6 hi;subst this
   split at h
   ·rename_i x hx
    split at h
    ·rename_i y hy;cases h
     obtain ⟨e1,e2⟩:=AN7 hy;rw[BK,Z9,VB,<-Bs5 hx,<-e1,<-e2];exact ⟨rfl,rfl⟩
    ·cases h
   ·cases h
  ·cases h
theorem SM (bl:List AB):∀ (l:List Item),(GB (Me bl l)).map (·.1)=Ir l
 | []=>rfl
 | .blk b::l=>SM bl l
 | .slot s a::l=>by
  have:=SM bl l;unfold GB at this ⊢
  simp only[Me,Ir,zb9,this]
theorem MT {e:Nat} {l:List Item} {st:TSt} {s:St} {d:Dp l} (hs:RS st s) (h:HV e l st=some d):∃ s',(∀ K:St->Prop,K s'->Fi e (Jf l) s K)/\RS (LX l d) s':=by
 unfold HV at h
 split at h
 ·rename_i hb;obtain ⟨b1,b2⟩:=W7 hb
  split at h
  ·rename_i st1 h1;obtain ⟨s1,n1,n2,n3,n4⟩:=A47 hs b1 b2 h1
   split at h
   ·rename_i st2 h2;obtain ⟨s2,c1,c2⟩:=A4j n2 h2;obtain ⟨e1,e2⟩:=AN7 h;have hc:st2.c=1:=by
     unfold Tu at h2
     split at h2
     ·split at h2
      ·split at h2
       ·simp only[Option.some.injEq] at h2; subst h2; rfl
       ·cases h2
      ·cases h2
     ·cases h2
    have:st2=LX l d:=by
     cases st2 with
     | mk tm hp c =>
      simp only at e1 e2 hc;subst e1;subst e2;subst hc;rfl
    rw[this] at c2;refine ⟨s2,fun K hK=>?_,c2⟩
    unfold Fi;rw[show Jf l=GB (Me (DQ l) l) from rfl,n1];simp only[Au,SM];exact c1 K hK
   ·cases h
  ·cases h
 ·cases h
end
section
open Go
structure ResRel (res:List Item) (y:Dp res) (r:V) (blks:List Blk):Prop where
 val:RV2 (BK 0 res y).2 (A9p ((BK 0 res y).1.map (·.2))) r
 blk:RH (BK 0 res y).2 (lkB blks)
 len:blks.length=(BK 0 res y).2.length
def Ai (R:Rel) (E:Ent):Prop:=∀ x y args blks st,E.F x=some y->RS st (Ag8 args blks)->HV E.a.e E.a.params st=some x->KJ args blks=true->args.length=(Ir E.a.params).length->(args.flatMap Ao).eraseDups.length=E.a.e->(E.a.e=0->blks = []) ->
 ∃ r blks',R E.a.g args blks r blks'/\ResRel E.a.res y r blks'
section
variable {P:Program} {X:TX} {g:FuncId}
theorem An3 {α:Type} (hX:XOK P X) {st:TSt} {s:St} (hs:RS st s):∀ (l:List ResultVar) {K:List SV->Option α} {z : α},A4b X st.tm st.hp l K=some z ->
  ∃ xs ys,K xs=some z/\RC (RV2 st.hp) xs ys/\∀ KV:List V->Prop,KV ys->O4 P s l KV
 | [],K,z,h=>⟨[],[],h,trivial,fun KV hk=>hk⟩
 | .tmp t::l,K,z,h=>by
  obtain ⟨xs,ys,h1,h2,h3⟩:=An3 hX hs l h;exact ⟨_,_::ys,h1,⟨hs.tm t,h2⟩,fun KV hk=>h3 _ hk⟩
 | .cell a t::l,K,z,h=>by
  simp only[A4b] at h;obtain ⟨x,u,h1,h2,h3⟩:=A1Q hX (hs.tm a) hs.hp.toM h;obtain ⟨xs,ys,q1,q2,q3⟩:=An3 hX hs l h1;refine ⟨_,u::ys,q1,⟨h2,q2⟩,fun KV hk=>?_⟩
  show (match Bn P (.load t (.tmp a)) (AR s.tm) s.hp 0 with | some (x,_)=>O4 P s l fun xs=>KV (x::xs) | none=>False);rw[h3 (AR s.tm) (.tmp a) 0 rfl];exact q3 _ hk
theorem AC7 {hp:THp}:∀ {xs:List SV} {ys:List V} (k:Nat),RC (RV2 hp) xs ys->RT hp (Vn k xs) (lk .any (Zy k ys))
 | [],[],k,_=>fun t=>trivial
 | x::xs,y::ys,k,h=>by
  intro t;show RV2 hp (CK ((k,x)::Vn (k + 1) xs) t) (if t=k then y else lk .any (Zy (k + 1) ys) t);rw[GV]
  split
  ·exact h.1
  ·exact AC7 (k + 1) h.2 t
 | [],_::_,_,h=>h.elim
 | _::_,[],_,h=>h.elim
theorem Tz:∀ (xs:List SV) (k:Nat),(Vn k xs).map (·.2)=xs
 | [],_=>rfl
 | x::xs,k=>by simp[Vn,Tz xs (k + 1)]
theorem AE5 {hp:THp} {f:Nat->Option Nat}:∀ (o:List Nat) (k:Nat),(G9 hp f k o).length=o.length
 | [],_=>rfl
 | id::o,k=>by simp[G9,AE5 o (k + 1)]
theorem RC.all1 {hp:THp}:∀ {vs:List SV} {ys:List V},vs.all FJ=true->RC (RV2 hp) vs ys->RC (RV1 hp) vs ys/\ys.flatMap Ao=vs.flatMap rf1/\ys.flatMap Ar=vs.flatMap rf1/\ys.all F5=true
 | [],[],_,_=>⟨trivial,rfl,rfl,rfl⟩
 | v::vs,y::ys,hs,h=>by
  simp only[zd0,za2] at hs;obtain ⟨q1,q2,q3,q4⟩:=IS hs.1 h.1;obtain ⟨e1,e2,e3,e4⟩:=RC.all1 hs.2 h.2;exact ⟨⟨q1,e1⟩,by simp only[zb5,q2,e2],by simp only[zb5,q3,e3],by simp[q4,e4]⟩
 | [],_::_,_,h=>h.elim
 | _::_,[],_,h=>h.elim
theorem RC.ren {hp H:THp} {f:Nat->Option Nat} (hlen:∀ id j,f id=some j->∀ b',AQ H j=some b'->∃ b,AQ hp id=some b/\FY b=FY b'):∀ {vs:List SV} {ys:List V},vs.all FJ=true->RC (RV1 hp) vs ys->RC (RV1 H) (vs.map (B6 f)) (ys.map (C2 f))
 | [],[],_,_=>trivial
 | v::vs,y::ys,hs,h=>by
  simp only[zd0,za2] at hs;exact ⟨AL7 hlen h.1 hs.1,RC.ren hlen hs.2 h.2⟩
 | [],_::_,_,h=>h.elim
 | _::_,[],_,h=>h.elim
theorem A4K (l:List (Nat×TMs)):(GB l).map (·.2)=(l.map (·.2)).map TMs.mds/\Dg (GB l)=l.map (fun p=>V.rf p.1 0 0)/\(GB l).length=l.length:=by
 refine ⟨?_,?_,?_⟩
 ·simp[GB]
 ·unfold Dg GB; simp
 ·simp[GB]
theorem A81 {e:Nat} {st:TSt} {s:St} {res:List Item} {rs:List ResultVar} {y:Dp res} (hX:XOK P X) (hs:RS st s)
  (h:(A4b X st.tm st.hp rs fun xs=>Bf2 res e st xs)=some y) :
  ∃ r blks',(HF (GB (At9 (DQ res) e 0 (DQ res))) s.hp=true/\O4 P s rs fun xs=>BI (Ku ((GB (At9 (DQ res) e 0 (DQ res))).map (·.2)++(Jf res).map (·.2)) (Dg (GB (At9 (DQ res) e 0 (DQ res)))++xs) s.hp (s.c + 1)) fun z=>AR5 z.2.1 e r blks' (z.1.drop (GB (At9 (DQ res) e 0 (DQ res))).length))/\ResRel res y r blks':=by
 obtain ⟨xs,ys,h1,h2,h3⟩:=An3 hX hs rs h;unfold Bf2 at h1;simp only at h1;generalize At9 (DQ res) e 0 (DQ res)=rts at h1 ⊢
 split at h1
 case isFalse=>cases h1
 rename_i hc;simp only[za2] at hc;obtain ⟨⟨c1,c2⟩,c3⟩:=hc
 split at h1
 case h_2=>cases h1
 rename_i zs0 hp1 hn
 split at h1
 case isFalse=>cases h1
 rename_i hz
 split at h1
 case h_2=>cases h1
 rename_i o ho
 split at h1
 case isFalse=>cases h1
 rename_i he;obtain ⟨m1,m2,m3⟩:=A4K rts;have hroot:HF (GB rts) s.hp=true:=by
  unfold A8c at c1;unfold HF GB;rw[List.all_map];refine za5.2 fun p hp=>?_
  have:=za5.1 c1 p hp;simp only[za2] at this;simp only[Function.comp,za2,decide_eq_true_eq];refine ⟨Rf this.1,?_⟩
  have h4:=this.2
  split at h4
  ·rename_i ty cs hg;obtain ⟨k,hk,k1,_⟩:=hs.hp p.1 _ hg;rw[hk];simp[k1]
  ·cases h4
 have hsc:s.c=st.c:=hs.c;obtain ⟨b1,_⟩:=W7 c3;have hids:∀ i∈(rts.map (fun p=>SV.rf p.1 0 0)++xs).flatMap HL,i<16*(s.c + 1):=by
  intro i hi;rw[List.flatMap_append,zb3] at hi;rcases hi with hi | hi
  ·obtain ⟨v,hv,hi⟩:=zb1.1 hi;obtain ⟨p,_,rfl⟩:=zd4.1 hv;simp[HL,Aw2,FV] at hi
  ·obtain ⟨v,hv,hi⟩:=zb1.1 hi;simp only[WL,za2] at c3;rw[<-Tz xs 0] at hv;obtain ⟨p,hp,rfl⟩:=zd4.1 hv;have:=Rf (za5.1 (za5.1 c3.1 p hp) i hi);omega
 have hrc:RC (RV2 st.hp) (rts.map (fun p=>SV.rf p.1 0 0)++xs) (Dg (GB rts)++ys):=by
  rw[m2];refine RC.append (RC.map fun p _=>rfl) h2
 obtain ⟨ys',hv',c',n1,n2,n3,_⟩:=A41 (c:=s.c + 1) hs.hp (by rw[hsc]; exact b1) hids hrc (by rw[hsc]; exact hn);have hzc:=n3.drop rts.length;obtain ⟨a1,a2,a3,a4⟩:=RC.all1 hz hzc;have hcl:=Ig n2 _ _ _ ho;obtain ⟨r1,r2⟩:=We n2 o;have hf:Eo o=idx o:=funext fun id=>Rv o id
 obtain ⟨e1,e2⟩:=AN7 h1;have hvals:(BK 0 res y).1.map (·.2)=(zs0.drop rts.length).map (B6 (Eo o)):=by rw[<-e1,Tz]
 have htake:=Nm he;have hrv:RC (RV1 (G9 hp1 (Eo o) 0 o)) ((zs0.drop rts.length).map (B6 (Eo o))) ((ys'.drop rts.length).map (C2 (idx o))):=by
  rw[hf] at r2 ⊢
  exact RC.ren r2 hz a1
 have fin:∀ r,AR5 hv' e r (AU hv' o) (ys'.drop rts.length)->RV2 (G9 hp1 (Eo o) 0 o) (A9p ((zs0.drop rts.length).map (B6 (Eo o)))) r->∃ r blks',(HF (GB rts) s.hp=true/\O4 P s rs fun xs=>BI (Ku ((GB rts).map (·.2)++(Jf res).map (·.2)) (Dg (GB rts)++xs) s.hp (s.c + 1)) fun z=>AR5 z.2.1 e r blks' (z.1.drop (GB rts).length))/\ResRel res y r blks':=by
  intro r hr hv;refine ⟨r,AU hv' o,⟨hroot,h3 _ ?_⟩,⟨by rw[hvals,<-e2]; exact hv,by rw[<-e2]; exact r1,by rw[<-e2,AE5]; simp[AU]⟩⟩
  have:(GB rts).map (·.2)++(Jf res).map (·.2)=(rts.map (·.2)++(Me (DQ res) res).map (·.2)).map TMs.mds:=by
   rw[m1,show Jf res=GB (Me (DQ res) res) from rfl,(A4K (Me (DQ res) res)).1,List.map_append]
  rw[this,n1];simp only[Au,m3];exact hr
 generalize ys'.drop rts.length=zs at a1 a2 a3 a4 hrv fin;generalize zs0.drop rts.length=vs at hrv fin a2 a3 hcl;have many:(A9p (vs.map (B6 (Eo o))) = .tup (vs.map (B6 (Eo o))))->(∀ r,AR5 hv' e r (AU hv' o) zs=(zs.all F5=true/\Ac4 hv' e (.tup zs) r (AU hv' o)))->∃ r blks',(HF (GB rts) s.hp=true/\O4 P s rs fun xs=>BI (Ku ((GB rts).map (·.2)++(Jf res).map (·.2)) (Dg (GB rts)++xs) s.hp (s.c + 1)) fun z=>AR5 z.2.1 e r blks' (z.1.drop (GB rts).length))/\ResRel res y r blks':=by
  intro ht ho';refine fin (.tup (zs.map (C2 (idx o)))) ?_ ?_
  ·rw[ho'];refine ⟨a4,?_⟩
   unfold Ac4;rw[show Ar (.tup zs)=zs.flatMap Ao from rfl,a2,hcl];exact ⟨htake,rfl,rfl⟩
  ·rw[ht];exact ⟨_,rfl,hrv⟩
 match zs,vs,a2,a3,a4,hrv,hcl,fin,many with
 | [z],[v],a2,a3,a4,hrv,hcl,fin,_ =>
  refine fin (F8 (idx o) z) ?_ ?_
  ·show Ac4 _ _ _ _ _;unfold Ac4;have:Ar z = [v].flatMap rf1:=by simpa using a3
   rw[this,hcl];exact ⟨htake,rfl,rfl⟩
  ·have:F5 z=true:=by simpa using a4
   rw[A9j this];exact hrv.1.to2
 | [],[],_,_,_,_,_,_,many=>exact many rfl fun r=>rfl
 | _::_::_,_::_::_,_,_,_,_,_,_,many=>exact many rfl fun r=>rfl
 | [],_::_,_,_,_,h,_,_,_=>exact h.elim
 | _::_,[],_,_,_,h,_,_,_=>exact h.elim
 | [_],_::_::_,_,_,_,h,_,_,_=>exact h.2.elim
 | _::_::_,[_],_,_,_,h,_,_,_=>exact h.2.elim
end
end
section
open Go
theorem Ar2 {hp:THp} {hv:Hp} {c:AC} {v x:SV} {y:V} (hh:RH hp hv) (h:EW hp c v=some x) (hv':RV0 hp v y) :
  ∃ y',MO hv y=some y'/\RV0 hp x y'/\DX y=Aa5 v:=by
 cases c with
 | int k =>
  cases v <;> simp only[EW,reduceCtorEq] at h
  cases h; have:y=_:=hv'; subst this; exact ⟨_,rfl,rfl,rfl⟩
 | bool=>cases v <;> simp only[EW,reduceCtorEq] at h; cases h; have:y=_:=hv'; subst this; exact ⟨_,rfl,rfl,rfl⟩
 | str=>cases v <;> simp only[EW,reduceCtorEq] at h; cases h; have:y=_:=hv'; subst this; exact ⟨_,rfl,rfl,rfl⟩
 | err=>cases v <;> simp only[EW,reduceCtorEq] at h
 | «at» j=>cases v <;> simp[EW] at h
 | im t =>
  have h':∃ l,Hx hp t v=some l/\x = .im t l:=by
   simp only[EW] at h
   split at h
   ·rename_i l hl; cases h; exact ⟨l,hl,rfl⟩
   ·cases h
  obtain ⟨l,h',rfl⟩:=h';have hids:DX y=Aa5 v:=by
   cases v with
   | ow id=>obtain ⟨n,rfl,_⟩:=hv'; rfl
   | ar a b c=>have:y=_:=hv'; subst this; rfl
   | em=>have:y=_:=hv'; subst this; rfl
   | er e=>have:y=_:=hv'; subst this; rfl
   | im t' l'=>rcases hv' with ⟨_,rfl⟩ | ⟨_,rfl,_⟩ <;> rfl
   | _=>simp[Hx,asL] at h'
  rcases Ab9 h' hv' hh.toM with ⟨rfl,rfl⟩ | ⟨rows,rfl,hr⟩ | ⟨id,lo,n,kb,rfl,hk,hkk,hr⟩
  ·exact ⟨.im [],rfl,.inr ⟨[],rfl,RLx.nil⟩,hids⟩
  ·exact ⟨.im rows,rfl,.inr ⟨rows,rfl,hr⟩,hids⟩
  ·refine ⟨.im ((kb.rows.take (lo + n)).drop lo),?_,.inr ⟨_,rfl,hr⟩,hids⟩
   simp only[MO,hk]
theorem XL {hp:THp} {hv:Hp} (hh:RH hp hv):∀ {cs:List AC} {vs xs:List SV} {ys:List V},Vx hp cs vs=some xs->RC (RV0 hp) vs ys ->
  ∃ ys',Nc hv ys=some ys'/\RC (RV0 hp) xs ys'/\ys.flatMap DX=vs.flatMap Aa5
 | [],[],xs,ys,h,hc=>by
  simp only[Vx,Option.some.injEq] at h;subst h;cases ys with
  | nil=>exact ⟨[],rfl,trivial,rfl⟩
  | cons a l=>exact hc.elim
 | [],_::_,_,_,h,_=>by cases h
 | _::_,[],_,_,h,_=>by cases h
 | c::cs,v::vs,xs,ys,h,hc=>by
  simp only[Vx] at h
  split at h
  ·rename_i x1 hx1
   split at h
   ·rename_i x2 hx2;cases h
    cases ys with
    | nil=>exact hc.elim
    | cons y ys =>
     obtain ⟨y',h1,h2,h3⟩:=Ar2 hh hx1 hc.1;obtain ⟨ys',g1,g2,g3⟩:=XL hh hx2 hc.2;exact ⟨y'::ys',by simp only[Nc,h1,g1],⟨h2,g2⟩,by rw[zb5,zb5,h3,g3]⟩
   ·cases h
  ·cases h
theorem A3t {hp:THp} {hv:Hp} {a:AS} {v x:SV} {y:V} (hh:RH hp hv) (h:K3 hp a v=some x) (hv2:RV2 hp v y) :
  ∃ y',H7 hv y=some y'/\RV2 hp x y'/\OL y=AJ8 v:=by
 have cell:∀ (c:AC),EW hp c v=some x->RV0 hp v y->AJ8 v=Aa5 v->(∀ y',RV0 hp x y'->RV2 hp x y')->H7 hv y=MO hv y->OL y=DX y->∃ y',H7 hv y=some y'/\RV2 hp x y'/\OL y=AJ8 v:=by
  intro c hc h0 e1 e2 e3 e4;obtain ⟨y',q1,q2,q3⟩:=Ar2 hh hc h0;exact ⟨y',by rw[e3]; exact q1,e2 y' q2,by rw[e4,e1]; exact q3⟩
 cases a with
 | cell c =>
  have h:EW hp c v=some x:=by cases v <;> exact h
  have hx:∀ y',RV0 hp x y'->RV2 hp x y':=fun y' h=>h.to1.to2
  cases v with
  | int k n=>have:y=_:=hv2; subst this; exact cell c h rfl rfl hx rfl rfl
  | bool b=>have:y=_:=hv2; subst this; exact cell c h rfl rfl hx rfl rfl
  | str s=>have:y=_:=hv2; subst this; exact cell c h rfl rfl hx rfl rfl
  | em=>have:y=_:=hv2; subst this; exact cell c h rfl rfl hx rfl rfl
  | er e=>have:y=_:=hv2; subst this; exact cell c h rfl rfl hx rfl rfl
  | im t l=>rcases hv2 with ⟨e,rfl⟩ | ⟨r,rfl,e⟩; exact cell c h (.inl ⟨e,rfl⟩) rfl hx rfl rfl; exact cell c h (.inr ⟨r,rfl,e⟩) rfl hx rfl rfl
  | ow id=>obtain ⟨n,rfl,e⟩:=hv2; exact cell c h ⟨n,rfl,e⟩ rfl hx rfl rfl
  | ar a b d=>have:y=_:=hv2; subst this; exact cell c h rfl rfl hx rfl rfl
  | sc a=>cases c <;> simp[EW,Hx,asL] at h
  | rf a b d=>cases c <;> simp[EW,Hx,asL] at h
  | ir a b d=>cases c <;> simp[EW,Hx,asL] at h
  | agg cs=>cases c <;> simp[EW,Hx,asL] at h
  | tup cs=>cases c <;> simp[EW,Hx,asL] at h
  | cl f cs=>cases c <;> simp[EW,Hx,asL] at h
  | any=>cases c <;> simp[EW,Hx,asL] at h
 | agg cs =>
  cases v with
  | agg vs =>
   simp only[K3] at h
   split at h
   ·rename_i l hl;cases h
    obtain ⟨us,rfl,hc⟩:=Ak7 hv2;obtain ⟨ys',q1,q2,q3⟩:=XL hh hl hc;exact ⟨.agg ys',by simp only[H7,q1],⟨ys',rfl,q2⟩,q3⟩
   ·cases h
  | _=>simp[K3] at h
 | ref j isb =>
  cases isb with
  | true =>
   cases v <;> simp only[K3,reduceCtorEq] at h
   cases h
   have:y=_:=hv2;subst this;exact ⟨_,rfl,rfl,rfl⟩
  | false=>cases v <;> simp[K3] at h
 | sub j=>cases v <;> simp[K3] at h
 | clo f =>
  cases v with
  | cl g cs =>
   cases cs with
   | nil =>
    simp only[K3,Option.some.injEq] at h;subst h;obtain ⟨us,rfl,hc⟩:=A4B hv2;cases us with
    | nil=>exact ⟨.cl g [],rfl,⟨[],rfl,trivial⟩,rfl⟩
    | cons a l=>exact hc.elim
   | cons a l=>simp[K3] at h
  | _=>simp[K3] at h
 | cap f js=>cases v <;> simp[K3] at h
theorem T0 {hp:THp} {hv:Hp} (hh:RH hp hv):∀ {l:List AS} {vs xs:List SV} {ys:List V},WU hp l vs=some xs->RC (RV2 hp) vs ys ->
  ∃ ys',F2 hv (l.map AO6) ys=some ys'/\RC (RV2 hp) xs ys'/\EH (l.map AO6) ys=MD l vs
 | [],[],xs,ys,h,hc=>by
  simp only[WU,Option.some.injEq] at h;subst h;cases ys with
  | nil=>exact ⟨[],rfl,trivial,rfl⟩
  | cons a l=>exact hc.elim
 | [],_::_,_,_,h,_=>by cases h
 | _::_,[],_,_,h,_=>by cases h
 | a::l,v::vs,xs,ys,h,hc=>by
  simp only[WU] at h
  split at h
  ·rename_i x1 hx1
   split at h
   ·rename_i x2 hx2;cases h
    cases ys with
    | nil=>exact hc.elim
    | cons y ys =>
     obtain ⟨ys',g1,g2,g3⟩:=T0 hh hx2 hc.2;cases hra:AO6 a with
     | true =>
      rw[hra] at hx1;simp only[cond_true] at hx1;obtain ⟨hsv,hx1⟩:=Dh hx1;cases hx1
      obtain ⟨_,_,_,hnt⟩:=IS hsv hc.1;refine ⟨y::ys',?_,⟨hc.1,g2⟩,?_⟩
      ·simp only[F2,zb9,List.headD_cons,List.tail_cons,hra,if_true,hnt,g1]
      ·simp only[EH,MD,zb9,List.headD_cons,List.tail_cons,hra,if_true,cond_true,g3]
     | false =>
      rw[hra] at hx1;simp only[cond_false] at hx1;obtain ⟨y',h1,h2,h3⟩:=A3t hh hx1 hc.1;refine ⟨y'::ys',?_,⟨h2,g2⟩,?_⟩
      ·simp only[F2,zb9,List.headD_cons,List.tail_cons,hra,zc3,if_false,h1,g1]
      ·simp only[EH,MD,zb9,List.headD_cons,List.tail_cons,hra,zc3,if_false,cond_false,h3,g3]
   ·cases h
  ·cases h
theorem Ah2:∀ (l acc:List Nat),ddN acc l=acc++(l.filter fun i=>!acc.contains i).eraseDups
 | [],acc=>by simp[ddN]
 | id::l,acc=>by
  simp only[ddN];rw[UC];cases h:acc.contains id with
  | true =>
   simp only[cond_true];rw[Ah2 l acc,List.filter_cons,h];rfl
  | false =>
   simp only[cond_false];rw[Ah2 l (acc ++ [id]),List.filter_cons,h];simp only[Bool.not_false,if_true];rw[List.eraseDups_cons,List.append_assoc,List.singleton_append,List.filter_filter]
   congr 3
   apply List.filter_congr
   intro x _;simp only[List.contains_append,List.contains_cons,List.contains_nil,Bool.or_false,Bool.not_or];rw[Bool.and_comm]
theorem A2X (l:List Nat):ddN [] l=l.eraseDups:=by
 rw[Ah2];simp only[List.contains_nil,Bool.not_false,List.nil_append];rw[List.filter_eq_self.2 (fun _ _=>rfl)]
theorem A7s {hp:THp} {f:Nat->Option Nat} {v:SV} {y:V} (hs:KX v=true) (h0:rf0 v = []) (h:RV0 hp v y):Cs f y=y:=by
 cases v with
 | im t l=>rcases h with ⟨_,rfl⟩ | ⟨_,rfl,_⟩ <;> rfl
 | ow id=>simp[rf0] at h0
 | ar a b c=>simp[rf0] at h0
 | rf a b c=>simp[rf0] at h0
 | ir t a c=>obtain ⟨_,rfl,_⟩:=h; rfl
 | cl f cs=>cases cs with | nil=>have:y=_:=h; subst this; rfl | cons a l=>exact h.elim
 | any=>cases hs
 | agg cs=>exact h.elim
 | tup cs=>exact h.elim
 | _=>have:y=_:=h; subst this; rfl
theorem Wz {hp:THp} {f:Nat->Option Nat}:∀ {vs:List SV} {ys:List V},vs.all KX=true->vs.flatMap rf0 = []->RC (RV0 hp) vs ys->ys.map (Cs f)=ys
 | [],[],_,_,_=>rfl
 | v::vs,y::ys,hs,h0,h=>by
  simp only[zd0,za2] at hs;rw[zb5,List.append_eq_nil_iff] at h0;rw[zb9,A7s hs.1 h0.1 h.1,Wz hs.2 h0.2 h.2]
 | [],_::_,_,_,h=>h.elim
 | _::_,[],_,_,h=>h.elim
theorem A6U {hp:THp} {f:Nat->Option Nat} {v:SV} {y:V} (hs:FJ v=true) (h0:rf1 v = []) (h:RV1 hp v y):C2 f y=y:=by
 cases v with
 | agg cs=>obtain ⟨us,rfl,hc⟩:=h; show V.agg _=_; rw[Wz hs h0 hc]
 | cl g cs=>obtain ⟨us,rfl,hc⟩:=h; show V.cl _ _=_; rw[Wz hs h0 hc]
 | im t l=>rcases h with ⟨_,rfl⟩ | ⟨_,rfl,_⟩ <;> rfl
 | ow id=>simp[rf1,rf0] at h0
 | ar a b c=>simp[rf1,rf0] at h0
 | rf a b c=>simp[rf1,rf0] at h0
 | ir t a c=>obtain ⟨_,rfl,_⟩:=h; rfl
 | any=>cases hs
 | tup cs=>exact h.elim
 | _=>have:y=_:=h; subst this; rfl
theorem Ay4 {hp:THp} {f:Nat->Option Nat}:∀ {vs:List SV} {ys:List V},vs.all FJ=true->vs.flatMap rf1 = []->RC (RV1 hp) vs ys->ys.map (C2 f)=ys
 | [],[],_,_,_=>rfl
 | v::vs,y::ys,hs,h0,h=>by
  simp only[zd0,za2] at hs;rw[zb5,List.append_eq_nil_iff] at h0;rw[zb9,A6U hs.1 h0.1 h.1,Ay4 hs.2 h0.2 h.2]
 | [],_::_,_,_,h=>h.elim
 | _::_,[],_,_,h=>h.elim
theorem A6q (c:AC) (x:c.den):KX (A2n c x)=true:=by cases c <;> rfl
theorem SZ:∀ (cs:List AC) (x:TZ cs),(Ul cs x).all KX=true
 | [],_=>rfl
 | c::cs,x=>by rw[Ul,zd0,A6q,SZ cs]; rfl
theorem A3r (a:AS) (x:a.den):FJ (A08 a x)=true:=by
 cases a with
 | cell c=>cases c <;> rfl
 | agg cs=>exact SZ cs x
 | ref j isb=>cases isb <;> rfl
 | sub j=>rfl
 | clo f=>rfl
 | cap f js=>show (js.map fun j=>SV.rf j 0 0).all KX=true; simp[KX]
theorem A7v (b:AB) (x:b.den):An5 (Br7 b x)=true:=by
 cases b with
 | arr ty deep t=>rfl
 | box ty cs=>exact SZ cs x
theorem R2:∀ (l:List Item) (k:Nat) (d:Dp l),((BK k l d).1.map (·.2)).all FJ=true
 | [],_,_=>rfl
 | .blk b::l,k,d=>by simp only[BK]; exact R2 l _ _
 | .slot s a::l,k,d=>by simp only[BK,zb9,zd0,A3r,ze2]; exact R2 l _ _
theorem Ps:∀ (l:List Item) (k:Nat) (d:Dp l) (i:Nat),i<(BK k l d).2.length->∃ b,(BK k l d).2[i]? = some (k + i,some b)/\An5 b=true
 | [],_,_,i,h=>by simp[BK] at h
 | .blk b::l,k,d,i,h=>by
  simp only[BK,zb8] at h ⊢
  cases i with
  | zero=>exact ⟨_,rfl,A7v _ _⟩
  | succ i =>
   obtain ⟨b',h1,h2⟩:=Ps l (k + 1) (tlI _ l d) i (by omega);exact ⟨b',by rw[List.getElem?_cons_succ,h1]; congr 2; omega,h2⟩
 | .slot s a::l,k,d,i,h=>by simp only[BK] at h ⊢; exact Ps l k _ i h
theorem Zn:∀ {l:THp} {k:Nat},(∀ i,i<l.length->∃ b,l[i]? = some (k + i,some b))->∀ i,i<l.length->∃ b,l[i]? = some (k + i,some b)/\AQ l (k + i)=some b
 | [],_,_,i,h=>by simp at h
 | a::l,k,hl,i,h=>by
  obtain ⟨b0,h0⟩:=hl 0 (by simp);simp at h0;subst h0;cases i with
  | zero=>exact ⟨b0,rfl,by rw[Nat.add_zero,AL,if_pos rfl]⟩
  | succ i =>
   obtain ⟨b,h1,h2⟩:=Zn (l:=l) (k:=k + 1) (fun j hj=>by
    obtain ⟨b,hb⟩:=hl (j + 1) (by simpa using hj);exact ⟨b,by rw[List.getElem?_cons_succ] at hb; rw[hb]; congr 2; omega⟩) i (by simpa using h)
   exact ⟨b,by rw[List.getElem?_cons_succ,h1]; congr 2; omega,by rw[AL,if_neg (by omega),show k + (i + 1)=k + 1 + i by omega]; exact h2⟩
theorem A5i {l:List Item} {d:Dp l} {i:Nat} (h:i<(BK 0 l d).2.length):∃ b,(BK 0 l d).2[i]? = some (i,some b)/\AQ (BK 0 l d).2 i=some b/\An5 b=true:=by
 obtain ⟨b,h1,h2⟩:=Zn (l:=(BK 0 l d).2) (k:=0) (fun i hi=>by obtain ⟨b,h1,_⟩:=Ps l 0 d i hi; exact ⟨b,h1⟩) i h;obtain ⟨b',h3,h4⟩:=Ps l 0 d i h;simp only[ze4] at h1 h2 h3;rw[h3] at h1;cases h1
 exact ⟨b,h3,h2,h4⟩
theorem A73 {l:List Item} {d:Dp l} {i:Nat} {b:TB} (h:AQ (BK 0 l d).2 i=some b):i<(BK 0 l d).2.length:=by
 obtain ⟨j,hj⟩:=List.getElem?_of_mem (AG7 h);have hl:=(za3.1 hj).1;obtain ⟨b',h1,_⟩:=Ps l 0 d j hl;rw[hj] at h1;simp only[ze4,Option.some.injEq,Prod.mk.injEq] at h1;rw[h1.1]; exact hl
theorem A7f {hp:THp} {v:SV} {y:V} (hs:KX v=true) (h:RV0 hp v y):GG y=Aq2 v:=by
 cases v with
 | im t l=>rcases h with ⟨_,rfl⟩ | ⟨_,rfl,_⟩ <;> rfl
 | ow id=>obtain ⟨_,rfl,_⟩:=h; rfl
 | ir t a c=>obtain ⟨_,rfl,_⟩:=h; rfl
 | cl f cs=>cases cs with | nil=>have:y=_:=h; subst this; rfl | cons a l=>exact h.elim
 | any=>cases hs
 | agg cs=>exact h.elim
 | tup cs=>exact h.elim
 | _=>have:y=_:=h; subst this; rfl
theorem Wc {hp:THp}:∀ {vs:List SV} {ys:List V},vs.all KX=true->RC (RV0 hp) vs ys->ys.all GG=vs.all Aq2
 | [],[],_,_=>rfl
 | v::vs,y::ys,hs,h=>by
  simp only[zd0,za2] at hs ⊢
  rw[A7f hs.1 h.1,Wc hs.2 h.2]
 | [],_::_,_,h=>h.elim
 | _::_,[],_,h=>h.elim
def niV:V->Bool
 | .agg cs=>cs.all GG
 | x=>GG x
theorem A1a (vs:List V):ME (.tup vs)=vs.all niV:=by
 show (vs.all fun | .agg cs=>cs.all GG | x=>GG x)=_
 congr 1
theorem Ay3 {hp:THp} {v:SV} {y:V} (hs:FJ v=true) (h:RV1 hp v y):niV y=AV8 v/\ME y=AV8 v:=by
 cases v with
 | agg cs=>obtain ⟨us,rfl,hcs⟩:=h; have:=Wc hs hcs; exact ⟨this,this⟩
 | cl f cs =>
  obtain ⟨us,rfl,hcs⟩:=h;cases cs with
  | nil=>cases us with | nil=>exact ⟨rfl,rfl⟩ | cons a l=>exact hcs.elim
  | cons a l=>cases us with | nil=>exact hcs.elim | cons b m=>exact ⟨rfl,rfl⟩
 | im t l=>rcases h with ⟨_,rfl⟩ | ⟨_,rfl,_⟩ <;> exact ⟨rfl,rfl⟩
 | ow id=>obtain ⟨_,rfl,_⟩:=h; exact ⟨rfl,rfl⟩
 | ir t a c=>obtain ⟨_,rfl,_⟩:=h; exact ⟨rfl,rfl⟩
 | any=>cases hs
 | tup cs=>exact h.elim
 | _=>have:y=_:=h; subst this; exact ⟨rfl,rfl⟩
theorem A7K {hp:THp} {b:TB} {k:Blk} (hs:An5 b=true) (h:RB hp b k):EG k=A8w b:=by
 cases b with
 | arr ty deep t l=>obtain ⟨h1,h2,h3,_⟩:=h; unfold EG; rw[h1]; exact h3
 | frz ty deep t l=>obtain ⟨h1,h2,h3,_⟩:=h; unfold EG; rw[h1]; rfl
 | box ty cs =>
  obtain ⟨h1,h2,row,h3,h4,h5⟩:=h;unfold EG;rw[h1,h3];simp only[zd0,List.all_nil,Bool.and_true];exact Wc hs h5
end
section
open Go
theorem AO3:∀ (l:List Blk) (hp:Hp) (b i:Nat),inst hp b l i=if b<=i/\i<b + l.length then l[i-b]? else hp i
 | [],hp,b,i=>by rw[if_neg (by simp)]; rfl
 | x::l,hp,b,i=>by
  simp only[inst];rw[AO3 l];by_cases h:b + 1<=i/\i<b + 1 + l.length
  ·rw[if_pos h,if_pos (by simp only[zb8]; omega)];rw[show i-b=(i-(b + 1)) + 1 by omega];rfl
  ·rw[if_neg h];unfold upd;by_cases hi:i=b
   ·subst hi;rw[if_pos rfl,if_pos (by simp)];simp
   ·rw[if_neg hi,if_neg (by simp only[zb8]; omega)]
theorem PY:∀ (ids:List Nat) (ks:List Blk) (hp:Hp) (i:Nat),i ∉ ids->setAt hp ids ks i=hp i
 | [],ks,hp,i,_=>by cases ks <;> rfl
 | _::_,[],hp,i,_=>rfl
 | id::ids,k::ks,hp,i,h=>by
  simp only[zc8,not_or] at h;simp only[setAt];rw[PY ids ks _ i h.2];simp[upd,h.1]
theorem AW9:∀ (ids:List Nat) (ks:List Blk) (hp:Hp) (j:Nat) (id:Nat),ids.Nodup->ids[j]? = some id->j<ks.length->setAt hp ids ks id=ks[j]?
 | [],_,_,_,_,_,h,_=>by simp at h
 | _::_,[],_,_,_,_,_,h=>by simp at h
 | i::ids,k::ks,hp,j,id,hn,h,hl=>by
  simp only[List.nodup_cons] at hn;simp only[setAt];cases j with
  | zero =>
   simp at h;subst h;rw[PY ids ks _ i hn.1];simp[upd]
  | succ j =>
   simp only[List.getElem?_cons_succ] at h ⊢
   exact AW9 ids ks _ j id hn.2 h (by simpa using hl)
theorem PZ {l m:THp} {i:Nat}:AQ (l++m) i=if i∈l.map (·.1) then AQ l i else AQ m i:=by
 induction l with
 | nil=>simp
 | cons a l ih =>
  obtain ⟨k,x⟩:=a;rw[List.cons_append,AL,ih,AL];by_cases h:i=k
  ·simp[h]
  ·simp only[zb9,zc8,h,false_or,if_false]
theorem TE {α:Type} {hp out:THp}:∀ {l:List Nat} {A:Option α} {z : α},A2j hp out l A=some z->A=some z/\∀ id∈l,∃ b b',AQ hp id=some b/\AQ out id=some b'/\FY b=FY b'
 | [],A,z,h=>⟨h,fun id hid=>by simp at hid⟩
 | id::l,A,z,h=>by
  simp only[A2j] at h
  split at h
  ·rename_i t1 d1 e1 l1 t2 d2 e2 l2 g1 g2;obtain ⟨hc,h⟩:=Dh h;obtain ⟨q1,q2⟩:=TE h;refine ⟨q1,fun i hi=>?_⟩
   rcases zc8.1 hi with rfl | hi
   ·exact ⟨_,_,g2,g1,by simp only[FY]; rw[of_decide_eq_true hc]⟩
   ·exact q2 i hi
  ·rename_i t1 c1 t2 c2 g1 g2;obtain ⟨q1,q2⟩:=TE h;refine ⟨q1,fun i hi=>?_⟩
   rcases zc8.1 hi with rfl | hi
   ·exact ⟨_,_,g2,g1,rfl⟩
   ·exact q2 i hi
  ·cases h
theorem Uh:∀ (l:List Nat) (hp:THp) (i:Nat),AQ (Ee hp l) i=if i∈l then none else AQ hp i
 | [],hp,i=>by simp[Ee]
 | id::l,hp,i=>by
  rw[Ee,Uh l,AL];by_cases h1:i∈l
  ·simp[h1]
  ·by_cases h2:i=id
   ·subst h2; simp
   ·simp[h1,h2]
theorem A8N (o:List Nat) (e n b:Nat):Ur o e n b=B5 o e n b:=by
 funext j
 unfold Ur B5;by_cases h:j<e
 ·have:Nat.blt j e=true:=Nat.ble_eq_true_of_le h;rw[this,if_pos h]; rfl
 ·have:Nat.blt j e=false:=by cases hb:Nat.blt j e with | false=>rfl | true=>exact absurd (Rf hb) h
  rw[this,if_neg h];by_cases h2:j<n
  ·have:Nat.blt j n=true:=Nat.ble_eq_true_of_le h2;rw[this,if_pos h2]; rfl
  ·have:Nat.blt j n=false:=by cases hb:Nat.blt j n with | false=>rfl | true=>exact absurd (Rf hb) h2
   rw[this,if_neg h2]; rfl
theorem Ly {f:Nat->Option Nat}:∀ {L:THp} {i:Nat} {bb:TB},AQ (EA f L) i=some bb->∃ j b0,(j,some b0)∈L/\f j=some i/\bb=Ae7 f b0
 | [],_,_,h=>by cases h
 | (k,x)::L,i,bb,h=>by
  simp only[EA] at h
  split at h
  ·rename_i i' hk;rw[AL] at h
   split at h
   ·rename_i he;subst he;cases x with
    | none=>cases h
    | some b0=>cases h; exact ⟨k,b0,by simp,hk,rfl⟩
   ·obtain ⟨j,b0,h1,h2,h3⟩:=Ly h;exact ⟨j,b0,by simp[h1],h2,h3⟩
  ·obtain ⟨j,b0,h1,h2,h3⟩:=Ly h;exact ⟨j,b0,by simp[h1],h2,h3⟩
theorem As4 {f:Nat->Option Nat}:∀ {L:THp} {j i:Nat} {x:Option TB},(j,x)∈L->f j=some i->i∈(EA f L).map (·.1)
 | (k,x')::L,j,i,x,h,hf=>by
  simp only[EA];rcases zc8.1 h with h | h
  ·cases h
   rw[hf];simp
  ·have:=As4 h hf
   split
   ·simp only[zb9,zc8]; exact .inr this
   ·exact this
section
variable {hp1:Hp} {o:List Nat} {e b:Nat} {blks:List Blk}
theorem A6H {i j:Nat} {k:Blk} (hn:o.Nodup) (hlow:∀ id∈o,id<b) (heo:e<=o.length) (hen:e<=blks.length) (hj:blks[j]? = some k) (hf:B5 o e blks.length b j=some i) :
  Cx hp1 o e b blks i=some (Fl (B5 o e blks.length b) k):=by
 have hjl:=(za3.1 hj).1;unfold Cx;rw[AO3];unfold B5 at hf;by_cases h:j<e
 ·rw[if_pos h] at hf;have hlt:=hlow i (za4 hf);rw[if_neg (by omega)];rw[AW9 _ _ _ j _ (hn.sublist (List.take_sublist _ _)) (by rw[zc0,if_pos h]; exact hf) (by simp; omega)];rw[zc0,if_pos h,zc9,hj];rfl
 ·rw[if_neg h,if_pos hjl] at hf;cases hf
  rw[if_pos (by simp; omega)];rw[zd3,zc9,show e + (b + (j-e)-b)=j by omega,hj];rfl
theorem AS2 {i:Nat} (h1:i ∉ o) (h2:¬(b<=i/\i<b + (blks.length-e))):Cx hp1 o e b blks i=hp1 i:=by
 unfold Cx;rw[AO3,if_neg (by simpa using h2),PY _ _ _ _ (fun h=>h1 (List.mem_of_mem_take h)),Lh _ _ _ h1]
end
section
variable {α:Type} {P:Program} {R:Rel} {cf:Cfg} {X:TX} {b:Nat} {tm:TTm} {m:Tm} {hp:THp} {hv:Hp} {K:SV->THp->Cls->Option α} {z : α}
theorem AD2 {E:Ent} {y:Dp E.a.res} {o:List Nat} {r:V} {blks':List Blk} (hres:ResRel E.a.res y r blks') (hn:o.Nodup) (hlow:∀ id∈o,id<b) (heo:E.a.e<=o.length) (hen:E.a.e<=(BK 0 E.a.res y).2.length)
  (hlens:∀ id∈o.take E.a.e,∃ b0 b1,AQ hp id=some b0/\AQ (EA (Ur o E.a.e (BK 0 E.a.res y).2.length b) (BK 0 E.a.res y).2) id=some b1/\FY b0=FY b1)
  {hp1:THp} {hv1:Hp} (hh1:RH hp1 hv1) (hold:∀ id∈o,AQ hp1 id=AQ hp id) (hids:∀ i bb,AQ hp1 i=some bb->∀ q∈MC bb,q<b) (hr:RT hp1 tm m) (htm:∀ t,∀ i∈HL (CK tm t),i<b) :
  RV2 (EA (Ur o E.a.e (BK 0 E.a.res y).2.length b) (BK 0 E.a.res y).2++Ee hp1 (o.drop E.a.e)) (A9p ((BK 0 E.a.res y).1.map fun p=>B6 (Ur o E.a.e (BK 0 E.a.res y).2.length b) p.2)) (F8 (B5 o E.a.e blks'.length b) r) /\
  RH (EA (Ur o E.a.e (BK 0 E.a.res y).2.length b) (BK 0 E.a.res y).2++Ee hp1 (o.drop E.a.e)) (Cx hv1 o E.a.e b blks') /\
  RT (EA (Ur o E.a.e (BK 0 E.a.res y).2.length b) (BK 0 E.a.res y).2++Ee hp1 (o.drop E.a.e)) tm m:=by
 have hlen:=hres.len;have hsure:=R2 E.a.res 0 y;have hval:=hres.val;have hblk:=hres.blk;have hget:=fun i (h:i<(BK 0 E.a.res y).2.length)=>A5i h
 have hnone:=fun i bb (h:AQ (BK 0 E.a.res y).2 i=some bb)=>A73 h
 have hmem:∀ j x,(j,x)∈(BK 0 E.a.res y).2->j<(BK 0 E.a.res y).2.length/\∃ b0,x=some b0/\AQ (BK 0 E.a.res y).2 j=some b0:=by
  intro j x h;obtain ⟨i,hi⟩:=List.getElem?_of_mem h;have hl:=(za3.1 hi).1;obtain ⟨b0,h1,h2,_⟩:=hget i hl;rw[hi] at h1;simp only[Option.some.injEq,Prod.mk.injEq] at h1;obtain ⟨rfl,rfl⟩:=h1;exact ⟨hl,b0,rfl,h2⟩
 rw[hlen];generalize hvs:(BK 0 E.a.res y).1=vs0 at *
 generalize (BK 0 E.a.res y).2=L at *
 rw[A8N] at *
 generalize hn':L.length=n at *
 have hinj:∀ i j k,i<n->j<n->B5 o E.a.e n b i=some k->B5 o E.a.e n b j=some k->i=j:=by
  intro i j k hi hj h1 h2;unfold B5 at h1 h2;by_cases a1:i<E.a.e
  ·rw[if_pos a1] at h1;by_cases a2:j<E.a.e
   ·rw[if_pos a2] at h2;have g1:=Rx hn h1;have g2:=Rx hn h2;rw[g1] at g2; exact Option.some.inj g2
   ·rw[if_neg a2,if_pos hj] at h2;cases h2
    have:=hlow _ (za4 h1);omega
  ·rw[if_neg a1,if_pos hi] at h1;cases h1
   by_cases a2:j<E.a.e
   ·rw[if_pos a2] at h2;have:=hlow _ (za4 h2);omega
   ·rw[if_neg a2,if_pos hj] at h2;have:=Option.some.inj h2;omega
 have hfn:∀ i k,B5 o E.a.e n b i=some k->i<n:=by
  intro i k h;unfold B5 at h;by_cases a1:i<E.a.e
  ·omega
  ·rw[if_neg a1] at h
   split at h
   ·assumption
   ·cases h
 have hkey:∀ j i,B5 o E.a.e n b j=some i->i∈(EA (B5 o E.a.e n b) L).map (·.1):=by
  intro j i h;obtain ⟨b0,h1,_⟩:=hget j (by rw[<-hn'] at *; exact hfn j i h);exact As4 (za4 h1) h
 have hlow2:∀ j i,B5 o E.a.e n b j=some i->i<b->j<E.a.e/\i∈o.take E.a.e:=by
  intro j i h hi;unfold B5 at h;by_cases a1:j<E.a.e
  ·rw[if_pos a1] at h;exact ⟨a1,za4 (i:=j) (by rw[zc0,if_pos a1]; exact h)⟩
  ·rw[if_neg a1] at h
   split at h
   ·cases h; omega
   ·cases h
 have hlenT:∀ id j,B5 o E.a.e n b id=some j->∀ b',AQ (EA (B5 o E.a.e n b) L++Ee hp1 (o.drop E.a.e)) j=some b'->∃ b0,AQ L id=some b0/\FY b0=FY b':=by
  intro id j hj b' hb';rw[PZ,if_pos (hkey id j hj)] at hb';obtain ⟨j',b0,h1,h2,rfl⟩:=Ly hb';obtain ⟨q1,b1,q2,q3⟩:=hmem j' _ h1;cases q2
  have:=hinj id j' j (hfn _ _ hj) q1 hj h2;subst this;exact ⟨b0,q3,(A2e b0).symm⟩
 have hkn:∀ i,i<b->CY hp1 (EA (B5 o E.a.e n b) L++Ee hp1 (o.drop E.a.e)) i:=by
  intro i hi b' hb';rw[PZ] at hb'
  split at hb'
  ·rename_i hm;obtain ⟨j,b0,h1,h2,rfl⟩:=Ly hb';obtain ⟨_,hto⟩:=hlow2 j i h2 hi;obtain ⟨c0,c1,q1,q2,q3⟩:=hlens i hto;rw[hb'] at q2;cases q2
   exact ⟨c0,by rw[hold i (List.mem_of_mem_take hto)]; exact q1,q3⟩
  ·rw[Uh] at hb'
   split at hb'
   ·cases hb'
   ·exact ⟨b',hb',rfl⟩
 refine ⟨?_,fun i bb hb=>?_,hr.keeps fun t i hi=>hkn i (htm t i hi)⟩
 ·
  have e1:(vs0.map fun p=>B6 (B5 o E.a.e n b) p.2)=(vs0.map (·.2)).map (B6 (B5 o E.a.e n b)):=by simp
  rw[e1];generalize vs0.map (·.2)=vs at hval hsure ⊢
  match vs,hval,hsure with
  | [v],hval,hsure =>
   have hs1:FJ v=true:=by simpa using hsure
   obtain ⟨q1,_,_,q4⟩:=IS hs1 (show RV2 L v r from hval);rw[A9j q4];exact (AL7 hlenT q1 hs1).to2
  | [],hval,hsure =>
   obtain ⟨us,rfl,hc⟩:=(show ∃ us,r = .tup us/\RC (RV1 L) [] us from hval);cases us with
   | nil=>exact ⟨[],rfl,trivial⟩
   | cons a l=>exact hc.elim
  | v1::v2::vs,hval,hsure =>
   obtain ⟨us,rfl,hc⟩:=(show ∃ us,r = .tup us/\RC (RV1 L) (v1::v2::vs) us from hval);exact ⟨us.map (C2 (B5 o E.a.e n b)),rfl,RC.ren hlenT hsure hc⟩
 ·rw[PZ] at hb
  split at hb
  ·obtain ⟨j,b0,h1,h2,rfl⟩:=Ly hb;obtain ⟨q1,b1,q2,q3⟩:=hmem j _ h1;cases q2
   obtain ⟨kj,hkj,hrb⟩:=hblk j b0 q3;have hkj:blks'[j]? = some kj:=hkj;refine ⟨Fl (B5 o E.a.e n b) kj,?_,A9K hlenT hrb⟩
   have:=A6H (hp1:=hv1) (e:=E.a.e) hn hlow heo (by omega) hkj (by rw[hlen]; exact h2);rw[hlen] at this;exact this
  ·rename_i hm;rw[Uh] at hb
   split at hb
   ·cases hb
   ·rename_i hd;obtain ⟨k,hk,hrb⟩:=hh1 i bb hb;refine ⟨k,?_,hrb.keeps fun q hq=>hkn q (hids i bb hb q hq)⟩
    rw[AS2 ?_ ?_]
    ·exact hk
    ·intro hio;rw[<-List.take_append_drop E.a.e o] at hio;rcases zb3.1 hio with hio | hio
     ·obtain ⟨j,hj⟩:=List.getElem?_of_mem hio;rw[zc0] at hj
      split at hj
      ·rename_i hje;exact hm (hkey j i (by unfold B5; rw[if_pos hje]; exact hj))
      ·cases hj
     ·exact hd hio
    ·rintro ⟨h1,h2⟩;rw[hlen] at h2;exact hm (hkey (E.a.e + (i-b)) i (by unfold B5; rw[if_neg (by omega),if_pos (by omega)]; congr 1; omega))
theorem W5 {H:THp}:∀ {vs:List SV} {us:List V},vs.all FJ=true->RC (RV1 H) vs us->us.all niV=vs.all AV8
 | [],[],_,_=>rfl
 | v::vs,u::us,hs,h=>by
  simp only[zd0,za2] at hs ⊢
  rw[(Ay3 hs.1 h.1).1,W5 hs.2 h.2]
 | [],_::_,_,h=>h.elim
 | _::_,[],_,h=>h.elim
theorem A9Y {res:List Item} {y:Dp res} {r:V} {blks':List Blk} (hres:ResRel res y r blks'):AR8 ((BK 0 res y).1.map (·.2)) (BK 0 res y).2=(ME r&&blks'.all EG):=by
 have hsure:=R2 res 0 y;have hval:=hres.val;unfold AR8
 congr 1
 ·generalize (BK 0 res y).1.map (·.2)=vs at hval hsure
  match vs,hval,hsure with
  | [v],hval,hsure =>
   have hs1:FJ v=true:=by simpa using hsure
   obtain ⟨q1,_⟩:=IS hs1 (show RV2 _ v r from hval);simp only[zd0,List.all_nil,Bool.and_true];exact (Ay3 hs1 q1).2.symm
  | [],hval,hsure =>
   obtain ⟨us,rfl,hc⟩:=(show ∃ us,r = .tup us/\RC (RV1 (BK 0 res y).2) [] us from hval);rw[A1a,W5 hsure hc]
  | v1::v2::vs,hval,hsure =>
   obtain ⟨us,rfl,hc⟩:=(show ∃ us,r = .tup us/\RC (RV1 (BK 0 res y).2) (v1::v2::vs) us from hval);rw[A1a,W5 hsure hc]
 ·have h3:(BK 0 res y).2.map A99=blks'.map EG:=by
   apply List.ext_getElem?
   intro j;rw[zc9,zc9];by_cases hj:j<(BK 0 res y).2.length
   ·obtain ⟨b0,h1,h2,h3⟩:=A5i hj;obtain ⟨kj,hkj,hrb⟩:=hres.blk j b0 h2;have hkj:blks'[j]? = some kj:=hkj;rw[h1,hkj];simp only[zd9,A7K h3 hrb,A99]
   ·rw[List.getElem?_eq_none (by omega),List.getElem?_eq_none (by have:=hres.len; omega)];rfl
  have h4:∀ {γ:Type} (l:List γ) (f : γ->Bool),l.all f=(l.map f).all id:=by
   intro γ l f
   induction l with
   | nil=>rfl
   | cons a l ih=>simp only[zd0,zb9,ih]; rfl
  rw[h4 (BK 0 res y).2,h4 blks',h3]
theorem Uc {hp:THp}:∀ (n:Nat) (l acc o:List Nat),HA hp n l acc=some o->(∀ i∈l,i∈o)/\(∀ i∈acc,i∈o)/\∀ i∈o,i∈acc\/∃ b,AQ hp i=some b/\An5 b=true/\∀ j∈rfB b,j∈o
 | 0,_,_,_,h=>by simp[HA] at h
 | n + 1,[],acc,o,h=>by
  simp only[HA,Option.some.injEq] at h;subst h;exact ⟨fun _ h=>by simp at h,fun _ h=>h,fun _ h=>.inl h⟩
 | n + 1,id::l,acc,o,h=>by
  simp only[HA] at h;cases hm:A5U id acc with
  | true =>
   rw[hm] at h;simp only[cond_true] at h;obtain ⟨h1,h2,h3⟩:=Uc n l acc o h;refine ⟨fun i hi=>?_,h2,h3⟩
   rcases zc8.1 hi with rfl | hi
   ·exact h2 _ (by rw[UC] at hm; simpa using hm)
   ·exact h1 i hi
  | false =>
   rw[hm] at h;simp only[cond_false] at h;cases hb:AQ hp id with
   | none=>rw[hb] at h; cases h
   | some b =>
    rw[hb] at h;simp only at h;obtain ⟨hs,h⟩:=Dh h;obtain ⟨h1,h2,h3⟩:=Uc n _ _ o h;refine ⟨fun i hi=>?_,fun i hi=>h2 i (by simp[hi]),fun i hi=>?_⟩
    ·rcases zc8.1 hi with rfl | hi
     ·exact h2 _ (by simp)
     ·exact h1 i (by simp[hi])
    ·rcases h3 i hi with h4 | h4
     ·rcases zb3.1 h4 with h4 | h4
      ·exact .inl h4
      ·simp only[zd8] at h4;subst h4;exact .inr ⟨b,hb,hs,fun j hj=>h1 j (by simp[hj])⟩
     ·exact .inr h4
theorem UV {l o:List Nat} (hh:RH hp hv) (h:HA hp 64 l []=some o):V6 hv l o=true:=by
 obtain ⟨h1,_,h3⟩:=Uc 64 l [] o h;unfold V6;simp only[za2,za5];refine ⟨fun i hi=>by simpa using h1 i hi,fun i hi=>?_⟩
 rcases h3 i hi with h4 | ⟨b,hb,hs,hr⟩
 ·simp at h4
 ·obtain ⟨k,hk,hrb⟩:=hh i b hb;rw[hk];simp only;refine za5.2 fun j hj=>?_
  rw[A4J hs hrb] at hj;simpa using hr j hj
theorem Ay7 {g:FuncId} {ys ys':List V} {lent:List Nat} {KV:Cq} (h1:F2 hv (cf.byref g) ys=some ys') (h2:EX hv (ys'.flatMap Ao)=some []) (h3:EH (cf.byref g) ys=lent) :
  ED R cf g ys hv b KV=Lr R g ys' lent hv b KV:=by
 unfold ED;rw[h1]
 dsimp only
 rw[h2,h3]
theorem Ai4 {g:FuncId} {ys ys':List V} {lent:List Nat} {KV:Cq} {i:Nat} {l:List Nat} (h1:F2 hv (cf.byref g) ys=some ys') (h2:EX hv (ys'.flatMap Ao)=some (i::l)) (h3:EH (cf.byref g) ys=lent) :
  ED R cf g ys hv b KV=Pe R g ys' lent (ys'.flatMap Ao).eraseDups (i::l) hv b KV:=by
 unfold ED;rw[h1]
 dsimp only
 rw[h2,h3]
theorem A7L {g:FuncId} {args:List SV} {ys:List V} (hE:∀ g E,AH5 X.ents g=some E->Ai R E/\E.a.g=g/\cf.byref g=(HX E.a.params).map AO6) (hh:RH hp hv) (hr:RT hp tm m) (hargs:RC (RV2 hp) args ys) (h:A8s X g args tm hp b K=some z) :
  ∃ x hp' cls y hv',K x hp' cls=some z/\RV2 hp' x y/\RH hp' hv'/\RT hp' tm m/\∀ KV:Cq,KV y hv' cls->ED R cf g ys hv b KV:=by
 unfold A8s at h
 split at h
 case h_2=>cases h
 rename_i E hfe;obtain ⟨hEnt,hEg,hbr⟩:=hE g E hfe
 split at h
 case h_2=>cases h
 rename_i args' hargs'
 split at h
 case h_2=>cases h
 rename_i o ho
 split at h
 case h_2=>cases h
 rename_i x hx
 split at h
 case isFalse=>cases h
 rename_i hc;simp only[za2] at hc;obtain ⟨⟨⟨⟨⟨⟨⟨⟨s1,s2⟩,d1⟩,d2⟩,d3⟩,o16⟩,bel⟩,sl⟩,oall⟩:=hc;obtain ⟨y,hFy,h⟩:=Bt h;simp only at h
 split at h
 case isFalse=>cases h
 rename_i hle;simp only[za2] at hle;have hen:=Nat.le_of_ble_eq_true hle.1;have hen16:=Nat.le_of_ble_eq_true hle.2;obtain ⟨h,hlens⟩:=TE h;rw[Lz] at h;have o16:=Nat.le_of_ble_eq_true o16;obtain ⟨bel1,bel2⟩:=W7 bel;obtain ⟨ys',hV,hargs2,hlent⟩:=T0 hh hargs' hargs;rw[<-hbr] at hV hlent;generalize MD (HX E.a.params) args=lent at h oall hlent;have hnl:∀ id∈o,id ∉ lent:=fun id hid=>by
  have:=za5.1 oall id hid;simp only[za2] at this;exact Xu this.2
 obtain ⟨a1,a2,a3,a4⟩:=RC.all1 s1 hargs2;have hlow:∀ id∈o,id<b:=fun id hid=>by
  have:=za5.1 oall id hid;simp only[za2] at this;exact Rf this.1
 have hclose:Fn hv 64 (ys'.flatMap Ao) []=some o:=by rw[a2]; exact Ig hh _ _ _ ho
 have hcloseC:EX hv (ys'.flatMap Ao)=some o:=by
  unfold EX;rw[hclose];simp only;rw[if_pos (by rw[a2]; exact UV hh ho)]
 obtain ⟨c1,c2,_,_⟩:=Gs hv 64 _ _ _ hclose (by simp) (fun id hid=>by simp at hid);have hdir:(ys'.flatMap Ao).eraseDups=o.take E.a.e:=by rw[a2,<-A2X]; exact (Nm d2).symm
 have hdl:(o.take E.a.e).length=E.a.e:=by rw[Nm d2]; exact za6 d3
 have heo:E.a.e<=o.length:=by rw[List.length_take] at hdl; omega
 obtain ⟨r1,r2⟩:=We hh o;have hf:Eo o=idx o:=funext fun id=>Rv o id
 have hren:RC (RV1 (G9 hp (Eo o) 0 o)) (args'.map (B6 (Eo o))) (ys'.map (C2 (idx o))):=by
  rw[hf] at r2 ⊢
  exact RC.ren r2 s1 a1
 obtain ⟨_,e2,_,_⟩:=RC.all1 s2 (hren.mono fun _ _ _ h=>h.to2);have hed:((ys'.map (C2 (idx o))).flatMap Ao).eraseDups=List.range E.a.e:=by rw[e2,<-A2X]; exact Nm d1
 have hids:KJ (ys'.map (C2 (idx o))) (AU hv o)=true:=by
  unfold KJ;simp only[za2,decide_eq_true_eq,beq_iff_eq];refine ⟨⟨⟨za5.2 fun i hi=>?_,za5.2 fun i hi=>?_⟩,by simpa[AU] using o16⟩,by rw[hed,List.length_range]⟩
  ·obtain ⟨u,hu,hi⟩:=zb1.1 hi;obtain ⟨u0,_,rfl⟩:=zd4.1 hu;obtain ⟨j,hj,_⟩:=RX hi;have:=(za3.1 (A3S hj)).1;simp; omega
  ·obtain ⟨k,hk,hi⟩:=zb1.1 hi;unfold AU at hk;obtain ⟨id,_,rfl⟩:=zd4.1 hk;obtain ⟨j,hj,_⟩:=AB9 hi;have:=(za3.1 (A3S hj)).1;simp; omega
 have hRS:RS { tm:=Vn 0 (args'.map (B6 (Eo o))),hp:=G9 hp (Eo o) 0 o,c:=1 } (Ag8 (ys'.map (C2 (idx o))) (AU hv o)) :=
  ⟨AC7 0 (hren.mono fun _ _ _ h=>h.to2),r1,rfl⟩
 have hno:E.a.e=0->o = []:=by
  intro h0;have h1:(ddN [] (args'.flatMap rf1)).length=0:=by rw[za6 d3,h0]
  have h2:args'.flatMap rf1 = []:=by
   cases hl:args'.flatMap rf1 with
   | nil=>rfl
   | cons i l =>
    rw[hl,A2X] at h1;simp[List.eraseDups_cons] at h1
  rw[h2] at ho;simpa[HA] using ho.symm
 obtain ⟨r,blks',hR,hres⟩:=hEnt x y _ _ _ hFy hRS hx hids (by rw[zd1,hargs2.length]; exact (za6 sl).symm) (by rw[hed,List.length_range]) (fun h0=>by rw[hno h0]; rfl);rw[hEg] at hR;have hlenB:=hres.len;have hlens':∀ id∈o.take E.a.e,∃ b0 b1,AQ hp id=some b0/\AQ (EA (Ur o E.a.e (BK 0 E.a.res y).2.length b) (BK 0 E.a.res y).2) id=some b1/\FY b0=FY b1:=hlens;obtain ⟨f1,f2⟩:=An0 lent hh;have hpl:=AD2 (E:=E) hres c1 hlow heo hen hlens' hh (fun _ _=>rfl) (fun i bb hb=>(bel1 i bb hb).2) hr bel2
 have hfz:=AD2 (E:=E) hres c1 hlow heo hen hlens' f1 (fun i hi=>Zb _ _ _ (hnl i hi)) (fun i bb hb=>(Qj lent bel1 i bb hb).2) (hr.keeps fun _ i _=>f2 i) bel2;rw[A9Y hres] at h;have hcallR:∀ F:V->List Blk->Prop,F r blks'->I3 R g (ys'.map (C2 (idx o))) (AU hv o) F:=fun F hF=>⟨r,blks',hR,hF⟩
 cases o with
 | nil =>
  have he0:E.a.e=0:=by simpa using heo
  have hno:args'.flatMap rf1 = []:=by
   rw[<-a2];cases hL:ys'.flatMap Ao with
   | nil=>rfl
   | cons i l =>
    exfalso
    have:=hdir;rw[hL,List.eraseDups_cons,he0] at this;simp at this
  have hsame:ys'.map (C2 (idx []))=ys':=Ay4 s1 hno a1;rw[hsame] at hcallR hids;rw[he0] at hpl hfz hen16 h;simp only[List.drop_nil] at hpl hfz;cases hc:(lent.isEmpty || (ME r&&blks'.all EG)) with
  | true =>
   rw[hc] at h;obtain ⟨m1,m2,m3⟩:=hpl;refine ⟨_,_,_,_,_,h,m1,m2,m3,fun KV hK=>?_⟩
   rw[Ay7 hV hcloseC hlent];refine hcallR _ ⟨by omega,hids,?_⟩
   rw[if_pos hc];exact hK
  | false =>
   rw[hc] at h;obtain ⟨m1,m2,m3⟩:=hfz;refine ⟨_,_,_,_,_,h,m1,m2,m3,fun KV hK=>?_⟩
   rw[Ay7 hV hcloseC hlent];refine hcallR _ ⟨by omega,hids,?_⟩
   rw[if_neg (by rw[hc]; simp)];exact hK
 | cons i l =>
  have hall:((i::l).all fun id=>!lent.contains id)=true:=za5.2 fun id hid=>by simpa using hnl id hid
  cases hc:(lent.isEmpty || (ME r&&blks'.all EG)) with
  | true =>
   rw[hc] at h;obtain ⟨m1,m2,m3⟩:=hpl;refine ⟨_,_,_,_,_,h,m1,m2,m3,fun KV hK=>?_⟩
   rw[Ai4 hV hcloseC hlent,hdir];unfold Pe;rw[hdl];refine ⟨hall,rfl,hids,hcallR _ ⟨by omega,by omega,?_⟩⟩
   rw[if_pos hc];exact hK
  | false =>
   rw[hc] at h;obtain ⟨m1,m2,m3⟩:=hfz;refine ⟨_,_,_,_,_,h,m1,m2,m3,fun KV hK=>?_⟩
   rw[Ai4 hV hcloseC hlent,hdir];unfold Pe;rw[hdl];refine ⟨hall,rfl,hids,hcallR _ ⟨by omega,by omega,?_⟩⟩
   rw[if_neg (by rw[hc]; simp)];exact hK
end
end
end Go.Proofs.YtiijheppiboglaaGreatDoor.Ev
