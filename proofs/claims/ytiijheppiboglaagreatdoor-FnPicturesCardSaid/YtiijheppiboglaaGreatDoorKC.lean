/- What the theorem of this claim leans on, part 3. -/
import Derived.Test.YtiijheppiboglaaGreatDoorKB
import Derived.Laws.Strings
import Derived.Laws.StructEq
set_option maxHeartbeats 2000000
open Option renaming bind_some → za0, map_eq_some_iff → zb6, map_some → zd4
open List renaming getElem?_eq_getElem → za1, mem_of_getElem? → za3, getElem?_eq_some_iff → za4, all_eq_true → za5, drop_eq_getElem_cons → zb1, mem_append → zb2, mem_flatMap → zb3, getD_eq_getElem?_getD → zb4, flatMap_cons → zb5, length_cons → zb8, map_cons → zb9, eq_nil_of_length_eq_zero → zc0, getElem?_take → zc2, length_append → zc3, take_of_length_le → zc4, mem_cons → zc6, getElem?_map → zc9, length_map → zd0, mem_singleton → zd1, mem_map → zd2, all_cons → zd3, length_pos_iff → zd5, getElem?_drop → zd6, drop_eq_nil_of_le → zd7, cons_append → zd8, getElem?_append_left → zd9, append_nil → ze2, mem_cons_of_mem → ze6, getElem?_eq_none → ze8, length_take → zf2, not_mem_nil → zf3, length_nil → zf4, drop_zero → zf5
open Bool renaming and_eq_true → za2, false_eq_true → zc1, true_and → ze5
open Nat renaming eq_of_beq_eq_true → za6, le_refl → za8, mul_le_mul_right → ze0, lt_of_lt_of_le → ze1, lt_or_ge → ze4, le_trans → ze7, zero_add → zf0, add_mul → zf7
open Int renaming mul_le_mul_of_nonneg_right → za7, mul_le_mul_of_nonneg_left → zb0, tmod_eq_emod_of_nonneg → zb7, tdiv_eq_ediv_of_nonneg → zc5, toNat_natCast → zc8, mul_add → ze3, le_of_lt → ze9, natAbs_natCast → zf1, mul_nonneg → zf6
open Sum renaming elim_inr → za9
open Array renaming getD_eq_getD_getElem? → zc7
open Go.IntKind renaming wrap → zi, i64 → zj, u64 → zk
open Option.some renaming inj → zv, injEq → zx
noncomputable section
set_option linter.unusedVariables false
set_option linter.unusedSimpArgs false
set_option linter.unusedSectionVars false
namespace Go.Proofs.YtiijheppiboglaaGreatDoor.Ev
section
open Go
def Vl{α:Type}(x:Option α)(F:α->Prop):Prop:=match x with|some y=>F y|none=>False
@[simp] theorem A77{α:Type}(y:α)(F:α->Prop):Vl (some y) F=F y:=(rfl)
@[simp] theorem A8C{α:Type}(F:α->Prop):Vl none F=False:=(rfl)
@[simp] theorem A8n{α β:Type}(x:Option α)(f:α->Option β)(F:β->Prop):Vl (x.bind f) F=Vl x fun a=>Vl (f a) F:=by cases x<;>rfl
@[simp] theorem A8V{α:Type}(c:Prop)[Decidable c](a b:Option α)(F:α->Prop):Vl (if c then a else b) F=if c then Vl a F else Vl b F:=by split<;>rfl
def H2{σ ρ:Type}(body:σ->Option (σ⊕ρ)):Nat->σ->Option ρ
 |0,_=>none
 |n+1,s=>(body s).bind (Sum.elim (H2 body n) some)
theorem Re{σ ρ:Type}{body:σ->Option (σ⊕ρ)}:∀{n:Nat}{s:σ}{r:ρ},H2 body n s=some r->∀m,n<=m->H2 body m s=some r
 |0,_,_,h,_,_=>by simp[H2]at h
 |n+1,s,r,h,m,hm=>by
  cases m with
  |zero=>omega
  |succ m=>
   simp only[H2]at h⊢
   cases hb:body s with
   |none=>rw[hb]at h;simp at h
   |some x=>
    rw[hb]at h;simp only[za0]at h⊢
    cases x with
    |inl s'=>exact Re h m (by omega)
    |inr r'=>exact h
open Classical in
def Ad {σ ρ : Type} (body : σ -> Option (σ ⊕ ρ)) (s : σ) : Option ρ :=
 if h : ∃ n, (H2 body n s).isSome then H2 body (Classical.choose h) s else none
theorem Zv{σ ρ:Type}{body:σ->Option (σ⊕ρ)}{s:σ}{n:Nat}{r:ρ}(h:H2 body n s=some r):Ad body s=some r:=by
 have he:∃n,(H2 body n s).isSome:=⟨n,by rw[h];rfl⟩;unfold Ad;rw[dif_pos he];obtain⟨r',hr⟩:=Option.isSome_iff_exists.1 (Classical.choose_spec he);have h1:=Re h (max n (Classical.choose he)) (Nat.le_max_left _ _);have h2:=Re hr (max n (Classical.choose he)) (Nat.le_max_right _ _);rw[h1]at h2;rw[hr,h2]
theorem M9{σ ρ:Type}{body:σ->Option (σ⊕ρ)}{s:σ}{r:ρ}(h:Ad body s=some r):∃n,H2 body n s=some r:=by
 unfold Ad at h
 split at h
 ·rename_i he;exact⟨_,h⟩
 ·cases h
theorem AH5{σ ρ:Type}(body:σ->Option (σ⊕ρ))(s:σ):Ad body s=(body s).bind (Sum.elim (Ad body) some):=by
 cases hb:body s with
 |none=>
  cases hm:Ad body s with
  |none=>rfl
  |some r=>
   obtain⟨n,hn⟩:=M9 hm;cases n with
   |zero=>simp[H2]at hn
   |succ n=>simp[H2,hb]at hn
 |some x=>
  cases x with
  |inr r=>exact Zv (n:=1) (by simp[H2,hb])
  |inl s'=>
   show Ad body s=Ad body s';cases hm:Ad body s' with
   |some r=>
    obtain⟨n,hn⟩:=M9 hm;exact Zv (n:=n+1) (by simp[H2,hb,hn])
   |none=>
    cases hm2:Ad body s with
    |none=>rfl
    |some r=>
     obtain⟨n,hn⟩:=M9 hm2;cases n with
     |zero=>simp[H2]at hn
     |succ n=>
      simp only[H2,hb,za0,Sum.elim_inl]at hn;rw[Zv hn]at hm;cases hm
end
section
open Go
inductive Ty where
 |int (k:IntKind)
 |bool
 |str
 |pair (a b:Ty)
 |sl (e:Ty)
 deriving DecidableEq
abbrev Str:=List UInt8
@[reducible] def Ty.den:Ty->Type
 |.int _=>Int
 |.bool=>Bool
 |.str=>Str
 |.pair a b=>a.den×b.den
 |.sl e=>List e.den
def Ty.size:Ty->Nat
 |.pair a b=>a.size+b.size
 |_=>1
inductive SV where
 |int (k:IntKind) (n:Int)
 |bool (b:Bool)
 |str (s:Str)
 |sc (x:Value)
 |er (b:Bool)
 |em
 |im (t:Ty) (l:List t.den)
 |ow (id:Nat)
 |ar (id lo n:Nat)
 |rf (id r c:Nat)
 |ir (t:Ty) (a:t.den) (c:Nat)
 |agg (cs:List SV)
 |tup (vs:List SV)
 |cl (f:FuncId) (caps:List SV)
 |any
 deriving Inhabited
inductive TB where
 |box (ty:TypeId) (cs:List SV)
 |arr (ty:TypeId) (deep:Bool) (t:Ty) (l:List t.den)
 |frz (ty:TypeId) (deep:Bool) (t:Ty) (l:List t.den)
abbrev TTm:=List (Nat×SV)
abbrev THp:=List (Nat×Option TB)
structure TSt where
 tm:TTm
 hp:THp
 c:Nat
def CW:TTm->Nat->SV
 |[],_=>.any
 |(k,x)::l,i=>cond (Nat.beq i k) x (CW l i)
def AK:THp->Nat->Option TB
 |[],_=>none
 |(k,x)::l,i=>cond (Nat.beq i k) x (AK l i)
def getD:List (Nat×TyD)->Nat->Option TyD
 |[],_=>none
 |(k,x)::l,i=>cond (Nat.beq i k) (some x) (getD l i)
def So:Value->SV
 |.int k n=>.int k n
 |.bool b=>.bool b
 |.string s=>.str s.data.toList
 |.slice none 0 0=>.em
 |x=>if IC x then .sc x else .any
def Yp:Value->SV
 |.agg cs=>.agg (cs.toList.map So)
 |x=>So x
def VE:V->SV
 |.v (.int k n)=>.int k n
 |.v (.bool b)=>.bool b
 |.v (.string s)=>.str s.data.toList
 |.v x=>.sc x
 |.em=>.em
 |_=>.any
def opT(tm:TTm):Operand->SV
 |.tmp t=>CW tm t
 |.const c=>Yp c
 |.global _=>.any
 |.func f=>.cl f []
def Wp{α:Type}(x:SV)(F:SV->α):α:=
 match x with
 |.int k n=>F (.int k n)
 |.bool b=>F (.bool b)
 |.str s=>F (.str s)
 |.sc x=>F (.sc x)
 |.er b=>F (.er b)
 |.em=>F .em
 |.im t l=>F (.im t l)
 |.ow id=>F (.ow id)
 |.ar id lo n=>F (.ar id lo n)
 |.rf id r c=>F (.rf id r c)
 |.ir t a c=>F (.ir t a c)
 |.agg cs=>F (.agg cs)
 |.tup vs=>F (.tup vs)
 |.cl f caps=>F (.cl f caps)
 |.any=>F .any
def AF6:(t:Ty)->t.den->List SV
 |.int k,n=>[.int k n]
 |.bool,b=>[.bool b]
 |.str,s=>[.str s]
 |.pair a b,x=>AF6 a x.1++AF6 b x.2
 |.sl e,l=>[.im e l]
def Jj{t e:Ty}(h:t=e)(l:List t.den):List e.den:=h▸l
def asL(e:Ty):SV->Option (List e.den)
 |.em=>some []
 |.im t l=>if h:t=e then some (Jj h l)else none
 |_=>none
def UR:(t:Ty)->List SV->Option (t.den×List SV)
 |.int k,.int k' n::r=>if k'=k then some (n,r)else none
 |.bool,.bool b::r=>some (b,r)
 |.str,.str s::r=>some (s,r)
 |.pair a b,cs=>
  match UR a cs with
  |some (x,r)=>(match UR b r with|some (y,r')=>some ((x,y),r')|none=>none)
  |none=>none
 |.sl e,v::r=>(match asL e v with|some l=>some (l,r)|none=>none)
 |_,_=>none
def A4I(t:Ty)(cs:List SV):Option t.den:=
 match UR t cs with
 |some (x,[])=>some x
 |_=>none
def DO:SV->List SV
 |.agg cs=>cs
 |x=>[x]
def okT:SV->Bool
 |.int .. |.bool _|.str _|.sc _|.em|.im .. |.ow _|.ar .. |.rf .. |.ir .. =>true
 |.cl _ []=>true
 |_=>false
def mkT(g:Bool)(cs:List SV):Option SV:=
 if g then some (.agg cs)else match cs with|[x]=>some x|_=>none
def AJ6(cs:List SV)(off n:Nat):Option (List SV):=if off+n<=cs.length then some ((cs.drop off).take n)else none
def A1F(cs:List SV)(off:Nat)(new:List SV):Option (List SV):=
 if off+new.length<=cs.length then some (cs.take off++new++cs.drop (off+new.length))else none
def AY{β:Type}(l:List β)(n:Nat):Option β:=l[n]?
def AD{α:Type}(l:List α)(n:Int):Option α:=if 0<=n then l[n.toNat]? else none
def neL{α:Type}(l:List α):Option Unit:=match l with|[]=>none|_::_=>some ()
def A2(n:Int)(len:Nat):Option Nat:=if 0<=n/\n.toNat<len then some n.toNat else none
def FT(lo hi:Int)(len:Nat):Option (Nat×Nat):=if 0<=lo/\lo<=hi/\hi<=len then some (lo.toNat,hi.toNat)else none
def F7(s t:Str):Option Str:=if s.length+t.length<=9223372036854775807 then some (s++t)else none
def QB(n:Int)(bytes size:Nat):Option Nat:=if 0<=n/\n.toNat*bytes<=Ae/\n.toNat*size<=Ae then some n.toNat else none
def Al3(n bytes size:Nat):Bool:=decide (n*bytes<=Ae)&&decide (n*size<=Ae)
def TZ(k:IntKind)(a b:Int):Int:=k.wrap (a*2^(min b.toNat k.bits))
def AR8(k:IntKind)(a b:Int):Int:=a.fdiv (2^(min b.toNat k.bits))
def A4Q(k:IntKind)(a b:Int):Int:=k.wrap ((BitVec.ofInt k.bits a&&& BitVec.ofInt k.bits b).toNat:Int)
def orI(k:IntKind)(a b:Int):Int:=k.wrap ((BitVec.ofInt k.bits a|||BitVec.ofInt k.bits b).toNat:Int)
def A9M(k:IntKind)(a b:Int):Int:=k.wrap ((BitVec.ofInt k.bits a^^^BitVec.ofInt k.bits b).toNat:Int)
def Aq8(s:Str):List Int:=s.map fun c=>(c.toNat:Int)
def KX(l:List Int):Str:=l.map fun n=>UInt8.ofNat n.toNat
section
variable {α:Type}
def GU(op:BinOp)(k k':IntKind)(a b:Int)(K:SV->Option α):Option α:=
 match op with
 |.shl=>cond (decide (b<0)) none (K (.int k (TZ k a b)))
 |.shr=>cond (decide (b<0)) none (K (.int k (AR8 k a b)))
 |_=>
  if k=k' then
   match op with
   |.add=>K (.int k (k.wrap (a+b)))
   |.sub=>K (.int k (k.wrap (a-b)))
   |.mul=>K (.int k (k.wrap (a*b)))
   |.quo=>cond (b==0) none (K (.int k (k.wrap (a.tdiv b))))
   |.rem=>cond (b==0) none (K (.int k (a.tmod b)))
   |.and=>K (.int k (A4Q k a b))
   |.or=>K (.int k (orI k a b))
   |.xor=>K (.int k (A9M k a b))
   |.eql=>K (.bool (a==b))
   |.neq=>K (.bool (a != b))
   |.lss=>K (.bool (decide (a<b)))
   |.leq=>K (.bool (decide (a<=b)))
   |.gtr=>K (.bool (decide (a>b)))
   |.geq=>K (.bool (decide (a>=b)))
   |_=>none
  else none
def A4X(op:BinOp)(s t:Str)(K:SV->Option α):Option α:=
 match op with
 |.add=>(F7 s t).bind fun u=>K (.str u)
 |.eql=>K (.bool (s==t))
 |.neq=>K (.bool (!(s==t)))
 |.lss=>K (.bool (Op.bytesLess s t))
 |.leq=>K (.bool (Op.bytesLess s t||s==t))
 |.gtr=>K (.bool (!(Op.bytesLess s t||s==t)))
 |.geq=>K (.bool (!(Op.bytesLess s t)))
 |_=>none
def Hx:List SV->List SV->Option Bool
 |[],[]=>some true
 |[.int k a],[.int k' b]=>if k=k' then some (a==b)else none
 |.int k a::x,.int k' b::y=>if k=k' then(match Hx x y with|some r=>some ((a==b)&&r)|none=>none)else none
 |_,_=>none
def tUn(u:UnOp)(x:SV)(K:SV->Option α):Option α:=
 match u,x with
 |.not,.bool b=>K (.bool (!b))
 |.neg,.int k n=>K (.int k (k.wrap (0-n)))
 |_,_=>none
def A0t(flds:List Fld)(tm:TTm):List SV->List (Nat×Operand)->(List SV->Option α)->Option α
 |cs,[],K=>K cs
 |cs,(k,x)::rest,K=>
  match flds[k]? with
  |some f=>Wp (opT tm x) fun v=>if(DO v).length=f.size&&(DO v).all okT then(match A1F cs f.off (DO v)with|some cs=>A0t flds tm cs rest K|none=>none)else none
  |none=>none
def A5a:SV->Option Int
 |.int _ n=>some n
 |_=>none
def ZW(tm:TTm):Option Operand->Int->Option Int
 |none,d=>some d
 |some x,_=>A5a (opT tm x)
def Qi:List SV->Option (IntKind×List Int)
 |[.int k n]=>some (k,[n])
 |.int k n::l=>match Qi l with|some (k',ns)=>if k=k' then some (k,n::ns)else none|none=>none
 |_=>none
def A89:List Int->Int
 |[]=>0
 |x::l=>l.foldl (fun a b=>if b<a then b else a) x
def A5l:List Int->Int
 |[]=>0
 |x::l=>l.foldl (fun a b=>if b>a then b else a) x
end
def F2:SV->List Nat
 |.ow id=>[id]
 |_=>[]
def ZU:SV->List Nat
 |.agg cs=>cs.flatMap F2
 |.cl _ cs=>cs.flatMap F2
 |x=>F2 x
def HL:SV->List Nat
 |.tup vs=>vs.flatMap ZU
 |x=>ZU x
def LT:TB->List Nat
 |.box _ cs=>cs.flatMap F2
 |_=>[]
def A0L(b:Nat)(l:List Nat):Bool:=l.all fun i=> !Nat.beq i b
def HQ(tm:TTm)(hp:THp)(b:Nat):Bool:=
 tm.all (fun x=>A0L b (HL x.2))&&hp.all fun x=>match x.2 with|some k=>A0L b (LT k)|none=>true
def D9(hp:THp):List Nat->THp
 |[]=>hp
 |id::l=>D9 ((id,none)::hp) l
def A2G:TB->TB
 |.arr ty deep t l=>.frz ty deep t l
 |x=>x
def Fe(hp:THp):List Nat->THp
 |[]=>hp
 |id::l=>Fe ((id,(AK hp id).map A2G)::hp) l
def AD2(b:Nat)(hp:THp):THp:=hp.filter fun x=>Nat.blt x.1 b
inductive AC where
 |int (k:IntKind)
 |bool
 |str
 |err
 |im (t:Ty)
 |at (j:Nat)
inductive AB where
 |arr (ty:TypeId) (deep:Bool) (t:Ty)
 |box (ty:TypeId) (cs:List AC)
inductive AS where
 |cell (c:AC)
 |agg (cs:List AC)
 |ref (j:Nat) (isbox:Bool)
 |sub (j:Nat)
 |clo (f:FuncId)
 |cap (f:FuncId) (js:List Nat)
inductive Item where
 |blk (b:AB)
 |slot (s:Nat) (a:AS)
@[reducible] def AM6(u v:Bool)(A B:Type):Type:=
 match u,v with
 |true,_=>B
 |false,true=>A
 |false,false=>A×B
def mkP:(u v:Bool)->(A B:Type)->A->B->AM6 u v A B
 |true,_,_,_,_,b=>b
 |false,true,_,_,a,_=>a
 |false,false,_,_,a,b=>(a,b)
def A9a:(u v:Bool)->(A B:Type)->(u=true->A)->AM6 u v A B->A
 |true,_,_,_,a,_=>a rfl
 |false,true,_,_,_,x=>x
 |false,false,_,_,_,x=>x.1
def A9e:(u v:Bool)->(A B:Type)->(v=true->B)->AM6 u v A B->B
 |true,_,_,_,_,x=>x
 |false,true,_,_,b,_=>b rfl
 |false,false,_,_,_,x=>x.2
section
variable {ι:Type} (den:ι->Type) (u:ι->Bool)
@[reducible] def OS:List ι->Type
 |[]=>Unit
 |x::l=>AM6 (u x) (l.all u) (den x) (OS l)
variable (un:∀x,u x=true->den x)
def A0h:(l:List ι)->l.all u=true->OS den u l
 |[],_=>()
 |x::l,h=>mkP (u x) (l.all u) (den x) (OS den u l) (un x (by simp at h;exact h.1)) (A0h l (by simp at h⊢;exact h.2))
def hdL(x:ι)(l:List ι)(d:OS den u (x::l)):den x:=A9a (u x) (l.all u) (den x) (OS den u l) (un x) d
def tlL(x:ι)(l:List ι)(d:OS den u (x::l)):OS den u l:=A9e (u x) (l.all u) (den x) (OS den u l) (A0h den u un l) d
def AZ9(x:ι)(l:List ι)(a:den x)(d:OS den u l):OS den u (x::l):=mkP (u x) (l.all u) (den x) (OS den u l) a d
end
@[reducible] def AC.den:AC->Type
 |.int _=>Int
 |.bool=>Bool
 |.str=>Str
 |.err=>Bool
 |.im t=>List t.den
 |.at _=>Unit
def AC.isU:AC->Bool
 |.at _=>true
 |_=>false
def AE0:(c:AC)->c.isU=true->c.den
 |.at _,_=>()
 |.int _,h=>by cases h
 |.bool,h=>by cases h
 |.str,h=>by cases h
 |.err,h=>by cases h
 |.im _,h=>by cases h
@[reducible] def UD(cs:List AC):Type:=OS AC.den AC.isU cs
def hdC(c:AC)(cs:List AC)(d:UD (c::cs)):c.den:=hdL AC.den AC.isU AE0 c cs d
def tlC(c:AC)(cs:List AC)(d:UD (c::cs)):UD cs:=tlL AC.den AC.isU AE0 c cs d
def A3M(c:AC)(cs:List AC)(a:c.den)(d:UD cs):UD (c::cs):=AZ9 AC.den AC.isU c cs a d
@[reducible] def AB.den:AB->Type
 |.arr _ _ t=>List t.den
 |.box _ cs=>UD cs
@[reducible] def AS.den:AS->Type
 |.cell c=>c.den
 |.agg cs=>UD cs
 |.ref _ _=>Unit
 |.sub _=>Nat×Nat
 |.clo _=>Unit
 |.cap _ _=>Unit
@[reducible] def Item.den:Item->Type
 |.blk b=>b.den
 |.slot _ a=>a.den
def AB.isU:AB->Bool
 |.arr _ _ _=>false
 |.box _ cs=>cs.all AC.isU
def AS.isU:AS->Bool
 |.cell c=>c.isU
 |.agg cs=>cs.all AC.isU
 |.ref _ _=>true
 |.sub _=>false
 |.clo _=>true
 |.cap _ _=>true
def Item.isU:Item->Bool
 |.blk b=>b.isU
 |.slot _ a=>a.isU
def A9o:(b:AB)->b.isU=true->b.den
 |.box _ cs,h=>A0h AC.den AC.isU AE0 cs h
 |.arr _ _ _,h=>by cases h
def A9b:(a:AS)->a.isU=true->a.den
 |.cell c,h=>AE0 c h
 |.agg cs,h=>A0h AC.den AC.isU AE0 cs h
 |.ref _ _,_=>()
 |.clo _,_=>()
 |.cap _ _,_=>()
 |.sub _,h=>by cases h
def A7o:(x:Item)->x.isU=true->x.den
 |.blk b,h=>A9o b h
 |.slot _ a,h=>A9b a h
@[reducible] def De(l:List Item):Type:=OS Item.den Item.isU l
def hdI(x:Item)(l:List Item)(d:De (x::l)):x.den:=hdL Item.den Item.isU A7o x l d
def tlI(x:Item)(l:List Item)(d:De (x::l)):De l:=tlL Item.den Item.isU A7o x l d
def OZ(x:Item)(l:List Item)(a:x.den)(d:De l):De (x::l):=AZ9 Item.den Item.isU x l a d
def A4z:(c:AC)->c.den->SV
 |.int k,n=>.int k n
 |.bool,b=>.bool b
 |.str,s=>.str s
 |.err,b=>.er b
 |.im t,l=>.im t l
 |.at j,_=>.ow j
def ZN:(cs:List AC)->UD cs->List SV
 |[],_=>[]
 |c::cs,d=>A4z c (hdC c cs d)::ZN cs (tlC c cs d)
def A8c:(b:AB)->b.den->TB
 |.arr ty deep t,l=>.arr ty deep t l
 |.box ty cs,x=>.box ty (ZN cs x)
def A1e:(a:AS)->a.den->SV
 |.cell c,x=>A4z c x
 |.agg cs,x=>.agg (ZN cs x)
 |.ref j false,_=>.ow j
 |.ref j true,_=>.rf j 0 0
 |.sub j,x=>.ar j x.1 x.2
 |.clo g,_=>.cl g []
 |.cap g js,_=>.cl g (js.map fun j=>.rf j 0 0)
def BL:Nat->(l:List Item)->De l->TTm×THp
 |_,[],_=>([],[])
 |k,.blk b::l,d=>((BL (k+1) l (tlI (.blk b) l d)).1,(k,some (A8c b (hdI (.blk b) l d)))::(BL (k+1) l (tlI (.blk b) l d)).2)
 |k,.slot s a::l,d=>((s,A1e a (hdI (.slot s a) l d))::(BL k l (tlI (.slot s a) l d)).1,(BL k l (tlI (.slot s a) l d)).2)
def Lr(l:List Item)(d:De l):TSt:={tm:=(BL 0 l d).1,hp:=(BL 0 l d).2,c:=1}
def HM:List Item->List Nat
 |[]=>[]
 |.blk _::l=>HM l
 |.slot s _::l=>s::HM l
def F6:List Item->List AS
 |[]=>[]
 |.blk _::l=>F6 l
 |.slot _ a::l=>a::F6 l
def Da:List Item->List AB
 |[]=>[]
 |.blk b::l=>b::Da l
 |.slot _ _::l=>Da l
inductive TM where
 |keep
 |own (ty:TypeId) (deep:Bool) (t:Ty)
 |im (t:Ty)
 |sub
inductive TMs where
 |one (m:TM)
 |agg (l:List TM)
 |box (l:List TM)
def A9r(bl:List AB)(j:Nat):TM:=match bl[j]? with|some (.arr ty deep t)=>.own ty deep t|_=>.keep
def tmC(bl:List AB):AC->TM
 |.im t=>.im t
 |.at j=>A9r bl j
 |_=>.keep
def tmS(bl:List AB):AS->TMs
 |.cell c=>.one (tmC bl c)
 |.agg cs=>.agg (cs.map (tmC bl))
 |.ref j false=>.one (A9r bl j)
 |.ref j true=>match bl[j]? with|some (.box _ cs)=>.box (cs.map (tmC bl))|_=>.one .keep
 |.sub _=>.one .sub
 |.clo _=>.one .keep
 |.cap _ _=>.one .keep
def TM.md:TM->Md
 |.keep=>.keep
 |.own ty deep t=>.own ty t.size deep
 |.im _=>.im
 |.sub=>.keep
def TMs.mds:TMs->Mds
 |.one m=>.one m.md
 |.agg l=>.agg (l.map TM.md)
 |.box l=>.box (l.map TM.md)
def La(bl:List AB):List Item->List (Nat×TMs)
 |[]=>[]
 |.blk _::l=>La bl l
 |.slot s a::l=>(s,tmS bl a)::La bl l
def F9(l:List (Nat×TMs)):List (Nat×Mds):=l.map fun p=>(p.1,p.2.mds)
def Cw(l:List Item):List (Nat×Mds):=F9 (La (Da l) l)
def Hf(hp:THp)(e:Ty):SV->Option (List e.den)
 |.ow id=>
  match AK hp id with
  |some (.arr _ _ t l)|some (.frz _ _ t l)=>if h:t=e then some (Jj h l)else none
  |_=>none
 |.ar id lo n=>
  match AK hp id with
  |some (.arr _ _ t l)|some (.frz _ _ t l)=>if h:t=e then some (((Jj h l).take (lo+n)).drop lo)else none
  |_=>none
 |v=>asL e v
def frV:SV->List Nat
 |.ow id=>[id]
 |.ar id _ _=>[id]
 |_=>[]
def tnC(m:TM)(v:SV)(hp:THp)(b:Nat):Option (SV×THp×Nat):=
 match m with
 |.keep=>some (v,hp,0)
 |.own ty deep t=>
  match v with
  |.em=>some (.ow b,(b,some (.arr ty deep t []))::hp,1)
  |.ow id=>
   match AK hp id with
   |some (.arr ty' deep' t' _)=>if t'=t then(if Nat.beq ty' ty&&(deep'==deep)then some (.ow id,hp,0)else none)else none
   |_=>none
  |_=>none
 |.im t=>match Hf hp t v with|some l=>some (.im t l,Fe hp (frV v),0)|none=>none
 |.sub=>
  match v with
  |.ow id=>match AK hp id with|some (.arr _ _ _ l)=>some (.ar id 0 l.length,hp,0)|_=>none
  |.ar id lo n=>some (.ar id lo n,hp,0)
  |_=>none
def tnL:List TM->List SV->THp->Nat->Option (List SV×THp×Nat)
 |[],[],hp,_=>some ([],hp,0)
 |m::ms,x::xs,hp,b=>
  match tnC m x hp b with
  |some (y,hp1,n)=>
   match tnL ms xs hp1 (b+n)with
   |some (ys,hp2,k)=>some (y::ys,hp2,n+k)
   |none=>none
  |none=>none
 |_,_,_,_=>none
def tnV(m:TMs)(v:SV)(hp:THp)(b:Nat):Option (SV×THp×Nat):=
 match m with
 |.one m=>tnC m v hp b
 |.agg l=>match v with|.agg cs=>(match tnL l cs hp b with|some (cs',hp',n)=>some (.agg cs',hp',n)|none=>none)|_=>none
 |.box l=>
  match v with
  |.rf id r c=>
   match AK hp id with
   |some (.box ty cs)=>(match tnL l cs hp b with|some (cs',hp',n)=>if cs'.all okT then some (.rf id r c,(id,some (.box ty cs'))::hp',n)else none|none=>none)
   |_=>none
  |_=>none
def tnS:List (Nat×TMs)->TSt->Option TSt
 |[],st=>some st
 |(s,m)::l,st=>
  match tnV m (CW st.tm s) st.hp (16*st.c)with
  |some (x,hp,n)=>if Nat.ble n 16 then tnS l {tm:=(s,x)::st.tm,hp:=hp,c:=st.c+1}else none
  |none=>none
def Uj(tm:TTm)(hp:THp)(b:Nat):Bool:=
 tm.all (fun x=>(HL x.2).all fun i=>Nat.blt i b)&&hp.all fun x=>match x.2 with|some k=>Nat.blt x.1 b&&(LT k).all fun i=>Nat.blt i b|none=>true
def rf0:SV->List Nat
 |.ow id=>[id]
 |.ar id _ _=>[id]
 |.rf id _ _=>[id]
 |_=>[]
def rf1:SV->List Nat
 |.agg cs=>cs.flatMap rf0
 |.cl _ caps=>caps.flatMap rf0
 |x=>rf0 x
def rfB:TB->List Nat
 |.box _ cs=>cs.flatMap rf0
 |_=>[]
def KP:SV->Bool
 |.agg _|.tup _|.any=>false
 |.cl _ caps=>caps.isEmpty
 |_=>true
def Fp:SV->Bool
 |.agg cs=>cs.all KP
 |.cl _ caps=>caps.all KP
 |x=>KP x
def Yn:TB->Bool
 |.box _ cs=>cs.all KP
 |_=>true
def A2q(i:Nat):List Nat->Bool
 |[]=>false
 |x::l=>cond (Nat.beq x i) true (A2q i l)
def HV(hp:THp):Nat->List Nat->List Nat->Option (List Nat)
 |0,_,_=>none
 |_+1,[],acc=>some acc
 |k+1,id::l,acc=>
  cond (A2q id acc) (HV hp k l acc)
   (match AK hp id with
   |none=>none
   |some b=>cond (Yn b) (HV hp k (l++rfB b) (acc++[id])) none)
def Er:List Nat->Nat->Option Nat
 |[],_=>none
 |x::l,id=>cond (Nat.beq x id) (some 0) (match Er l id with|some j=>some (j+1)|none=>none)
def AR5:List Nat->List Nat->Bool
 |[],[]=>true
 |x::l,y::m=>Nat.beq x y&&AR5 l m
 |_,_=>false
def Fb(f:Nat->Option Nat):SV->SV
 |.ow id=>match f id with|some j=>.ow j|none=>.any
 |.ar id lo n=>match f id with|some j=>.ar j lo n|none=>.any
 |.rf id r c=>match f id with|some j=>.rf j r c|none=>.any
 |.cl g []=>.cl g []
 |.cl _ _|.agg _|.tup _=>.any
 |x=>x
def B9(f:Nat->Option Nat):SV->SV
 |.agg cs=>.agg (cs.map (Fb f))
 |.cl g caps=>.cl g (caps.map (Fb f))
 |x=>Fb f x
def Ze(f:Nat->Option Nat):TB->TB
 |.box ty cs=>.box ty (cs.map (Fb f))
 |x=>x
def GG(hp:THp)(f:Nat->Option Nat):Nat->List Nat->THp
 |_,[]=>[]
 |k,id::l=>(k,match AK hp id with|some b=>some (Ze f b)|none=>none)::GG hp f (k+1) l
def Q0(e:Nat)(keep:List Nat)(st:TSt):Option TSt:=
 if keep.all (fun s=>Fp (CW st.tm s))then
  match HV st.hp 64 (List.range e++keep.flatMap fun s=>rf1 (CW st.tm s)) []with
  |some o=>
   if Nat.ble o.length 16&&AR5 (o.take e) (List.range e)then
    some {tm:=keep.map fun s=>(s,B9 (Er o) (CW st.tm s)),hp:=GG st.hp (Er o) 0 o,c:=1}
   else none
  |none=>none
 else none
def rdC:(c:AC)->SV->Option c.den
 |.int k,.int k' n=>if k'=k then some n else none
 |.bool,.bool b=>some b
 |.str,.str s=>some s
 |.err,.er b=>some b
 |.im t,.im t' l=>if h:t'=t then some (Jj h l)else none
 |.at j,.ow i=>if Nat.beq i j then some ()else none
 |_,_=>none
def A4O:(cs:List AC)->List SV->Option (UD cs)
 |[],[]=>some ()
 |c::cs,v::vs=>(match rdC c v with|some x=>(match A4O cs vs with|some y=>some (A3M c cs x y)|none=>none)|none=>none)
 |_,_=>none
def rdB:(b:AB)->TB->Option b.den
 |.arr ty deep t,.arr ty' deep' t' l=>if h:t'=t then(if Nat.beq ty' ty&&(deep'==deep)then some (Jj h l)else none)else none
 |.box ty cs,.box ty' vs=>if Nat.beq ty' ty then A4O cs vs else none
 |_,_=>none
def Av2:List Nat->List SV->Bool
 |[],[]=>true
 |j::js,.rf i 0 0::vs=>cond (Nat.beq i j) (Av2 js vs) false
 |_,_=>false
def rdS:(a:AS)->SV->Option a.den
 |.cell c,v=>rdC c v
 |.agg cs,.agg vs=>A4O cs vs
 |.ref j false,.ow i=>if Nat.beq i j then some ()else none
 |.ref j true,.rf i 0 0=>if Nat.beq i j then some ()else none
 |.sub j,.ar i lo n=>if Nat.beq i j then some (lo,n)else none
 |.clo f,.cl g []=>if Nat.beq g f then some ()else none
 |.cap f js,.cl g vs=>if Nat.beq g f&&Av2 js vs then some ()else none
 |_,_=>none
def rdI:Nat->(l:List Item)->TTm->THp->Option (De l)
 |_,[],[],[]=>some ()
 |k,.blk b::l,tm,(i,some tb)::hp=>
  if Nat.beq i k then(match rdB b tb with|some x=>(match rdI (k+1) l tm hp with|some y=>some (OZ (.blk b) l x y)|none=>none)|none=>none)else none
 |k,.slot s a::l,(i,v)::tm,hp=>
  if Nat.beq i s then(match rdS a v with|some x=>(match rdI k l tm hp with|some y=>some (OZ (.slot s a) l x y)|none=>none)|none=>none)else none
 |_,_,_,_=>none
def HH(e:Nat)(l:List Item)(st:TSt):Option (De l):=
 if Uj st.tm st.hp (16*st.c)then
  match tnS (La (Da l) l) st with
  |some st1=>(match Q0 e (HM l) st1 with|some st2=>rdI 0 l st2.tm st2.hp|none=>none)
  |none=>none
 else none
structure FAnn where
 g:FuncId
 e:Nat:=0
 params:List Item
 res:List Item
 heads:List (Nat×List Item):=[]
 outs:List (Nat×List (Ex×List Item)):=[]
 joins:List (Nat×List Item):=[]
def Pd:List FAnn->FuncId->Option FAnn
 |[],_=>none
 |a::l,g=>cond (Nat.beq a.g g) (some a) (Pd l g)
def EQ{α:Type}:List (Nat×α)->Nat->Option α
 |[],_=>none
 |(k,x)::l,i=>cond (Nat.beq k i) (some x) (EQ l i)
def TQ:Ex->Ex->Bool
 |.normal,.normal=>true
 |.ret,.ret=>true
 |.exit i,.exit j=>Nat.beq i j
 |_,_=>false
def QF:List (Ex×List Item)->Ex->Option (List Item)
 |[],_=>none
 |(e,x)::l,i=>cond (TQ e i) (some x) (QF l i)
def Wz(bl:List AB):Nat->Nat->List AB->List (Nat×TMs)
 |0,_,_=>[]
 |_,_,[]=>[]
 |e+1,k,.box _ cs::l=>(k,.box (cs.map (tmC bl)))::Wz bl e (k+1) l
 |e+1,k,_::l=>Wz bl e (k+1) l
def A92:AC->Bool
 |.at _=>true
 |_=>false
def YQ:AS->Bool
 |.ref _ false=>true
 |.sub _=>true
 |.agg cs=>cs.any A92
 |.clo _=>true
 |.cap _ _=>true
 |_=>false
def Oh(tab:List FAnn)(ext:FuncId->Bool):Cfg where
 live g r:=match (Pd tab g).bind fun a=>EQ a.heads r with|some l=>Cw l|none=>[]
 out g r ex:=match ((Pd tab g).bind fun a=>EQ a.outs r).bind fun l=>QF l ex with|some l=>Cw l|none=>[]
 join g r:=match (Pd tab g).bind fun a=>EQ a.joins r with|some l=>some (Cw l)|none=>none
 res g:=match Pd tab g with|some a=>(Cw a.res).map (·.2)|none=>[]
 par g:=match Pd tab g with|some a=>Cw a.params|none=>[]
 rts g:=match Pd tab g with|some a=>F9 (Wz (Da a.res) a.e 0 (Da a.res))|none=>[]
 byref g:=match Pd tab g with|some a=>(F6 a.params).map YQ|none=>[]
 isExt:=ext
structure Ent where
 a:FAnn
 F:De a.params->Option (De a.res)
def Ac6:List Ent->FuncId->Option Ent
 |[],_=>none
 |x::l,g=>cond (Nat.beq x.a.g g) (some x) (Ac6 l g)
structure TX where
 ty:List (Nat×TyD)
 cod:List (Nat×Ty)
 eqs:List Nat
 bools:List Nat
 ents:List Ent
 ann:FAnn
def E6:Ty->Bool
 |.sl _=>false
 |.pair a b=>E6 a&&E6 b
 |_=>true
section
variable {α:Type} (X:TX)
def Vz(t:TypeId):Option (TypeId×TyD×Ty):=
 match getD X.ty t with
 |some d=>
  match d.elem with
  |some e=>
   match getD X.ty e,EQ X.cod e with
   |some de,some c=>if Nat.beq de.size c.size&&(de.zero.all Wt==E6 c)then some (e,de,c)else none
   |_,_=>none
  |none=>none
 |none=>none
def AZ2(t:TypeId):Bool:=match getD X.ty t with|some d=>d.ifc|none=>false
def Ni(t:TypeId):Bool:=match getD X.ty t with|some d=>d.str|none=>false
def A6H(op:BinOp)(t:TypeId)(x y:SV)(K:SV->Option α):Option α:=
 match x,y with
 |.int k a,.int k' b=>GU op k k' a b K
 |.str s,.str u=>A4X op s u K
 |.bool a,.bool b=>
  if X.bools.contains t then(match op with|.eql=>K (.bool (a==b))|.neq=>K (.bool (!(a==b)))|_=>none)else none
 |.agg cs,.agg ds=>
  if X.eqs.contains t then
   match getD X.ty t,Hx cs ds with
   |some d,some r=>if Nat.beq cs.length d.size then(match op with|.eql=>K (.bool r)|.neq=>K (.bool (!r))|_=>none)else none
   |_,_=>none
  else none
 |_,_=>none
def tMk(g:Bool)(cs:Option (List SV))(K:SV->Option α):Option α:=
 match cs with
 |some cs=>(match mkT g cs with|some x=>Wp x K|none=>none)
 |none=>none
def A0f(t:TypeId)(v:SV)(hp:THp)(K:SV->Option α):Option α:=
 match getD X.ty t,v with
 |some d,.ir ty a c=>tMk d.agg (AJ6 (AF6 ty a) c d.size) K
 |some d,.rf id r c=>
  match AK hp id with
  |some (.box _ cs)=>(match r with|0=>tMk d.agg (AJ6 cs c d.size) K|_=>none)
  |some (.arr _ deep ty l)=>if !deep||E6 ty then(AY l r).bind fun a=>tMk d.agg (AJ6 (AF6 ty a) c d.size) K else none
  |some (.frz _ _ ty l)=>if E6 ty then(AY l r).bind fun a=>tMk d.agg (AJ6 (AF6 ty a) c d.size) K else none
  |none=>none
 |_,_=>none
def W5(hp:THp):SV->Option (SV×List Nat×Bool)
 |.int k n=>some (.int k n,[],true)
 |.bool b=>some (.bool b,[],true)
 |.str s=>some (.str s,[],true)
 |.sc x=>some (.sc x,[],true)
 |.em=>some (.em,[],false)
 |.im t l=>some (.im t l,[],false)
 |.ow id=>
  match AK hp id with
  |some (.arr _ deep t l)=>some (.im t l,[id],deep)
  |some (.frz _ _ t l)=>some (.im t l,[],false)
  |_=>none
 |.ar id lo n=>
  match AK hp id with
  |some (.arr _ deep t l)=>some (.im t ((l.take (lo+n)).drop lo),[id],deep)
  |some (.frz _ _ t l)=>some (.im t ((l.take (lo+n)).drop lo),[],false)
  |_=>none
 |_=>none
def K8(hp:THp):List SV->Option (List SV×List Nat×Bool)
 |[]=>some ([],[],true)
 |x::l=>
  match W5 hp x,K8 hp l with
  |some (y,a,d),some (ys,as,ds)=>some (y::ys,a++as,d&&ds)
  |_,_=>none
def A5f(t:TypeId)(a x:SV)(hp:THp)(K:SV->THp->Cls->Option α):Option α:=
 match getD X.ty t,a with
 |some d,.rf id r c=>
  if Nat.beq (DO x).length d.size then
   match AK hp id with
   |some (.box ty cs)=>
    match r with
    |0=>if(DO x).all okT then(match A1F cs c (DO x)with|some cs=>K .any ((id,some (.box ty cs))::hp) .E|none=>none)else none
    |_=>none
   |some (.arr ty deep e l)=>
    (AY l r).bind fun y=>
    match K8 hp (DO x)with
    |some (cs,kills,deep')=>
     if EE (id::kills)then
      match A1F (AF6 e y) c cs with
      |some cs=>(match A4I e cs with|some z=>K .any ((id,some (.arr ty (deep&&deep') e (l.set r z)))::D9 hp kills) .E|none=>none)
      |none=>none
     else none
    |none=>none
   |_=>none
  else none
 |_,_=>none
def NQ(hp:THp)(tm:TTm)(e:Ty):Nat->List (Nat×Operand)->Option (List e.den×List Nat×Bool)
 |_,[]=>some ([],[],true)
 |n,(k,x)::l=>
  if Nat.beq k n&&Nat.beq (DO (opT tm x)).length e.size then
   match K8 hp (DO (opT tm x)),NQ hp tm e (n+1) l with
   |some (cs,a,d),some (ys,as,ds)=>(match A4I e cs with|some y=>some (y::ys,a++as,d&&ds)|none=>none)
   |_,_=>none
  else none
def YE:SV->Bool
 |.int .. |.bool _|.str _|.sc _|.em|.im .. =>true
 |_=>false
def AT4(tm:TTm)(Aj:List (Nat×Operand)):Bool:=Aj.all fun p=>(DO (opT tm p.2)).all YE
def AC9(t:TypeId)(len:Nat)(Aj:List (Nat×Operand))(tm:TTm)(hp:THp)(b:Nat)(K:SV->THp->Cls->Option α):Option α:=
 match Vz X t with
 |some (e,de,c)=>
  match len,Aj with
  |0,[]=>K .em hp .M
  |0,_::_=>none
  |len+1,Aj=>
   match NQ hp tm c 0 Aj with
   |some (l,kills,deep)=>
    if Nat.beq l.length (len+1)&&Nat.ble ((len+1)*de.size) 16777216&&EE kills&&HQ tm hp b then
     K (.ow b) ((b,some (.arr e deep c l))::D9 hp kills) (A4K kills (AT4 tm Aj))
    else none
   |none=>none
 |none=>none
def A8l(c:Ty)(x:SV)(hp:THp):Option (List c.den×List Nat×Bool):=
 match x with
 |.ow id=>
  match AK hp id with
  |some (.arr _ deep t l)=>if h:t=c then(if E6 c then some (Jj h l,[],true)else some (Jj h l,[id],deep))else none
  |some (.frz _ _ t l)=>if h:t=c then some (Jj h l,[],E6 c)else none
  |_=>none
 |.ar id lo n=>
  match AK hp id with
  |some (.arr _ deep t l)=>if h:t=c then(if E6 c then some (((Jj h l).take (lo+n)).drop lo,[],true)else some (((Jj h l).take (lo+n)).drop lo,[id],deep))else none
  |some (.frz _ _ t l)=>if h:t=c then some (((Jj h l).take (lo+n)).drop lo,[],E6 c)else none
  |_=>none
 |v=>match asL c v with|some l=>some (l,[],E6 c)|none=>none
def CZ{β:Type}(bytes size:Nat)(l m:List β):Option (List β):=if(l.length+m.length)*bytes<=Ae/\(l.length+m.length)*size<=Ae then some (l++m)else none
def A0R(ts:List TypeId)(s x:SV)(tm:TTm)(hp:THp)(b:Nat)(K:SV->THp->Cls->Option α):Option α:=
 match ts with
 |[t,t']=>
  if Nat.beq t' t then
   match Vz X t with
   |some (e,de,c)=>
    match A8l c x hp with
    |some (m,kills,deep)=>
     match s with
     |.em=>if EE kills&&HQ tm hp b then cond (Al3 m.length de.bytes de.size) (K (.ow b) ((b,some (.arr e deep c m))::D9 hp kills) (match kills with|[]=>.M|_=>.E)) none else none
     |.ow id=>
      match AK hp id with
      |some (.arr ty d0 t0 l)=>
       if h:t0=c then
        if Nat.beq ty e&&EE (id::kills)&&HQ tm hp b then
         (CZ de.bytes de.size (Jj h l) m).bind fun r=>K (.ow b) ((b,some (.arr e (d0&&deep) c r))::D9 hp (id::kills)) .E
        else none
       else none
      |_=>none
     |.ar id 0 n=>
      match AK hp id with
      |some (.arr ty d0 t0 l)=>
       if h:t0=c then
        if Nat.beq ty e&&EE (id::kills)&&HQ tm hp b then
         cond (decide (n<=l.length)) ((CZ de.bytes de.size ((Jj h l).take n) m).bind fun r=>K (.ow b) ((b,some (.arr e (d0&&deep) c r))::D9 hp (id::kills)) .E) none
        else none
       else none
      |_=>none
     |_=>none
    |none=>none
   |none=>none
  else none
 |_=>none
def Ar7(tm:TTm)(lo hi:Option Operand)(len:Nat)(K:Nat->Nat->Option α):Option α:=
 match lo,hi with
 |none,none=>K 0 len
 |_,_=>
  match ZW tm lo 0,ZW tm hi (len:Int)with
  |some l,some h=>(FT l h len).bind fun p=>K p.1 p.2
  |_,_=>none
def A7u(tm:TTm)(lo hi:Option Operand)(len:Nat)(A:Option α)(K:Nat->Nat->Option α):Option α:=
 match lo,hi with
 |none,none=>A
 |_,_=>Ar7 tm lo hi len K
def A4L(t:TypeId)(x:SV)(lo hi:Option Operand)(tm:TTm)(hp:THp)(K:SV->Option α):Option α:=
 match x with
 |.str s=>if Ni X t then Ar7 tm lo hi s.length fun l h=>K (.str ((s.take h).drop l))else none
 |x=>
  match Vz X t with
  |some (e,de,c)=>
   match x with
   |.em=>Ar7 tm lo hi 0 fun _ _=>K .em
   |.im ty l=>if Nat.beq ty.size de.size then Ar7 tm lo hi l.length fun lo hi=>K (.im ty ((l.take hi).drop lo))else none
   |.ow id=>
    match AK hp id with
    |some (.arr _ _ ty l)|some (.frz _ _ ty l)=>if Nat.beq ty.size de.size then A7u tm lo hi l.length (K (.ow id)) fun l h=>K (.ar id l (h-l))else none
    |_=>none
   |.ar id l0 n=>
    match AK hp id with
    |some (.arr _ _ ty l)|some (.frz _ _ ty l)=>if Nat.beq ty.size de.size then Ar7 tm lo hi n fun l h=>K (.ar id (l0+l) (h-l))else none
    |_=>none
   |_=>none
  |none=>none
def A9i(t:TypeId)(x i:SV)(hp:THp)(K:SV->Cls->Option α):Option α:=
 match Vz X t with
 |some (_,de,_)=>
  match x,i with
  |.im ty l,.int _ n=>if Nat.beq ty.size de.size then(AD l n).bind fun a=>K (.ir ty a 0) .T else none
  |.ow id,.int _ n=>
   match AK hp id with
   |some (.arr _ _ ty l)|some (.frz _ _ ty l)=>if Nat.beq ty.size de.size then(A2 n l.length).bind fun k=>K (.rf id k 0) .M else none
   |_=>none
  |.ar id lo len,.int _ n=>
   match AK hp id with
   |some (.arr _ _ ty l)|some (.frz _ _ ty l)=>if Nat.beq ty.size de.size then(A2 n len).bind fun k=>K (.rf id (lo+k) 0) .M else none
   |_=>none
  |_,_=>none
 |none=>none
def A7I(t:TypeId)(same:Bool)(l c:SV)(tm:TTm)(hp:THp)(b:Nat)(K:SV->THp->Cls->Option α):Option α:=
 match Vz X t,l,c with
 |some (e,de,ty),.int _ n,.int _ m=>
  match A4I ty (de.zero.map VE)with
  |some z=>
   if HQ tm hp b&&de.zero.all E9 then
    cond same
     ((QB m de.bytes de.size).bind fun k=>K (.ow b) ((b,some (.arr e true ty (List.replicate k z)))::hp) .M)
     ((QB m de.bytes de.size).bind fun _=>cond (decide (0<=n)&&decide (n<=m)) (K (.ow b) ((b,some (.arr e true ty (List.replicate n.toNat z)))::hp) .M) none)
   else none
  |none=>none
 |_,_,_=>none
def AK9(t:TypeId):Bool:=match getD X.ty t with|some d=>d.elem.isSome|none=>false
def Tu(t:TypeId):Bool:=match getD X.ty t with|some d=>(match d.elem with|some e=>(match getD X.ty e with|some de=>de.int==some .u8|none=>false)|none=>false)|none=>false
def A7p(s d:TypeId)(x:SV)(hp:THp)(K:SV->Cls->Option α):Option α:=
 match x with
 |.int _ n=>(match getD X.ty s,getD X.ty d with|some _,some dd=>(match dd.int with|some k=>K (.int k (k.wrap n)) .T|none=>none)|_,_=>none)
 |.str v=>
  if Ni X s then
   if Tu X d then cond (decide (v.length<=Ae)) (K (.im (.int .u8) (Aq8 v)) .M) none
   else if Ni X d then K (.str v) .T else none
  else none
 |x=>
  if Tu X s&&Ni X d then
   match Hf hp (.int .u8) x with
   |some l=>K (.str (KX l)) .M
   |none=>none
  else none
def A9F(t:TypeId)(x:SV)(hp:THp)(K:SV->Option α):Option α:=
 match x with
 |.str s=>if Ni X t&& !AK9 X t then K (.int .i64 (s.length:Int))else none
 |x=>
  if AK9 X t then
   match x with
   |.em=>K (.int .i64 0)
   |.im _ l=>K (.int .i64 (l.length:Int))
   |.ow id=>
    match AK hp id with
    |some (.arr _ _ _ l)|some (.frz _ _ _ l)=>K (.int .i64 (l.length:Int))
    |_=>none
   |.ar _ _ n=>K (.int .i64 (n:Int))
   |_=>none
  else none
def WX(mx:Bool)(xs:List SV)(K:SV->Option α):Option α:=
 match Qi xs with
 |some (k,ns)=>K (.int k (if mx then A5l ns else A89 ns))
 |none=>none
def YO:SV->List Nat
 |.ow id=>[id]
 |.ar id _ _=>[id]
 |_=>[]
def Aq1:SV->List Nat
 |.agg cs=>cs.flatMap YO
 |.cl _ cs=>cs.flatMap YO
 |x=>YO x
def E7(hp:THp):AC->SV->Option SV
 |.im t,v=>match Hf hp t v with|some l=>some (.im t l)|none=>none
 |.int _,.int k n=>some (.int k n)
 |.bool,.bool b=>some (.bool b)
 |.str,.str s=>some (.str s)
 |_,_=>none
def Si(hp:THp):List AC->List SV->Option (List SV)
 |[],[]=>some []
 |c::cs,v::vs=>(match E7 hp c v with|some x=>(match Si hp cs vs with|some y=>some (x::y)|none=>none)|none=>none)
 |_,_=>none
def Kb(hp:THp):AS->SV->Option SV
 |.cell c,v=>E7 hp c v
 |.agg cs,.agg vs=>(match Si hp cs vs with|some l=>some (.agg l)|none=>none)
 |.ref _ true,.rf id r c=>some (.rf id r c)
 |.clo _,.cl g []=>some (.cl g [])
 |_,_=>none
def LP:List AS->List SV->List Nat
 |a::l,v::vs=>(cond (YQ a) [] (Aq1 v))++LP l vs
 |_,_=>[]
def Um(hp:THp):List AS->List SV->Option (List SV)
 |[],[]=>some []
 |a::l,v::vs=>(match (cond (YQ a) (cond (Fp v) (some v) none) (Kb hp a v))with|some x=>(match Um hp l vs with|some y=>some (x::y)|none=>none)|none=>none)
 |_,_=>none
def Xi:SV->Bool
 |.int .. |.bool _|.str _|.sc _|.ow _|.ar .. |.rf .. =>true
 |.cl _ []=>true
 |_=>false
def Ap7:SV->Bool
 |.agg cs=>cs.all Xi
 |x=>Xi x
def A4H:TB->Bool
 |.box _ cs=>cs.all Xi
 |.arr _ deep _ _=>deep
 |.frz .. =>false
def ddN:List Nat->List Nat->List Nat
 |acc,[]=>acc
 |acc,id::l=>cond (A2q id acc) (ddN acc l) (ddN (acc++[id]) l)
def Th(order:List Nat)(e n b j:Nat):Option Nat:=cond (Nat.blt j e) order[j]? (cond (Nat.blt j n) (some (b+(j-e))) none)
def A29(vs:List SV):SV:=match vs with|[v]=>v|vs=>.tup vs
def AB1(hp out:THp):List Nat->Option α->Option α
 |[],A=>A
 |id::l,A=>
  match AK out id,AK hp id with
  |some (.arr _ _ _ l'),some (.arr _ _ _ l0)=>cond (decide (l'.length=l0.length)) (AB1 hp out l A) none
  |some (.box _ _),some (.box _ _)=>AB1 hp out l A
  |_,_=>none
def A26:Nat×Option TB->Bool
 |(_,some k)=>A4H k
 |(_,none)=>false
def Ar1(vs:List SV)(bs:THp):Bool:=vs.all Ap7&&bs.all A26
def A80(o:List Nat)(c:Bool)(A B C D:Option α):Option α:=
 match o,c with
 |[],true=>A
 |[],false=>B
 |_::_,true=>C
 |_::_,false=>D
def Sq:Nat->List SV->TTm
 |_,[]=>[]
 |n,x::l=>(n,x)::Sq (n+1) l
def EA(f:Nat->Option Nat):THp->THp
 |[]=>[]
 |(k,b)::l=>match f k with|some i=>(i,match b with|some b=>some (Ze f b)|none=>none)::EA f l|none=>EA f l
def A35(g:FuncId)(args:List SV)(tm:TTm)(hp:THp)(b:Nat)(K:SV->THp->Cls->Option α):Option α:=
 match Ac6 X.ents g with
 |some E=>
  match Um hp (F6 E.a.params) args with
  |some args'=>
   match HV hp 64 (args'.flatMap rf1) []with
   |some o=>
    match HH E.a.e E.a.params {tm:=Sq 0 (args'.map (B9 (Er o))),hp:=GG hp (Er o) 0 o,c:=1}with
    |some x=>
     if args'.all Fp&&(args'.map (B9 (Er o))).all Fp&&AR5 (ddN [] ((args'.map (B9 (Er o))).flatMap rf1)) (List.range E.a.e)&&AR5 (o.take E.a.e) (ddN [] (args'.flatMap rf1))&&Nat.beq (ddN [] (args'.flatMap rf1)).length E.a.e&&Nat.ble o.length 16&&Uj tm hp b&&Nat.beq (HM E.a.params).length args'.length&&o.all (fun id=>Nat.blt id b&&A0L id (LP (F6 E.a.params) args))then
      (E.F x).bind fun y=>
       let r:=BL 0 E.a.res y
       let f:=Th o E.a.e r.2.length b
       if Nat.ble E.a.e r.2.length&&Nat.ble r.2.length (E.a.e+16)then
        AB1 hp (EA f r.2) (o.take E.a.e) (Wp (A29 (r.1.map fun p=>B9 f p.2)) fun v=>
         A80 o ((LP (F6 E.a.params) args).isEmpty||Ar1 (r.1.map (·.2)) r.2)
          (K v (EA f r.2++hp) .M)
          (K v (EA f r.2++Fe hp (LP (F6 E.a.params) args)) .E)
          (K v (EA f r.2++D9 hp (o.drop E.a.e)) .E)
          (K v (EA f r.2++D9 (Fe hp (LP (F6 E.a.params) args)) (o.drop E.a.e)) .E))
       else none
     else none
    |none=>none
   |none=>none
  |none=>none
 |none=>none
def AQ6:Operand->Operand->Bool
 |.tmp a,.tmp b=>Nat.beq a b
 |_,_=>false
def erC(b:BinOp)(y:Operand):Option Bool:=
 match b,y with
 |.eql,.const .nilIface=>some true
 |.neq,.const .nilIface=>some false
 |_,_=>none
def BW(op:Op)(b:Nat)(tm:TTm)(hp:THp)(K:SV->THp->Cls->Option α):Option α:=
 match op with
 |.store t a x=>A5f X t (opT tm a) (opT tm x) hp K
 |.buildSlice t len Aj=>AC9 X t len Aj.toList tm hp b K
 |.slice t x lo hi none=>A4L X t (opT tm x) lo hi tm hp fun v=>K v hp .M
 |.move x|.assign x=>Wp (opT tm x) fun v=>K v hp .T
 |.pick c x y=>(match opT tm c with|.bool t=>cond t (Wp (opT tm x) fun v=>K v hp .T) (Wp (opT tm y) fun v=>K v hp .T)|_=>none)
 |.build t Aj=>(match getD X.ty t with|some d=>if d.agg&& !d.flds.isEmpty then A0t d.flds tm (d.zero.map VE) Aj.toList fun cs=>K (.agg cs) hp .T else none|none=>none)
 |.nilCheck x=>(match opT tm x with|.rf id r c=>K (.rf id r c) hp .T|.ir t a c=>K (.ir t a c) hp .T|.cl f caps=>K (.cl f caps) hp .T|_=>none)
 |.binOp op t x y _=>
  (match A8w op y with
  |true=>(match getD X.ty t,opT tm x with|some d,.im _ l=>(match d.elem with|some _=>(neL l).bind fun _=>K (.bool false) hp .T|none=>none)|_,_=>none)
  |false=>(match erC op y with
   |some s=>(match opT tm x with
    |.er e=>cond (AZ2 X t) (K (.bool (cond s (!e) e)) hp .T) none
    |_=>A6H X op t (opT tm x) (opT tm y) fun v=>K v hp .T)
   |none=>A6H X op t (opT tm x) (opT tm y) fun v=>K v hp .T))
 |.unOp u _ x=>tUn u (opT tm x) fun v=>K v hp .T
 |.convert s d x=>A7p X s d (opT tm x) hp fun v c=>K v hp c
 |.field t x k=>
  match opT tm x,getD X.ty t with
  |.agg cs,some d=>(match d.flds[k]? with|some f=>tMk f.agg (AJ6 cs f.off f.size) fun v=>K v hp .T|none=>none)
  |_,_=>none
 |.fieldAddr t x k=>
  match getD X.ty t with
  |some d=>
   match d.flds[k]?,opT tm x with
   |some f,.rf id r c=>K (.rf id r (c+f.off)) hp .T
   |some f,.ir t a c=>K (.ir t a (c+f.off)) hp .T
   |_,_=>none
  |none=>none
 |.index t x i=>
  match Ni X t,opT tm x,opT tm i with
  |true,.str s,.int _ n=>(AD s n).bind fun c=>K (.int .u8 (c.toNat:Int)) hp .T
  |_,_,_=>none
 |.indexAddr t x i=>A9i X t (opT tm x) (opT tm i) hp fun v c=>K v hp c
 |.slice t x lo (some hi) (some mx)=>
  match Vz X t,opT tm x with
  |some (_,_,_),.im _ l=>
   match ZW tm lo 0,ZW tm (some hi) 0,ZW tm (some mx) 0 with
   |some lo,some hi,some mx=>cond (decide (lo=0/\hi=0/\mx=0)) (K .em hp .T) none
   |_,_,_=>none
  |_,_=>none
 |.extract x k=>(match opT tm x with|.tup vs=>(match vs[k]? with|some v=>Wp v fun v=>K v hp .T|none=>none)|_=>none)
 |.makeFunc (.func f) first caps=>if first.isEmpty&&(caps.toList.map (opT tm)).all okT then K (.cl f (caps.toList.map (opT tm))) hp .T else none
 |.call {callee:=.builtin .append,args,argTypes}=>(match args.toList with|[s,x]=>A0R X argTypes.toList (opT tm s) (opT tm x) tm hp b K|_=>none)
 |.call {callee:=.builtin .len,args,argTypes}=>(match args.toList,argTypes.toList with|[x],[t]=>A9F X t (opT tm x) hp fun v=>K v hp .T|_,_=>none)
 |.call {callee:=.builtin .min,args, .. }=>WX false (args.toList.map (opT tm)) fun v=>K v hp .T
 |.call {callee:=.builtin .max,args, .. }=>WX true (args.toList.map (opT tm)) fun v=>K v hp .T
 |.call {callee:=.value f,args, .. }=>(match opT tm f with|.cl g caps=>A35 X g (args.toList.map (opT tm)++caps) tm hp b K|_=>none)
 |.alloc t=>(match getD X.ty t with|some d=>if HQ tm hp b then K (.rf b 0 0) ((b,some (.box t (d.zero.map VE)))::hp) .M else none|none=>none)
 |.box t x=>(match getD X.ty t with|some d=>if Nat.beq (DO (opT tm x)).length d.size&&(DO (opT tm x)).all okT&&HQ tm hp b then K (.rf b 0 0) ((b,some (.box t (DO (opT tm x))))::hp) .M else none|none=>none)
 |.load t a=>A0f X t (opT tm a) hp fun v=>K v hp .M
 |.makeSlice t l c=>A7I X t (AQ6 l c) (opT tm l) (opT tm c) tm hp b K
 |_=>none
def A4Z(draw:Bool)(op:Op)(b:Nat)(tm:TTm)(hp:THp)(K:SV->THp->Cls->Option α):Option α:=
 match draw&&isR op with
 |true=>BW X op b tm (AD2 b hp) fun x _ cls=>K x hp cls
 |false=>BW X op b tm hp K
def Aq7(draw ok:Bool)(cls:Cls)(A:Option α):Option α:=
 match draw,cls with
 |true,.E=>cond ok A none
 |_,_=>A
def AQ5(tm:TTm)(op:Op):Bool:=(op.operands.toList.map (opT tm)).all Fp
def A5n(tm:TTm)(op:Op):List Nat:=(op.operands.toList.map (opT tm)).flatMap rf1
def R7(op:Op)(tm:TTm)(hp:THp):Option (List Nat):=
 match op with
 |.store _ a x=>if Fp (opT tm a)&&Fp (opT tm x)then some (rf1 (opT tm a)++rf1 (opT tm x))else none
 |.call {callee:=.value f,args, .. }=>
  match opT tm f with
  |.cl g caps=>
   match Ac6 X.ents g with
   |some E=>
    match Um hp (F6 E.a.params) (args.toList.map (opT tm)++caps)with
    |some args'=>if args'.all Fp then(match HV hp 64 (args'.flatMap rf1) []with|some o=>some (o++LP (F6 E.a.params) (args.toList.map (opT tm)++caps))|none=>none)else none
    |none=>none
   |none=>none
  |_=>none
 |.buildSlice _ (_+1) Aj=>if Aj.toList.all fun p=>Fp (opT tm p.2)then some (Aj.toList.flatMap fun p=>rf1 (opT tm p.2))else none
 |_=>none
def A1Q(ops:List Oper)(tm:TTm)(hp:THp)(i:Nat):Bool:=
 match ops[i]? with
 |some a=> !HF ops a&&(match R7 X a.op tm hp with
  |some ids=>(List.range ops.length).all fun j=>j==i||Fl ops i j||(match ops[j]? with
   |some o=>isT o.op||(isR o.op&&decide (j<i)&&A4C ops j i o&&(AQ5 tm o.op&&(A5n tm o.op).all fun id=> !ids.contains id))
   |none=>true)
  |none=>false)
 |none=>false
def QD(tm:TTm)(dst:Option Tmp)(x:SV):TTm:=
 match dst with
 |some d=>(d,x)::tm
 |none=>tm
def Tz(all:List Oper)(draw:Bool):List Oper->Nat->TSt->(TSt->Option α)->Option α
 |[],_,st,K=>K st
 |o::l,i,st,K=>
  match o.guard with
  |none=>
   A4Z X draw o.op (16*(st.c+i)) st.tm st.hp fun x hp cls=>Aq7 draw (eOK all i||A1Q X all st.tm st.hp i) cls (Tz all draw l (i+1) {tm:=QD st.tm o.dst x,hp:=hp,c:=st.c} K)
  |some (j,want)=>
   match (all[j]?).bind (·.dst)with
   |some d=>
    match CW st.tm d with
    |.bool t=>
     let go (tm:TTm):Option α:=A4Z X draw o.op (16*(st.c+i)) tm st.hp fun x hp cls=>Aq7 draw (eOK all i||A1Q X all tm st.hp i) cls (Tz all draw l (i+1) {tm:=QD tm o.dst x,hp:=hp,c:=st.c} K)
     let no (tm:TTm):Option α:=Tz all draw l (i+1) {tm:=QD tm o.dst (.tup []),hp:=st.hp,c:=st.c} K
     match want with
     |true=>cond t (go ((d,.bool true)::st.tm)) (no ((d,.bool false)::st.tm))
     |false=>cond t (no ((d,.bool true)::st.tm)) (go ((d,.bool false)::st.tm))
    |.tup []=>Tz all draw l (i+1) {tm:=QD st.tm o.dst (.tup []),hp:=st.hp,c:=st.c} K
    |_=>none
   |none=>none
end
@[reducible] def A6j:List (Ex×List Item)->Type
 |[]=>Empty
 |[a]=>De a.2
 |a::b::l=>De a.2⊕A6j (b::l)
def AW5(e:Nat):(l:List (Ex×List Item))->Ex->TSt->Option (A6j l)
 |[],_,_=>none
 |[a],ex,st=>cond (TQ a.1 ex) (HH e a.2 st) none
 |a::b::l,ex,st=>cond (TQ a.1 ex) ((HH e a.2 st).map .inl) ((AW5 e (b::l) ex st).map .inr)
def A39{α:Type}(K:Ex->TSt->Option α):(l:List (Ex×List Item))->A6j l->Option α
 |[]=>fun d=>nomatch d
 |[a]=>fun d=>K a.1 (Lr a.2 d)
 |a::b::l=>fun d=>Sum.elim (fun d=>K a.1 (Lr a.2 d)) (A39 K (b::l)) d
abbrev A3N(α:Type):=Ex->TSt->Option α
def TX.e(X:TX):Nat:=X.ann.e
def wtC (X:TX):Code->{α:Type}->TSt->A3N α->Option α
 |.skip,_,st,Q=>Q .normal st
 |.region _ ops draw,_,st,Q=>Tz X (reo draw ops.toList) draw (reo draw ops.toList) 0 st fun s=>Q .normal {s with c:=s.c+ops.size}
 |.seq a b,_,st,Q=>
  match EQ X.ann.joins (rid b)with
  |none=>wtC X a st fun ex s=>match ex with|.normal=>wtC X b s Q|ex=>Q ex s
  |some an=>
   (wtC X a (α:=_⊕De an) st fun ex s=>match ex with|.normal=>(HH X.e an s).map .inr|ex=>(Q ex s).map .inl).bind fun z=>Sum.elim some (fun d=>wtC X b (Lr an d) Q) z
 |.cond c x y,_,st,Q=>
  match opT st.tm c with
  |.bool t=>cond t (wtC X x st Q) (wtC X y st Q)
  |_=>none
 |.block id c,_,st,Q=>wtC X c st fun ex s=>match ex with|.exit j=>cond (Nat.beq j id) (Q .normal s) (Q (.exit j) s)|ex=>Q ex s
 |.loop c,_,st,Q=>
  match EQ X.ann.heads (rid c),EQ X.ann.outs (rid c)with
  |some an,some outs=>
   (HH X.e an st).bind fun d0=>
   (Ad (fun d=>wtC X c (Lr an d) fun ex s=>match ex with|.normal=>(HH X.e an s).map .inl|ex=>(AW5 X.e outs ex s).map .inr) d0).bind fun z=>A39 Q outs z
  |_,_=>none
 |.exit id,_,st,Q=>Q (.exit id) st
 |.ret,_,st,Q=>Q .ret st
 |_,_,_,_=>none
def AP8{α:Type}(X:TX)(tm:TTm)(hp:THp):List ResultVar->(List SV->Option α)->Option α
 |[],K=>K []
 |.tmp t::l,K=>AP8 X tm hp l fun xs=>K (CW tm t::xs)
 |.cell a t::l,K=>A0f X t (CW tm a) hp fun x=>AP8 X tm hp l fun xs=>K (x::xs)
def tnR:List TMs->List SV->THp->Nat->Option (List SV×THp)
 |[],[],hp,_=>some ([],hp)
 |m::ms,x::xs,hp,c=>
  match tnV m x hp (16*c)with
  |some (y,hp1,n)=>if Nat.ble n 16 then(match tnR ms xs hp1 (c+1)with|some (ys,hp2)=>some (y::ys,hp2)|none=>none)else none
  |none=>none
 |_,_,_,_=>none
def A3F(rts:List (Nat×TMs))(hp:THp):Bool:=rts.all fun p=>Nat.blt p.1 16&&(match AK hp p.1 with|some (.box _ _)=>true|_=>false)
def A6S(res:List Item)(e:Nat)(s:TSt)(xs:List SV):Option (De res):=
 let rts:=Wz (Da res) e 0 (Da res)
 if A3F rts s.hp&&xs.all Fp&&Uj (Sq 0 xs) s.hp (16*(s.c+1))then
  match tnR (rts.map (·.2)++(La (Da res) res).map (·.2)) (rts.map (fun p=>SV.rf p.1 0 0)++xs) s.hp (s.c+1)with
  |some (ys,hp)=>
   let zs:=ys.drop rts.length
   if zs.all Fp then
    match HV hp 64 (List.range e++zs.flatMap rf1) []with
    |some o=>if AR5 (o.take e) (List.range e)then rdI 0 res (Sq 0 (zs.map (B9 (Er o)))) (GG hp (Er o) 0 o)else none
    |none=>none
   else none
  |none=>none
 else none
def wtF (X:TX) (fn:Func) (x:De X.ann.params):Option (De X.ann.res):=
 match fn.body with
 |some c=>wtC X c (Lr X.ann.params x) fun ex s=>
  match ex with
  |.exit _=>none
  |_=>AP8 X s.tm s.hp fn.results.toList fun xs=>A6S X.ann.res X.e s xs
 |none=>none
end
section
open Go
def RLx{α:Type}(R:α->List V->Prop)(l:List α)(rows:List (List V)):Prop:=
 rows.length=l.length/\∀(i:Nat)(a:α)(r:List V),l[i]? =some a->rows[i]? =some r->R a r
section
variable {α:Type} {R:α->List V->Prop} {l m:List α} {rows rs:List (List V)}
theorem RLx.nil:RLx R ([]:List α) []:=⟨rfl,fun i a r h=>by simp at h⟩
theorem RLx.of_nil(h:RLx R ([]:List α) rows):rows=[]:=zc0 h.1
theorem RLx.get(h:RLx R l rows){i:Nat}{a:α}(hi:l[i]? =some a):∃r,rows[i]? =some r/\R a r:=by
 have hlt:i<rows.length:=by rw[h.1];exact(za4.1 hi).1
 exact⟨rows[i],za1 hlt,h.2 i a _ hi (za1 hlt)⟩
theorem RLx.get'(h:RLx R l rows){i:Nat}{r:List V}(hi:rows[i]? =some r):∃a,l[i]? =some a/\R a r:=by
 have hlt:i<l.length:=by rw[<-h.1];exact(za4.1 hi).1
 exact⟨l[i],za1 hlt,h.2 i _ r (za1 hlt) hi⟩
theorem RLx.mono{R':α->List V->Prop}(h:RLx R l rows)(hm:∀a r,R a r->R' a r):RLx R' l rows:=⟨h.1,fun i a r h1 h2=>hm a r (h.2 i a r h1 h2)⟩
theorem RLx.set(h:RLx R l rows)(k:Nat){z:α}{r:List V}(hz:R z r):RLx R (l.set k z) (rows.set k r):=by
 refine⟨by simp[h.1],fun i a q h1 h2=> ?_⟩
 rw[List.getElem?_set]at h1 h2;by_cases hk:k=i
 ·subst hk;rw[zr rfl]at h1 h2
  split at h1
  ·split at h2
   ·cases h1;cases h2;exact hz
   ·cases h2
  ·cases h1
 ·rw[zw hk]at h1 h2;exact h.2 i a q h1 h2
theorem RLx.append(h:RLx R l rows)(k:RLx R m rs):RLx R (l++m) (rows++rs):=by
 refine⟨by simp[h.1,k.1],fun i a q h1 h2=> ?_⟩
 rw[List.getElem?_append]at h1 h2;rw[h.1]at h2
 split at h1
 ·rename_i hi;rw[zr hi]at h2;exact h.2 i a q h1 h2
 ·rename_i hi;rw[zw hi]at h2;exact k.2 _ a q h1 h2
theorem RLx.take(h:RLx R l rows)(n:Nat):RLx R (l.take n) (rows.take n):=by
 refine⟨by simp[h.1],fun i a q h1 h2=> ?_⟩
 rw[zc2]at h1 h2
 split at h1
 ·rename_i hi;rw[zr hi]at h2;exact h.2 i a q h1 h2
 ·cases h1
theorem RLx.drop(h:RLx R l rows)(n:Nat):RLx R (l.drop n) (rows.drop n):=by
 refine⟨by simp[h.1],fun i a q h1 h2=> ?_⟩
 rw[zd6]at h1 h2;exact h.2 _ a q h1 h2
theorem RLx.replicate{z:α}{r:List V}(h:R z r)(n:Nat):RLx R (List.replicate n z) (List.replicate n r):=by
 refine⟨by simp,fun i a q h1 h2=> ?_⟩
 rw[List.getElem?_replicate]at h1 h2
 split at h1
 ·rename_i hi;rw[zr hi]at h2;cases h1;cases h2;exact h
 ·cases h1
theorem RLx.cons{a:α}{r:List V}(h:R a r)(k:RLx R l rows):RLx R (a::l) (r::rows):=by
 refine⟨by simp[k.1],fun i a' q h1 h2=> ?_⟩
 cases i with
 |zero=>simp at h1 h2;subst h1;subst h2;exact h
 |succ i=>exact k.2 i a' q (by simpa using h1) (by simpa using h2)
end
def RE:(t:Ty)->t.den->List V->Prop
 |.int k,n,row=>row=[.v (.int k n)]
 |.bool,b,row=>row=[.v (.bool b)]
 |.str,s,row=>row=[.v (.string ⟨s.toArray⟩)]
 |.pair a b,x,row=>∃r1 r2,row=r1++r2/\RE a x.1 r1/\RE b x.2 r2
 |.sl e,l,row=>(l=[]/\row=[.em])\/∃rows,row=[.im rows]/\RLx (RE e) l rows
theorem RE.len:∀{t:Ty}{a:t.den}{row:List V},RE t a row->row.length=t.size
 |.int _,_,_,h=>by simp only[RE]at h;subst h;rfl
 |.bool,_,_,h=>by simp only[RE]at h;subst h;rfl
 |.str,_,_,h=>by simp only[RE]at h;subst h;rfl
 |.pair a b,x,_,h=>by
  obtain⟨r1,r2,rfl,h1,h2⟩:=h;simp[Ty.size,h1.len,h2.len]
 |.sl e,_,_,h=>by
  rcases h with⟨_,rfl⟩|⟨rows,rfl,_⟩<;>rfl
def FY:TB->Option Nat
 |.box _ _=>none
 |.arr _ _ _ l=>some l.length
 |.frz _ _ _ l=>some l.length
def RV0(hp:THp):SV->V->Prop
 |.int k n,y=>y=.v (.int k n)
 |.bool b,y=>y=.v (.bool b)
 |.str s,y=>y=.v (.string ⟨s.toArray⟩)
 |.sc x,y=>y=.v x
 |.er b,y=>y=.er b
 |.em,y=>y=.em
 |.im t l,y=>(l=[]/\y=.em)\/∃rows,y=.im rows/\RLx (RE t) l rows
 |.ow id,y=>∃n,y=.ar id 0 n/\∀b,AK hp id=some b->FY b=some n
 |.ar id lo n,y=>y=.ar id lo n
 |.rf id r c,y=>y=.rf id r c
 |.ir t a c,y=>∃row,y=.ir row c/\RE t a row
 |.cl f [],y=>y=.cl f []
 |.any,_=>True
 |_,_=>False
def RC(R:SV->V->Prop):List SV->List V->Prop
 |[],[]=>True
 |x::xs,y::ys=>R x y/\RC R xs ys
 |_,_=>False
def RV1(hp:THp):SV->V->Prop
 |.agg cs,y=>∃us,y=.agg us/\RC (RV0 hp) cs us
 |.cl f caps,y=>∃us,y=.cl f us/\RC (RV0 hp) caps us
 |x,y=>RV0 hp x y
def RV2(hp:THp):SV->V->Prop
 |.tup vs,y=>∃us,y=.tup us/\RC (RV1 hp) vs us
 |x,y=>RV1 hp x y
section
variable {R R':SV->V->Prop}
theorem RC.length:∀{xs:List SV}{ys:List V},RC R xs ys->ys.length=xs.length
 |[],[],_=>rfl
 |_::xs,_::ys,h=>by simp[RC.length (xs:=xs) (ys:=ys) h.2]
 |[],_::_,h=>h.elim
 |_::_,[],h=>h.elim
theorem RC.mono:∀{xs:List SV}{ys:List V},RC R xs ys->(∀x∈xs,∀y,R x y->R' x y)->RC R' xs ys
 |[],[],_,_=>trivial
 |x::xs,y::ys,h,hm=>⟨hm x (by simp) y h.1,RC.mono h.2 fun x hx=>hm x (by simp[hx])⟩
 |[],_::_,h,_=>h.elim
 |_::_,[],h,_=>h.elim
theorem RC.append:∀{xs xs':List SV}{ys ys':List V},RC R xs ys->RC R xs' ys'->RC R (xs++xs') (ys++ys')
 |[],_,[],_,_,h=>h
 |_::xs,_,_::ys,_,h,h'=>⟨h.1,RC.append h.2 h'⟩
 |[],_,_::_,_,h,_=>h.elim
 |_::_,_,[],_,h,_=>h.elim
theorem RC.take:∀{xs:List SV}{ys:List V}(n:Nat),RC R xs ys->RC R (xs.take n) (ys.take n)
 |[],[],n,_=>by simp[RC]
 |a::xs,b::ys,0,_=>by simp[RC]
 |a::xs,b::ys,n+1,h=>⟨h.1,RC.take n h.2⟩
 |[],_::_,_,h=>h.elim
 |_::_,[],_,h=>h.elim
theorem RC.drop:∀{xs:List SV}{ys:List V}(n:Nat),RC R xs ys->RC R (xs.drop n) (ys.drop n)
 |[],[],n,_=>by simp[RC]
 |a::xs,b::ys,0,h=>h
 |a::xs,b::ys,n+1,h=>by simpa using RC.drop n h.2
 |[],_::_,_,h=>h.elim
 |_::_,[],_,h=>h.elim
theorem RC.get:∀{xs:List SV}{ys:List V},RC R xs ys->∀{j:Nat}{x:SV},xs[j]? =some x->∃y,ys[j]? =some y/\R x y
 |[],[],_,j,x,h=>by simp at h
 |a::xs,b::ys,h,0,x,hx=>by simp at hx;subst hx;exact⟨b,by simp,h.1⟩
 |a::xs,b::ys,h,j+1,x,hx=>by simpa using RC.get h.2 (by simpa using hx)
 |[],_::_,h,_,_,_=>h.elim
 |_::_,[],h,_,_,_=>h.elim
theorem RC.map{α:Type}{f:α->SV}{g:α->V}:∀{l:List α},(∀x∈l,R (f x) (g x))->RC R (l.map f) (l.map g)
 |[],_=>trivial
 |x::l,h=>⟨h x (by simp),RC.map fun y hy=>h y (by simp[hy])⟩
end
theorem RC.seg{hp:THp}{cs l:List SV}{us:List V}{off n:Nat}(h:AJ6 cs off n=some l)(hr:RC (RV0 hp) cs us):∃vs,seg us off n=some vs/\RC (RV0 hp) l vs:=by
 unfold AJ6 at h
 split at h
 ·rename_i hn;cases h
  refine⟨_,by unfold Ev.seg;rw[zr (by rw[hr.length];exact hn)],(hr.drop off).take n⟩
 ·cases h
theorem RC.put{hp:THp}{cs cs' new:List SV}{us vs:List V}{off:Nat}(h:A1F cs off new=some cs')(hr:RC (RV0 hp) cs us)(hn:RC (RV0 hp) new vs):∃us',Hw us off vs=some us'/\RC (RV0 hp) cs' us':=by
 unfold A1F at h
 split at h
 ·rename_i hl;cases h
  have h1:=hr.length;have h2:=hn.length;refine⟨_,by unfold Hw;rw[zr (by omega)],?_⟩
  rw[h2];exact((hr.take off).append hn).append (hr.drop _)
 ·cases h
theorem RV0.to1{hp:THp}:∀{x:SV}{y:V},RV0 hp x y->RV1 hp x y
 |.cl f [],y,h=>⟨[],h,trivial⟩
 |.cl _ (_::_),_,h=>h.elim
 |.agg _,_,h=>h.elim
 |.tup _,_,h=>h
 |.int ..,_,h|.bool _,_,h|.str _,_,h|.sc _,_,h|.er _,_,h|.em,_,h|.im ..,_,h|.ow _,_,h|.ar ..,_,h|.rf ..,_,h|.ir ..,_,h|.any,_,h=>h
theorem RV1.to2{hp:THp}:∀{x:SV}{y:V},RV1 hp x y->RV2 hp x y
 |.tup _,_,h=>False.elim h
 |.cl ..,_,h|.agg _,_,h|.int ..,_,h|.bool _,_,h|.str _,_,h|.sc _,_,h|.er _,_,h|.em,_,h|.im ..,_,h|.ow _,_,h|.ar ..,_,h|.rf ..,_,h|.ir ..,_,h|.any,_,h=>h
def Db(hp hp':THp)(id:Nat):Prop:=∀b',AK hp' id=some b'->∃b,AK hp id=some b/\FY b=FY b'
theorem Db.refl(hp:THp)(id:Nat):Db hp hp id:=fun b h=>⟨b,h,rfl⟩
theorem Db.trans{a b c:THp}{id:Nat}(h:Db a b id)(k:Db b c id):Db a c id:=fun x hx=>by
 obtain⟨y,hy,e⟩:=k x hx;obtain⟨z,hz,e'⟩:=h y hy;exact⟨z,hz,e'.trans e⟩
theorem RV0.keeps{hp hp':THp}:∀{x:SV}{y:V},RV0 hp x y->(∀id∈F2 x,Db hp hp' id)->RV0 hp' x y
 |.ow id,y,⟨n,hy,h⟩,hk=>⟨n,hy,fun b hb=>by
   obtain⟨b0,h0,e⟩:=hk id (by simp[F2]) b hb;rw[<-e];exact h b0 h0⟩
 |.cl _ [],_,h,_=>h
 |.cl _ (_::_),_,h,_=>h.elim
 |.int ..,_,h,_|.bool _,_,h,_|.str _,_,h,_|.sc _,_,h,_|.er _,_,h,_|.em,_,h,_|.im ..,_,h,_|.ar ..,_,h,_|.rf ..,_,h,_|.ir ..,_,h,_|.any,_,h,_=>h
 |.agg _,_,h,_=>h.elim
 |.tup _,_,h,_=>h.elim
theorem RV1.keeps{hp hp':THp}{x:SV}{y:V}(h:RV1 hp x y)(hk:∀id∈ZU x,Db hp hp' id):RV1 hp' x y:=by
 have key:∀{cs:List SV}{us:List V},(∀id∈cs.flatMap F2,Db hp hp' id)->RC (RV0 hp) cs us->RC (RV0 hp') cs us:=fun hk h=>
  h.mono fun x hx y hxy=>hxy.keeps fun id hid=>hk id (zb3.2 ⟨x,hx,hid⟩)
 cases x with
 |agg cs=>obtain⟨us,rfl,h⟩:=h;exact⟨us,rfl,key hk h⟩
 |cl f cs=>obtain⟨us,rfl,h⟩:=h;exact⟨us,rfl,key hk h⟩
 |int k n=>exact RV0.keeps (x:=.int k n) h hk
 |bool b=>exact RV0.keeps (x:=.bool b) h hk
 |str s=>exact RV0.keeps (x:=.str s) h hk
 |sc v=>exact RV0.keeps (x:=.sc v) h hk
 |em=>exact RV0.keeps (x:=.em) h hk
 |er e=>exact RV0.keeps (x:=.er e) h hk
 |im t l=>exact RV0.keeps (x:=.im t l) h hk
 |ow id=>exact RV0.keeps (x:=.ow id) h hk
 |ar a b c=>exact RV0.keeps (x:=.ar a b c) h hk
 |rf a b c=>exact RV0.keeps (x:=.rf a b c) h hk
 |ir a b c=>exact RV0.keeps (x:=.ir a b c) h hk
 |tup l=>exact h.elim
 |any=>trivial
theorem RV2.keeps{hp hp':THp}{x:SV}{y:V}(h:RV2 hp x y)(hk:∀id∈HL x,Db hp hp' id):RV2 hp' x y:=by
 cases x with
 |tup vs=>obtain⟨us,rfl,h⟩:=h;exact⟨us,rfl,h.mono fun x hx y hxy=>hxy.keeps fun id hid=>hk id (zb3.2 ⟨x,hx,hid⟩)⟩
 |agg cs=>exact RV1.keeps (x:=.agg cs) h hk
 |cl f cs=>exact RV1.keeps (x:=.cl f cs) h hk
 |int k n=>exact RV1.keeps (x:=.int k n) h hk
 |bool b=>exact RV1.keeps (x:=.bool b) h hk
 |str s=>exact RV1.keeps (x:=.str s) h hk
 |sc v=>exact RV1.keeps (x:=.sc v) h hk
 |em=>exact RV1.keeps (x:=.em) h hk
 |er e=>exact RV1.keeps (x:=.er e) h hk
 |im t l=>exact RV1.keeps (x:=.im t l) h hk
 |ow id=>exact RV1.keeps (x:=.ow id) h hk
 |ar a b c=>exact RV1.keeps (x:=.ar a b c) h hk
 |rf a b c=>exact RV1.keeps (x:=.rf a b c) h hk
 |ir a b c=>exact RV1.keeps (x:=.ir a b c) h hk
 |any=>trivial
def RB(hp:THp):TB->Blk->Prop
 |.box ty cs,k=>k.kind=.box/\k.ty=ty/\∃row,k.rows=[row]/\k.size=row.length/\RC (RV0 hp) cs row
 |.arr ty deep t l,k=>k.kind=.arr/\k.ty=ty/\k.deep=deep/\k.size=t.size/\RLx (RE t) l k.rows
 |.frz ty deep t l,k=>k.kind=.frz/\k.ty=ty/\k.deep=deep/\k.size=t.size/\RLx (RE t) l k.rows
theorem RB.keeps{hp hp':THp}:∀{b:TB}{k:Blk},RB hp b k->(∀id∈LT b,Db hp hp' id)->RB hp' b k
 |.box ty cs,k,⟨h1,h2,row,h3,h4,h5⟩,hk=>⟨h1,h2,row,h3,h4,h5.mono fun x hx y hxy=>hxy.keeps fun id hid=>hk id (zb3.2 ⟨x,hx,hid⟩)⟩
 |.arr ..,_,h,_=>h
 |.frz ..,_,h,_=>h
def RH(hp:THp)(h:Hp):Prop:=∀id b,AK hp id=some b->∃k,h id=some k/\RB hp b k
def RT(hp:THp)(tm:TTm)(m:Tm):Prop:=∀t,RV2 hp (CW tm t) (m t)
structure RS (st:TSt) (s:St):Prop where
 tm:RT st.hp st.tm s.tm
 hp:RH st.hp s.hp
 c:s.c=st.c
theorem AF(k:Nat)(x:Option TB)(l:THp)(i:Nat):AK ((k,x)::l) i=if i=k then x else AK l i:=by
 simp only[AK];by_cases h:i=k
 ·subst h;simp
 ·rw[zw h];have:Nat.beq i k=false:=by cases hb:Nat.beq i k with|false=>rfl|true=>exact absurd (za6 hb) h
  rw[this];rfl
theorem GZ(k:Nat)(x:SV)(l:TTm)(i:Nat):CW ((k,x)::l) i=if i=k then x else CW l i:=by
 simp only[CW];by_cases h:i=k
 ·subst h;simp
 ·rw[zw h];have:Nat.beq i k=false:=by cases hb:Nat.beq i k with|false=>rfl|true=>exact absurd (za6 hb) h
  rw[this];rfl
theorem AD5{tm:TTm}{t:Nat}:CW tm t=.any\/∃x∈tm,x.2=CW tm t:=by
 induction tm with
 |nil=>exact .inl rfl
 |cons a l ih=>
  obtain⟨k,x⟩:=a;rw[GZ]
  split
  ·exact .inr ⟨(k,x),by simp,rfl⟩
  ·rcases ih with h|⟨y,hy,h⟩
   ·exact .inl h
   ·exact .inr ⟨y,by simp[hy],h⟩
theorem A4U{hp:THp}{id:Nat}{b:TB}(h:AK hp id=some b):∃x∈hp,x.2=some b:=by
 induction hp with
 |nil=>cases h
 |cons a l ih=>
  obtain⟨k,x⟩:=a;rw[AF]at h
  split at h
  ·exact⟨(k,x),by simp,h⟩
  ·obtain⟨y,hy,h⟩:=ih h;exact⟨y,by simp[hy],h⟩
theorem TL{b:Nat}{l:List Nat}(h:A0L b l=true):b ∉ l:=by
 intro hm;have:=za5.1 h b hm;simp at this
theorem KM{tm:TTm}{hp:THp}{b:Nat}(h:HQ tm hp b=true)(t:Nat):b ∉ HL (CW tm t):=by
 simp only[HQ,za2]at h;rcases AD5 (tm:=tm) (t:=t)with h'|⟨x,hx,h'⟩
 ·rw[h'];simp[HL,ZU,F2]
 ·rw[<-h'];exact TL (za5.1 h.1 x hx)
theorem Tb{tm:TTm}{hp:THp}{b:Nat}(h:HQ tm hp b=true){id:Nat}{k:TB}(hk:AK hp id=some k):b ∉ LT k:=by
 simp only[HQ,za2]at h;obtain⟨x,hx,h'⟩:=A4U hk;have:=za5.1 h.2 x hx;rw[h']at this;exact TL this
theorem RT.keeps{hp hp':THp}{tm:TTm}{m:Tm}(h:RT hp tm m)(hk:∀t,∀id∈HL (CW tm t),Db hp hp' id):RT hp' tm m:=fun t=>(h t).keeps (hk t)
theorem LX{hp:THp}{b:Nat}{x:Option TB}{id:Nat}(h:id≠b):Db hp ((b,x)::hp) id:=fun k hk=>by
 rw[AF,zw h]at hk;exact⟨k,hk,rfl⟩
theorem ZF{hp:THp}{b:Nat}{x y:TB}(hx:AK hp b=some x)(hl:FY x=FY y)(id:Nat):Db hp ((b,some y)::hp) id:=fun k hk=>by
 rw[AF]at hk
 split at hk
 ·rename_i he;subst he;cases hk;exact⟨x,hx,hl⟩
 ·exact⟨k,hk,rfl⟩
theorem AX6{hp:THp}{b:Nat}(id:Nat):Db hp ((b,none)::hp) id:=fun k hk=>by
 rw[AF]at hk
 split at hk
 ·cases hk
 ·exact⟨k,hk,rfl⟩
theorem Ia:∀(l:List Nat)(hp:THp)(id:Nat),Db hp (D9 hp l) id
 |[],hp,id=>Db.refl hp id
 |b::l,hp,id=>(AX6 id).trans (Ia l _ id)
theorem TA:∀(l:List Nat)(hp:THp)(id:Nat)(b:TB),AK (D9 hp l) id=some b->AK hp id=some b/\id ∉ l
 |[],_,_,_,h=>⟨h,by simp⟩
 |x::l,hp,id,b,h=>by
  obtain⟨h1,h2⟩:=TA l _ id b h;rw[AF]at h1
  split at h1
  ·cases h1
  ·rename_i hne;exact⟨h1,by simp[hne,h2]⟩
theorem RH.kill{hp:THp}{h:Hp}(hr:RH hp h)(l:List Nat):RH (D9 hp l) (Ev.kill h l):=fun id b hb=>by
 obtain⟨h1,h2⟩:=TA l hp id b hb;obtain⟨k,hk,hrb⟩:=hr id b h1;exact⟨k,by rw[Kz l h id h2];exact hk,hrb.keeps fun i _=>Ia l hp i⟩
theorem RH.put{hp:THp}{h:Hp}(hr:RH hp h){b:Nat}{x:TB}{k:Blk}(hk:∀id∈LT x,Db hp ((b,some x)::hp) id)(hold:∀id y,id≠b->AK hp id=some y->∀i∈LT y,Db hp ((b,some x)::hp) i)(hx:RB hp x k):RH ((b,some x)::hp) (upd h b (some k)):=fun id y hy=>by
 rw[AF]at hy
 split at hy
 ·rename_i he;subst he;cases hy
  exact⟨k,by simp[upd],hx.keeps hk⟩
 ·rename_i he;obtain⟨k',hk',hr'⟩:=hr id y hy;exact⟨k',by simp[upd,he,hk'],hr'.keeps (hold id y he hy)⟩
end
section
open Go
theorem RE.cells{hp:THp}:∀{t:Ty}{a:t.den}{row:List V},RE t a row->RC (RV0 hp) (AF6 t a) row
 |.int _,_,_,h=>by simp only[RE]at h;subst h;exact⟨rfl,trivial⟩
 |.bool,_,_,h=>by simp only[RE]at h;subst h;exact⟨rfl,trivial⟩
 |.str,_,_,h=>by simp only[RE]at h;subst h;exact⟨rfl,trivial⟩
 |.pair a b,x,_,h=>by
  obtain⟨r1,r2,rfl,h1,h2⟩:=h;exact h1.cells.append h2.cells
 |.sl e,l,_,h=>by
  rcases h with⟨rfl,rfl⟩|⟨rows,rfl,hr⟩
  ·exact⟨.inl ⟨rfl,rfl⟩,trivial⟩
  ·exact⟨.inr ⟨rows,rfl,hr⟩,trivial⟩
theorem GR{t e:Ty}(h:t=e){l:List t.den}{rows:List (List V)}(hr:RLx (RE t) l rows):RLx (RE e) (Jj h l) rows:=by subst h;exact hr
theorem Av7{hp:THp}{e:Ty}{x:SV}{l:List e.den}{y:V}(h:asL e x=some l)(hv:RV0 hp x y):(l=[]/\y=.em)\/∃rows,y=.im rows/\RLx (RE e) l rows:=by
 unfold asL at h
 split at h
 ·cases h;exact .inl ⟨rfl,hv⟩
 ·split at h
  ·rename_i t l' he;cases h
   subst he;rcases hv with⟨rfl,rfl⟩|⟨rows,rfl,hr⟩
   ·exact .inl ⟨rfl,rfl⟩
   ·exact .inr ⟨rows,rfl,hr⟩
  ·cases h
 ·cases h
theorem Xa{hp:THp}:∀{t:Ty}{cs r:List SV}{x:t.den}{us:List V},UR t cs=some (x,r)->RC (RV0 hp) cs us->∃row us',us=row++us'/\RE t x row/\RC (RV0 hp) r us'
 |.int k,cs,r,x,us,h,hv=>by
  cases cs with
  |nil=>simp[UR]at h
  |cons c cs=>
   cases c<;>simp only[UR,reduceCtorEq]at h
   rename_i k' n
   split at h
   ·rename_i hk;cases h
    subst hk;cases us with
    |nil=>exact hv.elim
    |cons u us=>obtain⟨h1,h2⟩:=hv;exact⟨[u],us,rfl,by simp only[RE];rw[h1],h2⟩
   ·cases h
 |.bool,cs,r,x,us,h,hv=>by
  cases cs with
  |nil=>simp[UR]at h
  |cons c cs=>
   cases c<;>simp only[UR,reduceCtorEq]at h
   cases h
   cases us with
   |nil=>exact hv.elim
   |cons u us=>obtain⟨h1,h2⟩:=hv;exact⟨[u],us,rfl,by simp only[RE];rw[h1],h2⟩
 |.str,cs,r,x,us,h,hv=>by
  cases cs with
  |nil=>simp[UR]at h
  |cons c cs=>
   cases c<;>simp only[UR,reduceCtorEq]at h
   cases h
   cases us with
   |nil=>exact hv.elim
   |cons u us=>obtain⟨h1,h2⟩:=hv;exact⟨[u],us,rfl,by simp only[RE];rw[h1],h2⟩
 |.pair a b,cs,r,x,us,h,hv=>by
  simp only[UR]at h
  split at h
  ·rename_i x1 r1 h1
   split at h
   ·rename_i y1 r2 h2;cases h
    obtain⟨row1,us1,rfl,e1,v1⟩:=Xa h1 hv;obtain⟨row2,us2,rfl,e2,v2⟩:=Xa h2 v1;exact⟨row1++row2,us2,by simp,⟨row1,row2,rfl,e1,e2⟩,v2⟩
   ·cases h
  ·cases h
 |.sl e,cs,r,x,us,h,hv=>by
  cases cs with
  |nil=>simp[UR]at h
  |cons c cs=>
   simp only[UR]at h
   split at h
   ·rename_i l h1;cases h
    cases us with
    |nil=>exact hv.elim
    |cons u us=>
     obtain⟨q1,q2⟩:=hv;refine⟨[u],us,rfl,?_,q2⟩
     rcases Av7 h1 q1 with⟨rfl,rfl⟩|⟨rows,rfl,hr⟩
     ·exact .inl ⟨rfl,rfl⟩
     ·exact .inr ⟨rows,rfl,hr⟩
   ·cases h
theorem YC{hp:THp}{t:Ty}{cs:List SV}{x:t.den}{us:List V}(h:A4I t cs=some x)(hv:RC (RV0 hp) cs us):RE t x us:=by
 unfold A4I at h
 split at h
 ·rename_i y hd;cases h
  obtain⟨row,us',rfl,e,v⟩:=Xa hd hv;cases us' with
  |nil=>simpa using e
  |cons a l=>exact v.elim
 ·cases h
theorem Az1{hp:THp}(c:Value):RV0 hp (So c) (DT c):=by
 unfold So DT
 split
 ·simp[IC,RV0]
 ·simp[IC,RV0]
 ·simp[IC,RV0]
 ·rfl
 ·split
  ·rename_i h1 h2 h3 h4 h5
   split
   ·exact absurd rfl h4
   ·rw[zr h5];rfl
  ·trivial
theorem Ai2{hp:THp}:∀(l:List Value),RC (RV0 hp) (l.map So) (l.map DT)
 |[]=>trivial
 |c::l=>⟨Az1 c,Ai2 l⟩
theorem A19{hp:THp}(c:Value):RV2 hp (Yp c) (Jq c):=by
 unfold Yp Jq
 split
 ·rename_i cs;exact⟨_,rfl,Ai2 cs.toList⟩
 ·rename_i hn
  split
  ·rename_i cs;exact absurd rfl (hn cs)
  ·exact(Az1 c).to1.to2
theorem A8{hp:THp}{tm:TTm}{m:Tm}(h:RT hp tm m)(x:Operand):RV2 hp (opT tm x) (AJ m x):=by
 cases x with
 |tmp t=>exact h t
 |const c=>exact A19 c
 |global g=>trivial
 |func f=>exact⟨[],rfl,trivial⟩
theorem SD{hp:THp}:∀(l:List V),RC (RV0 hp) (l.map VE) l
 |[]=>trivial
 |x::l=>by
  refine⟨?_,SD l⟩
  unfold VE
  split<;>first|rfl|trivial
theorem KL{α:Type}(x:SV)(F:SV->α):Wp x F=F x:=by cases x<;>rfl
section
variable {hp:THp} {x:SV} {y:V}
theorem KF{k:IntKind}{n:Int}(h:RV2 hp (.int k n) y):y=.v (.int k n):=h
theorem P4{b:Bool}(h:RV2 hp (.bool b) y):y=.v (.bool b):=h
theorem UA{s:Str}(h:RV2 hp (.str s) y):y=.v (.string ⟨s.toArray⟩):=h
theorem XD{cs:List SV}(h:RV2 hp (.agg cs) y):∃us,y=.agg us/\RC (RV0 hp) cs us:=h
theorem A0B{f:FuncId}{cs:List SV}(h:RV2 hp (.cl f cs) y):∃us,y=.cl f us/\RC (RV0 hp) cs us:=h
theorem Ka(hv:RV2 hp x y)(hok:(DO x).all okT=true):RC (RV0 hp) (DO x) (flat y)/\(flat y).all BF=true:=by
 have one:∀{x:SV}{y:V},RV0 hp x y->okT x=true->BF y=true:=by
  intro x y h hk;cases x with
  |int k n=>have:y=_:=h;subst this;rfl
  |bool b=>have:y=_:=h;subst this;rfl
  |str s=>have:y=_:=h;subst this;rfl
  |sc v=>have:y=_:=h;subst this;rfl
  |em=>have:y=_:=h;subst this;rfl
  |er e=>simp[okT]at hk
  |im t l=>rcases h with⟨_,rfl⟩|⟨rows,rfl,_⟩<;>rfl
  |ow id=>obtain⟨n,rfl,_⟩:=h;rfl
  |ar a b c=>have:y=_:=h;subst this;rfl
  |rf a b c=>have:y=_:=h;subst this;rfl
  |ir a b c=>obtain⟨row,rfl,_⟩:=h;rfl
  |agg cs=>simp[okT]at hk
  |tup cs=>simp[okT]at hk
  |cl f cs=>cases cs with
   |nil=>have:y=_:=h;subst this;rfl
   |cons a l=>simp[okT]at hk
  |any=>simp[okT]at hk
 have many:∀{xs:List SV}{ys:List V},RC (RV0 hp) xs ys->xs.all okT=true->ys.all BF=true:=by
  intro xs
  induction xs with
  |nil=>intro ys h _;cases ys with|nil=>rfl|cons a l=>exact h.elim
  |cons a l ih=>
   intro ys h hk;cases ys with
   |nil=>exact h.elim
   |cons b m=>
    simp only[zd3,za2]at hk⊢
    exact⟨one h.1 hk.1,ih h.2 hk.2⟩
 have single:RV0 hp x y->DO x=[x]->flat y=[y]->RC (RV0 hp) (DO x) (flat y)/\(flat y).all BF=true:=by
  intro h h1 h2;rw[h1]at hok⊢
  rw[h2];exact⟨⟨h,trivial⟩,many (xs:=[x]) (ys:=[y]) ⟨h,trivial⟩ hok⟩
 cases x with
 |agg cs=>obtain⟨us,rfl,h⟩:=hv;exact⟨h,many h hok⟩
 |int k n=>have:y=_:=hv;subst this;exact single rfl rfl rfl
 |bool b=>have:y=_:=hv;subst this;exact single rfl rfl rfl
 |str s=>have:y=_:=hv;subst this;exact single rfl rfl rfl
 |sc v=>have:y=_:=hv;subst this;exact single rfl rfl rfl
 |em=>have:y=_:=hv;subst this;exact single rfl rfl rfl
 |er e=>simp[DO,okT]at hok
 |im t l=>have hv':RV0 hp (.im t l) y:=hv;rcases hv with⟨_,rfl⟩|⟨rows,rfl,_⟩<;>exact single hv' rfl rfl
 |ow id=>have hv':RV0 hp (.ow id) y:=hv;obtain⟨n,rfl,_⟩:=hv;exact single hv' rfl rfl
 |ar a b c=>have:y=_:=hv;subst this;exact single rfl rfl rfl
 |rf a b c=>have:y=_:=hv;subst this;exact single rfl rfl rfl
 |ir a b c=>have hv':RV0 hp (.ir a b c) y:=hv;obtain⟨row,rfl,_⟩:=hv;exact single hv' rfl rfl
 |tup cs=>simp[DO,okT]at hok
 |cl f cs=>
  cases cs with
  |nil=>
   obtain⟨us,rfl,h⟩:=hv;cases us with
   |nil=>exact single rfl rfl rfl
   |cons a l=>exact h.elim
  |cons a l=>simp[DO,okT]at hok
 |any=>simp[DO,okT]at hok
end
theorem WU{hp:THp}{g:Bool}{cs:List SV}{us:List V}{x:SV}(h:mkT g cs=some x)(hr:RC (RV0 hp) cs us):∃y,mk g us=some y/\RV2 hp x y:=by
 unfold mkT at h
 split at h
 ·rename_i hg;cases h
  exact⟨.agg us,by simp[mk,hg],us,rfl,hr⟩
 ·rename_i hg
  split at h
  ·cases h
   cases us with
   |nil=>exact hr.elim
   |cons u us=>
    cases us with
    |nil=>exact⟨u,by simp[mk,hg],hr.1.to1.to2⟩
    |cons a l=>exact hr.2.elim
  ·cases h
theorem Sa{α:Type}{g:Bool}{cs:Option (List SV)}{K:SV->Option α}{z:α}(h:tMk g cs K=some z):∃l x,cs=some l/\mkT g l=some x/\K x=some z:=by
 unfold tMk at h
 split at h
 ·split at h
  ·rename_i x hx;rw[KL]at h;exact⟨_,x,rfl,hx,h⟩
  ·cases h
 ·cases h
theorem Bq{α β:Type}{x:Option α}{f:α->Option β}{z:β}(h:x.bind f=some z):∃a,x=some a/\f a=some z:=by
 cases x with
 |none=>cases h
 |some a=>exact⟨a,rfl,h⟩
theorem Qu{α:Type}{c:Bool}{A:Option α}{z:α}(h:cond c none A=some z):c=false/\A=some z:=by
 cases c with
 |true=>cases h
 |false=>exact⟨rfl,h⟩
theorem Dx{α:Type}{c:Bool}{A:Option α}{z:α}(h:cond c A none=some z):c=true/\A=some z:=by
 cases c with
 |false=>cases h
 |true=>exact⟨rfl,h⟩
theorem Gj{α:Type}{X:Option V}{k:IntKind}{n:Int}{K:SV->Option α}{z:α}(h:K (.int k n)=some z)(he:X=some (.v (.int k n))):∃v u,X=some (.v u)/\(∀hp,RV2 hp v (.v u))/\K v=some z:=⟨.int k n,.int k n,he,fun _=>rfl,h⟩
theorem It{α:Type}{X:Option V}{b:Bool}{K:SV->Option α}{z:α}(h:K (.bool b)=some z)(he:X=some (.v (.bool b))):∃v u,X=some (.v u)/\(∀hp,RV2 hp v (.v u))/\K v=some z:=⟨.bool b,.bool b,he,fun _=>rfl,h⟩
theorem A45{α:Type}{X:Option V}{s:Str}{K:SV->Option α}{z:α}(h:K (.str s)=some z)(he:X=some (.v (.string ⟨s.toArray⟩))):∃v u,X=some (.v u)/\(∀hp,RV2 hp v (.v u))/\K v=some z:=⟨.str s,.string ⟨s.toArray⟩,he,fun _=>rfl,h⟩
theorem A65{α:Type}{P:Program}{op:BinOp}{t:TypeId}{x y:Operand}{k k':IntKind}{a b:Int}{K:SV->Option α}{z:α}(h:GU op k k' a b K=some z):
  ∃v u,((Ap P (do eqGuard op t x y (.int k a) (.int k' b);binOp op t (.int k a) (.int k' b))).bind AG)=some (.v u)/\(∀hp,RV2 hp v (.v u))/\K v=some z:=by
 have hk:k=k'->(op≠ .shl/\op≠ .shr)->∃v u,((Ap P (do eqGuard op t x y (.int k a) (.int k b);binOp op t (.int k a) (.int k b))).bind AG)=some (.v u)/\(∀hp,RV2 hp v (.v u))/\K v=some z:=by
  intro he hop;subst he;cases op
  case quo=>
   simp only[GU,if_true]at h;obtain⟨h1,h2⟩:=Qu h;have h0:¬b=0:=by simpa using h1
   refine Gj h2 ?_
   show((Ap P (if k≠k then _ else if b=0 then _ else _)).bind AG)=_;rw[zw (by simp),zw h0];rfl
  case rem=>
   simp only[GU,if_true]at h;obtain⟨h1,h2⟩:=Qu h;have h0:¬b=0:=by simpa using h1
   refine Gj h2 ?_
   show((Ap P (if k≠k then _ else if b=0 then _ else _)).bind AG)=_;rw[zw (by simp),zw h0];rfl
  case shl=>exact absurd rfl hop.1
  case shr=>exact absurd rfl hop.2
  case andNot=>simp only[GU,if_true,reduceCtorEq]at h
  case add=>simp only[GU,if_true]at h;exact Gj h (by show((Ap P (if k≠k then _ else _)).bind AG)=_;rw[zw (by simp)];rfl)
  case sub=>simp only[GU,if_true]at h;exact Gj h (by show((Ap P (if k≠k then _ else _)).bind AG)=_;rw[zw (by simp)];rfl)
  case mul=>simp only[GU,if_true]at h;exact Gj h (by show((Ap P (if k≠k then _ else _)).bind AG)=_;rw[zw (by simp)];rfl)
  case and=>simp only[GU,if_true]at h;exact Gj h (by show((Ap P (if k≠k then _ else _)).bind AG)=_;rw[zw (by simp)];rfl)
  case or=>simp only[GU,if_true]at h;exact Gj h (by show((Ap P (if k≠k then _ else _)).bind AG)=_;rw[zw (by simp)];rfl)
  case xor=>simp only[GU,if_true]at h;exact Gj h (by show((Ap P (if k≠k then _ else _)).bind AG)=_;rw[zw (by simp)];rfl)
  case eql=>simp only[GU,if_true]at h;exact It h (by show((Ap P (if k≠k then _ else _)).bind AG)=_;rw[zw (by simp)];rfl)
  case neq=>simp only[GU,if_true]at h;exact It h (by show((Ap P (if k≠k then _ else _)).bind AG)=_;rw[zw (by simp)];rfl)
  case lss=>simp only[GU,if_true]at h;exact It h (by show((Ap P (if k≠k then _ else _)).bind AG)=_;rw[zw (by simp)];rfl)
  case leq=>simp only[GU,if_true]at h;exact It h (by show((Ap P (if k≠k then _ else _)).bind AG)=_;rw[zw (by simp)];rfl)
  case gtr=>simp only[GU,if_true]at h;exact It h (by show((Ap P (if k≠k then _ else _)).bind AG)=_;rw[zw (by simp)];rfl)
  case geq=>simp only[GU,if_true]at h;exact It h (by show((Ap P (if k≠k then _ else _)).bind AG)=_;rw[zw (by simp)];rfl)
 by_cases h1:op=.shl
 ·subst h1;simp only[GU]at h;obtain⟨h1,h2⟩:=Qu h;have h0:¬b<0:=by simpa using h1
  refine Gj h2 ?_
  show((Ap P (if b<0 then _ else _)).bind AG)=_;rw[zw h0];rfl
 ·by_cases h2:op=.shr
  ·subst h2;simp only[GU]at h;obtain⟨h1,h2⟩:=Qu h;have h0:¬b<0:=by simpa using h1
   refine Gj h2 ?_
   show((Ap P (if b<0 then _ else _)).bind AG)=_;rw[zw h0];rfl
  ·by_cases hkk:k=k'
   ·subst hkk;exact hk rfl ⟨h1,h2⟩
   ·exfalso
    cases op<;>simp only[GU,zw hkk,reduceCtorEq]at h
    ·exact h1 rfl
    ·exact h2 rfl
theorem A6o{α:Type}{P:Program}{op:BinOp}{t:TypeId}{x y:Operand}{s u:Str}{K:SV->Option α}{z:α}(h:A4X op s u K=some z):
  ∃v w,((Ap P (do eqGuard op t x y (.string ⟨s.toArray⟩) (.string ⟨u.toArray⟩);binOp op t (.string ⟨s.toArray⟩) (.string ⟨u.toArray⟩))).bind AG)=some (.v w)/\(∀hp,RV2 hp v (.v w))/\K v=some z:=by
 have e1:(ByteArray.mk s.toArray).toList=s:=ByteArray.toList_mk s;have e2:(ByteArray.mk u.toArray).toList=u:=ByteArray.toList_mk u;cases op<;>simp only[A4X,reduceCtorEq]at h
 case add=>
  obtain⟨r,h1,h2⟩:=Bq h;unfold F7 at h1
  split at h1
  ·rename_i hle;cases h1
   refine A45 h2 ?_
   show((Ap P (if(((ByteArray.mk s.toArray).size+(ByteArray.mk u.toArray).size:Nat):Int)>IntKind.i64.max then _ else _)).bind AG)=_;have hs:(ByteArray.mk s.toArray).size=s.length:=by simp[ByteArray.size]
   have hu:(ByteArray.mk u.toArray).size=u.length:=by simp[ByteArray.size]
   have hm:IntKind.i64.max=9223372036854775807:=by decide
   rw[zw (by rw[hs,hu,hm];omega)];have:(ByteArray.mk s.toArray)++(ByteArray.mk u.toArray)=⟨(s++u).toArray⟩:=by
    apply ByteArray.ext;simp
   show some (V.v (.string ((ByteArray.mk s.toArray)++(ByteArray.mk u.toArray))))=_;rw[this]
  ·cases h1
 all_goals
  refine It h ?_
  show some (V.v (.bool _))=_;simp only[e1,e2]
end
section
open Go
abbrev EqR:SV->V->Prop:=fun s u=>∃k n,s=.int k n/\u=.v (.int k n)
def A93(P:Program)(t:TypeId)(n:Nat):Prop:=∀(x y:Operand)(cs ds:List SV)(us vs:List Value)(r:Bool),us.length=n->RC EqR cs (us.map .v)->
 RC EqR ds (vs.map .v)->Hx cs ds=some r->
 Ap P (do eqGuard .eql t x y (.agg us.toArray) (.agg vs.toArray);binOp .eql t (.agg us.toArray) (.agg vs.toArray))=some (.bool r)/\
 Ap P (do eqGuard .neq t x y (.agg us.toArray) (.agg vs.toArray);binOp .neq t (.agg us.toArray) (.agg vs.toArray))=some (.bool (!r))
def A87(P:Program)(t:TypeId):Prop:=∀d,AX P t=some d->A93 P t d.size
structure XOK (P:Program) (X:TX):Prop where
 ty:∀t d,getD X.ty t=some d->AX P t=some d
 bools:∀t,X.bools.contains t=true->P.underlying t=some .bool
 eqs:∀t,X.eqs.contains t=true->A87 P t
section
variable {α:Type} {P:Program} {R:Rel} {cf:Cfg} {X:TX} {b:Nat} {tm:TTm} {m:Tm} {hp hpm:THp} {hv hvm:Hp} {K:SV->THp->Cls->Option α} {z:α}
def C7(P:Program)(R:Rel)(cf:Cfg)(op:Op)(b:Nat)(m:Tm)(hp:THp)(hpm:THp)(hvm:Hp)(K:SV->THp->Cls->Option α)(z:α):Prop:=
 ∃x y cls,K x hpm cls=some z/\RV2 hp x y/\∀KV:Cx,KV y hvm cls->BC P R cf op b (AJ m) hvm KV
def RHm(hpm hp:THp)(hvm:Hp):Prop:=∀id b,AK hpm id=some b->AK hp id=some b/\∃k,hvm id=some k/\RB hp b k
theorem RH.toM(h:RH hp hv):RHm hp hp hv:=fun id b hb=>⟨hb,h id b hb⟩
theorem Ba{op:Op}{x:SV}{y:V}(h:K x hpm .T=some z)(hr:RV2 hp x y)(hn:Az P op (AJ m)=some y)
  (hop:∀KV:Cx,BC P R cf op b (AJ m) hvm KV=(match Az P op (AJ m)with|some x=>KV x hvm .T|none=>BG (Bh P op (AJ m) hvm b) fun z=>z.2.length<=16/\KV z.1 (inst hvm b z.2) .M)):C7 P R cf op b m hp hpm hvm K z:=
 ⟨x,y,.T,h,hr,fun KV hk=>by rw[hop,hn];exact hk⟩
theorem MV{op:Op}{x:SV}{y:V}(h:K x hpm .M=some z)(hr:RV2 hp x y)(hn:Az P op (AJ m)=none)(hm:Bh P op (AJ m) hvm b=some (y,[]))
  (hop:∀KV:Cx,BC P R cf op b (AJ m) hvm KV=(match Az P op (AJ m)with|some x=>KV x hvm .T|none=>BG (Bh P op (AJ m) hvm b) fun z=>z.2.length<=16/\KV z.1 (inst hvm b z.2) .M)):C7 P R cf op b m hp hpm hvm K z:=
 ⟨x,y,.M,h,hr,fun KV hk=>by rw[hop,hn];simp only[hm,Ao,inst];exact⟨by simp,hk⟩⟩
theorem A8K{x:Operand}(hr:RT hp tm m)(h:BW X (.move x) b tm hpm K=some z):C7 P R cf (.move x) b m hp hpm hvm K z:=by
 simp only[BW,KL]at h;exact Ba h (A8 hr x) rfl fun _=>rfl
theorem A4M{x:Operand}(hr:RT hp tm m)(h:BW X (.assign x) b tm hpm K=some z):C7 P R cf (.assign x) b m hp hpm hvm K z:=by
 simp only[BW,KL]at h;exact Ba h (A8 hr x) rfl fun _=>rfl
theorem A79{c x y:Operand}(hr:RT hp tm m)(h:BW X (.pick c x y) b tm hpm K=some z):C7 P R cf (.pick c x y) b m hp hpm hvm K z:=by
 simp only[BW,KL]at h
 split at h
 ·rename_i t ht;have hc:=A8 hr c;rw[ht]at hc;have hc:=P4 hc;cases t with
  |true=>exact Ba h (A8 hr x) (by simp[Az,hc]) fun _=>rfl
  |false=>exact Ba h (A8 hr y) (by simp[Az,hc]) fun _=>rfl
 ·cases h
theorem A9t{x:Operand}(hr:RT hp tm m)(h:BW X (.nilCheck x) b tm hpm K=some z):C7 P R cf (.nilCheck x) b m hp hpm hvm K z:=by
 simp only[BW]at h;have hc:=A8 hr x
 split at h
 ·rename_i id r c hx;rw[hx]at hc;have hc':AJ m x=.rf id r c:=hc;exact Ba h (y:=.rf id r c) rfl (by simp[Az,hc']) fun _=>rfl
 ·rename_i t a c hx;rw[hx]at hc;obtain⟨row,he,hre⟩:=hc;exact Ba h (y:=.ir row c) ⟨row,rfl,hre⟩ (by simp[Az,he]) fun _=>rfl
 ·rename_i f caps hx;rw[hx]at hc;obtain⟨us,he,hre⟩:=A0B hc;exact Ba h (y:=.cl f us) ⟨us,rfl,hre⟩ (by simp[Az,he]) fun _=>rfl
 ·cases h
theorem A9U{u:UnOp}{t:TypeId}{x:Operand}(hr:RT hp tm m)(h:BW X (.unOp u t x) b tm hpm K=some z):C7 P R cf (.unOp u t x) b m hp hpm hvm K z:=by
 simp only[BW,tUn]at h;have hc:=A8 hr x
 split at h
 ·rename_i bb hx;rw[hx]at hc;have hc:=P4 hc;exact Ba h (y:=.v (.bool !bb)) rfl (by simp only[Az,hc];rfl) fun _=>rfl
 ·rename_i k n hx;rw[hx]at hc;have hc:=KF hc;exact Ba h (y:=.v (.int k (k.wrap (0-n)))) rfl (by simp only[Az,hc];rfl) fun _=>rfl
 ·cases h
theorem A3l{cs ds:List SV}{r:Bool}(h:Hx cs ds=some r):∀{us vs:List V},RC (RV0 hp) cs us->RC (RV0 hp) ds vs->∃us' vs':List Value,us=us'.map .v/\vs=vs'.map .v/\
  RC EqR cs (us'.map .v)/\RC EqR ds (vs'.map .v):=by
 induction cs generalizing ds r with
 |nil=>
  intro us vs h1 h2;cases ds with
  |nil=>
   cases us with
   |nil=>cases vs with
    |nil=>exact⟨[],[],rfl,rfl,trivial,trivial⟩
    |cons a l=>exact h2.elim
   |cons a l=>exact h1.elim
  |cons a l=>simp[Hx]at h
 |cons c cs ih=>
  intro us vs h1 h2;cases ds with
  |nil=>cases c<;>simp[Hx]at h
  |cons d ds=>
   cases us with
   |nil=>exact h1.elim
   |cons u us=>
    cases vs with
    |nil=>exact h2.elim
    |cons v vs=>
     cases c<;>cases d<;>first|(simp[Hx]at h;done)|skip
     rename_i k n k' n';have hrest:∃r',Hx cs ds=some r':=by
      cases cs with
      |nil=>
       cases ds with
       |nil=>exact⟨true,rfl⟩
       |cons a l=>simp only[Hx]at h;split at h<;>simp_all
      |cons a l=>
       simp only[Hx]at h
       split at h
       ·cases he:Hx (a::l) ds with
        |none=>rw[he]at h;cases h
        |some r'=>exact⟨r',rfl⟩
       ·cases h
     obtain⟨r',hr'⟩:=hrest;obtain⟨us',vs',e1,e2,e3,e4⟩:=ih hr' h1.2 h2.2;have q1:u=.v (.int k n):=h1.1;have q2:v=.v (.int k' n'):=h2.1;subst q1;subst q2;subst e1;subst e2;exact⟨_::us',_::vs',rfl,rfl,⟨⟨_,_,rfl,rfl⟩,e3⟩,⟨⟨_,_,rfl,rfl⟩,e4⟩⟩
theorem FN{β:Type}{t:TypeId}{d:TypeDesc}(hu:P.underlying t=some d)(f:TypeDesc->Sem β):Ap P (underlying t>>=f)=Ap P (f d):=by
 show Ap P ((match P.underlying t with|some d=>(pure d:Sem TypeDesc)|none=>stuck "no such type")>>=f)=_;rw[hu];rfl
theorem A1u{t:TypeId}(hu:P.underlying t=some .bool)(p q:Bool):Ap P (Op.equal t (.bool p) (.bool q))=some (p==q):=by
 show Ap P (Op.equalIn (9999+1) t (.bool p) (.bool q))=_;unfold Op.equalIn;rw[FN hu];rfl
theorem Ta{α β:Type}(f:α->Sem β)(s:Sem α)(a:α)(h:Ap P s=some a):Ap P (s>>=f)=Ap P (f a):=by
 induction s with
 |pure b=>simp[Ap]at h;subst h;rfl
 |program k ih=>exact ih P (by simpa[Ap]using h)
 |_=>simp[Ap]at h
theorem Nt:∀(l:List Value),C6 (l.map V.v)=some l
 |[]=>rfl
 |x::l=>by simp[C6,Nt l]
theorem A9D{op:BinOp}{t yt:TypeId}{x y:Operand}(hX:XOK P X)(hr:RT hp tm m)(h:BW X (.binOp op t x y yt) b tm hpm K=some z):C7 P R cf (.binOp op t x y yt) b m hp hpm hvm K z:=by
 simp only[BW]at h;have hx:=A8 hr x;have hy:=A8 hr y;cases hnc:A8w op y with
 |true=>
  rw[hnc]at h;simp only at h
  split at h
  case h_2=>cases h
  rename_i d ty l hd hl
  split at h
  case h_2=>cases h
  rename_i e he;obtain⟨u,hu,h2⟩:=Bq h;rw[hl]at hx;have hne:∃r rows,AJ m x=.im (r::rows):=by
   cases l with
   |nil=>cases hu
   |cons a l=>
    rcases hx with⟨h0,_⟩|⟨rows,hrow,hrl⟩
    ·cases h0
    ·cases rows with
     |nil=>exact absurd hrl.1 (by simp)
     |cons r rows=>exact⟨r,rows,hrow⟩
  obtain⟨r,rows,hxv⟩:=hne;have hsl:RI P t=true:=by unfold RI;rw[hX.ty t d hd];simp[he]
  refine Ba h2 (y:=.v (.bool false)) rfl ?_ fun _=>rfl
  unfold A8w at hnc
  split at hnc
  ·simp only[Az,hxv,IL,SH,hsl]
  ·cases hnc
 |false=>
 rw[hnc]at h;simp only at h;have h:(∃s e,erC op y=some s/\opT tm x=.er e/\AZ2 X t=true/\K (.bool (cond s (!e) e)) hpm .T=some z)\/A6H X op t (opT tm x) (opT tm y) (fun v=>K v hpm .T)=some z:=by
  split at h
  ·rename_i s hs
   split at h
   ·rename_i e he;cases hi:AZ2 X t with
    |true=>rw[hi]at h;exact .inl ⟨s,e,hs,he,rfl,h⟩
    |false=>rw[hi]at h;cases h
   ·exact .inr h
  ·exact .inr h
 rcases h with⟨s,e,hs,he,hi,h⟩|h
 ·rw[he]at hx;have hx:AJ m x=.er e:=hx;have hic:AC2 P t=true:=by
   unfold AZ2 at hi
   split at hi
   ·rename_i d hd;unfold AC2;rw[hX.ty t d hd];exact hi
   ·cases hi
  unfold erC at hs
  split at hs
  ·cases hs
   refine Ba h (y:=.v (.bool !e)) rfl ?_ fun _=>rfl
   simp only[Az,hx,IL,SH,A2K,hic]
  ·cases hs
   refine Ba h (y:=.v (.bool e)) rfl ?_ fun _=>rfl
   simp only[Az,hx,IL,SH,A2K,hic]
  ·cases hs
 simp only[A6H]at h
 split at h
 ·rename_i k a k' c e1 e2;rw[e1]at hx;rw[e2]at hy;have hx:=KF hx;have hy:=KF hy;obtain⟨v,u,q1,q2,q3⟩:=A65 (P:=P) (t:=t) (x:=x) (y:=y) h;exact Ba q3 (q2 hp) (by simp only[Az,hx,hy,IL];exact q1) fun _=>rfl
 ·rename_i s u e1 e2;rw[e1]at hx;rw[e2]at hy;have hx:=UA hx;have hy:=UA hy;obtain⟨v,u,q1,q2,q3⟩:=A6o (P:=P) (t:=t) (x:=x) (y:=y) h;exact Ba q3 (q2 hp) (by simp only[Az,hx,hy,IL];exact q1) fun _=>rfl
 ·rename_i p q e1 e2;rw[e1]at hx;rw[e2]at hy;have hx:=P4 hx;have hy:=P4 hy
  split at h
  ·rename_i hb;have hu:=hX.bools t hb;have heq:=A1u hu p q
   split at h
   ·refine Ba h (y:=.v (.bool (p==q))) rfl ?_ fun _=>rfl
    simp only[Az,hx,hy,IL];show((Ap P (do let r <-Op.equal t (.bool p) (.bool q);pure (.bool r))).bind AG)=_;rw[Ta _ _ _ heq];rfl
   ·refine Ba h (y:=.v (.bool !(p==q))) rfl ?_ fun _=>rfl
    simp only[Az,hx,hy,IL];show((Ap P (do let r <-Op.equal t (.bool p) (.bool q);pure (.bool !r))).bind AG)=_;rw[Ta _ _ _ heq];rfl
   ·cases h
  ·cases h
 ·rename_i cs ds e1 e2;rw[e1]at hx;rw[e2]at hy;obtain⟨us,hx,r1⟩:=XD hx;obtain⟨vs,hy,r2⟩:=XD hy
  split at h
  ·rename_i ht
   split at h
   ·rename_i d r hd hq
    split at h
    case isFalse=>cases h
    rename_i hlen;obtain⟨us',vs',rfl,rfl,q1,q2⟩:=A3l hq r1 r2;have hl:us'.length=d.size:=by
     have:=RC.length q1;rw[zd0]at this;rw[this];exact za6 hlen
    obtain⟨p1,p2⟩:=hX.eqs t ht d (hX.ty t d hd) x y cs ds us' vs' r hl q1 q2 hq
    split at h
    ·exact Ba h (y:=.v (.bool r)) rfl (by simp only[Az,hx,hy,IL,Nt];rw[p1];rfl) fun _=>rfl
    ·exact Ba h (y:=.v (.bool !r)) rfl (by simp only[Az,hx,hy,IL,Nt];rw[p2];rfl) fun _=>rfl
    ·cases h
   ·cases h
  ·cases h
 ·cases h
end
end
section
open Go
variable {P:Program}
end
section
open Go
section
variable {α:Type} {P:Program} {R:Rel} {cf:Cfg} {X:TX} {b:Nat} {tm:TTm} {m:Tm} {hp hpm:THp} {hv hvm:Hp} {K:SV->THp->Cls->Option α} {z:α}
theorem Ak6{β:Type}{flds:List Fld}(hr:RT hp tm m):∀{Aj:List (Nat×Operand)}{cs:List SV}{us:List V}{K:List SV->Option β}{z:β},A0t flds tm cs Aj K=some z->RC (RV0 hp) cs us->
  ∃cs' us',Jl flds (AJ m) us Aj=some us'/\RC (RV0 hp) cs' us'/\K cs'=some z
 |[],cs,us,K,z,h,hc=>⟨cs,us,rfl,hc,h⟩
 |(k,x)::rest,cs,us,K,z,h,hc=>by
  simp only[A0t,KL]at h
  split at h
  ·rename_i f hf
   split at h
   ·rename_i hok;simp only[za2,decide_eq_true_eq]at hok
    split at h
    ·rename_i cs1 hp1;obtain⟨f1,f2⟩:=Ka (A8 hr x) hok.2;obtain⟨us1,h1,h2⟩:=RC.put hp1 hc f1;obtain⟨cs2,us2,h3,h4,h5⟩:=Ak6 hr h h2;refine⟨cs2,us2,?_,h4,h5⟩
     simp only[Jl,hf];have hl:=f1.length;have he:=of_decide_eq_true (by simpa using hok.1:decide ((DO (opT tm x)).length=f.size)=true);rw[zr (by simp only[za2,decide_eq_true_eq];exact⟨by omega,f2⟩),h1];exact h3
    ·cases h
   ·cases h
  ·cases h
theorem A6C{t:TypeId}{Aj:Array (Nat×Operand)}(hX:XOK P X)(hr:RT hp tm m)(h:BW X (.build t Aj) b tm hpm K=some z):C7 P R cf (.build t Aj) b m hp hpm hvm K z:=by
 simp only[BW]at h
 split at h
 ·rename_i d hd
  split at h
  ·rename_i hc;obtain⟨cs,us,h1,h2,h3⟩:=Ak6 hr h (SD d.zero);exact Ba h3 (y:=.agg us) ⟨us,rfl,h2⟩ (by simp only[Az,hX.ty t d hd,hc,if_true,h1,zd4]) fun _=>rfl
  ·cases h
 ·cases h
theorem A56{t:TypeId}{x:Operand}{k:Nat}(hX:XOK P X)(hr:RT hp tm m)(h:BW X (.field t x k) b tm hpm K=some z):C7 P R cf (.field t x k) b m hp hpm hvm K z:=by
 simp only[BW]at h;have hx:=A8 hr x
 split at h
 ·rename_i cs d e1 hd;rw[e1]at hx;obtain⟨us,hx,hc⟩:=XD hx
  split at h
  ·rename_i f hf;obtain⟨l,v,h1,h2,h3⟩:=Sa h;obtain⟨vs,h4,h5⟩:=RC.seg h1 hc;obtain⟨y,h6,h7⟩:=WU h2 h5;exact Ba h3 h7 (by simp only[Az,hx,hX.ty t d hd,hf,h4,za0,h6]) fun _=>rfl
  ·cases h
 ·cases h
theorem AI8{t:TypeId}{x:Operand}{k:Nat}(hX:XOK P X)(hr:RT hp tm m)(h:BW X (.fieldAddr t x k) b tm hpm K=some z):C7 P R cf (.fieldAddr t x k) b m hp hpm hvm K z:=by
 simp only[BW]at h;have hx:=A8 hr x
 split at h
 ·rename_i d hd
  split at h
  ·rename_i f id r c hf e1;rw[e1]at hx;have hx:AJ m x=.rf id r c:=hx;exact Ba h (y:=.rf id r (c+f.off)) rfl (by simp only[Az,hX.ty t d hd,hf,hx]) fun _=>rfl
  ·rename_i f ty a c hf e1;rw[e1]at hx;obtain⟨row,hx,hre⟩:=hx;exact Ba h (y:=.ir row (c+f.off)) ⟨row,rfl,hre⟩ (by simp only[Az,hX.ty t d hd,hf,hx]) fun _=>rfl
  ·cases h
 ·cases h
theorem A1Z{t:TypeId}(hX:XOK P X)(h:Ni X t=true):Fd P t=true:=by
 unfold Ni at h
 split at h
 ·rename_i d hd;simp only[Fd,hX.ty t d hd];exact h
 ·cases h
theorem slX{t:TypeId}(hX:XOK P X)(h:AK9 X t=true):RI P t=true:=by
 unfold AK9 at h
 split at h
 ·rename_i d hd;simp only[RI,hX.ty t d hd];exact h
 ·cases h
theorem Ae7{β:Type}{l:List β}{n:Int}{a:β}(h:AD l n=some a):0<=n/\l[n.toNat]? =some a:=by
 unfold AD at h
 split at h
 ·rename_i h0;exact⟨h0,h⟩
 ·cases h
theorem Ac7{n:Int}{len k:Nat}(h:A2 n len=some k):0<=n/\n.toNat<len/\k=n.toNat:=by
 unfold A2 at h
 split at h
 ·rename_i h0;cases h;exact⟨h0.1,h0.2,rfl⟩
 ·cases h
theorem A7b{t:TypeId}{x i:Operand}(hX:XOK P X)(hr:RT hp tm m)(h:BW X (.index t x i) b tm hpm K=some z):C7 P R cf (.index t x i) b m hp hpm hvm K z:=by
 simp only[BW]at h;have hx:=A8 hr x;have hi:=A8 hr i
 split at h
 ·rename_i s k n hs e1 e2;rw[e1]at hx;rw[e2]at hi;have hx:=UA hx;have hi:=KF hi;obtain⟨c,h1,h2⟩:=Bq h;obtain⟨h0,hc⟩:=Ae7 h1;have hlt:n.toNat<s.length:=(za4.1 hc).1;refine Ba h2 (y:=.v (.int .u8 (c.toNat:Int))) rfl ?_ fun _=>rfl
  simp only[Az,A1Z hX hs,hx,hi];have hsz:n.toNat<(ByteArray.mk s.toArray).size:=by simpa[ByteArray.size]using hlt
  rw[dif_pos ⟨h0,hsz⟩];have:(ByteArray.mk s.toArray)[n.toNat]'hsz=c:=by
   have:=(za4.1 hc).2;rw[<-this];rfl
  rw[this]
 ·cases h
structure ElemOK (P:Program) (t e:TypeId) (d:TyD) (c:Ty):Prop where
 el:(AX P t).bind (·.elem)=some e
 ty:AX P e=some d
 size:d.size=c.size
 flat:d.zero.all Wt=E6 c
theorem PR{t e:TypeId}{d:TyD}{c:Ty}(hX:XOK P X)(h:Vz X t=some (e,d,c)):ElemOK P t e d c:=by
 unfold Vz at h
 split at h
 ·rename_i d0 hd0
  split at h
  ·rename_i e0 he0
   split at h
   ·rename_i de c0 hde hc0
    split at h
    ·rename_i hb;simp only[za2,beq_iff_eq]at hb;simp only[zx,Prod.mk.injEq]at h;obtain⟨rfl,rfl,rfl⟩:=h;exact⟨by rw[hX.ty t d0 hd0];exact he0,hX.ty _ _ hde,za6 hb.1,hb.2⟩
    ·cases h
   ·cases h
  ·cases h
 ·cases h
theorem A7K{t:TypeId}{x i:Operand}(hX:XOK P X)(hr:RT hp tm m)(hh:RHm hpm hp hvm)(h:BW X (.indexAddr t x i) b tm hpm K=some z):C7 P R cf (.indexAddr t x i) b m hp hpm hvm K z:=by
 simp only[BW,A9i]at h;have hx:=A8 hr x;have hi:=A8 hr i
 split at h
 ·rename_i e de c he;have hE:=PR hX he
  split at h
  ·rename_i ty l k n e1 e2;rw[e1]at hx;rw[e2]at hi;have hi:=KF hi
   split at h
   ·rename_i hsz;obtain⟨a,h1,h2⟩:=Bq h;obtain⟨h0,hc⟩:=Ae7 h1;rcases hx with⟨rfl,hx⟩|⟨rows,hx,hrl⟩
    ·simp at hc
    ·obtain⟨row,hrow,hre⟩:=hrl.get hc;have hlt:n.toNat<rows.length:=(za4.1 hrow).1;refine Ba h2 (y:=.ir row 0) ⟨row,rfl,hre⟩ ?_ fun _=>rfl
     simp only[Az,hx,hi,hE.el,hE.ty];have hg:rows[n.toNat]'hlt=row:=(za4.1 hrow).2;rw[dif_pos ⟨h0,hlt⟩,hg,zr (by rw[hre.len];exact za6 hsz)]
   ·cases h
  ·rename_i id k n e1 e2;rw[e1]at hx;rw[e2]at hi;have hi:=KF hi;obtain⟨len,hx,hlen⟩:=hx;have key:∀(ty:Ty)(l:List ty.den)(tb:TB),AK hpm id=some tb->FY tb=some l.length->(∀kb,RB hp tb kb->kb.size=ty.size)->(Nat.beq ty.size de.size=true)->((A2 n l.length).bind fun k=>K (.rf id k 0) hpm .M)=some z->C7 P R cf (.indexAddr t x i) b m hp hpm hvm K z:=by
    intro ty l tb hg hbl hks hsz h;obtain⟨hg',kb,hkb,hrb⟩:=hh id tb hg;have hlen':=hlen tb hg';rw[hbl]at hlen';cases hlen'
    obtain⟨kk,h1,h2⟩:=Bq h;obtain⟨h0,h3,rfl⟩:=Ac7 h1;refine MV h2 (y:=.rf id (0+n.toNat) 0) (by rw[zf0];rfl) (by simp only[Az,hx,hi]) ?_ fun _=>rfl
    simp only[Bh,hx,hi,hE.el,hE.ty,hkb];rw[zr ⟨by rw[hks kb hrb];exact za6 hsz,h0,h3⟩]
   split at h
   ·rename_i a b' ty l hg
    split at h
    ·rename_i hsz;exact key ty l _ hg rfl (fun kb hrb=>hrb.2.2.2.1) hsz h
    ·cases h
   ·rename_i a b' ty l hg
    split at h
    ·rename_i hsz;exact key ty l _ hg rfl (fun kb hrb=>hrb.2.2.2.1) hsz h
    ·cases h
   ·cases h
  ·rename_i id lo len k n e1 e2;rw[e1]at hx;rw[e2]at hi;have hi:=KF hi;have hx:AJ m x=.ar id lo len:=hx;have key:∀(ty:Ty)(tb:TB),AK hpm id=some tb->(∀kb,RB hp tb kb->kb.size=ty.size)->(Nat.beq ty.size de.size=true)->((A2 n len).bind fun k=>K (.rf id (lo+k) 0) hpm .M)=some z->C7 P R cf (.indexAddr t x i) b m hp hpm hvm K z:=by
    intro ty tb hg hks hsz h;obtain⟨hg',kb,hkb,hrb⟩:=hh id tb hg;obtain⟨kk,h1,h2⟩:=Bq h;obtain⟨h0,h3,rfl⟩:=Ac7 h1;refine MV h2 (y:=.rf id (lo+n.toNat) 0) rfl (by simp only[Az,hx,hi]) ?_ fun _=>rfl
    simp only[Bh,hx,hi,hE.el,hE.ty,hkb];rw[zr ⟨by rw[hks kb hrb];exact za6 hsz,h0,h3⟩]
   split at h
   ·rename_i a b' ty l hg
    split at h
    ·rename_i hsz;exact key ty _ hg (fun kb hrb=>hrb.2.2.2.1) hsz h
    ·cases h
   ·rename_i a b' ty l hg
    split at h
    ·rename_i hsz;exact key ty _ hg (fun kb hrb=>hrb.2.2.2.1) hsz h
    ·cases h
   ·cases h
  ·cases h
 ·cases h
theorem A2C{x:Operand}{k:Nat}(hr:RT hp tm m)(h:BW X (.extract x k) b tm hpm K=some z):C7 P R cf (.extract x k) b m hp hpm hvm K z:=by
 simp only[BW,KL]at h;have hx:=A8 hr x
 split at h
 ·rename_i vs e1;rw[e1]at hx;obtain⟨us,hx,hc⟩:=hx
  split at h
  ·rename_i v hv;obtain⟨y,hy,hry⟩:=hc.get hv;exact Ba h hry.to2 (by simp only[Az,hx,hy]) fun _=>rfl
  ·cases h
 ·cases h
theorem Az3(hr:RT hp tm m):∀{l:List Operand},(l.map (opT tm)).all okT=true->RC (RV0 hp) (l.map (opT tm)) (l.map (AJ m))/\(l.map (AJ m)).all BF=true
 |[],_=>⟨trivial,rfl⟩
 |x::l,h=>by
  simp only[zb9,zd3,za2]at h;obtain⟨h1,h2⟩:=Az3 hr h.2;have hx:=A8 hr x;have hfl:DO (opT tm x)=[opT tm x]:=by
   cases he:opT tm x with
   |agg cs=>rw[he]at h;simp[okT]at h
   |_=>rfl
  obtain⟨f1,f2⟩:=Ka hx (by rw[hfl];simpa using h.1);rw[hfl]at f1;have hfv:flat (AJ m x)=[AJ m x]:=by
   cases he:AJ m x with
   |agg cs=>
    exfalso
    rw[he]at hx;cases ho:opT tm x with
    |agg cs=>rw[ho]at h;simp[okT]at h
    |im t l=>rw[ho]at hx;rcases hx with⟨_,hx⟩|⟨_,hx,_⟩<;>cases hx
    |ow id=>rw[ho]at hx;obtain⟨_,hx,_⟩:=hx;cases hx
    |ir t a c=>rw[ho]at hx;obtain⟨_,hx,_⟩:=hx;cases hx
    |cl f cs=>rw[ho]at hx;obtain⟨_,hx,_⟩:=hx;cases hx
    |tup cs=>rw[ho]at h;simp[okT]at h
    |any=>rw[ho]at h;simp[okT]at h
    |int k n=>rw[ho]at hx;cases hx
    |bool k=>rw[ho]at hx;cases hx
    |str k=>rw[ho]at hx;cases hx
    |sc k=>rw[ho]at hx;cases hx
    |em=>rw[ho]at hx;cases hx
    |er e=>rw[ho]at hx;cases hx
    |ar a b c=>rw[ho]at hx;cases hx
    |rf a b c=>rw[ho]at hx;cases hx
   |_=>rfl
  rw[hfv]at f1 f2;simp only[zb9,zd3,List.all_nil,Bool.and_true,za2]at f2⊢
  exact⟨⟨f1.1,h1⟩,f2,h2⟩
theorem A8N{f:FuncId}{first caps:Array Operand}(hr:RT hp tm m)(h:BW X (.makeFunc (.func f) first caps) b tm hpm K=some z):C7 P R cf (.makeFunc (.func f) first caps) b m hp hpm hvm K z:=by
 simp only[BW]at h
 split at h
 ·rename_i hc;simp only[za2]at hc;obtain⟨h1,h2⟩:=Az3 hr hc.2;exact Ba h (y:=.cl f (caps.toList.map (AJ m))) ⟨_,rfl,h1⟩ (by simp only[Az,hc.1,h2,Bool.and_self,if_true]) fun _=>rfl
 ·cases h
theorem A81{args:Array Operand}{ts:Array TypeId}(hX:XOK P X)(hr:RT hp tm m)(hh:RHm hpm hp hvm)(h:BW X (.call {callee:=.builtin .len,args:=args,argTypes:=ts}) b tm hpm K=some z):
  C7 P R cf (.call {callee:=.builtin .len,args:=args,argTypes:=ts}) b m hp hpm hvm K z:=by
 simp only[BW]at h
 split at h
 ·rename_i x t hx0 ht0;have hx:=A8 hr x;have fin:∀n:Int,K (.int .i64 n) hpm .T=some z->Az P (.call {callee:=.builtin .len,args:=args,argTypes:=ts}) (AJ m)=some (.v (.int .i64 n))->C7 P R cf (.call {callee:=.builtin .len,args:=args,argTypes:=ts}) b m hp hpm hvm K z:=
   fun n h hn=>Ba h (y:=.v (.int .i64 n)) rfl hn fun _=>rfl
  unfold A9F at h
  split at h
  ·rename_i s e1;rw[e1]at hx;have hx:=UA hx
   split at h
   ·rename_i hc;simp only[za2,Bool.not_eq_true']at hc;refine fin _ h ?_
    have h1:=A1Z hX hc.1;have h2:RI P t=false:=by
     cases hs:RI P t with
     |false=>rfl
     |true=>
      have h3:=hc.2;have h4:=hc.1;unfold AK9 at h3;unfold Ni at h4;unfold RI at hs
      split at h4
      ·rename_i d hd;simp only[hd]at h3;rw[hX.ty t d hd]at hs;simp only at hs;rw[h3]at hs;cases hs
      ·cases h4
    simp only[Az,hx0,ht0,h1,h2,hx];simp[ByteArray.size]
   ·cases h
  ·rename_i hns
   split at h
   ·rename_i hc;have h1:=slX hX hc
    split at h
    ·rename_i e1;rw[e1]at hx;have hx:AJ m x=.em:=hx;exact fin _ h (by simp only[Az,hx0,ht0,h1,hx])
    ·rename_i ty l e1;rw[e1]at hx;rcases hx with⟨rfl,hx⟩|⟨rows,hx,hrl⟩
     ·exact fin _ h (by simp only[Az,hx0,ht0,h1,hx];rfl)
     ·exact fin _ h (by simp only[Az,hx0,ht0,h1,hx,hrl.1])
    ·rename_i id e1;rw[e1]at hx;obtain⟨n,hx,hlen⟩:=hx
     split at h
     ·rename_i a b' ty l hg;have:=hlen _ (hh id _ hg).1;cases this
      exact fin _ h (by simp only[Az,hx0,ht0,h1,hx])
     ·rename_i a b' ty l hg;have:=hlen _ (hh id _ hg).1;cases this
      exact fin _ h (by simp only[Az,hx0,ht0,h1,hx])
     ·cases h
    ·rename_i id lo n e1;rw[e1]at hx;have hx:AJ m x=.ar id lo n:=hx;exact fin _ h (by simp only[Az,hx0,ht0,h1,hx])
    ·cases h
   ·cases h
 ·cases h
theorem OC:∀{xs:List SV}{us:List V}{k:IntKind}{ns:List Int},Qi xs=some (k,ns)->RC (RV2 hp) xs us->C6 us=some (ns.map fun n=>.int k n)/\ns≠[]
 |[],us,k,ns,h,_=>by simp[Qi]at h
 |[x],us,k,ns,h,hc=>by
  cases x<;>simp[Qi]at h
  obtain⟨rfl,rfl⟩:=h;cases us with
  |nil=>exact hc.elim
  |cons u us=>
   cases us with
   |nil=>have:u=_:=hc.1;subst this;exact⟨rfl,by simp⟩
   |cons a l=>exact hc.2.elim
 |x::y::l,us,k,ns,h,hc=>by
  cases x<;>simp[Qi]at h
  split at h
  ·rename_i k' ns' hr
   split at h
   ·rename_i hk;simp only[zx,Prod.mk.injEq]at h;obtain⟨rfl,rfl⟩:=h;subst hk;cases us with
    |nil=>exact hc.elim
    |cons u us=>
     have:u=_:=hc.1;subst this;obtain⟨h1,_⟩:=OC hr hc.2;exact⟨by simp[C6,h1],by simp⟩
   ·cases h
  ·cases h
theorem KT(hr:RT hp tm m):∀(l:List Operand),RC (RV2 hp) (l.map (opT tm)) (l.map (AJ m))
 |[]=>trivial
 |x::l=>⟨A8 hr x,KT hr l⟩
theorem Ay9{k:IntKind}:∀(l:List Int)(x:Int),Ap P ((l.map fun n=>Value.int k n).foldlM Builtin.min2 (.int k x))=some (.int k (l.foldl (fun a b=>if b<a then b else a) x))
 |[],x=>rfl
 |y::l,x=>by
  simp only[zb9,List.foldlM_cons,List.foldl_cons];exact Ay9 l (if y<x then y else x)
theorem AF7{k:IntKind}:∀(l:List Int)(x:Int),Ap P ((l.map fun n=>Value.int k n).foldlM Builtin.max2 (.int k x))=some (.int k (l.foldl (fun a b=>if b>a then b else a) x))
 |[],x=>rfl
 |y::l,x=>by
  simp only[zb9,List.foldlM_cons,List.foldl_cons];exact AF7 l (if y>x then y else x)
theorem A9y{args:Array Operand}{ts:Array TypeId}(hr:RT hp tm m)(h:BW X (.call {callee:=.builtin .min,args:=args,argTypes:=ts}) b tm hpm K=some z):
  C7 P R cf (.call {callee:=.builtin .min,args:=args,argTypes:=ts}) b m hp hpm hvm K z:=by
 simp only[BW,WX]at h
 split at h
 ·rename_i k ns hi;obtain⟨h1,h2⟩:=OC hi (KT hr _);simp only[zc1,if_false]at h;refine Ba h (y:=.v (.int k (A89 ns))) rfl ?_ fun _=>rfl
  simp only[Az,h1];cases ns with
  |nil=>exact absurd rfl h2
  |cons x l=>
   show((Ap P ((l.map fun n=>Value.int k n).foldlM Builtin.min2 (.int k x))).bind AG)=_;rw[Ay9];rfl
 ·cases h
theorem A9v{args:Array Operand}{ts:Array TypeId}(hr:RT hp tm m)(h:BW X (.call {callee:=.builtin .max,args:=args,argTypes:=ts}) b tm hpm K=some z):
  C7 P R cf (.call {callee:=.builtin .max,args:=args,argTypes:=ts}) b m hp hpm hvm K z:=by
 simp only[BW,WX]at h
 split at h
 ·rename_i k ns hi;obtain⟨h1,h2⟩:=OC hi (KT hr _);simp only[if_true]at h;refine Ba h (y:=.v (.int k (A5l ns))) rfl ?_ fun _=>rfl
  simp only[Az,h1];cases ns with
  |nil=>exact absurd rfl h2
  |cons x l=>
   show((Ap P ((l.map fun n=>Value.int k n).foldlM Builtin.max2 (.int k x))).bind AG)=_;rw[AF7];rfl
 ·cases h
theorem K6:∀{t:Ty}{a:t.den}{row:List V},E6 t=true->RE t a row->row.all E9=true
 |.int _,_,_,_,h=>by simp only[RE]at h;subst h;rfl
 |.bool,_,_,_,h=>by simp only[RE]at h;subst h;rfl
 |.str,_,_,_,h=>by simp only[RE]at h;subst h;rfl
 |.pair a b,x,_,hf,h=>by
  obtain⟨r1,r2,rfl,h1,h2⟩:=h;simp only[E6,za2]at hf;simp[List.all_append,K6 hf.1 h1,K6 hf.2 h2]
 |.sl e,l,_,hf,_=>by cases hf
theorem A7j{p:V->Bool}{cs l:List V}{off n:Nat}(h:seg cs off n=some l)(ha:cs.all p=true):l.all p=true:=by
 unfold seg at h
 split at h
 ·cases h
  exact za5.2 fun x hx=>za5.1 ha x (List.mem_of_mem_drop (List.mem_of_mem_take hx))
 ·cases h
theorem AG1{β:Type}{t:TypeId}{v:SV}{y:V}{KS:SV->Option β}{z:β}(hX:XOK P X)(hv:RV2 hp v y)(hh:RHm hpm hp hvm)(h:A0f X t v hpm KS=some z):
  ∃x u,KS x=some z/\RV2 hp x u/\∀(ρ:Operand->V)(a:Operand)(b:Nat),ρ a=y->Bh P (.load t a) ρ hvm b=some (u,[]):=by
 unfold A0f at h
 split at h
 ·rename_i d ty a c hd;obtain⟨row,rfl,hre⟩:=hv;obtain⟨l,x,h1,h2,h3⟩:=Sa h;obtain⟨vs,h4,h5⟩:=RC.seg (hp:=hp) h1 hre.cells;obtain⟨u,h6,h7⟩:=WU h2 h5;exact⟨x,u,h3,h7,fun ρ a b he=>by simp only[Bh,hX.ty t d hd,he,h4,za0,h6]⟩
 ·rename_i d id r c hd;have hy:y=.rf id r c:=hv;subst hy;have arr:∀(ty:Ty)(l:List ty.den)(tb:TB),AK hpm id=some tb->(∀kb,RB hp tb kb->RLx (RE ty) l kb.rows/\(E6 ty=true\/kb.deep=false))->((l[r]?).bind fun a=>tMk d.agg (AJ6 (AF6 ty a) c d.size) KS)=some z->
    ∃x u,KS x=some z/\RV2 hp x u/\∀(ρ:Operand->V)(a:Operand)(b:Nat),ρ a=.rf id r c->Bh P (.load t a) ρ hvm b=some (u,[]):=by
   intro ty l tb hg hks h;obtain⟨hg',kb,hkb,hrb⟩:=hh id tb hg;obtain⟨q1,q2⟩:=hks kb hrb;obtain⟨a,h0,h⟩:=Bq h;obtain⟨row,hrow,hre⟩:=q1.get h0;obtain⟨l',x,h1,h2,h3⟩:=Sa h;obtain⟨vs,h4,h5⟩:=RC.seg (hp:=hp) h1 hre.cells;obtain⟨u,h6,h7⟩:=WU h2 h5;have hcond:(decide (kb.kind=.box)|| !kb.deep||vs.all E9)=true:=by
    rcases q2 with hf|hd
    ·simp[A7j h4 (K6 hf hre)]
    ·simp[hd]
   exact⟨x,u,h3,h7,fun ρ a b he=>by simp only[Bh,hX.ty t d hd,he,hkb,hrow,h4,hcond,if_true,h6]⟩
  split at h
  ·rename_i ty cs hg
   split at h
   ·rename_i hr0;obtain⟨hg',kb,hkb,hrb⟩:=hh id _ hg;obtain⟨hk1,hk2,row,hk3,hk4,hk5⟩:=hrb;obtain⟨l,x,h1,h2,h3⟩:=Sa h;obtain⟨vs,h4,h5⟩:=RC.seg h1 hk5;obtain⟨u,h6,h7⟩:=WU h2 h5;refine⟨x,u,h3,h7,fun ρ a b he=> ?_⟩
    simp only[Bh,hX.ty t d hd,he,hkb,hk3,List.getElem?_cons_zero,h4,hk1,decide_true,Bool.true_or,if_true,h6]
   ·cases h
  ·rename_i ty deep ty' l hg
   split at h
   ·rename_i hc;refine arr ty' l _ hg (fun kb hrb=>⟨hrb.2.2.2.2,?_⟩) h
    simp only[Bool.or_eq_true,Bool.not_eq_true']at hc;rcases hc with hc|hc
    ·right;rw[hrb.2.2.1];exact hc
    ·left;exact hc
   ·cases h
  ·rename_i ty deep ty' l hg
   split at h
   ·rename_i hc;exact arr ty' l _ hg (fun kb hrb=>⟨hrb.2.2.2.2,.inl hc⟩) h
   ·cases h
  ·cases h
 ·cases h
theorem A5u{t:TypeId}{a:Operand}(hX:XOK P X)(hr:RT hp tm m)(hh:RHm hpm hp hvm)(h:BW X (.load t a) b tm hpm K=some z):C7 P R cf (.load t a) b m hp hpm hvm K z:=by
 simp only[BW]at h;obtain⟨x,u,h1,h2,h3⟩:=AG1 hX (A8 hr a) hh h;exact MV h1 h2 rfl (h3 _ _ _ rfl) fun _=>rfl
end
end
section
open Go
section
variable {α:Type} {P:Program} {R:Rel} {cf:Cfg} {X:TX} {b:Nat} {tm:TTm} {m:Tm} {hp hpm:THp} {hv hvm:Hp} {K:SV->THp->Cls->Option α} {z:α}
theorem Tn(hr:RT hp tm m){x:Option Operand}{d:Nat}{n:Int}(h:ZW tm x (d:Int)=some n)(h0:0<=n):bnd (AJ m) x d=some n.toNat:=by
 cases x with
 |none=>simp only[ZW,zx]at h;subst h;simp[bnd]
 |some x=>
  simp only[ZW]at h;have hx:=A8 hr x;unfold A5a at h
  split at h
  ·rename_i k n' e1;cases h
   rw[e1]at hx;have hx:=KF hx;simp only[bnd,hx,zr h0]
  ·cases h
theorem Tp{β:Type}{lo hi:Option Operand}{len:Nat}{KS:Nat->Nat->Option β}{z:β}(hr:RT hp tm m)(h:Ar7 tm lo hi len KS=some z):
  ∃l r,KS l r=some z/\bnd (AJ m) lo 0=some l/\bnd (AJ m) hi len=some r/\l<=r/\r<=len:=by
 have main:(match ZW tm lo 0,ZW tm hi (len:Int)with|some l,some h=>(FT l h len).bind fun p=>KS p.1 p.2|_,_=>none)=some z->∃l r,KS l r=some z/\bnd (AJ m) lo 0=some l/\bnd (AJ m) hi len=some r/\l<=r/\r<=len:=by
  intro h
  split at h
  ·rename_i l r e1 e2;obtain⟨p,h1,h2⟩:=Bq h;unfold FT at h1
   split at h1
   ·rename_i hc;cases h1
    exact⟨l.toNat,r.toNat,h2,Tn hr (d:=0) e1 hc.1,Tn hr e2 (by omega),by omega,by omega⟩
   ·cases h1
  ·cases h
 unfold Ar7 at h;cases lo with
 |none=>
  cases hi with
  |none=>exact⟨0,len,h,rfl,rfl,Nat.zero_le _,za8 _⟩
  |some y=>exact main h
 |some x=>exact main h
theorem A7V{t e:TypeId}(h:(AX P t).bind (·.elem)=some e):Fd P t=false:=by
 cases hs:Fd P t with
 |false=>rfl
 |true=>
  have h1:=BH h;have h2:=E4 hs;rw[h1]at h2;cases h2
theorem A08{t:TypeId}{x:Operand}{lo hi:Option Operand}(hX:XOK P X)(hr:RT hp tm m)(hh:RHm hpm hp hvm)(h:BW X (.slice t x lo hi none) b tm hpm K=some z):
  C7 P R cf (.slice t x lo hi none) b m hp hpm hvm K z:=by
 simp only[BW,A4L]at h;have hx:=A8 hr x
 split at h
 ·rename_i s e1;rw[e1]at hx;have hx:=UA hx
  split at h
  ·rename_i hs;have hs':Fd P t=true:=A1Z hX hs;obtain⟨l,r,h1,h2,h3,h4,h5⟩:=Tp hr h;have hsz:(ByteArray.mk s.toArray).size=s.length:=by simp[ByteArray.size]
   refine⟨_,.v (.string ⟨((s.take r).drop l).toArray⟩),.M,h1,rfl,fun KV hk=> ?_⟩
   show(if Fd P t then BG (Az P (.slice t x lo hi none) (AJ m)) fun z=>KV z hvm .M else _);rw[zr hs'];have:Az P (.slice t x lo hi none) (AJ m)=some (.v (.string ⟨((s.take r).drop l).toArray⟩)):=by
    simp only[Az,hs',hx,h2,hsz,h3];rw[zr ⟨h4,h5⟩]
    congr 3
    apply ByteArray.ext
    simp[List.drop_take]
   rw[this];exact hk
  ·cases h
 ·rename_i hns
  split at h
  ·rename_i e de c he;have hE:=PR hX he;have hs':=A7V hE.el;have fin:∀(v:SV)(y:V),K v hpm .M=some z->RV2 hp v y->(∀KV:Cx,KV y hvm .M->Bt P t (AJ m x) lo hi (AJ m) hvm KV)->C7 P R cf (.slice t x lo hi none) b m hp hpm hvm K z:=by
    intro v y h hv hw;refine⟨v,y,.M,h,hv,fun KV hk=> ?_⟩
    show(if Fd P t then _ else Bt P t (AJ m x) lo hi (AJ m) hvm KV);rw[zw (by rw[hs'];simp)];exact hw KV hk
   split at h
   ·rename_i e1;rw[e1]at hx;have hx:AJ m x=.em:=hx;obtain⟨l,r,h1,h2,h3,h4,h5⟩:=Tp hr h;refine fin _ .em h1 rfl fun KV hk=> ?_
    simp only[Bt,hE.el,hE.ty,Ao,hx,h2,h3];exact⟨by omega,by omega,hk⟩
   ·rename_i ty l0 e1;rw[e1]at hx
    split at h
    ·rename_i hsz;have hsz:=za6 hsz;obtain⟨l,r,h1,h2,h3,h4,h5⟩:=Tp hr h;rcases hx with⟨rfl,hx⟩|⟨rows,hx,hrl⟩
     ·refine fin _ .em h1 (.inl ⟨by simp,rfl⟩) fun KV hk=> ?_
      simp only[zf4]at h3 h5;simp only[Bt,hE.el,hE.ty,Ao,hx,h2,h3];exact⟨by omega,by omega,hk⟩
     ·refine fin _ (.im ((rows.take r).drop l)) h1 (.inr ⟨_,rfl,(hrl.take r).drop l⟩) fun KV hk=> ?_
      simp only[Bt,hE.el,hE.ty,Ao,hx,h2,hrl.1,h3];refine⟨h4,h5,fun row hrow=> ?_,hk⟩
      obtain⟨i,hi⟩:=List.getElem?_of_mem hrow;obtain⟨a,_,hre⟩:=hrl.get' hi;rw[hre.len];exact hsz
    ·cases h
   ·rename_i id e1;rw[e1]at hx;obtain⟨len,hx,hlen⟩:=hx;have key:∀(ty:Ty)(l0:List ty.den)(tb:TB),AK hpm id=some tb->FY tb=some l0.length->(∀kb,RB hp tb kb->kb.size=ty.size)->(Nat.beq ty.size de.size=true)->
      A7u tm lo hi l0.length (K (.ow id) hpm .M) (fun l h=>K (.ar id l (h-l)) hpm .M)=some z->C7 P R cf (.slice t x lo hi none) b m hp hpm hvm K z:=by
     intro ty l0 tb hg hbl hks hsz h;obtain⟨hg',kb,hkb,hrb⟩:=hh id tb hg;have hl:=hlen tb hg';rw[hbl]at hl;cases hl
     have hsz:kb.size=de.size:=by rw[hks kb hrb];exact za6 hsz
     have gen:(Ar7 tm lo hi l0.length fun l h=>K (.ar id l (h-l)) hpm .M)=some z->C7 P R cf (.slice t x lo hi none) b m hp hpm hvm K z:=by
      intro h;obtain⟨l,r,h1,h2,h3,h4,h5⟩:=Tp hr h;refine fin _ (.ar id (0+l) (r-l)) h1 (by rw[zf0];rfl) fun KV hk=> ?_
      simp only[Bt,hE.el,hE.ty,Ao,hx,h2,h3,hkb];exact⟨h4,h5,hsz,hk⟩
     cases lo with
     |none=>
      cases hi with
      |none=>
       refine fin _ (.ar id (0+0) (l0.length-0)) h ⟨l0.length,by simp,hlen⟩ fun KV hk=> ?_
       simp only[Bt,hE.el,hE.ty,Ao,hx,bnd,hkb];exact⟨Nat.zero_le _,za8 _,hsz,hk⟩
      |some y=>exact gen h
     |some y=>exact gen h
    split at h
    ·rename_i a b' ty l hg
     split at h
     ·rename_i hsz;exact key ty l _ hg rfl (fun kb hrb=>hrb.2.2.2.1) hsz h
     ·cases h
    ·rename_i a b' ty l hg
     split at h
     ·rename_i hsz;exact key ty l _ hg rfl (fun kb hrb=>hrb.2.2.2.1) hsz h
     ·cases h
    ·cases h
   ·rename_i id l1 n e1;rw[e1]at hx;have hx:AJ m x=.ar id l1 n:=hx;have key:∀(ty:Ty)(tb:TB),AK hpm id=some tb->(∀kb,RB hp tb kb->kb.size=ty.size)->(Nat.beq ty.size de.size=true)->
      (Ar7 tm lo hi n fun l h=>K (.ar id (l1+l) (h-l)) hpm .M)=some z->C7 P R cf (.slice t x lo hi none) b m hp hpm hvm K z:=by
     intro ty tb hg hks hsz h;obtain⟨hg',kb,hkb,hrb⟩:=hh id tb hg;have hsz:kb.size=de.size:=by rw[hks kb hrb];exact za6 hsz
     obtain⟨l,r,h1,h2,h3,h4,h5⟩:=Tp hr h;refine fin _ (.ar id (l1+l) (r-l)) h1 rfl fun KV hk=> ?_
     simp only[Bt,hE.el,hE.ty,Ao,hx,h2,h3,hkb];exact⟨h4,h5,hsz,hk⟩
    split at h
    ·rename_i a b' ty l hg
     split at h
     ·rename_i hsz;exact key ty _ hg (fun kb hrb=>hrb.2.2.2.1) hsz h
     ·cases h
    ·rename_i a b' ty l hg
     split at h
     ·rename_i hsz;exact key ty _ hg (fun kb hrb=>hrb.2.2.2.1) hsz h
     ·cases h
    ·cases h
   ·cases h
  ·cases h
theorem AJ0{t:TypeId}{x hi mx:Operand}{lo:Option Operand}(hX:XOK P X)(hr:RT hp tm m)(h:BW X (.slice t x lo (some hi) (some mx)) b tm hpm K=some z):
  C7 P R cf (.slice t x lo (some hi) (some mx)) b m hp hpm hvm K z:=by
 simp only[BW]at h;have hx:=A8 hr x
 split at h
 ·rename_i e de c ty l he e1;rw[e1]at hx;have hE:=PR hX he
  split at h
  ·rename_i l0 h0 m0 q1 q2 q3;obtain⟨hc,h⟩:=Dx h;have hc:=of_decide_eq_true hc;obtain⟨rfl,rfl,rfl⟩:=hc;have b1:=Tn hr (d:=0) q1 (by omega);have b2:=Tn hr (d:=0) q2 (by omega);have b3:=Tn hr (d:=0) q3 (by omega);have hel:((AX P t).bind (·.elem)).bind (AX P)=some de:=by rw[hE.el];exact hE.ty
   refine Ba h (y:=.em) rfl ?_ fun _=>rfl
   rcases hx with⟨rfl,hx⟩|⟨rows,hx,hrl⟩
   ·simp only[Az,hel,hx,b1,b2,b3];rfl
   ·simp only[Az,hel,hx,b1,b2,b3];rw[zr (by simp)]
  ·cases h
 ·cases h
theorem A3Y{t:TypeId}(hX:XOK P X)(h:Tu X t=true):IK P t=true:=by
 unfold Tu at h
 split at h
 ·rename_i d hd
  split at h
  ·rename_i e he
   split at h
   ·rename_i de hde;have:(AX P t).bind (·.elem)=some e:=by rw[hX.ty t d hd];exact he
    simp only[IK,this,hX.ty e de hde];exact h
   ·cases h
  ·cases h
 ·cases h
theorem Xq:∀{l:List Int}{rows:List (List V)},RLx (RE (.int .u8)) l rows->Cm rows=some (KX l)
 |[],rows,h=>by rw[h.of_nil];rfl
 |n::l,rows,h=>by
  cases rows with
  |nil=>have:=h.1;simp at this
  |cons r rows=>
   have hr:RE (.int .u8) n r:=h.2 0 n r rfl rfl;have hrest:RLx (RE (.int .u8)) l rows:=⟨by have:=h.1;simpa using this,fun i a q h1 h2=>h.2 (i+1) a q (by simpa using h1) (by simpa using h2)⟩;simp only[RE]at hr;subst hr;simp only[Cm,Qr,Xq hrest,KX,zb9]
theorem A6y(s:Str):RLx (RE (.int .u8)) (Aq8 s) (Ii ⟨s.toArray⟩):=by
 refine⟨by simp[Ii,Aq8],fun i a r h1 h2=> ?_⟩
 simp only[Ii,Aq8,zc9,zb6]at h1 h2;obtain⟨c,hc,rfl⟩:=h1;obtain⟨c',hc',rfl⟩:=h2;have:c'=c:=by
  have h3:s[i]? =some c':=by simpa using hc'
  rw[hc]at h3;exact(zv h3).symm
 subst this;rfl
theorem A3u{s d:TypeId}{ds dd:TyD}{k k0:IntKind}{n:Int}(h1:AX P s=some ds)(h2:AX P d=some dd)(h3:dd.int=some k):(Ap P (Go.convert s d (.int k0 n))).bind AG=some (.v (.int k (k.wrap n))):=by
 obtain⟨i,u,z,hi,hu,_⟩:=B5 h1;obtain⟨i',u',z',hi',hu',_,_,_,_,rfl⟩:=B5 h2;have hud:u'=.int k:=by cases u'<;>simp[A6k]at h3;rw[h3]
 subst hud;unfold Go.convert;rw[FN hu,FN hu'];cases u<;>rfl
theorem A4m{s d:TypeId}{x:ByteArray}(h1:Fd P s=true)(h2:Fd P d=true):(Ap P (Go.convert s d (.string x))).bind AG=some (.v (.string x)):=by
 unfold Go.convert;rw[FN (E4 h1),FN (E4 h2)];rfl
theorem AR4{s d:TypeId}{x:ByteArray}(h1:Fd P s=true)(h2:IK P d=true):(Ap P (Go.convert s d (.string x))).bind AG=none:=by
 obtain⟨e,h3,h4⟩:=Uq h2;unfold Go.convert;rw[FN (E4 h1),FN h3];show(Ap P (underlying e>>=_)).bind AG=none;rw[FN h4];rfl
theorem Za{e:Ty}{x:SV}{l:List e.den}{y:V}(h:Hf hpm e x=some l)(hv:RV0 hp x y)(hh:RHm hpm hp hvm):
  (l=[]/\y=.em)\/(∃rows,y=.im rows/\RLx (RE e) l rows)\/∃id lo n kb,y=.ar id lo n/\hvm id=some kb/\kb.kind≠ .box/\RLx (RE e) l ((kb.rows.take (lo+n)).drop lo):=by
 unfold Hf at h
 split at h
 ·rename_i id;obtain⟨n,rfl,hlen⟩:=hv;have key:∀(t:Ty)(l0:List t.den)(tb:TB),AK hpm id=some tb->FY tb=some l0.length->(∀kb,RB hp tb kb->kb.kind≠ .box/\RLx (RE t) l0 kb.rows)->(if h:t=e then some (Jj h l0)else none)=some l->
    (l=[]/\V.ar id 0 n=.em)\/(∃rows,V.ar id 0 n=.im rows/\RLx (RE e) l rows)\/∃id' lo n' kb,V.ar id 0 n=.ar id' lo n'/\hvm id'=some kb/\kb.kind≠ .box/\RLx (RE e) l ((kb.rows.take (lo+n')).drop lo):=by
   intro t l0 tb hg hbl hks h;obtain⟨hg',kb,hkb,hrb⟩:=hh id tb hg;have hl:=hlen tb hg';rw[hbl]at hl;cases hl
   obtain⟨q1,q2⟩:=hks kb hrb
   split at h
   ·rename_i he;cases h
    refine .inr (.inr ⟨id,0,l0.length,kb,rfl,hkb,q1,?_⟩)
    have:(kb.rows.take (0+l0.length)).drop 0=kb.rows:=by rw[zf0,<-q2.1];simp
    rw[this];exact GR he q2
   ·cases h
  split at h
  ·rename_i a b' t l0 hg;exact key t l0 _ hg rfl (fun kb hrb=>⟨by rw[hrb.1];simp,hrb.2.2.2.2⟩) h
  ·rename_i a b' t l0 hg;exact key t l0 _ hg rfl (fun kb hrb=>⟨by rw[hrb.1];simp,hrb.2.2.2.2⟩) h
  ·cases h
 ·rename_i id lo n;have hv:y=.ar id lo n:=hv;subst hv;have key:∀(t:Ty)(l0:List t.den)(tb:TB),AK hpm id=some tb->(∀kb,RB hp tb kb->kb.kind≠ .box/\RLx (RE t) l0 kb.rows)->(if h:t=e then some (((Jj h l0).take (lo+n)).drop lo)else none)=some l->
    (l=[]/\V.ar id lo n=.em)\/(∃rows,V.ar id lo n=.im rows/\RLx (RE e) l rows)\/∃id' lo' n' kb,V.ar id lo n=.ar id' lo' n'/\hvm id'=some kb/\kb.kind≠ .box/\RLx (RE e) l ((kb.rows.take (lo'+n')).drop lo'):=by
   intro t l0 tb hg hks h;obtain⟨hg',kb,hkb,hrb⟩:=hh id tb hg;obtain⟨q1,q2⟩:=hks kb hrb
   split at h
   ·rename_i he;cases h
    exact .inr (.inr ⟨id,lo,n,kb,rfl,hkb,q1,((GR he q2).take _).drop _⟩)
   ·cases h
  split at h
  ·rename_i a b' t l0 hg;exact key t l0 _ hg (fun kb hrb=>⟨by rw[hrb.1];simp,hrb.2.2.2.2⟩) h
  ·rename_i a b' t l0 hg;exact key t l0 _ hg (fun kb hrb=>⟨by rw[hrb.1];simp,hrb.2.2.2.2⟩) h
  ·cases h
 ·rcases Av7 h hv with h1|h1
  ·exact .inl h1
  ·exact .inr (.inl h1)
theorem Am2{e:Ty}{x:SV}{l:List e.den}{y:V}(h:Hf hpm e x=some l)(hv:RV2 hp x y):RV0 hp x y:=by
 cases x with
 |agg cs=>simp[Hf,asL]at h
 |tup cs=>simp[Hf,asL]at h
 |cl f cs=>simp[Hf,asL]at h
 |_=>exact hv
theorem A43{s d:TypeId}{x:Operand}(hX:XOK P X)(hr:RT hp tm m)(hh:RHm hpm hp hvm)(h:BW X (.convert s d x) b tm hpm K=some z):C7 P R cf (.convert s d x) b m hp hpm hvm K z:=by
 simp only[BW,A7p]at h;have hx:=A8 hr x
 split at h
 ·rename_i k n e1;rw[e1]at hx;have hx:=KF hx
  split at h
  ·rename_i ds dd h1 h2
   split at h
   ·rename_i k' h3;exact Ba h (y:=.v (.int k' (k'.wrap n))) rfl (by simp only[Az,hx];exact A3u (hX.ty _ _ h1) (hX.ty _ _ h2) h3) fun _=>rfl
   ·cases h
  ·cases h
 ·rename_i v e1;rw[e1]at hx;have hx:=UA hx
  split at h
  ·rename_i hs;have hs:=A1Z hX hs
   split at h
   ·rename_i hd;have hd:=A3Y hX hd;obtain⟨hc,h⟩:=Dx h;have hc:=of_decide_eq_true hc;refine MV h (y:=.im (Ii ⟨v.toArray⟩)) (.inr ⟨_,rfl,A6y v⟩) (by simp only[Az,hx];exact AR4 hs hd) ?_ fun _=>rfl
    simp only[Bh,hx,hs,hd,ze5];have:(ByteArray.mk v.toArray).size<=Ae:=by simpa[ByteArray.size]using hc
    rw[zr (by simpa using this)]
   ·split at h
    ·rename_i hd;have hd:=A1Z hX hd;exact Ba h (y:=.v (.string ⟨v.toArray⟩)) rfl (by simp only[Az,hx];exact A4m hs hd) fun _=>rfl
    ·cases h
  ·cases h
 ·rename_i hn1 hn2
  split at h
  ·rename_i hc;simp only[za2]at hc;have h1:=A3Y hX hc.1;have h2:=A1Z hX hc.2
   split at h
   ·rename_i l hl;have hx0:=Am2 hl hx;have hrel:=Za hl hx0 hh
    ·rcases hrel with⟨rfl,hy⟩|⟨rows,hy,hrl⟩|⟨id,lo,n,kb,hy,hkb,hkk,hrl⟩
     ·refine MV h (y:=.v (.string ⟨(KX []).toArray⟩)) rfl (by simp only[Az,hy]) ?_ fun _=>rfl
      simp only[Bh,hy,h1,h2,Bool.and_self,if_true];rfl
     ·refine MV h (y:=.v (.string ⟨(KX l).toArray⟩)) rfl (by simp only[Az,hy]) ?_ fun _=>rfl
      simp only[Bh,hy,h1,h2,Bool.and_self,if_true,Xq hrl]
     ·refine MV h (y:=.v (.string ⟨(KX l).toArray⟩)) rfl (by simp only[Az,hy]) ?_ fun _=>rfl
      simp only[Bh,hy,hkb,h1,h2,Bool.and_self,Xq hrl];rw[zr (by simpa using hkk)]
   ·cases h
  ·cases h
end
end
section
open Go
section
variable {α:Type} {P:Program} {R:Rel} {cf:Cfg} {X:TX} {b:Nat} {tm:TTm} {m:Tm} {hp hpm:THp} {hv hvm:Hp} {K:SV->THp->Cls->Option α} {z:α}
def Z1(P:Program)(R:Rel)(cf:Cfg)(op:Op)(b:Nat)(tm:TTm)(m:Tm)(hv:Hp)(K:SV->THp->Cls->Option α)(z:α):Prop:=
 ∃x hp' cls y hv',K x hp' cls=some z/\RV2 hp' x y/\RH hp' hv'/\RT hp' tm m/\∀KV:Cx,KV y hv' cls->BC P R cf op b (AJ m) hv KV
theorem C7.done{op:Op}(h:C7 P R cf op b m hp hp hv K z)(hh:RH hp hv)(hr:RT hp tm m):Z1 P R cf op b tm m hv K z:=by
 obtain⟨x,y,cls,h1,h2,h3⟩:=h;exact⟨x,hp,cls,y,hv,h1,h2,hh,hr,h3⟩
theorem T8{x:TB}{k:Blk}(hh:RH hp hv)(hr:RT hp tm m)(hf:∀t,b ∉ HL (CW tm t))(hb:∀id y,AK hp id=some y->b ∉ LT y)(hx:b ∉ LT x)(hk:RB hp x k):
  RH ((b,some x)::hp) (upd hv b (some k))/\RT ((b,some x)::hp) tm m:=
 ⟨hh.put (fun id hid=>LX fun he=>hx (he▸hid)) (fun id y _ hy i hi=>LX fun he=>hb id y hy (he▸hi)) hk,hr.keeps fun t id hid=>LX fun he=>hf t (he▸hid)⟩
theorem RK{l:List Nat}(h:HQ tm hp b=true){id:Nat}{k:TB}(hk:AK (D9 hp l) id=some k):b ∉ LT k:=Tb h (TA l hp id k hk).1
theorem AC6:∀(l:List V),(l.map VE).flatMap F2=[]
 |[]=>rfl
 |x::l=>by
  rw[zb9,zb5,AC6 l];unfold VE
  split<;>rfl
theorem A51{t:TypeId}(hX:XOK P X)(hh:RH hp hv)(hr:RT hp tm m)(h:BW X (.alloc t) b tm hp K=some z):Z1 P R cf (.alloc t) b tm m hv K z:=by
 simp only[BW]at h
 split at h
 ·rename_i d hd
  split at h
  ·rename_i hf;obtain⟨h1,h2⟩:=T8 (x:=.box t (d.zero.map VE)) (k:=Ot t d.zero) hh hr (KM hf) (fun id y hy=>Tb hf hy) (by simp only[LT];rw[AC6];simp) ⟨rfl,rfl,d.zero,rfl,rfl,SD d.zero⟩;refine⟨_,_,_,.rf b 0 0,_,h,rfl,h1,h2,fun KV hk=> ?_⟩
   show BG (Bh P (.alloc t) (AJ m) hv b) (fun z=>z.2.length<=16/\KV z.1 (inst hv b z.2) .M);simp only[Bh,hX.ty t d hd,Ao];exact⟨by simp,hk⟩
  ·cases h
 ·cases h
theorem A4p{x:SV}:∀id∈(DO x).flatMap F2,id∈HL x:=by
 intro id hid;cases x with
 |agg cs=>exact hid
 |tup cs=>simp[DO,F2]at hid
 |cl f cs=>simp[DO,F2]at hid
 |ow id'=>simpa[DO,F2,ZU,HL]using hid
 |_=>simp[DO,F2]at hid
theorem A2x(c:Value):HL (Yp c)=[]:=by
 have h0:∀c,F2 (So c)=[]/\HL (So c)=[]:=by
  intro c;unfold So
  split<;>first|exact⟨rfl,rfl⟩|(split<;>exact⟨rfl,rfl⟩)
 unfold Yp
 split
 ·rename_i cs;show(cs.toList.map So).flatMap F2=[];rw[List.flatMap_eq_nil_iff];intro x hx;obtain⟨c,_,rfl⟩:=zd2.1 hx;exact(h0 c).1
 ·exact(h0 c).2
theorem A4Y(h:HQ tm hp b=true)(x:Operand):b ∉ HL (opT tm x):=by
 cases x with
 |tmp t=>exact KM h t
 |const c=>simp only[opT,A2x];simp
 |global g=>simp[opT,HL,ZU,F2]
 |func f=>simp[opT,HL,ZU,F2]
theorem A9s{t:TypeId}{x:Operand}(hX:XOK P X)(hh:RH hp hv)(hr:RT hp tm m)(h:BW X (.box t x) b tm hp K=some z):Z1 P R cf (.box t x) b tm m hv K z:=by
 simp only[BW]at h
 split at h
 ·rename_i d hd
  split at h
  ·rename_i hc;simp only[za2]at hc;obtain⟨⟨c1,c2⟩,hf⟩:=hc;obtain⟨f1,f2⟩:=Ka (A8 hr x) c2;obtain⟨h1,h2⟩:=T8 (x:=.box t (DO (opT tm x))) (k:=Ot t (flat (AJ m x))) hh hr (KM hf) (fun id y hy=>Tb hf hy) (fun hi=>A4Y hf x (A4p b hi)) ⟨rfl,rfl,_,rfl,rfl,f1⟩;refine⟨_,_,_,.rf b 0 0,_,h,rfl,h1,h2,fun KV hk=> ?_⟩
   show BG (Bh P (.box t x) (AJ m) hv b) (fun z=>z.2.length<=16/\KV z.1 (inst hv b z.2) .M);simp only[Bh,hX.ty t d hd];have hl:(flat (AJ m x)).length=d.size:=by have:=f1.length;have:=za6 c1;omega
   rw[zr (by simp[hl,f2])];exact⟨by simp,hk⟩
  ·cases h
 ·cases h
theorem Am8{n:Int}{bytes size k:Nat}(h:QB n bytes size=some k):0<=n/\n.toNat*bytes<=Ae/\n.toNat*size<=Ae/\k=n.toNat:=by
 unfold QB at h
 split at h
 ·rename_i hc;cases h;exact⟨hc.1,hc.2.1,hc.2.2,rfl⟩
 ·cases h
theorem A8a{t:TypeId}{l c:Operand}(hX:XOK P X)(hh:RH hp hv)(hr:RT hp tm m)(h:BW X (.makeSlice t l c) b tm hp K=some z):Z1 P R cf (.makeSlice t l c) b tm m hv K z:=by
 simp only[BW,A7I]at h;have hl:=A8 hr l;have hc:=A8 hr c
 split at h
 ·rename_i e de ty k1 n k2 n2 he e1 e2;rw[e1]at hl;rw[e2]at hc;have hl:=KF hl;have hc:=KF hc;have hE:=PR hX he
  split at h
  ·rename_i zz hz
   split at h
   ·rename_i hq;simp only[za2]at hq;obtain⟨hf,hsc⟩:=hq;have hre:RE ty zz de.zero:=YC (hp:=hp) hz (SD de.zero);have fin:∀(kk:Nat),kk=n.toNat->0<=n->n<=n2->n2.toNat*de.bytes<=Ae->n2.toNat*de.size<=Ae->K (.ow b) ((b,some (.arr e true ty (List.replicate kk zz)))::hp) .M=some z->Z1 P R cf (.makeSlice t l c) b tm m hv K z:=by
     intro kk hkk h0 h1 h2 h3 hK;obtain⟨g1,g2⟩:=T8 (x:=.arr e true ty (List.replicate kk zz)) (k:=AT e de.size true (List.replicate n.toNat de.zero)) hh hr (KM hf) (fun id y hy=>Tb hf hy) (by simp[LT]) ⟨rfl,rfl,rfl,hE.size,by rw[hkk];exact RLx.replicate hre _⟩;refine⟨_,_,_,.ar b 0 n.toNat,_,hK,⟨n.toNat,rfl,fun bb hb=> ?_⟩,g1,g2,fun KV hk=> ?_⟩
     ·rw[AF,zr rfl]at hb;cases hb
      simp[FY,hkk]
     ·show BG (Bh P (.makeSlice t l c) (AJ m) hv b) (fun z=>z.2.length<=16/\KV z.1 (inst hv b z.2) .M);simp only[Bh,hl,hc,hE.el,hE.ty];rw[zr ⟨h0,h1,h2,h3,hsc⟩];exact⟨by simp,hk⟩
    cases hs:AQ6 l c with
    |true=>
     rw[hs]at h;obtain⟨kk,h1,h2⟩:=Bq (show((QB n2 de.bytes de.size).bind fun k=>K (.ow b) ((b,some (.arr e true ty (List.replicate k zz)))::hp) .M)=some z from h);obtain⟨q1,q2,q3,q4⟩:=Am8 h1;have hn:n=n2:=by
      have:l=c:=by
       unfold AQ6 at hs
       split at hs
       ·rw[za6 hs]
       ·cases hs
      subst this;rw[e1]at e2;cases e2
      rfl
     subst hn;exact fin kk q4 q1 (Int.le_refl _) q2 q3 h2
    |false=>
     rw[hs]at h;obtain⟨kk,h1,h2⟩:=Bq (show((QB n2 de.bytes de.size).bind fun _=>cond (decide (0<=n)&&decide (n<=n2)) (K (.ow b) ((b,some (.arr e true ty (List.replicate n.toNat zz)))::hp) .M) none)=some z from h);obtain⟨q1,q2,q3,q4⟩:=Am8 h1;obtain⟨c1,h2⟩:=Dx h2;simp only[za2,decide_eq_true_eq]at c1;exact fin n.toNat rfl c1.1 c1.2 q2 q3 h2
   ·cases h
  ·cases h
 ·cases h
theorem AA4{x x':SV}{y:V}{kills:List Nat}{deep:Bool}(hh:RH hp hv)(h:W5 hp x=some (x',kills,deep))(hx:RV0 hp x y):
  ∃y',AM hv y=some (y',kills,deep)/\RV0 hp x' y'/\F2 x'=[]:=by
 unfold W5 at h
 split at h
 ·cases h;have:y=_:=hx;subst this;exact⟨_,rfl,rfl,rfl⟩
 ·cases h;have:y=_:=hx;subst this;exact⟨_,rfl,rfl,rfl⟩
 ·cases h;have:y=_:=hx;subst this;exact⟨_,rfl,rfl,rfl⟩
 ·cases h;have:y=_:=hx;subst this;exact⟨_,rfl,rfl,rfl⟩
 ·cases h;have:y=_:=hx;subst this;exact⟨_,rfl,rfl,rfl⟩
 ·cases h
  rcases hx with⟨rfl,rfl⟩|⟨rows,rfl,hr⟩
  ·exact⟨.em,rfl,.inl ⟨rfl,rfl⟩,rfl⟩
  ·exact⟨.im rows,rfl,.inr ⟨rows,rfl,hr⟩,rfl⟩
 ·rename_i id;obtain⟨n,rfl,hlen⟩:=hx
  split at h
  ·rename_i a dd t l hg;cases h
   obtain⟨k,hk,hrb⟩:=hh id _ hg;have:=hlen _ hg;cases this
   have hrows:(k.rows.take (0+l.length)).drop 0=k.rows:=by rw[zf0,<-hrb.2.2.2.2.1];simp
   refine⟨.im k.rows,?_,.inr ⟨_,rfl,hrb.2.2.2.2⟩,rfl⟩
   simp only[AM,hk,hrb.1,hrows,hrb.2.2.1]
  ·rename_i a dd t l hg;cases h
   obtain⟨k,hk,hrb⟩:=hh id _ hg;have:=hlen _ hg;cases this
   have hrows:(k.rows.take (0+l.length)).drop 0=k.rows:=by rw[zf0,<-hrb.2.2.2.2.1];simp
   refine⟨.im k.rows,?_,.inr ⟨_,rfl,hrb.2.2.2.2⟩,rfl⟩
   simp only[AM,hk,hrb.1,hrows]
  ·cases h
 ·rename_i id lo n;have:y=_:=hx;subst this
  split at h
  ·rename_i a dd t l hg;cases h
   obtain⟨k,hk,hrb⟩:=hh id _ hg;refine⟨.im ((k.rows.take (lo+n)).drop lo),?_,.inr ⟨_,rfl,(hrb.2.2.2.2.take _).drop _⟩,rfl⟩
   simp only[AM,hk,hrb.1,hrb.2.2.1]
  ·rename_i a dd t l hg;cases h
   obtain⟨k,hk,hrb⟩:=hh id _ hg;refine⟨.im ((k.rows.take (lo+n)).drop lo),?_,.inr ⟨_,rfl,(hrb.2.2.2.2.take _).drop _⟩,rfl⟩
   simp only[AM,hk,hrb.1]
  ·cases h
 ·cases h
theorem Px(hh:RH hp hv):∀{xs xs':List SV}{ys:List V}{kills:List Nat}{deep:Bool},K8 hp xs=some (xs',kills,deep)->RC (RV0 hp) xs ys->
  ∃ys',A0 hv ys=some (ys',kills,deep)/\RC (RV0 hp) xs' ys'/\xs'.flatMap F2=[]
 |[],xs',ys,kills,deep,h,hc=>by
  simp only[K8,zx,Prod.mk.injEq]at h;obtain⟨rfl,rfl,rfl⟩:=h;cases ys with
  |nil=>exact⟨[],rfl,trivial,rfl⟩
  |cons a l=>exact hc.elim
 |x::xs,xs',ys,kills,deep,h,hc=>by
  simp only[K8]at h
  split at h
  ·rename_i x1 a d xs1 as ds h1 h2;simp only[zx,Prod.mk.injEq]at h;obtain⟨rfl,rfl,rfl⟩:=h;cases ys with
   |nil=>exact hc.elim
   |cons y ys=>
    obtain⟨y',q1,q2,q3⟩:=AA4 hh h1 hc.1;obtain⟨ys',q4,q5,q6⟩:=Px hh h2 hc.2;exact⟨y'::ys',by simp only[A0,q1,q4],⟨q2,q5⟩,by rw[zb5,q3,q6];rfl⟩
  ·cases h
theorem Kc:∀{xs xs':List SV}{kills:List Nat}{deep:Bool},K8 hp xs=some (xs',kills,deep)->xs.all okT=true
 |[],_,_,_,_=>rfl
 |x::xs,xs',kills,deep,h=>by
  simp only[K8]at h
  split at h
  ·rename_i x1 a d xs1 as ds h1 h2;have:okT x=true:=by
    cases x<;>first|rfl|(simp[W5]at h1;done)|skip
   simp only[zd3,this,Kc h2,Bool.and_self]
  ·cases h
theorem A6F{t:TypeId}{a x:Operand}(hX:XOK P X)(hh:RH hp hv)(hr:RT hp tm m)(h:BW X (.store t a x) b tm hp K=some z):Z1 P R cf (.store t a x) b tm m hv K z:=by
 simp only[BW,A5f]at h;have ha:=A8 hr a;have hx:=A8 hr x
 split at h
 ·rename_i d id r c hd e1;rw[e1]at ha;have ha:AJ m a=.rf id r c:=ha
  split at h
  ·rename_i hlen;have hlen:=za6 hlen
   split at h
   ·rename_i ty cs hg
    split at h
    ·split at h
     ·rename_i hok
      split at h
      ·rename_i cs' hput;obtain⟨kb,hkb,hk1,hk2,row,hk3,hk4,hk5⟩:=hh id _ hg;obtain⟨f1,f2⟩:=Ka hx hok;obtain⟨row',p1,p2⟩:=RC.put hput hk5 f1;have hkeep:∀i,Db hp ((id,some (.box ty cs'))::hp) i:=fun i=>ZF (y:=.box ty cs') hg rfl i
       have hrl:row'.length=row.length:=by
        have q1:=p2.length;have q2:=hk5.length;have q3:cs'.length=cs.length:=by
         unfold A1F at hput
         split at hput
         ·cases hput;simp;omega
         ·cases hput
        omega
       refine⟨_,_,_,.any,upd hv id (some {kb with rows:=kb.rows.set 0 row'}),h,trivial,?_,hr.keeps fun t i _=>hkeep i,fun KV hk=> ?_⟩
       ·exact hh.put (fun i _=>hkeep i) (fun _ _ _ _ i _=>hkeep i) ⟨hk1,hk2,row',by rw[hk3];rfl,by show kb.size=_;rw[hk4,hrl],p2⟩
       ·show CI P t (AJ m a) (AJ m x) hv KV;have hl:(flat (AJ m x)).length=d.size:=by have:=f1.length;omega
        simp only[CI,hX.ty t d hd,ha,hkb,hk3,List.getElem?_cons_zero,hl,if_true,hk1,f2,p1];rw[hk3,hk1]at hk;exact hk
      ·cases h
     ·cases h
    ·cases h
   ·rename_i ty deep e l hg;obtain⟨y,h1,h⟩:=Bq h
    split at h
    ·rename_i cs kills deep' hcl
     split at h
     ·rename_i hnd
      split at h
      ·rename_i cs' hput
       split at h
       ·rename_i zz hz;obtain⟨kb,hkb,hk1,hk2,hk3,hk4,hk5⟩:=hh id _ hg;obtain⟨f1,f2⟩:=Ka hx (Kc hcl);obtain⟨ys,q1,q2,q3⟩:=Px hh hcl f1;obtain⟨row,hrow,hre⟩:=hk5.get h1;obtain⟨row',p1,p2⟩:=RC.put hput hre.cells q2;have hrz:=YC hz p2;have hidk:id ∉ kills:=by
         simp only[EE,za2,Bool.not_eq_true',List.contains_eq_mem,decide_eq_false_iff_not]at hnd;exact hnd.1
        have hkeep:∀i,Db hp ((id,some (.arr ty (deep&&deep') e (l.set r zz)))::D9 hp kills) i:=by
         intro i bb hbb;rw[AF]at hbb
         split at hbb
         ·rename_i hi;subst hi;cases hbb;exact⟨_,hg,by simp[FY]⟩
         ·exact Ia kills hp i bb hbb
        have hkeep':∀i,Db (D9 hp kills) ((id,some (.arr ty (deep&&deep') e (l.set r zz)))::D9 hp kills) i:=by
         intro i bb hbb;rw[AF]at hbb
         split at hbb
         ·rename_i hi;subst hi;cases hbb
          cases hgk:AK (D9 hp kills) i with
          |none=>
           exfalso
           have:∀(ks:List Nat)(hp:THp),i ∉ ks->AK (D9 hp ks) i=AK hp i:=by
            intro ks
            induction ks with
            |nil=>intro hp _;rfl
            |cons q ks ih=>
             intro hp hq;simp only[zc6,not_or]at hq;rw[D9,ih _ hq.2,AF,zw hq.1]
           rw[this kills hp hidk,hg]at hgk;cases hgk
          |some b0=>
           have:=(TA kills hp i b0 hgk).1;rw[hg]at this;cases this
           exact⟨_,rfl,by simp[FY]⟩
         ·exact⟨bb,hbb,rfl⟩
        refine⟨_,_,_,.any,upd (kill hv kills) id (some {kb with rows:=kb.rows.set r row',deep:=kb.deep&&deep'}),h,trivial,?_,hr.keeps fun t i _=>hkeep i,fun KV hk=> ?_⟩
        ·exact(hh.kill kills).put (fun i _=>hkeep' i) (fun _ _ _ _ i _=>hkeep' i) ⟨hk1,hk2,by show(kb.deep&&deep')=_;rw[hk3],hk4,hk5.set r hrz⟩
        ·show CI P t (AJ m a) (AJ m x) hv KV;have hl:(flat (AJ m x)).length=d.size:=by have:=f1.length;omega
         simp only[CI,hX.ty t d hd,ha,hkb,hrow,hl,if_true,hk1,q1,hnd,p1];rw[hk1]at hk;exact hk
       ·cases h
      ·cases h
     ·cases h
    ·cases h
   ·cases h
  ·cases h
 ·cases h
theorem Vw{e:Ty}{size:Nat}(hr:RT hp tm m)(hh:RH hp hv)(hs:size=e.size):∀{Aj:List (Nat×Operand)}{n:Nat}{l:List e.den}{kills:List Nat}{deep:Bool},NQ hp tm e n Aj=some (l,kills,deep)->
  ∃rows,A6 hv (AJ m) size n Aj=some (rows,kills,deep)/\RLx (RE e) l rows
 |[],n,l,kills,deep,h=>by
  simp only[NQ,zx,Prod.mk.injEq]at h;obtain⟨rfl,rfl,rfl⟩:=h;exact⟨[],rfl,RLx.nil⟩
 |(k,x)::Aj,n,l,kills,deep,h=>by
  simp only[NQ]at h
  split at h
  ·rename_i hc;simp only[za2]at hc;have h1:=za6 hc.1;have h2:=za6 hc.2
   split at h
   ·rename_i cs a d ys as ds g1 g2
    split at h
    ·rename_i y hy;simp only[zx,Prod.mk.injEq]at h;obtain⟨rfl,rfl,rfl⟩:=h;obtain⟨f1,f2⟩:=Ka (A8 hr x) (Kc g1);obtain⟨us,q1,q2,q3⟩:=Px hh g1 f1;obtain⟨rows,q4,q5⟩:=Vw hr hh hs g2;refine⟨us::rows,?_,RLx.cons (YC hy q2) q5⟩
     simp only[A6,q1,q4];rw[zr ⟨h1,by have:=f1.length;omega⟩]
    ·cases h
   ·cases h
  ·cases h
theorem AI7{cs:List SV}:∀{us:List V},RC (RV0 hp) cs us->cs.all okT=true->cs.all YE=us.all WK:=by
 induction cs with
 |nil=>
  intro us h _;cases us with
  |nil=>rfl
  |cons a l=>exact h.elim
 |cons c cs ih=>
  intro us h hok;cases us with
  |nil=>exact h.elim
  |cons u us=>
   simp only[zd3,za2]at hok;simp only[zd3,ih h.2 hok.2];have h1:YE c=WK u:=by
    have h0:=h.1;cases c with
    |int k n=>have:u=_:=h0;subst this;rfl
    |bool b=>have:u=_:=h0;subst this;rfl
    |str s=>have:u=_:=h0;subst this;rfl
    |sc x=>have:u=_:=h0;subst this;rfl
    |em=>have:u=_:=h0;subst this;rfl
    |im t l=>rcases h0 with⟨_,rfl⟩|⟨rows,rfl,_⟩<;>rfl
    |ow id=>obtain⟨n,rfl,_⟩:=h0;rfl
    |ar a b c=>have:u=_:=h0;subst this;rfl
    |rf a b c=>have:u=_:=h0;subst this;rfl
    |ir a b c=>obtain⟨row,rfl,_⟩:=h0;rfl
    |cl f caps=>
     cases caps with
     |nil=>have:u=_:=h0;subst this;rfl
     |cons a l=>simp[okT]at hok
    |er b=>simp[okT]at hok
    |agg l=>simp[okT]at hok
    |tup l=>simp[okT]at hok
    |any=>simp[okT]at hok
   rw[h1]
theorem Al7{e:Ty}(hr:RT hp tm m):∀{Aj:List (Nat×Operand)}{n:Nat}{l:List e.den}{kills:List Nat}{deep:Bool},NQ hp tm e n Aj=some (l,kills,deep)->AT4 tm Aj=LH (AJ m) Aj
 |[],n,l,kills,deep,h=>rfl
 |(k,x)::Aj,n,l,kills,deep,h=>by
  simp only[NQ]at h
  split at h
  ·split at h
   ·rename_i cs a d ys as ds g1 g2;obtain⟨f1,f2⟩:=Ka (A8 hr x) (Kc g1);have h1:=AI7 f1 (Kc g1);have h2:=Al7 hr g2;unfold AT4 LH at h2⊢
    simp only[zd3,h1,h2]
   ·cases h
  ·cases h
theorem A6G{t:TypeId}{len:Nat}{Aj:Array (Nat×Operand)}(hX:XOK P X)(hh:RH hp hv)(hr:RT hp tm m)(h:BW X (.buildSlice t len Aj) b tm hp K=some z):
  Z1 P R cf (.buildSlice t len Aj) b tm m hv K z:=by
 simp only[BW,AC9]at h
 split at h
 ·rename_i e de c he;have hE:=PR hX he;generalize hps:Aj.toList=ps at h;cases len with
  |zero=>
   cases ps with
   |nil=>
    refine⟨_,_,_,.em,hv,h,rfl,hh,hr,fun KV hk=> ?_⟩
    show Av P t 0 Aj.toList (AJ m) hv b KV;rw[hps];simp only[Av,hE.el,hE.ty,Ao,true_and];exact hk
   |cons a l=>cases h
  |succ len=>
   simp only at h
   split at h
   ·rename_i l kills deep hcl
    split at h
    ·rename_i hc;simp only[za2]at hc;obtain⟨⟨⟨c1,c2⟩,c3⟩,hf⟩:=hc;have c1:=za6 c1;have c2:=Nat.le_of_ble_eq_true c2;obtain⟨rows,q1,q2⟩:=Vw hr hh hE.size hcl;obtain⟨g1,g2⟩:=T8 (x:=.arr e deep c l) (k:=AT e de.size deep rows) (hh.kill kills) (hr.keeps fun t i _=>Ia kills hp i) (KM hf) (fun id y hy=>RK hf hy) (by simp[LT]) ⟨rfl,rfl,rfl,hE.size,q2⟩;refine⟨_,_,_,.ar b 0 (len+1),_,h,⟨len+1,rfl,fun bb hb=> ?_⟩,g1,g2,fun KV hk=> ?_⟩
     ·rw[AF,zr rfl]at hb;cases hb
      simp[FY,c1]
     ·show Av P t (len+1) Aj.toList (AJ m) hv b KV;rw[hps];simp only[Av,hE.el,hE.ty,Ao,q1];rw[Al7 hr hcl]at hk;exact⟨by rw[q2.1];exact c1,by simpa using c2,c3,hk⟩
    ·cases h
   ·cases h
 ·cases h
theorem A6M{c:Ty}{d:TyD}{x:SV}{y:V}{l:List c.den}{kills:List Nat}{deep:Bool}(hh:RH hp hv)(hf:d.zero.all Wt=E6 c)(h:A8l c x hp=some (l,kills,deep))(hx:RV2 hp x y):
  ∃rows,RLx (RE c) l rows/\∀KV:List (List V)->List Nat->Bool->Prop,KV rows kills deep->BJ d y hv KV:=by
 have hsc:∀rows,E6 c=true->RLx (RE c) l rows->DS rows=true:=by
  intro rows hfl hr;refine za5.2 fun row hrow=> ?_
  obtain⟨i,hi⟩:=List.getElem?_of_mem hrow;obtain⟨a,_,hre⟩:=hr.get' hi;exact K6 hfl hre
 have im:∀rows,RLx (RE c) l rows->(d.zero.all Wt&&DS rows)=E6 c:=by
  intro rows hr;rw[hf];cases hfl:E6 c with
  |false=>rfl
  |true=>rw[hsc rows hfl hr];rfl
 unfold A8l at h
 split at h
 ·rename_i id;obtain⟨n,rfl,hlen⟩:=hx
  split at h
  ·rename_i a dd t l0 hg;obtain⟨k,hk,hk1,hk2,hk3,hk4,hk5⟩:=hh id _ hg;have:=hlen _ hg;cases this
   have hrows:(k.rows.take (0+l0.length)).drop 0=k.rows:=by rw[zf0,<-hk5.1];simp
   split at h
   ·rename_i he
    split at h
    ·rename_i hfl;simp only[zx,Prod.mk.injEq]at h;obtain⟨rfl,rfl,rfl⟩:=h;have hr:=GR he hk5;refine⟨k.rows,hr,fun KV hK=> ?_⟩
     simp only[BJ,hk,hk1,hrows];rw[zr (by rw[hf];exact hfl)];exact⟨hsc _ hfl hr,hK⟩
    ·rename_i hfl;simp only[zx,Prod.mk.injEq]at h;obtain⟨rfl,rfl,rfl⟩:=h;have hr:=GR he hk5;refine⟨k.rows,hr,fun KV hK=> ?_⟩
     simp only[BJ,hk,hk1,hrows];rw[zw (by rw[hf];exact hfl),hk3];exact hK
   ·cases h
  ·rename_i a dd t l0 hg;obtain⟨k,hk,hk1,hk2,hk3,hk4,hk5⟩:=hh id _ hg;have:=hlen _ hg;cases this
   have hrows:(k.rows.take (0+l0.length)).drop 0=k.rows:=by rw[zf0,<-hk5.1];simp
   split at h
   ·rename_i he;simp only[zx,Prod.mk.injEq]at h;obtain⟨rfl,rfl,rfl⟩:=h;have hr:=GR he hk5;refine⟨k.rows,hr,fun KV hK=> ?_⟩
    simp only[BJ,hk,hk1,hrows,im _ hr];exact hK
   ·cases h
  ·cases h
 ·rename_i id lo n;have hx:y=.ar id lo n:=hx;subst hx
  split at h
  ·rename_i a dd t l0 hg;obtain⟨k,hk,hk1,hk2,hk3,hk4,hk5⟩:=hh id _ hg
   split at h
   ·rename_i he
    split at h
    ·rename_i hfl;simp only[zx,Prod.mk.injEq]at h;obtain⟨rfl,rfl,rfl⟩:=h;have hr:=((GR he hk5).take (lo+n)).drop lo;refine⟨_,hr,fun KV hK=> ?_⟩
     simp only[BJ,hk,hk1];rw[zr (by rw[hf];exact hfl)];exact⟨hsc _ hfl hr,hK⟩
    ·rename_i hfl;simp only[zx,Prod.mk.injEq]at h;obtain⟨rfl,rfl,rfl⟩:=h;have hr:=((GR he hk5).take (lo+n)).drop lo;refine⟨_,hr,fun KV hK=> ?_⟩
     simp only[BJ,hk,hk1];rw[zw (by rw[hf];exact hfl),hk3];exact hK
   ·cases h
  ·rename_i a dd t l0 hg;obtain⟨k,hk,hk1,hk2,hk3,hk4,hk5⟩:=hh id _ hg
   split at h
   ·rename_i he;simp only[zx,Prod.mk.injEq]at h;obtain⟨rfl,rfl,rfl⟩:=h;have hr:=((GR he hk5).take (lo+n)).drop lo;refine⟨_,hr,fun KV hK=> ?_⟩
    simp only[BJ,hk,hk1,im _ hr];exact hK
   ·cases h
  ·cases h
 ·split at h
  ·rename_i hl;simp only[zx,Prod.mk.injEq]at h;obtain⟨rfl,rfl,rfl⟩:=h;rename_i l';have hx0:RV0 hp x y:=Am2 (hpm:=hp) (e:=c) (l:=l') (by unfold Hf;split<;>simp_all [asL]) hx;rcases Av7 hl hx0 with⟨rfl,rfl⟩|⟨rows,rfl,hr⟩
   ·exact⟨[],RLx.nil,fun KV hK=>by simp only[BJ];rw[hf];exact hK⟩
   ·exact⟨rows,hr,fun KV hK=>by simp only[BJ];rw[im _ hr];exact hK⟩
  ·cases h
theorem A2k{β:Type}{bytes size:Nat}{l m r:List β}(h:CZ bytes size l m=some r):r=l++m/\(l.length+m.length)*bytes<=Ae/\(l.length+m.length)*size<=Ae:=by
 unfold CZ at h
 split at h
 ·rename_i hc;cases h;exact⟨rfl,hc⟩
 ·cases h
theorem A3U {args : Array Operand} {ts : Array TypeId} (hX : XOK P X) (hh : RH hp hv) (hr : RT hp tm m) (h : BW X (.call { callee := .builtin .append, args := args, argTypes := ts }) b tm hp K = some z) :
    Z1 P R cf (.call { callee := .builtin .append, args := args, argTypes := ts }) b tm m hv K z := by
  simp only [BW] at h
  split at h
  · rename_i s x hargs
    unfold A0R at h
    split at h
    · rename_i t t' hts
      split at h
      · rename_i htt
        have htt := za6 htt
        split at h
        · rename_i e de c he
          have hE := PR hX he
          split at h
          · rename_i mm kills deep hsrc
            obtain ⟨rows, r1, r2⟩ := A6M (d := de) hh hE.flat hsrc (A8 hr x);have hs := A8 hr s;have hrl : ∀ r ∈ rows, r.length = de.size := fun row hrow => by
              obtain ⟨i, hi⟩ := List.getElem?_of_mem hrow;obtain ⟨a, _, hre⟩ := r1.get' hi;rw [hre.len, hE.size]
            have step : ∀ KV : Cx, (∀ s', AJ m s = s' -> BJ de (AJ m x) hv fun rows kills deep =>
                match s' with
                | .em =>
                  rows.length * de.bytes <= Ae /\ rows.length * de.size <= Ae /\ (∀ r ∈ rows, r.length = de.size) /\ EE kills = true /\
                  KV (.ar b 0 rows.length) (upd (kill hv kills) b (some (AT e de.size deep rows))) (match kills with | [] => .M | _ => .E)
                | .ar id lo n =>
                  BG (hv id) fun k =>
                    k.kind = .arr /\ lo = 0 /\ k.ty = e /\ k.size = de.size /\ EE (id :: kills) = true /\
                    (n + rows.length) * de.bytes <= Ae /\ (n + rows.length) * de.size <= Ae /\ (∀ r ∈ rows, r.length = de.size) /\
                    KV (.ar b 0 (n + rows.length)) (upd (kill hv (id :: kills)) b (some (AT e de.size (k.deep && deep) (k.rows.take n ++ rows)))) .E
                | _ => False) -> BC P R cf (.call { callee := .builtin .append, args := args, argTypes := ts }) b (AJ m) hv KV := by
              intro KV hK;show (match args.toList with | [s, x] => C2 P ts.toList (AJ m s) (AJ m x) hv b KV | _ => False);rw [hargs, hts];simp only [C2, hE.el, hE.ty, Ao];exact ⟨htt, hK _ rfl⟩
            have own : ∀ (id n ty : Nat) (d0 : Bool) (l : List c.den) (k : Blk), AJ m s = .ar id 0 n -> hv id = some k -> k.kind = .arr -> k.ty = ty -> k.deep = d0 -> k.size = c.size -> RLx (RE c) l (k.rows.take n) -> l.length = n ->
                (Nat.beq ty e && EE (id :: kills) && HQ tm hp b) = true -> ((CZ de.bytes de.size l mm).bind fun r => K (.ow b) ((b, some (.arr e (d0 && deep) c r)) :: D9 hp (id :: kills)) .E) = some z ->
                Z1 P R cf (.call { callee := .builtin .append, args := args, argTypes := ts }) b tm m hv K z := by
              intro id n ty d0 l k hs hk k1 k2 k3 k4 hl hln hc h;simp only [za2] at hc;obtain ⟨⟨c1, c2⟩, hf⟩ := hc;have c1 := za6 c1;obtain ⟨r, a1, a2⟩ := Bq h;obtain ⟨rfl, a3, a4⟩ := A2k a1;obtain ⟨g1, g2⟩ := T8 (x := .arr e (d0 && deep) c (l ++ mm)) (k := AT e de.size (k.deep && deep) (k.rows.take n ++ rows)) (hh.kill (id :: kills)) (hr.keeps fun t i _ => Ia (id :: kills) hp i) (KM hf) (fun id y hy => RK hf hy) (by simp [LT])
                ⟨rfl, rfl, by show (k.deep && deep) = _; rw [k3], hE.size, hl.append r1⟩
              refine ⟨_, _, _, .ar b 0 (n + rows.length), _, a2, ⟨n + rows.length, rfl, fun bb hb => ?_⟩, g1, g2, fun KV hk' => step KV fun s' hs' => ?_⟩
              · rw [AF, zr rfl] at hb
                cases hb
                simp [FY, hln, r1.1]
              · rw [hs] at hs'
                subst hs';refine r2 _ ?_
                simp only [hk, Ao];exact ⟨k1, trivial, by rw [k2, c1], by rw [k4, hE.size], c2, by rw [r1.1, <- hln]; exact a3, by rw [r1.1, <- hln]; exact a4, hrl, hk'⟩
            split at h
            · rename_i e1
              rw [e1] at hs;have hs : AJ m s = .em := hs
              split at h
              · rename_i hc
                simp only [za2] at hc;obtain ⟨c1, hf⟩ := hc;obtain ⟨hroom, h⟩ := Dx h;simp only [Al3, za2, decide_eq_true_eq] at hroom;obtain ⟨g1, g2⟩ := T8 (x := .arr e deep c mm) (k := AT e de.size deep rows) (hh.kill kills) (hr.keeps fun t i _ => Ia kills hp i) (KM hf) (fun id y hy => RK hf hy) (by simp [LT]) ⟨rfl, rfl, rfl, hE.size, r1⟩;refine ⟨_, _, _, .ar b 0 rows.length, _, h, ⟨rows.length, rfl, fun bb hb => ?_⟩, g1, g2, fun KV hk => step KV fun s' hs' => ?_⟩
                · rw [AF, zr rfl] at hb
                  cases hb
                  simp [FY, r1.1]
                · rw [hs] at hs'
                  subst hs';refine r2 _ ?_
                  exact ⟨by rw [r1.1]; exact hroom.1, by rw [r1.1]; exact hroom.2, hrl, c1, hk⟩
              · cases h
            · rename_i id e1
              rw [e1] at hs;obtain ⟨n, hs, hlen⟩ := hs
              split at h
              · rename_i ty d0 t0 l hg
                split at h
                · rename_i ht0
                  split at h
                  · rename_i hc
                    obtain ⟨k, hk, k1, k2, k3, k4, k5⟩ := hh id _ hg;have := hlen _ hg;cases this
                    subst ht0
                    exact own id l.length ty d0 l k hs hk k1 k2 k3 k4 (by have : k.rows.take l.length = k.rows := by rw [<- k5.1]; simp
                                                                          rw [this]; exact k5) rfl hc h
                  · cases h
                · cases h
              · cases h
            · rename_i id n e1
              rw [e1] at hs;have hs : AJ m s = .ar id 0 n := hs
              split at h
              · rename_i ty d0 t0 l hg
                split at h
                · rename_i ht0
                  split at h
                  · rename_i hc
                    obtain ⟨k, hk, k1, k2, k3, k4, k5⟩ := hh id _ hg;subst ht0;obtain ⟨hle, h⟩ := Dx h;have hle := of_decide_eq_true hle;exact own id n ty d0 (l.take n) k hs hk k1 k2 k3 k4 (k5.take n) (by simp; omega) hc h
                  · cases h
                · cases h
              · cases h
            · cases h
          · cases h
        · cases h
      · cases h
    · cases h
  · cases h
end
end
section
open Go
section
variable {tm:TTm} {m:Tm} {hp hp':THp} {hv hv':Hp}
theorem A15{id:Nat}(hh:RH hp hv):RH ((id,(AK hp id).map A2G)::hp) (upd hv id ((hv id).map fun k=>{k with kind:=match k.kind with|.arr=>.frz|x=>x}))/\∀i,Db hp ((id,(AK hp id).map A2G)::hp) i:=by
 have hk:∀i,Db hp ((id,(AK hp id).map A2G)::hp) i:=by
  intro i b hb;rw[AF]at hb
  split at hb
  ·rename_i hi;subst hi;simp only[zb6]at hb;obtain⟨b0,h0,rfl⟩:=hb;exact⟨b0,h0,by cases b0<;>rfl⟩
  ·exact⟨b,hb,rfl⟩
 refine⟨fun i b hb=> ?_,hk⟩
 rw[AF]at hb
 split at hb
 ·rename_i hi;subst hi;simp only[zb6]at hb;obtain⟨b0,h0,rfl⟩:=hb;obtain⟨k,hk1,hrb⟩:=hh i b0 h0;refine⟨_,by simp only[upd,if_true,hk1,zd4];rfl,RB.keeps (hp:=hp) ?_ fun j _=>hk j⟩
  cases b0 with
  |box ty cs=>obtain⟨h1,h2,h3⟩:=hrb;exact⟨by simp[h1],h2,h3⟩
  |arr ty deep t l=>obtain⟨h1,h2,h3⟩:=hrb;exact⟨by simp[h1],h2,h3⟩
  |frz ty deep t l=>obtain⟨h1,h2,h3⟩:=hrb;exact⟨by simp[h1],h2,h3⟩
 ·rename_i hi;obtain⟨k,hk1,hrb⟩:=hh i b hb;exact⟨k,by simp only[upd,zw hi];exact hk1,hrb.keeps fun j _=>hk j⟩
theorem X6:∀(l:List Nat){hp:THp}{hv:Hp},RH hp hv->RH (Fe hp l) (freeze hv l)/\∀i,Db hp (Fe hp l) i
 |[],hp,hv,h=>⟨h,fun i=>Db.refl hp i⟩
 |id::l,hp,hv,h=>by
  obtain⟨h1,h2⟩:=A15 (id:=id) h;obtain⟨h3,h4⟩:=X6 l h1;exact⟨h3,fun i=>(h2 i).trans (h4 i)⟩
theorem Va:∀(l:List Nat)(hp:THp)(id:Nat),id ∉ l->AK (Fe hp l) id=AK hp id
 |[],_,_,_=>rfl
 |x::l,hp,id,h=>by
  simp only[zc6,not_or]at h;rw[Fe,Va l _ id h.2,AF,zw h.1]
theorem Vi:∀(l:List Nat)(hp:THp)(id:Nat)(ty:TypeId)(cs:List SV),AK hp id=some (.box ty cs)->AK (Fe hp l) id=some (.box ty cs)
 |[],_,_,_,_,h=>h
 |x::l,hp,id,ty,cs,h=>by
  rw[Fe];refine Vi l _ id ty cs ?_
  rw[AF]
  split
  ·rename_i he;subst he;rw[h];rfl
  ·exact h
theorem Ag8{hp:THp}{id:Nat}{b:TB}(h:AK hp id=some b):(id,some b)∈hp:=by
 induction hp with
 |nil=>cases h
 |cons a l ih=>
  obtain⟨k,x⟩:=a;rw[AF]at h
  split at h
  ·rename_i he;subst he;subst h;simp
  ·exact ze6 _ (ih h)
theorem O7{a b:Nat}(h:Nat.blt a b=true):a<b:=Nat.lt_of_succ_le (Nat.le_of_ble_eq_true h)
def Bel(b:Nat)(hp:THp):Prop:=∀id k,AK hp id=some k->id<b/\∀i∈LT k,i<b
theorem Bel.mono{b b':Nat}{hp:THp}(h:Bel b hp)(hb:b<=b'):Bel b' hp:=fun id k hk=>⟨ze1 (h id k hk).1 hb,fun i hi=>ze1 ((h id k hk).2 i hi) hb⟩
theorem UP{tm:TTm}{hp:THp}{b:Nat}(h:Uj tm hp b=true):Bel b hp/\∀t,∀i∈HL (CW tm t),i<b:=by
 simp only[Uj,za2]at h;refine⟨fun id k hk=> ?_,fun t i hi=> ?_⟩
 ·have:=za5.1 h.2 _ (Ag8 hk);simp only[za2]at this;exact⟨O7 this.1,fun i hi=>O7 (za5.1 this.2 i hi)⟩
 ·rcases AD5 (tm:=tm) (t:=t)with h'|⟨x,hx,h'⟩
  ·rw[h']at hi;simp[HL,ZU,F2]at hi
  ·rw[<-h']at hi;exact O7 (za5.1 (za5.1 h.1 x hx) i hi)
theorem A4u{b:TB}{i:Nat}(h:i∈LT (A2G b)):i∈LT b:=by
 cases b with
 |arr _ _ _ _=>simp[A2G,LT]at h
 |_=>exact h
theorem OL:∀(l:List Nat){hp:THp}{b:Nat},Bel b hp->Bel b (Fe hp l)
 |[],_,_,h=>h
 |x::l,hp,b,h=>by
  rw[Fe];refine OL l fun id k hk=> ?_
  rw[AF]at hk
  split at hk
  ·rename_i he;subst he;simp only[zb6]at hk;obtain⟨k0,h0,rfl⟩:=hk;exact⟨(h id k0 h0).1,fun i hi=>(h id k0 h0).2 i (A4u hi)⟩
  ·exact h id k hk
theorem A1I{hp:THp}{x:SV}{y:V}(h:RV0 hp x y)(hx:okT x=true):BF y=true:=by
 cases x with
 |im t l=>rcases h with⟨_,rfl⟩|⟨_,rfl,_⟩<;>rfl
 |ow id=>obtain⟨_,rfl,_⟩:=h;rfl
 |ir t a c=>obtain⟨_,rfl,_⟩:=h;rfl
 |cl f cs=>cases cs with|nil=>have:y=_:=h;subst this;rfl|cons a l=>exact h.elim
 |any=>simp[okT]at hx
 |agg cs=>exact h.elim
 |tup cs=>exact h.elim
 |int k n=>have:y=_:=h;subst this;rfl
 |bool k=>have:y=_:=h;subst this;rfl
 |str k=>have:y=_:=h;subst this;rfl
 |sc k=>have:y=_:=h;subst this;rfl
 |em=>have:y=_:=h;subst this;rfl
 |er e=>simp[okT]at hx
 |ar a b c=>have:y=_:=h;subst this;rfl
 |rf a b c=>have:y=_:=h;subst this;rfl
structure NV (b n:Nat) (hp:THp) (hp':THp) (hv':Hp):Prop where
 rh:RH hp' hv'
 bel:Bel (b+n) hp'
 keep:∀i,i<b->Db hp hp' i
structure NT (b n:Nat) (hp:THp) (hp':THp) (hv':Hp):Prop extends NV b n hp hp' hv' where
 box:∀i ty cs,i<b->AK hp i=some (.box ty cs)->AK hp' i=some (.box ty cs)
theorem NT.refl(hh:RH hp hv){b:Nat}(hb:Bel b hp):NT b 0 hp hp hv:=⟨⟨hh,hb,fun i _=>Db.refl hp i⟩,fun _ _ _ _ h=>h⟩
theorem NT.trans{b n k:Nat}{hp1 hp2:THp}{hv1 hv2:Hp}(h:NT b n hp hp1 hv1)(g:NT (b+n) k hp1 hp2 hv2):NT b (n+k) hp hp2 hv2:=
 ⟨⟨g.rh,by have:=g.bel;rwa[Nat.add_assoc]at this,fun i hi=>(h.keep i hi).trans (g.keep i (by omega))⟩,fun i ty cs hi hg=>g.box i ty cs (by omega) (h.box i ty cs hi hg)⟩
theorem A1a{m:TM}{v v':SV}{y:V}{b n:Nat}(hh:RH hp hv)(hb:Bel b hp)(hi:∀i∈F2 v,i<b)(hv0:RV0 hp v y)(h:tnC m v hp b=some (v',hp',n)):
  ∃y' hv',N8 m.md y hv b=some (y',hv',n)/\NT b n hp hp' hv'/\RV0 hp' v' y'/\∀i∈F2 v',i<b+n:=by
 cases m with
 |keep=>
  simp only[tnC,zx,Prod.mk.injEq]at h;obtain⟨rfl,rfl,rfl⟩:=h;exact⟨y,hv,rfl,NT.refl hh hb,hv0,hi⟩
 |own ty deep t=>
  cases v with
  |em=>
   simp only[tnC,zx,Prod.mk.injEq]at h;obtain⟨rfl,rfl,rfl⟩:=h;have:y=.em:=hv0;subst this;refine⟨.ar b 0 0,upd hv b (some (AT ty t.size deep [])),rfl,⟨⟨?_,fun id k hk=> ?_,fun i hi=>LX (by omega)⟩,fun i ty' cs hi hg=>by rw[AF,zw (by omega)];exact hg⟩,⟨0,rfl,fun k hk=> ?_⟩,fun i hi=>by simp[F2]at hi;omega⟩
   ·exact hh.put (fun i hi=>by simp[LT]at hi) (fun id z _ hz i hi=>LX fun he=>by have:=(hb id z hz).2 i hi;omega) ⟨rfl,rfl,rfl,rfl,RLx.nil⟩
   ·rw[AF]at hk
    split at hk
    ·cases hk;exact⟨by omega,fun i hi=>by simp[LT]at hi⟩
    ·exact(hb.mono (by omega)) id k hk
   ·rw[AF,zr rfl]at hk;cases hk;rfl
  |ow id=>
   simp only[tnC]at h
   split at h
   ·rename_i ty' deep' t' l hg
    split at h
    ·rename_i he
     split at h
     ·rename_i hc;simp only[za2,beq_iff_eq]at hc;simp only[zx,Prod.mk.injEq]at h;obtain⟨rfl,rfl,rfl⟩:=h;subst he;have e1:=za6 hc.1;have e2:=hc.2;subst e1;subst e2;obtain⟨k,hk,k1,k2,k3,k4,k5⟩:=hh id _ hg;obtain⟨n',rfl,hlen⟩:=hv0;have hn':=hlen _ hg;cases hn'
      refine⟨.ar id 0 l.length,hv,?_,NT.refl hh hb,⟨_,rfl,hlen⟩,hi⟩
      show(match hv id with|some k=>if k.kind=Kind.arr/\0=0/\l.length=k.rows.length/\k.ty=ty'/\k.size=t'.size/\k.deep=deep' then some (V.ar id 0 l.length,hv,0)else none|none=>none)=_;rw[hk];simp only;rw[zr ⟨k1,trivial,k5.1.symm,k2,k4,k3⟩]
     ·cases h
    ·cases h
   ·cases h
  |_=>simp[tnC]at h
 |im t=>
  simp only[tnC]at h
  split at h
  ·rename_i l hl;simp only[zx,Prod.mk.injEq]at h;obtain⟨rfl,rfl,rfl⟩:=h;obtain⟨g1,g2⟩:=X6 (frV v) hh;have nt:NT b 0 hp (Fe hp (frV v)) (freeze hv (frV v)):=⟨⟨g1,OL _ hb,fun i _=>g2 i⟩,fun i ty cs _ hg=>Vi _ _ _ _ _ hg⟩;rcases Za hl hv0 hh.toM with⟨rfl,rfl⟩|⟨rows,rfl,hr⟩|⟨id,lo,n,kb,rfl,hk,hkk,hr⟩
   ·have hf:frV v=[]:=by
     cases v<;>first|rfl|(obtain⟨n,hy,_⟩:=hv0;cases hy)|(have:V.em=_:=hv0;cases this)
    exact⟨.im [],_,by rw[hf];rfl,nt,.inr ⟨[],rfl,RLx.nil⟩,fun i hi=>by simp[F2]at hi⟩
   ·have hf:frV v=[]:=by
     cases v<;>first|rfl|(obtain⟨n,hy,_⟩:=hv0;cases hy)|(have:V.im rows=_:=hv0;cases this)
    exact⟨.im rows,_,by rw[hf];rfl,nt,.inr ⟨rows,rfl,hr⟩,fun i hi=>by simp[F2]at hi⟩
   ·have hf:frV v=[id]:=by
     cases v with
     |ow id'=>obtain⟨n',hy,_⟩:=hv0;cases hy;rfl
     |ar a b c=>have:V.ar id lo n=_:=hv0;cases this;rfl
     |em=>have:V.ar id lo n=_:=hv0;cases this
     |er e=>have:V.ar id lo n=_:=hv0;cases this
     |im t' l'=>rcases hv0 with⟨_,hy⟩|⟨_,hy,_⟩<;>cases hy
     |_=>simp[Hf,asL]at hl
    refine⟨.im ((kb.rows.take (lo+n)).drop lo),_,?_,nt,.inr ⟨_,rfl,hr⟩,fun i hi=>by simp[F2]at hi⟩
    rw[hf];show(match hv id with|some k=>(match k.kind with|.box=>none|_=>some (V.im ((k.rows.take (lo+n)).drop lo),freeze hv [id],0))|none=>none)=_;rw[hk];simp only
  ·cases h
 |sub=>
  cases v with
  |ow id=>
   simp only[tnC]at h
   split at h
   ·rename_i ty' deep' t' l hg;simp only[zx,Prod.mk.injEq]at h;obtain⟨rfl,rfl,rfl⟩:=h;obtain⟨n',rfl,hlen⟩:=hv0;have hn':=hlen _ hg;cases hn'
    exact⟨_,hv,rfl,NT.refl hh hb,rfl,fun i hi=>by simp[F2]at hi⟩
   ·cases h
  |ar id lo n'=>
   simp only[tnC,zx,Prod.mk.injEq]at h;obtain⟨rfl,rfl,rfl⟩:=h;exact⟨y,hv,rfl,NT.refl hh hb,hv0,hi⟩
  |_=>simp[tnC]at h
theorem At3:∀{ms:List TM}{vs vs':List SV}{ys:List V}{hp hp':THp}{hv:Hp}{b n:Nat},RH hp hv->Bel b hp->(∀i∈vs.flatMap F2,i<b)->RC (RV0 hp) vs ys->tnL ms vs hp b=some (vs',hp',n)->
  ∃ys' hv',N2 (ms.map TM.md) ys hv b=some (ys',hv',n)/\NT b n hp hp' hv'/\RC (RV0 hp') vs' ys'/\∀i∈vs'.flatMap F2,i<b+n
 |[],[],vs',ys,hp,hp',hv,b,n,hh,hb,hi,hc,h=>by
  simp only[tnL,zx,Prod.mk.injEq]at h;obtain⟨rfl,rfl,rfl⟩:=h;cases ys with
  |nil=>exact⟨[],hv,rfl,NT.refl hh hb,trivial,fun i hi=>by simp at hi⟩
  |cons a l=>exact hc.elim
 |m::ms,v::vs,vs',ys,hp,hp',hv,b,n,hh,hb,hi,hc,h=>by
  cases ys with
  |nil=>exact hc.elim
  |cons y ys=>
   simp only[tnL]at h
   split at h
   ·rename_i z hp1 n1 h1
    split at h
    ·rename_i zs hp2 k h2;simp only[zx,Prod.mk.injEq]at h;obtain⟨rfl,rfl,rfl⟩:=h;obtain⟨y',hv1,e1,q1,r1,s1⟩:=A1a hh hb (fun i hi'=>hi i (by simp[hi'])) hc.1 h1;obtain⟨ys',hv2,e2,q2,r2,s2⟩:=At3 q1.rh q1.bel (fun i hi'=>by have:=hi i (by simp only[zb5,zb2];exact .inr hi');omega) (hc.2.mono fun x hx y hxy=>hxy.keeps fun i hi'=>q1.keep i (hi i (by simp only[zb5,zb2];exact .inr (zb3.2 ⟨x,hx,hi'⟩)))) h2;refine⟨y'::ys',hv2,by simp only[zb9,N2,e1,e2],q1.trans q2,⟨r1.keeps fun i hi'=>q2.keep i (s1 i hi'),r2⟩,fun i hi'=> ?_⟩
     rcases zb2.1 (by simpa only[zb5]using hi')with hi'|hi'
     ·have:=s1 i hi';omega
     ·have:=s2 i hi';omega
    ·cases h
   ·cases h
 |[],_::_,_,_,_,_,_,_,_,_,_,_,_,h=>by simp[tnL]at h
 |_::_,[],_,_,_,_,_,_,_,_,_,_,_,h=>by simp[tnL]at h
theorem A0X{m:TMs}{v v':SV}{y:V}{b n:Nat}(hh:RH hp hv)(hb:Bel b hp)(hi:∀i∈HL v,i<b)(hv2:RV2 hp v y)(h:tnV m v hp b=some (v',hp',n)):
  ∃y' hv',Vu m.mds y hv b=some (y',hv',n)/\NV b n hp hp' hv'/\RV2 hp' v' y'/\∀i∈HL v',i<b+n:=by
 cases m with
 |one m=>
  have h:tnC m v hp b=some (v',hp',n):=h;have cell:(∃y0,RV0 hp v y0/\y0=y)->HL v=F2 v->HL v'=F2 v'->(∀y',RV0 hp' v' y'->RV2 hp' v' y')->∃y' hv',Vu (TMs.one m).mds y hv b=some (y',hv',n)/\NV b n hp hp' hv'/\RV2 hp' v' y'/\∀i∈HL v',i<b+n:=by
   rintro⟨_,h0,rfl⟩ e1 e2 h2;obtain⟨y',hv',q1,q2,q3,q4⟩:=A1a hh hb (by rw[<-e1];exact hi) h0 h;exact⟨y',hv',q1,q2.toNV,h2 y' q3,by rw[e2];exact q4⟩
  cases m with
  |keep=>
   simp only[tnC,zx,Prod.mk.injEq]at h;obtain⟨rfl,rfl,rfl⟩:=h;exact⟨y,hv,rfl,(NT.refl hh hb).toNV,hv2,hi⟩
  |own ty deep t=>
   have hw:∃i,v'=.ow i:=by
    cases v<;>simp only[tnC,reduceCtorEq]at h
    ·simp only[zx,Prod.mk.injEq]at h;exact⟨_,h.1.symm⟩
    ·repeat' (split at h)
     all_goals first|(simp only[zx,Prod.mk.injEq]at h;exact⟨_,h.1.symm⟩)|cases h
   obtain⟨i',rfl⟩:=hw;cases v<;>simp only[tnC,reduceCtorEq]at h
   ·exact cell ⟨y,hv2,rfl⟩ rfl rfl fun y' h=>h
   ·exact cell ⟨y,hv2,rfl⟩ rfl rfl fun y' h=>h
  |im t=>
   have hw:∃l,v'=.im t l:=by
    simp only[tnC]at h
    split at h
    ·simp only[zx,Prod.mk.injEq]at h;exact⟨_,h.1.symm⟩
    ·cases h
   obtain⟨l',rfl⟩:=hw;cases v<;>first|exact cell ⟨y,hv2,rfl⟩ rfl rfl fun y' h=>h|(simp[tnC,Hf,asL]at h;done)
  |sub=>
   have hw:∃i lo k,v'=.ar i lo k:=by
    cases v<;>simp only[tnC,reduceCtorEq]at h
    ·split at h
     ·simp only[zx,Prod.mk.injEq]at h;exact⟨_,_,_,h.1.symm⟩
     ·cases h
    ·simp only[zx,Prod.mk.injEq]at h;exact⟨_,_,_,h.1.symm⟩
   obtain⟨i',lo',k',rfl⟩:=hw;cases v<;>first|exact cell ⟨y,hv2,rfl⟩ rfl rfl fun y' h=>h|(simp[tnC]at h;done)
 |agg l=>
  cases v with
  |agg cs=>
   simp only[tnV]at h
   split at h
   ·rename_i cs' hp1 n1 h1;simp only[zx,Prod.mk.injEq]at h;obtain⟨rfl,rfl,rfl⟩:=h;obtain⟨us,rfl,hc⟩:=XD hv2;obtain⟨ys',hv',q1,q2,q3,q4⟩:=At3 hh hb hi hc h1;refine⟨.agg ys',hv',?_,q2.toNV,⟨ys',rfl,q3⟩,q4⟩
    show(N2 (l.map TM.md) us hv b).map _=_;rw[q1];rfl
   ·cases h
  |_=>simp[tnV]at h
 |box l=>
  cases v with
  |rf id r c=>
   simp only[tnV]at h
   split at h
   ·rename_i ty cs hg
    split at h
    ·rename_i cs' hp1 n1 h1
     split at h
     ·rename_i hok;simp only[zx,Prod.mk.injEq]at h;obtain⟨rfl,rfl,rfl⟩:=h;have:y=.rf id r c:=hv2;subst this;obtain⟨k,hk,k1,k2,row,k3,k4,k5⟩:=hh id _ hg;obtain⟨ys',hv',q1,q2,q3,q4⟩:=At3 hh hb (hb id _ hg).2 k5 h1;have hlt:=(hb id _ hg).1;have hbx:=q2.box id ty cs hlt hg;have hkp:∀i,Db hp1 ((id,some (.box ty cs'))::hp1) i:=fun i=>ZF (y:=.box ty cs') hbx rfl i
      have hoc:ys'.all BF=true:=by
       have key:∀{xs:List SV}{us:List V},RC (RV0 hp1) xs us->xs.all okT=true->us.all BF=true:=by
        intro xs
        induction xs with
        |nil=>intro us h _;cases us with|nil=>rfl|cons a l=>exact h.elim
        |cons x xs ih=>
         intro us h ho;cases us with
         |nil=>exact h.elim
         |cons u us=>
          simp only[zd3,za2]at ho⊢
          exact⟨A1I h.1 ho.1,ih h.2 ho.2⟩
       exact key q3 hok
      have hlen:cs'.length=cs.length:=by
       have:∀{ms:List TM}{vs vs':List SV}{hp hp':THp}{b n:Nat},tnL ms vs hp b=some (vs',hp',n)->vs'.length=vs.length:=by
        intro ms
        induction ms with
        |nil=>intro vs vs' hp hp' b n h;cases vs with|nil=>simp[tnL]at h;simp[h]|cons _ _=>simp[tnL]at h
        |cons m ms ih=>
         intro vs vs' hp hp' b n h;cases vs with
         |nil=>simp[tnL]at h
         |cons v vs=>
          simp only[tnL]at h
          split at h
          ·split at h
           ·rename_i h2;simp only[zx,Prod.mk.injEq]at h;obtain⟨rfl,_,_⟩:=h;simp[ih h2]
           ·cases h
          ·cases h
       exact this h1
      refine⟨.rf id r c,upd hv' id (some {k with rows:=[ys']}),?_,⟨?_,fun i z hz=> ?_,fun i hi=>(q2.keep i hi).trans (hkp i)⟩,rfl,fun i hi=>by simp[HL,ZU,F2]at hi⟩
      ·show(match hv id with|some k=>(match k.kind,k.rows with|Kind.box,[row]=>(match N2 (l.map TM.md) row hv b with|some (cs',hp1,n)=>if cs'.all BF then some (V.rf id r c,upd hp1 id (some {k with rows:=[cs']}),n)else none|none=>none)|_,_=>none)|none=>none)=_;rw[hk];simp only[k1,k3,q1,hoc,if_true]
      ·refine q2.rh.put (fun i _=>hkp i) (fun _ _ _ _ i _=>hkp i) ⟨k1,k2,ys',rfl,?_,q3⟩
       show k.size=ys'.length;rw[k4,k5.length,q3.length,hlen]
      ·rw[AF]at hz
       split at hz
       ·cases hz;rename_i he;subst he;exact⟨by omega,q4⟩
       ·exact q2.bel i z hz
     ·cases h
    ·cases h
   ·cases h
  |_=>simp[tnV]at h
theorem A0r:∀{l:List (Nat×TMs)}{st st':TSt}{s:St},RS st s->Bel (16*st.c) st.hp->(∀t,∀i∈HL (CW st.tm t),i<16*st.c)->tnS l st=some st'->
  ∃s',QG (F9 l) s=some s'/\RS st' s'/\Bel (16*st'.c) st'.hp/\∀t,∀i∈HL (CW st'.tm t),i<16*st'.c
 |[],st,st',s,hs,hb,hi,h=>by
  simp only[tnS,zx]at h;subst h;exact⟨s,rfl,hs,hb,hi⟩
 |(k,m)::l,st,st',s,hs,hb,hi,h=>by
  simp only[tnS]at h
  split at h
  ·rename_i x hp1 n h1
   split at h
   ·rename_i hn;have hn:=Nat.le_of_ble_eq_true hn;obtain⟨y',hv1,q1,q2,q3,q4⟩:=A0X hs.hp hb (hi k) (hs.tm k) h1;obtain⟨s',e1,e2,e3,e4⟩:=A0r (s:={tm:=upd s.tm k y',hp:=hv1,c:=s.c+1}) (st:={tm:=(k,x)::st.tm,hp:=hp1,c:=st.c+1}) ⟨fun t=>by
      show RV2 hp1 (CW ((k,x)::st.tm) t) (upd s.tm k y' t);rw[GZ];unfold upd
      split
      ·exact q3
      ·exact(hs.tm t).keeps fun i hi'=>q2.keep i (hi t i hi'),q2.rh,by show s.c+1=st.c+1;rw[hs.c]⟩ (q2.bel.mono (by show _<=16*(st.c+1);omega)) (fun t i hi'=>by
      have hi':i∈HL (CW ((k,x)::st.tm) t):=hi';show i<16*(st.c+1);rw[GZ]at hi'
      split at hi'
      ·have:=q4 i hi';omega
      ·have:=hi t i hi';omega) h
    refine⟨s',?_,e2,e3,e4⟩
    show QG ((k,m.mds)::F9 l) s=_;simp only[QG];rw[hs.c,q1];simp only;rw[zr hn];rw[<-hs.c];exact e1
   ·cases h
  ·cases h
theorem AZ0:∀{ms:List TMs}{xs xs':List SV}{ys:List V}{hp hp':THp}{hv:Hp}{c:Nat},RH hp hv->Bel (16*c) hp->(∀i∈xs.flatMap HL,i<16*c)->RC (RV2 hp) xs ys->tnR ms xs hp c=some (xs',hp')->
  ∃ys' hv' c',Kg (ms.map TMs.mds) ys hv c=some (ys',hv',c')/\RH hp' hv'/\RC (RV2 hp') xs' ys'/\(∀i,i<16*c->Db hp hp' i)
 |[],[],xs',ys,hp,hp',hv,c,hh,hb,hi,hc,h=>by
  simp only[tnR,zx,Prod.mk.injEq]at h;obtain⟨rfl,rfl⟩:=h;cases ys with
  |nil=>exact⟨[],hv,c,rfl,hh,trivial,fun i _=>Db.refl hp i⟩
  |cons a l=>exact hc.elim
 |m::ms,x::xs,xs',ys,hp,hp',hv,c,hh,hb,hi,hc,h=>by
  cases ys with
  |nil=>exact hc.elim
  |cons y ys=>
   simp only[tnR]at h
   split at h
   ·rename_i z hp1 n h1
    split at h
    ·rename_i hn;have hn:=Nat.le_of_ble_eq_true hn
     split at h
     ·rename_i zs hp2 h2;simp only[zx,Prod.mk.injEq]at h;obtain⟨rfl,rfl⟩:=h;obtain⟨y',hv1,q1,q2,q3,q4⟩:=A0X hh hb (fun i hi'=>hi i (by simp[hi'])) hc.1 h1;obtain⟨ys',hv2,c',e1,e2,e3,e4⟩:=AZ0 q2.rh (q2.bel.mono (show _<=16*(c+1) by omega)) (fun i hi'=>by have:=hi i (by simp only[zb5,zb2];exact .inr hi');omega) (hc.2.mono fun x hx y hxy=>hxy.keeps fun i hi'=>q2.keep i (hi i (by simp only[zb5,zb2];exact .inr (zb3.2 ⟨x,hx,hi'⟩)))) h2;refine⟨y'::ys',hv2,c',?_,e2,⟨q3.keeps fun i hi'=>e4 i (by have:=q4 i hi';omega),e3⟩,fun i hi'=>(q2.keep i hi').trans (e4 i (by omega))⟩
      simp only[zb9,Kg,q1,zr hn,e1]
     ·cases h
    ·cases h
   ·cases h
 |[],_::_,_,_,_,_,_,_,_,_,_,_,h=>by simp[tnR]at h
 |_::_,[],_,_,_,_,_,_,_,_,_,_,h=>by simp[tnR]at h
end
end
section
open Go
section
variable {hp hp' H:THp} {hv hv':Hp}
theorem ST{i:Nat}:∀{l:List Nat},A2q i l=l.contains i
 |[]=>rfl
 |x::l=>by
  simp only[A2q,List.contains_cons];rw[ST];cases h:Nat.beq x i with
  |true=>have:=za6 h;subst this;simp
  |false=>
   have:x≠i:=fun he=>by subst he;rw[Nat.beq_refl]at h;cases h
   have h2:(i==x)=false:=by simpa using fun he:i=x=>this he.symm
   rw[h2];rfl
theorem Mg:∀{l m:List Nat},AR5 l m=true->l=m
 |[],[],_=>rfl
 |x::l,y::m,h=>by
  simp only[AR5,za2]at h;rw[za6 h.1,Mg h.2]
 |[],_::_,h=>by cases h
 |_::_,[],h=>by cases h
theorem A6f{v:SV}{y:V}(hs:KP v=true)(h:RV0 hp v y):Ag y=rf0 v:=by
 cases v with
 |im t l=>rcases h with⟨_,rfl⟩|⟨_,rfl,_⟩<;>rfl
 |ow id=>obtain⟨_,rfl,_⟩:=h;rfl
 |ir t a c=>obtain⟨_,rfl,_⟩:=h;rfl
 |cl f cs=>cases cs with|nil=>have:y=_:=h;subst this;rfl|cons a l=>exact h.elim
 |any=>cases hs
 |agg cs=>exact h.elim
 |tup cs=>exact h.elim
 |_=>have:y=_:=h;subst this;rfl
theorem WO:∀{vs:List SV}{ys:List V},vs.all KP=true->RC (RV0 hp) vs ys->ys.flatMap Ag=vs.flatMap rf0
 |[],[],_,_=>rfl
 |v::vs,y::ys,hs,h=>by
  simp only[zd3,za2]at hs;rw[zb5,zb5,A6f hs.1 h.1,WO hs.2 h.2]
 |[],_::_,_,h=>h.elim
 |_::_,[],_,h=>h.elim
theorem Iz{v:SV}{y:V}(hs:Fp v=true)(h:RV2 hp v y):RV1 hp v y/\Ai y=rf1 v/\Al y=rf1 v/\F8 y=true:=by
 have cell:∀{v:SV}{y:V},KP v=true->RV0 hp v y->RV1 hp v y/\Ai y=rf0 v/\Al y=rf0 v/\F8 y=true:=by
  intro v y hs h;refine⟨h.to1,?_⟩
  cases v with
  |im t l=>rcases h with⟨_,rfl⟩|⟨_,rfl,_⟩<;>exact⟨rfl,rfl,rfl⟩
  |ow id=>obtain⟨_,rfl,_⟩:=h;exact⟨rfl,rfl,rfl⟩
  |ir t a c=>obtain⟨_,rfl,_⟩:=h;exact⟨rfl,rfl,rfl⟩
  |cl f cs=>cases cs with|nil=>have:y=_:=h;subst this;exact⟨rfl,rfl,rfl⟩|cons a l=>exact h.elim
  |any=>cases hs
  |agg cs=>exact h.elim
  |tup cs=>exact h.elim
  |_=>have:y=_:=h;subst this;exact⟨rfl,rfl,rfl⟩
 cases v with
 |agg cs=>
  obtain⟨us,rfl,hc⟩:=h;have:=WO hs hc;exact⟨⟨us,rfl,hc⟩,this,this,rfl⟩
 |cl f cs=>
  obtain⟨us,rfl,hc⟩:=h;have:=WO hs hc;exact⟨⟨us,rfl,hc⟩,this,this,rfl⟩
 |tup vs=>cases hs
 |any=>cases hs
 |int k n=>exact cell (v:=.int k n) hs h
 |bool b=>exact cell (v:=.bool b) hs h
 |str s=>exact cell (v:=.str s) hs h
 |sc x=>exact cell (v:=.sc x) hs h
 |em=>exact cell (v:=.em) hs h
 |er e=>exact cell (v:=.er e) hs h
 |im t l=>exact cell (v:=.im t l) hs h
 |ow id=>exact cell (v:=.ow id) hs h
 |ar a b c=>exact cell (v:=.ar a b c) hs h
 |rf a b c=>exact cell (v:=.rf a b c) hs h
 |ir a b c=>exact cell (v:=.ir a b c) hs h
theorem A0K{b:TB}{k:Blk}(hs:Yn b=true)(h:RB hp b k):Dc k=rfB b:=by
 cases b with
 |arr ty deep t l=>obtain⟨h1,_⟩:=h;simp only[Dc,h1,rfB]
 |frz ty deep t l=>obtain⟨h1,_⟩:=h;simp only[Dc,h1,rfB]
 |box ty cs=>
  obtain⟨h1,h2,row,h3,h4,h5⟩:=h;unfold Dc;rw[h1,h3];simp only[zb5,List.flatMap_nil,ze2];exact WO hs h5
theorem H7(hh:RH hp hv):∀(k:Nat)(l acc:List Nat){o:List Nat},HV hp k l acc=some o->FI hv k l acc=some o
 |0,_,_,_,h=>by cases h
 |k+1,[],acc,o,h=>h
 |k+1,id::l,acc,o,h=>by
  simp only[HV]at h;simp only[FI];rw[ST]at h;cases hc:acc.contains id with
  |true=>
   rw[hc]at h;rw[zr rfl];exact H7 hh k l acc h
  |false=>
   rw[hc]at h;rw[zw (by simp)];simp only[cond_false]at h
   split at h
   ·cases h
   ·rename_i b hb;obtain⟨hs,h⟩:=Dx h;obtain⟨kb,hk,hr⟩:=hh id b hb;simp only[hk,A0K hs hr];exact H7 hh k _ _ h
theorem P5:∀(o:List Nat)(id:Nat),Er o id=idx o id
 |[],_=>rfl
 |x::l,id=>by
  unfold idx;rw[List.idxOf?_cons];simp only[Er];cases h:Nat.beq x id with
  |true=>have:=za6 h;subst this;simp
  |false=>
   have:x≠id:=fun he=>by subst he;rw[Nat.beq_refl]at h;cases h
   have h2:(x==id)=false:=by simpa using this
   rw[h2];simp only[cond_false,zc1,if_false];rw[P5 l id];unfold idx;cases List.idxOf? id l<;>rfl
theorem AP1:∀{o:List Nat}{id j:Nat},idx o id=some j->o[j]? =some id:=by
 intro o id j h;rw[<-P5]at h
 induction o generalizing j with
 |nil=>cases h
 |cons x l ih=>
  simp only[Er]at h;cases hx:Nat.beq x id with
  |true=>
   rw[hx]at h;have:=za6 hx;subst this;cases h
   rfl
  |false=>
   rw[hx]at h;simp only[cond_false]at h
   split at h
   ·rename_i j' hj;cases h
    rw[List.getElem?_cons_succ];exact ih hj
   ·cases h
section
variable {f:Nat->Option Nat} (hlen:∀id j,f id=some j->∀b',AK H j=some b'->∃b,AK hp id=some b/\FY b=FY b')
include hlen
theorem A1d{v:SV}{y:V}(h:RV0 hp v y):RV0 H (Fb f v) (Cv f y):=by
 cases v with
 |im t l=>rcases h with⟨h1,rfl⟩|⟨rows,rfl,h1⟩;exact .inl ⟨h1,rfl⟩;exact .inr ⟨rows,rfl,h1⟩
 |ow id=>
  obtain⟨n,rfl,h1⟩:=h;simp only[Fb,Cv];cases hf:f id with
  |none=>trivial
  |some j=>
   refine⟨n,rfl,fun b' hb'=> ?_⟩
   obtain⟨b,q1,q2⟩:=hlen id j hf b' hb';rw[<-q2];exact h1 b q1
 |ar id lo n=>
  have:y=_:=h;subst this;simp only[Fb,Cv];cases hf:f id with
  |none=>trivial
  |some j=>rfl
 |rf id r c=>
  have:y=_:=h;subst this;simp only[Fb,Cv];cases hf:f id with
  |none=>trivial
  |some j=>rfl
 |ir t a c=>obtain⟨row,rfl,h1⟩:=h;exact⟨row,rfl,h1⟩
 |cl g cs=>cases cs with|nil=>have:y=_:=h;subst this;rfl|cons a l=>exact h.elim
 |any=>trivial
 |agg cs=>exact h.elim
 |tup cs=>exact h.elim
 |_=>have:y=_:=h;subst this;rfl
theorem W1:∀{vs:List SV}{ys:List V},RC (RV0 hp) vs ys->RC (RV0 H) (vs.map (Fb f)) (ys.map (Cv f))
 |[],[],_=>trivial
 |v::vs,y::ys,h=>⟨A1d hlen h.1,W1 h.2⟩
 |[],_::_,h=>h.elim
 |_::_,[],h=>h.elim
theorem Av3{v:SV}{y:V}(h:RV1 hp v y)(hs:Fp v=true):RV1 H (B9 f v) (Dd f y):=by
 have cell:∀{v:SV}{y:V},RV0 hp v y->B9 f v=Fb f v->Dd f y=Cv f y->RV1 H (B9 f v) (Dd f y):=by
  intro v y h e1 e2;rw[e1,e2];exact(A1d hlen h).to1
 cases v with
 |agg cs=>obtain⟨us,rfl,hc⟩:=h;exact⟨_,rfl,W1 hlen hc⟩
 |cl g cs=>obtain⟨us,rfl,hc⟩:=h;exact⟨_,rfl,W1 hlen hc⟩
 |im t l=>rcases h with⟨h1,rfl⟩|⟨rows,rfl,h1⟩;exact .inl ⟨h1,rfl⟩;exact .inr ⟨rows,rfl,h1⟩
 |ow id=>obtain⟨n,rfl,h1⟩:=h;exact cell (v:=.ow id) ⟨n,rfl,h1⟩ rfl rfl
 |ir t a c=>obtain⟨row,rfl,h1⟩:=h;exact⟨row,rfl,h1⟩
 |any=>trivial
 |tup cs=>exact h.elim
 |ar id lo n=>have:y=_:=h;subst this;exact cell (v:=.ar id lo n) rfl rfl rfl
 |rf id lo n=>have:y=_:=h;subst this;exact cell (v:=.rf id lo n) rfl rfl rfl
 |_=>have:y=_:=h;subst this;rfl
theorem A3A{b:TB}{k:Blk}(h:RB hp b k):RB H (Ze f b) (Fv f k):=by
 cases b with
 |arr ty deep t l=>
  obtain⟨h1,h2,h3,h4,h5⟩:=h;have:Fv f k=k:=by unfold Fv;rw[h1]
  rw[this];exact⟨h1,h2,h3,h4,h5⟩
 |frz ty deep t l=>
  obtain⟨h1,h2,h3,h4,h5⟩:=h;have:Fv f k=k:=by unfold Fv;rw[h1]
  rw[this];exact⟨h1,h2,h3,h4,h5⟩
 |box ty cs=>
  obtain⟨h1,h2,row,h3,h4,h5⟩:=h;have e:Fv f k={k with rows:=k.rows.map (·.map (Cv f))}:=by unfold Fv;rw[h1]
  rw[e];refine⟨h1,h2,row.map (Cv f),by simp[h3],by simpa using h4,W1 hlen h5⟩
end
theorem AF2{f:Nat->Option Nat}(b:TB):FY (Ze f b)=FY b:=by cases b<;>rfl
theorem XR{f:Nat->Option Nat}:∀(o:List Nat)(k j:Nat),AK (GG hp f k o) j=if k<=j then(o[j-k]?).bind fun id=>(AK hp id).map (Ze f)else none
 |[],k,j=>by simp[GG,AK]
 |id::o,k,j=>by
  simp only[GG];rw[AF,XR o (k+1) j];by_cases h:j=k
  ·subst h;rw[zr rfl,zr (za8 _)];simp;cases AK hp id<;>rfl
  ·rw[zw h];by_cases h2:k<=j
   ·rw[zr h2,zr (by omega),show j-k=(j-(k+1))+1 by omega,List.getElem?_cons_succ]
   ·rw[zw h2,zw (by omega)]
theorem Uy(hh:RH hp hv)(o:List Nat):RH (GG hp (Er o) 0 o) (lkB (AN hv o))/\∀id j,idx o id=some j->∀b',AK (GG hp (Er o) 0 o) j=some b'->∃b,AK hp id=some b/\FY b=FY b':=by
 have hf:Er o=idx o:=funext fun id=>P5 o id
 have hget:∀j b',AK (GG hp (Er o) 0 o) j=some b'->∃id b,o[j]? =some id/\AK hp id=some b/\b'=Ze (idx o) b:=by
  intro j b' hb;rw[XR,zr (Nat.zero_le _),Nat.sub_zero,hf]at hb;obtain⟨id,h1,h2⟩:=Bq hb;simp only[zb6]at h2;obtain⟨b,h3,h4⟩:=h2;exact⟨id,b,h1,h3,h4.symm⟩
 have hlen:∀id j,idx o id=some j->∀b',AK (GG hp (Er o) 0 o) j=some b'->∃b,AK hp id=some b/\FY b=FY b':=by
  intro id j hj b' hb;obtain⟨id',b,h1,h2,rfl⟩:=hget j b' hb;rw[AP1 hj]at h1;cases h1
  exact⟨b,h2,(AF2 b).symm⟩
 refine⟨fun j b' hb=> ?_,hlen⟩
 obtain⟨id,b,h1,h2,rfl⟩:=hget j b' hb;obtain⟨k,hk,hr⟩:=hh id b h2;refine⟨Fv (idx o) k,?_,A3A hlen hr⟩
 show(AN hv o)[j]? =_;unfold AN;rw[zc9,h1];simp only[zd4,hk,Option.getD_some]
theorem A33{f:Nat->Option Nat}{y:V}(h:F8 y=true):Gc f y=Dd f y:=by
 cases y<;>first|rfl|cases h
theorem AV0{e:Nat}{keep:List Nat}{st st2:TSt}{s:St}(hs:RS st s)(h:Q0 e keep st=some st2):∃s2,(∀K:St->Prop,K s2->KY e keep s K)/\RS st2 s2:=by
 unfold Q0 at h
 split at h
 ·rename_i hsure
  split at h
  ·rename_i o ho
   split at h
   ·rename_i hc;simp only[za2]at hc;simp only[zx]at h;subst h;have hrefs:∀t∈keep,Al (s.tm t)=rf1 (CW st.tm t):=fun t ht=>(Iz (za5.1 hsure t ht) (hs.tm t)).2.2.1
    have hfl:(keep.flatMap fun t=>Al (s.tm t))=keep.flatMap fun t=>rf1 (CW st.tm t):=by
     have:∀(l:List Nat),(∀t∈l,Al (s.tm t)=rf1 (CW st.tm t))->(l.flatMap fun t=>Al (s.tm t))=l.flatMap fun t=>rf1 (CW st.tm t):=by
      intro l
      induction l with
      |nil=>intro _;rfl
      |cons a l ih=>intro h;rw[zb5,zb5,h a (by simp),ih fun t ht=>h t (by simp[ht])]
     exact this keep hrefs
    have hcl:=H7 hs.hp _ _ _ ho;obtain⟨h1,hlen⟩:=Uy hs.hp o;have hf:Er o=idx o:=funext fun id=>P5 o id
    refine⟨{tm:=lk .any (keep.map fun t=>(t,Gc (idx o) (s.tm t))),hp:=lkB (AN s.hp o),c:=1},fun K hK=> ?_,⟨?_,h1,rfl⟩⟩
    ·unfold KY;rw[hfl,hcl];exact⟨Nat.le_of_ble_eq_true hc.1,Mg hc.2,hK⟩
    ·have key:∀(l:List Nat),(∀t∈l,t∈keep)->RT (GG st.hp (Er o) 0 o) (l.map fun t=>(t,B9 (Er o) (CW st.tm t))) (lk .any (l.map fun t=>(t,Gc (idx o) (s.tm t)))):=by
      intro l
      induction l with
      |nil=>intro _ t;trivial
      |cons a l ih=>
       intro hl t;show RV2 _ (CW ((a,_)::l.map _) t) (if t=a then _ else lk .any (l.map _) t);rw[GZ]
       split
       ·obtain⟨q1,_,_,q4⟩:=Iz (za5.1 hsure a (hl a (by simp))) (hs.tm a);rw[A33 q4,hf];rw[hf]at hlen;exact(Av3 hlen q1 (za5.1 hsure a (hl a (by simp)))).to2
       ·exact ih (fun t ht=>hl t (by simp[ht])) t
     exact key keep fun t ht=>ht
   ·cases h
  ·cases h
 ·cases h
end
end
section
open Go
theorem A8G:∀(u v:Bool)(A B:Type)(a0:u=true->A)(a:A)(b:B),(u=true->∀x y:A,x=y)->A9a u v A B a0 (mkP u v A B a b)=a
 |true,_,_,_,_,_,_,h=>h rfl _ _
 |false,true,_,_,_,_,_,_=>rfl
 |false,false,_,_,_,_,_,_=>rfl
theorem A8A:∀(u v:Bool)(A B:Type)(b0:v=true->B)(a:A)(b:B),(v=true->∀x y:B,x=y)->A9e u v A B b0 (mkP u v A B a b)=b
 |true,_,_,_,_,_,_,_=>rfl
 |false,true,_,_,_,_,_,h=>h rfl _ _
 |false,false,_,_,_,_,_,_=>rfl
theorem A6x:∀(u v:Bool)(A B:Type),u=true->(v=true->∀x y:B,x=y)->v=true->∀x y:AM6 u v A B,x=y
 |true,true,_,_,_,h,_,x,y=>h rfl x y
 |false,_,_,_,h,_,_,_,_=>by cases h
 |true,false,_,_,_,_,h,_,_=>by cases h
section
variable {ι:Type} {den:ι->Type} {u:ι->Bool} {un:∀x,u x=true->den x} (hu:∀x,u x=true->∀a b:den x,a=b)
include hu
theorem Tj:∀(l:List ι),l.all u=true->∀a b:OS den u l,a=b
 |[],_,_,_=>rfl
 |x::l,h,a,b=>by
  simp only[zd3,za2]at h;exact A6x (u x) (l.all u) (den x) (OS den u l) h.1 (fun hl=>Tj l hl) h.2 a b
theorem AD3(x:ι)(l:List ι)(a:den x)(d:OS den u l):hdL den u un x l (AZ9 den u x l a d)=a:=A8G _ _ _ _ _ _ _ fun h=>hu x h
theorem AJ3(x:ι)(l:List ι)(a:den x)(d:OS den u l):tlL den u un x l (AZ9 den u x l a d)=d:=A8A _ _ _ _ _ _ _ fun h=>Tj hu l h
end
theorem Pp:∀(c:AC),c.isU=true->∀a b:c.den,a=b
 |.at _,_,_,_=>rfl
 |.int _,h,_,_=>by cases h
 |.bool,h,_,_=>by cases h
 |.str,h,_,_=>by cases h
 |.im _,h,_,_=>by cases h
theorem A4v(c:AC)(cs:List AC)(a:c.den)(d:UD cs):hdC c cs (A3M c cs a d)=a:=AD3 Pp c cs a d
theorem A4l(c:AC)(cs:List AC)(a:c.den)(d:UD cs):tlC c cs (A3M c cs a d)=d:=AJ3 Pp c cs a d
theorem AJ2:∀(x:Item),x.isU=true->∀a b:x.den,a=b
 |.blk (.box _ cs),h,a,b=>Tj Pp cs h a b
 |.blk (.arr _ _ _),h,_,_=>by cases h
 |.slot _ (.cell c),h,a,b=>Pp c h a b
 |.slot _ (.agg cs),h,a,b=>Tj Pp cs h a b
 |.slot _ (.ref _ _),_,_,_=>rfl
 |.slot _ (.clo _),_,_,_=>rfl
 |.slot _ (.cap _ _),_,_,_=>rfl
 |.slot _ (.sub _),h,_,_=>by cases h
theorem WL(x:Item)(l:List Item)(a:x.den)(d:De l):hdI x l (OZ x l a d)=a:=AD3 AJ2 x l a d
theorem Sn(x:Item)(l:List Item)(a:x.den)(d:De l):tlI x l (OZ x l a d)=d:=AJ3 AJ2 x l a d
theorem A3o{c:AC}{v:SV}{x:c.den}(h:rdC c v=some x):v=A4z c x:=by
 cases c with
 |int k=>
  cases v<;>simp only[rdC,reduceCtorEq]at h
  split at h
  ·rename_i hk;cases h;subst hk;rfl
  ·cases h
 |bool=>cases v<;>simp only[rdC,reduceCtorEq]at h;cases h;rfl
 |str=>cases v<;>simp only[rdC,reduceCtorEq]at h;cases h;rfl
 |err=>cases v<;>simp only[rdC,reduceCtorEq]at h;cases h;rfl
 |im t=>
  cases v<;>simp only[rdC,reduceCtorEq]at h
  split at h
  ·rename_i he;cases h;subst he;rfl
  ·cases h
 | «at» j=>
  cases v<;>simp only[rdC,reduceCtorEq]at h
  split at h
  ·rename_i he;have:=za6 he;subst this;rfl
  ·cases h
theorem Ap6:∀{cs:List AC}{vs:List SV}{x:UD cs},A4O cs vs=some x->vs=ZN cs x
 |[],[],_,_=>rfl
 |[],_::_,_,h=>by cases h
 |_::_,[],_,h=>by cases h
 |c::cs,v::vs,x,h=>by
  simp only[A4O]at h
  split at h
  ·rename_i a ha
   split at h
   ·rename_i d hd;cases h
    rw[ZN,A4v,A4l,<-A3o ha,<-Ap6 hd]
   ·cases h
  ·cases h
theorem A8R{b:AB}{tb:TB}{x:b.den}(h:rdB b tb=some x):tb=A8c b x:=by
 cases b with
 |arr ty deep t=>
  cases tb<;>simp only[rdB,reduceCtorEq]at h
  split at h
  ·rename_i he
   split at h
   ·rename_i hc;simp only[za2,beq_iff_eq]at hc;cases h
    subst he;rw[za6 hc.1,hc.2];rfl
   ·cases h
  ·cases h
 |box ty cs=>
  cases tb<;>simp only[rdB,reduceCtorEq]at h
  split at h
  ·rename_i hc;rw[za6 hc,Ap6 h];rfl
  ·cases h
theorem A0x:∀{js:List Nat}{vs:List SV},Av2 js vs=true->vs=js.map fun j=>.rf j 0 0
 |[],[],_=>rfl
 |[],_::_,h=>by simp[Av2]at h
 |j::js,v::vs,h=>by
  cases v with
  |rf i r c=>
   cases r with
   |zero=>
    cases c with
    |zero=>
     simp only[Av2]at h;cases hb:Nat.beq i j with
     |false=>rw[hb]at h;cases h
     |true=>
      rw[hb]at h;have:=za6 hb;subst this;rw[zb9,<-A0x (vs:=vs) h]
    |succ _=>simp[Av2]at h
   |succ _=>simp[Av2]at h
  |_=>simp[Av2]at h
 |_::_,[],h=>by simp[Av2]at h
theorem A7X{a:AS}{v:SV}{x:a.den}(h:rdS a v=some x):v=A1e a x:=by
 cases a with
 |cell c=>exact A3o (by cases v<;>exact h)
 |agg cs=>cases v<;>simp only[rdS,reduceCtorEq]at h;rw[Ap6 h];rfl
 |ref j isb=>
  cases isb with
  |false=>
   cases v<;>simp only[rdS,reduceCtorEq]at h
   split at h
   ·rename_i he;have:=za6 he;subst this;rfl
   ·cases h
  |true=>
   cases v with
   |rf i r c=>
    cases r with
    |zero=>
     cases c with
     |zero=>
      simp only[rdS]at h
      split at h
      ·rename_i he;have:=za6 he;subst this;rfl
      ·cases h
     |succ _=>simp[rdS]at h
    |succ _=>simp[rdS]at h
   |_=>simp[rdS]at h
 |sub j=>
  cases v<;>simp only[rdS,reduceCtorEq]at h
  split at h
  ·rename_i he;have:=za6 he;subst this;cases h;rfl
  ·cases h
 |clo f=>
  cases v with
  |cl g cs=>
   cases cs with
   |nil=>
    simp only[rdS]at h
    split at h
    ·rename_i he;have:=za6 he;subst this;rfl
    ·cases h
   |cons _ _=>simp[rdS]at h
  |_=>simp[rdS]at h
 |cap f js=>
  cases v with
  |cl g cs=>
   simp only[rdS]at h
   split at h
   ·rename_i he;rw[za2]at he;have:=za6 he.1;subst this;rw[A0x he.2];rfl
   ·cases h
  |_=>simp[rdS]at h
theorem Ar6:∀{l:List Item}{k:Nat}{tm:TTm}{hp:THp}{d:De l},rdI k l tm hp=some d->tm=(BL k l d).1/\hp=(BL k l d).2
 |[],k,[],[],d,_=>⟨rfl,rfl⟩
 |[],k,_::_,_,_,h=>by simp[rdI]at h
 |[],k,[],_::_,_,h=>by simp[rdI]at h
 |.blk b::l,k,tm,[],_,h=>by simp[rdI]at h
 |.blk b::l,k,tm,(i,none)::hp,_,h=>by simp[rdI]at h
 |.blk b::l,k,tm,(i,some tb)::hp,d,h=>by
  simp only[rdI]at h
  split at h
  ·rename_i hi;have:=za6 hi;subst this
   split at h
   ·rename_i x hx
    split at h
    ·rename_i y hy;cases h
     obtain⟨e1,e2⟩:=Ar6 hy;rw[BL,WL,Sn,<-A8R hx,<-e1,<-e2];exact⟨rfl,rfl⟩
    ·cases h
   ·cases h
  ·cases h
 |.slot s a::l,k,[],hp,_,h=>by simp[rdI]at h
 |.slot s a::l,k,(i,v)::tm,hp,d,h=>by
  simp only[rdI]at h
  split at h
  ·rename_i hi;have:=za6 hi;subst this
   split at h
   ·rename_i x hx
    split at h
    ·rename_i y hy;cases h
     obtain⟨e1,e2⟩:=Ar6 hy;rw[BL,WL,Sn,<-A7X hx,<-e1,<-e2];exact⟨rfl,rfl⟩
    ·cases h
   ·cases h
  ·cases h
theorem RP(bl:List AB):∀(l:List Item),(F9 (La bl l)).map (·.1)=HM l
 |[]=>rfl
 |.blk b::l=>RP bl l
 |.slot s a::l=>by
  have:=RP bl l;unfold F9 at this⊢
  simp only[La,HM,zb9,this]
theorem MG{e:Nat}{l:List Item}{st:TSt}{s:St}{d:De l}(hs:RS st s)(h:HH e l st=some d):∃s',(∀K:St->Prop,K s'->Fh e (Cw l) s K)/\RS (Lr l d) s':=by
 unfold HH at h
 split at h
 ·rename_i hb;obtain⟨b1,b2⟩:=UP hb
  split at h
  ·rename_i st1 h1;obtain⟨s1,n1,n2,n3,n4⟩:=A0r hs b1 b2 h1
   split at h
   ·rename_i st2 h2;obtain⟨s2,c1,c2⟩:=AV0 n2 h2;obtain⟨e1,e2⟩:=Ar6 h;have hc:st2.c=1:=by
     unfold Q0 at h2
     split at h2
     ·split at h2
      ·split at h2
       ·simp only[zx]at h2;subst h2;rfl
       ·cases h2
      ·cases h2
     ·cases h2
    have:st2=Lr l d:=by
     cases st2 with
     |mk tm hp c=>
      simp only at e1 e2 hc;subst e1;subst e2;subst hc;rfl
    rw[this]at c2;refine⟨s2,fun K hK=> ?_,c2⟩
    unfold Fh;rw[show Cw l=F9 (La (Da l) l)from rfl,n1];simp only[Ao,RP];exact c1 K hK
   ·cases h
  ·cases h
 ·cases h
end
section
open Go
structure ResRel (res:List Item) (y:De res) (r:V) (blks:List Blk):Prop where
 val:RV2 (BL 0 res y).2 (A29 ((BL 0 res y).1.map (·.2))) r
 blk:RH (BL 0 res y).2 (lkB blks)
 len:blks.length=(BL 0 res y).2.length
def Eh(R:Rel)(E:Ent):Prop:=∀x y args blks st,E.F x=some y->RS st (Xh args blks)->HH E.a.e E.a.params st=some x->LC args blks=true->args.length=(HM E.a.params).length->(args.flatMap Ai).eraseDups.length=E.a.e->(E.a.e=0->blks=[])->
 ∃r blks',R E.a.g args blks r blks'/\ResRel E.a.res y r blks'
section
variable {P:Program} {X:TX} {g:FuncId}
theorem ZA{α:Type}(hX:XOK P X){st:TSt}{s:St}(hs:RS st s):∀(l:List ResultVar){K:List SV->Option α}{z:α},AP8 X st.tm st.hp l K=some z->
  ∃xs ys,K xs=some z/\RC (RV2 st.hp) xs ys/\∀KV:List V->Prop,KV ys->Oe P s l KV
 |[],K,z,h=>⟨[],[],h,trivial,fun KV hk=>hk⟩
 |.tmp t::l,K,z,h=>by
  obtain⟨xs,ys,h1,h2,h3⟩:=ZA hX hs l h;exact⟨_,_::ys,h1,⟨hs.tm t,h2⟩,fun KV hk=>h3 _ hk⟩
 |.cell a t::l,K,z,h=>by
  simp only[AP8]at h;obtain⟨x,u,h1,h2,h3⟩:=AG1 hX (hs.tm a) hs.hp.toM h;obtain⟨xs,ys,q1,q2,q3⟩:=ZA hX hs l h1;refine⟨_,u::ys,q1,⟨h2,q2⟩,fun KV hk=> ?_⟩
  show(match Bh P (.load t (.tmp a)) (AJ s.tm) s.hp 0 with|some (x,_)=>Oe P s l fun xs=>KV (x::xs)|none=>False);rw[h3 (AJ s.tm) (.tmp a) 0 rfl];exact q3 _ hk
theorem Am0{hp:THp}:∀{xs:List SV}{ys:List V}(k:Nat),RC (RV2 hp) xs ys->RT hp (Sq k xs) (lk .any (Wv k ys))
 |[],[],k,_=>fun t=>trivial
 |x::xs,y::ys,k,h=>by
  intro t;show RV2 hp (CW ((k,x)::Sq (k+1) xs) t) (if t=k then y else lk .any (Wv (k+1) ys) t);rw[GZ]
  split
  ·exact h.1
  ·exact Am0 (k+1) h.2 t
 |[],_::_,_,h=>h.elim
 |_::_,[],_,h=>h.elim
theorem QZ:∀(xs:List SV)(k:Nat),(Sq k xs).map (·.2)=xs
 |[],_=>rfl
 |x::xs,k=>by simp[Sq,QZ xs (k+1)]
theorem Ah7{hp:THp}{f:Nat->Option Nat}:∀(o:List Nat)(k:Nat),(GG hp f k o).length=o.length
 |[],_=>rfl
 |id::o,k=>by simp[GG,Ah7 o (k+1)]
theorem RC.all1{hp:THp}:∀{vs:List SV}{ys:List V},vs.all Fp=true->RC (RV2 hp) vs ys->RC (RV1 hp) vs ys/\ys.flatMap Ai=vs.flatMap rf1/\ys.flatMap Al=vs.flatMap rf1/\ys.all F8=true
 |[],[],_,_=>⟨trivial,rfl,rfl,rfl⟩
 |v::vs,y::ys,hs,h=>by
  simp only[zd3,za2]at hs;obtain⟨q1,q2,q3,q4⟩:=Iz hs.1 h.1;obtain⟨e1,e2,e3,e4⟩:=RC.all1 hs.2 h.2;exact⟨⟨q1,e1⟩,by simp only[zb5,q2,e2],by simp only[zb5,q3,e3],by simp[q4,e4]⟩
 |[],_::_,_,h=>h.elim
 |_::_,[],_,h=>h.elim
theorem RC.ren{hp H:THp}{f:Nat->Option Nat}(hlen:∀id j,f id=some j->∀b',AK H j=some b'->∃b,AK hp id=some b/\FY b=FY b'):∀{vs:List SV}{ys:List V},vs.all Fp=true->RC (RV1 hp) vs ys->RC (RV1 H) (vs.map (B9 f)) (ys.map (Dd f))
 |[],[],_,_=>trivial
 |v::vs,y::ys,hs,h=>by
  simp only[zd3,za2]at hs;exact⟨Av3 hlen h.1 hs.1,RC.ren hlen hs.2 h.2⟩
 |[],_::_,_,h=>h.elim
 |_::_,[],_,h=>h.elim
theorem A0b(l:List (Nat×TMs)):(F9 l).map (·.2)=(l.map (·.2)).map TMs.mds/\Dw (F9 l)=l.map (fun p=>V.rf p.1 0 0)/\(F9 l).length=l.length:=by
 refine⟨?_,?_,?_⟩
 ·simp[F9]
 ·unfold Dw F9;simp
 ·simp[F9]
theorem A3Z{e:Nat}{st:TSt}{s:St}{res:List Item}{rs:List ResultVar}{y:De res}(hX:XOK P X)(hs:RS st s)
  (h:(AP8 X st.tm st.hp rs fun xs=>A6S res e st xs)=some y):
  ∃r blks',(Hj (F9 (Wz (Da res) e 0 (Da res))) s.hp=true/\Oe P s rs fun xs=>BG (Kg ((F9 (Wz (Da res) e 0 (Da res))).map (·.2)++(Cw res).map (·.2)) (Dw (F9 (Wz (Da res) e 0 (Da res)))++xs) s.hp (s.c+1)) fun z=>Ax0 z.2.1 e r blks' (z.1.drop (F9 (Wz (Da res) e 0 (Da res))).length))/\ResRel res y r blks':=by
 obtain⟨xs,ys,h1,h2,h3⟩:=ZA hX hs rs h;unfold A6S at h1;simp only at h1;generalize Wz (Da res) e 0 (Da res)=rts at h1⊢
 split at h1
 case isFalse=>cases h1
 rename_i hc;simp only[za2]at hc;obtain⟨⟨c1,c2⟩,c3⟩:=hc
 split at h1
 case h_2=>cases h1
 rename_i zs0 hp1 hn
 split at h1
 case isFalse=>cases h1
 rename_i hz
 split at h1
 case h_2=>cases h1
 rename_i o ho
 split at h1
 case isFalse=>cases h1
 rename_i he;obtain⟨m1,m2,m3⟩:=A0b rts;have hroot:Hj (F9 rts) s.hp=true:=by
  unfold A3F at c1;unfold Hj F9;rw[List.all_map];refine za5.2 fun p hp=> ?_
  have:=za5.1 c1 p hp;simp only[za2]at this;simp only[Function.comp,za2,decide_eq_true_eq];refine⟨O7 this.1,?_⟩
  have h4:=this.2
  split at h4
  ·rename_i ty cs hg;obtain⟨k,hk,k1,_⟩:=hs.hp p.1 _ hg;rw[hk];simp[k1]
  ·cases h4
 have hsc:s.c=st.c:=hs.c;obtain⟨b1,_⟩:=UP c3;have hids:∀i∈(rts.map (fun p=>SV.rf p.1 0 0)++xs).flatMap HL,i<16*(s.c+1):=by
  intro i hi;rw[List.flatMap_append,zb2]at hi;rcases hi with hi|hi
  ·obtain⟨v,hv,hi⟩:=zb3.1 hi;obtain⟨p,_,rfl⟩:=zd2.1 hv;simp[HL,ZU,F2]at hi
  ·obtain⟨v,hv,hi⟩:=zb3.1 hi;simp only[Uj,za2]at c3;rw[<-QZ xs 0]at hv;obtain⟨p,hp,rfl⟩:=zd2.1 hv;have:=O7 (za5.1 (za5.1 c3.1 p hp) i hi);omega
 have hrc:RC (RV2 st.hp) (rts.map (fun p=>SV.rf p.1 0 0)++xs) (Dw (F9 rts)++ys):=by
  rw[m2];refine RC.append (RC.map fun p _=>rfl) h2
 obtain⟨ys',hv',c',n1,n2,n3,_⟩:=AZ0 (c:=s.c+1) hs.hp (by rw[hsc];exact b1) hids hrc (by rw[hsc];exact hn);have hzc:=n3.drop rts.length;obtain⟨a1,a2,a3,a4⟩:=RC.all1 hz hzc;have hcl:=H7 n2 _ _ _ ho;obtain⟨r1,r2⟩:=Uy n2 o;have hf:Er o=idx o:=funext fun id=>P5 o id
 obtain⟨e1,e2⟩:=Ar6 h1;have hvals:(BL 0 res y).1.map (·.2)=(zs0.drop rts.length).map (B9 (Er o)):=by rw[<-e1,QZ]
 have htake:=Mg he;have hrv:RC (RV1 (GG hp1 (Er o) 0 o)) ((zs0.drop rts.length).map (B9 (Er o))) ((ys'.drop rts.length).map (Dd (idx o))):=by
  rw[hf]at r2⊢
  exact RC.ren r2 hz a1
 have fin:∀r,Ax0 hv' e r (AN hv' o) (ys'.drop rts.length)->RV2 (GG hp1 (Er o) 0 o) (A29 ((zs0.drop rts.length).map (B9 (Er o)))) r->∃r blks',(Hj (F9 rts) s.hp=true/\Oe P s rs fun xs=>BG (Kg ((F9 rts).map (·.2)++(Cw res).map (·.2)) (Dw (F9 rts)++xs) s.hp (s.c+1)) fun z=>Ax0 z.2.1 e r blks' (z.1.drop (F9 rts).length))/\ResRel res y r blks':=by
  intro r hr hv;refine⟨r,AN hv' o,⟨hroot,h3 _ ?_⟩,⟨by rw[hvals,<-e2];exact hv,by rw[<-e2];exact r1,by rw[<-e2,Ah7];simp[AN]⟩⟩
  have:(F9 rts).map (·.2)++(Cw res).map (·.2)=(rts.map (·.2)++(La (Da res) res).map (·.2)).map TMs.mds:=by
   rw[m1,show Cw res=F9 (La (Da res) res)from rfl,(A0b (La (Da res) res)).1,List.map_append]
  rw[this,n1];simp only[Ao,m3];exact hr
 generalize ys'.drop rts.length=zs at a1 a2 a3 a4 hrv fin;generalize zs0.drop rts.length=vs at hrv fin a2 a3 hcl;have many:(A29 (vs.map (B9 (Er o)))=.tup (vs.map (B9 (Er o))))->(∀r,Ax0 hv' e r (AN hv' o) zs=(zs.all F8=true/\ZR hv' e (.tup zs) r (AN hv' o)))->∃r blks',(Hj (F9 rts) s.hp=true/\Oe P s rs fun xs=>BG (Kg ((F9 rts).map (·.2)++(Cw res).map (·.2)) (Dw (F9 rts)++xs) s.hp (s.c+1)) fun z=>Ax0 z.2.1 e r blks' (z.1.drop (F9 rts).length))/\ResRel res y r blks':=by
  intro ht ho';refine fin (.tup (zs.map (Dd (idx o)))) ?_ ?_
  ·rw[ho'];refine⟨a4,?_⟩
   unfold ZR;rw[show Al (.tup zs)=zs.flatMap Ai from rfl,a2,hcl];exact⟨htake,rfl,rfl⟩
  ·rw[ht];exact⟨_,rfl,hrv⟩
 match zs,vs,a2,a3,a4,hrv,hcl,fin,many with
 |[z],[v],a2,a3,a4,hrv,hcl,fin,_=>
  refine fin (Gc (idx o) z) ?_ ?_
  ·show ZR _ _ _ _ _;unfold ZR;have:Al z=[v].flatMap rf1:=by simpa using a3
   rw[this,hcl];exact⟨htake,rfl,rfl⟩
  ·have:F8 z=true:=by simpa using a4
   rw[A33 this];exact hrv.1.to2
 |[],[],_,_,_,_,_,_,many=>exact many rfl fun r=>rfl
 |_::_::_,_::_::_,_,_,_,_,_,_,many=>exact many rfl fun r=>rfl
 |[],_::_,_,_,_,h,_,_,_=>exact h.elim
 |_::_,[],_,_,_,h,_,_,_=>exact h.elim
 |[_],_::_::_,_,_,_,h,_,_,_=>exact h.2.elim
 |_::_::_,[_],_,_,_,h,_,_,_=>exact h.2.elim
end
end
section
open Go
theorem ZL{hp:THp}{hv:Hp}{c:AC}{v x:SV}{y:V}(hh:RH hp hv)(h:E7 hp c v=some x)(hv':RV0 hp v y):
  ∃y',Mc hv y=some y'/\RV0 hp x y'/\D5 y=YO v:=by
 cases c with
 |int k=>
  cases v<;>simp only[E7,reduceCtorEq]at h
  cases h;have:y=_:=hv';subst this;exact⟨_,rfl,rfl,rfl⟩
 |bool=>cases v<;>simp only[E7,reduceCtorEq]at h;cases h;have:y=_:=hv';subst this;exact⟨_,rfl,rfl,rfl⟩
 |str=>cases v<;>simp only[E7,reduceCtorEq]at h;cases h;have:y=_:=hv';subst this;exact⟨_,rfl,rfl,rfl⟩
 |err=>cases v<;>simp only[E7,reduceCtorEq]at h
 | «at» j=>cases v<;>simp[E7]at h
 |im t=>
  have h':∃l,Hf hp t v=some l/\x=.im t l:=by
   simp only[E7]at h
   split at h
   ·rename_i l hl;cases h;exact⟨l,hl,rfl⟩
   ·cases h
  obtain⟨l,h',rfl⟩:=h';have hids:D5 y=YO v:=by
   cases v with
   |ow id=>obtain⟨n,rfl,_⟩:=hv';rfl
   |ar a b c=>have:y=_:=hv';subst this;rfl
   |em=>have:y=_:=hv';subst this;rfl
   |er e=>have:y=_:=hv';subst this;rfl
   |im t' l'=>rcases hv' with⟨_,rfl⟩|⟨_,rfl,_⟩<;>rfl
   |_=>simp[Hf,asL]at h'
  rcases Za h' hv' hh.toM with⟨rfl,rfl⟩|⟨rows,rfl,hr⟩|⟨id,lo,n,kb,rfl,hk,hkk,hr⟩
  ·exact⟨.im [],rfl,.inr ⟨[],rfl,RLx.nil⟩,hids⟩
  ·exact⟨.im rows,rfl,.inr ⟨rows,rfl,hr⟩,hids⟩
  ·refine⟨.im ((kb.rows.take (lo+n)).drop lo),?_,.inr ⟨_,rfl,hr⟩,hids⟩
   simp only[Mc,hk]
theorem Wk{hp:THp}{hv:Hp}(hh:RH hp hv):∀{cs:List AC}{vs xs:List SV}{ys:List V},Si hp cs vs=some xs->RC (RV0 hp) vs ys->
  ∃ys',L7 hv ys=some ys'/\RC (RV0 hp) xs ys'/\ys.flatMap D5=vs.flatMap YO
 |[],[],xs,ys,h,hc=>by
  simp only[Si,zx]at h;subst h;cases ys with
  |nil=>exact⟨[],rfl,trivial,rfl⟩
  |cons a l=>exact hc.elim
 |[],_::_,_,_,h,_=>by cases h
 |_::_,[],_,_,h,_=>by cases h
 |c::cs,v::vs,xs,ys,h,hc=>by
  simp only[Si]at h
  split at h
  ·rename_i x1 hx1
   split at h
   ·rename_i x2 hx2;cases h
    cases ys with
    |nil=>exact hc.elim
    |cons y ys=>
     obtain⟨y',h1,h2,h3⟩:=ZL hh hx1 hc.1;obtain⟨ys',g1,g2,g3⟩:=Wk hh hx2 hc.2;exact⟨y'::ys',by simp only[L7,h1,g1],⟨h2,g2⟩,by rw[zb5,zb5,h3,g3]⟩
   ·cases h
  ·cases h
theorem AY0{hp:THp}{hv:Hp}{a:AS}{v x:SV}{y:V}(hh:RH hp hv)(h:Kb hp a v=some x)(hv2:RV2 hp v y):
  ∃y',H1 hv y=some y'/\RV2 hp x y'/\M7 y=Aq1 v:=by
 have cell:∀(c:AC),E7 hp c v=some x->RV0 hp v y->Aq1 v=YO v->(∀y',RV0 hp x y'->RV2 hp x y')->H1 hv y=Mc hv y->M7 y=D5 y->∃y',H1 hv y=some y'/\RV2 hp x y'/\M7 y=Aq1 v:=by
  intro c hc h0 e1 e2 e3 e4;obtain⟨y',q1,q2,q3⟩:=ZL hh hc h0;exact⟨y',by rw[e3];exact q1,e2 y' q2,by rw[e4,e1];exact q3⟩
 cases a with
 |cell c=>
  have h:E7 hp c v=some x:=by cases v<;>exact h
  have hx:∀y',RV0 hp x y'->RV2 hp x y':=fun y' h=>h.to1.to2
  cases v with
  |int k n=>have:y=_:=hv2;subst this;exact cell c h rfl rfl hx rfl rfl
  |bool b=>have:y=_:=hv2;subst this;exact cell c h rfl rfl hx rfl rfl
  |str s=>have:y=_:=hv2;subst this;exact cell c h rfl rfl hx rfl rfl
  |em=>have:y=_:=hv2;subst this;exact cell c h rfl rfl hx rfl rfl
  |er e=>have:y=_:=hv2;subst this;exact cell c h rfl rfl hx rfl rfl
  |im t l=>rcases hv2 with⟨e,rfl⟩|⟨r,rfl,e⟩;exact cell c h (.inl ⟨e,rfl⟩) rfl hx rfl rfl;exact cell c h (.inr ⟨r,rfl,e⟩) rfl hx rfl rfl
  |ow id=>obtain⟨n,rfl,e⟩:=hv2;exact cell c h ⟨n,rfl,e⟩ rfl hx rfl rfl
  |ar a b d=>have:y=_:=hv2;subst this;exact cell c h rfl rfl hx rfl rfl
  |sc a=>cases c<;>simp[E7,Hf,asL]at h
  |rf a b d=>cases c<;>simp[E7,Hf,asL]at h
  |ir a b d=>cases c<;>simp[E7,Hf,asL]at h
  |agg cs=>cases c<;>simp[E7,Hf,asL]at h
  |tup cs=>cases c<;>simp[E7,Hf,asL]at h
  |cl f cs=>cases c<;>simp[E7,Hf,asL]at h
  |any=>cases c<;>simp[E7,Hf,asL]at h
 |agg cs=>
  cases v with
  |agg vs=>
   simp only[Kb]at h
   split at h
   ·rename_i l hl;cases h
    obtain⟨us,rfl,hc⟩:=XD hv2;obtain⟨ys',q1,q2,q3⟩:=Wk hh hl hc;exact⟨.agg ys',by simp only[H1,q1],⟨ys',rfl,q2⟩,q3⟩
   ·cases h
  |_=>simp[Kb]at h
 |ref j isb=>
  cases isb with
  |true=>
   cases v<;>simp only[Kb,reduceCtorEq]at h
   cases h
   have:y=_:=hv2;subst this;exact⟨_,rfl,rfl,rfl⟩
  |false=>cases v<;>simp[Kb]at h
 |sub j=>cases v<;>simp[Kb]at h
 |clo f=>
  cases v with
  |cl g cs=>
   cases cs with
   |nil=>
    simp only[Kb,zx]at h;subst h;obtain⟨us,rfl,hc⟩:=A0B hv2;cases us with
    |nil=>exact⟨.cl g [],rfl,⟨[],rfl,trivial⟩,rfl⟩
    |cons a l=>exact hc.elim
   |cons a l=>simp[Kb]at h
  |_=>simp[Kb]at h
 |cap f js=>cases v<;>simp[Kb]at h
theorem Rw{hp:THp}{hv:Hp}(hh:RH hp hv):∀{l:List AS}{vs xs:List SV}{ys:List V},Um hp l vs=some xs->RC (RV2 hp) vs ys->
  ∃ys',F5 hv (l.map YQ) ys=some ys'/\RC (RV2 hp) xs ys'/\EK (l.map YQ) ys=LP l vs
 |[],[],xs,ys,h,hc=>by
  simp only[Um,zx]at h;subst h;cases ys with
  |nil=>exact⟨[],rfl,trivial,rfl⟩
  |cons a l=>exact hc.elim
 |[],_::_,_,_,h,_=>by cases h
 |_::_,[],_,_,h,_=>by cases h
 |a::l,v::vs,xs,ys,h,hc=>by
  simp only[Um]at h
  split at h
  ·rename_i x1 hx1
   split at h
   ·rename_i x2 hx2;cases h
    cases ys with
    |nil=>exact hc.elim
    |cons y ys=>
     obtain⟨ys',g1,g2,g3⟩:=Rw hh hx2 hc.2;cases hra:YQ a with
     |true=>
      rw[hra]at hx1;simp only[cond_true]at hx1;obtain⟨hsv,hx1⟩:=Dx hx1;cases hx1
      obtain⟨_,_,_,hnt⟩:=Iz hsv hc.1;refine⟨y::ys',?_,⟨hc.1,g2⟩,?_⟩
      ·simp only[F5,zb9,List.headD_cons,List.tail_cons,hra,if_true,hnt,g1]
      ·simp only[EK,LP,zb9,List.headD_cons,List.tail_cons,hra,if_true,cond_true,g3]
     |false=>
      rw[hra]at hx1;simp only[cond_false]at hx1;obtain⟨y',h1,h2,h3⟩:=AY0 hh hx1 hc.1;refine⟨y'::ys',?_,⟨h2,g2⟩,?_⟩
      ·simp only[F5,zb9,List.headD_cons,List.tail_cons,hra,zc1,if_false,h1,g1]
      ·simp only[EK,LP,zb9,List.headD_cons,List.tail_cons,hra,zc1,if_false,cond_false,h3,g3]
   ·cases h
  ·cases h
theorem XU:∀(l acc:List Nat),ddN acc l=acc++(l.filter fun i=> !acc.contains i).eraseDups
 |[],acc=>by simp[ddN]
 |id::l,acc=>by
  simp only[ddN];rw[ST];cases h:acc.contains id with
  |true=>
   simp only[cond_true];rw[XU l acc,List.filter_cons,h];rfl
  |false=>
   simp only[cond_false];rw[XU l (acc++[id]),List.filter_cons,h];simp only[Bool.not_false,if_true];rw[List.eraseDups_cons,List.append_assoc,List.singleton_append,List.filter_filter]
   congr 3
   apply List.filter_congr
   intro x _;simp only[List.contains_append,List.contains_cons,List.contains_nil,Bool.or_false,Bool.not_or];rw[Bool.and_comm]
theorem AR6(l:List Nat):ddN [] l=l.eraseDups:=by
 rw[XU];simp only[List.contains_nil,Bool.not_false,List.nil_append];rw[List.filter_eq_self.2 (fun _ _=>rfl)]
theorem A1j{hp:THp}{f:Nat->Option Nat}{v:SV}{y:V}(hs:KP v=true)(h0:rf0 v=[])(h:RV0 hp v y):Cv f y=y:=by
 cases v with
 |im t l=>rcases h with⟨_,rfl⟩|⟨_,rfl,_⟩<;>rfl
 |ow id=>simp[rf0]at h0
 |ar a b c=>simp[rf0]at h0
 |rf a b c=>simp[rf0]at h0
 |ir t a c=>obtain⟨_,rfl,_⟩:=h;rfl
 |cl f cs=>cases cs with|nil=>have:y=_:=h;subst this;rfl|cons a l=>exact h.elim
 |any=>cases hs
 |agg cs=>exact h.elim
 |tup cs=>exact h.elim
 |_=>have:y=_:=h;subst this;rfl
theorem Ub{hp:THp}{f:Nat->Option Nat}:∀{vs:List SV}{ys:List V},vs.all KP=true->vs.flatMap rf0=[]->RC (RV0 hp) vs ys->ys.map (Cv f)=ys
 |[],[],_,_,_=>rfl
 |v::vs,y::ys,hs,h0,h=>by
  simp only[zd3,za2]at hs;rw[zb5,List.append_eq_nil_iff]at h0;rw[zb9,A1j hs.1 h0.1 h.1,Ub hs.2 h0.2 h.2]
 |[],_::_,_,_,h=>h.elim
 |_::_,[],_,_,h=>h.elim
theorem A1W{hp:THp}{f:Nat->Option Nat}{v:SV}{y:V}(hs:Fp v=true)(h0:rf1 v=[])(h:RV1 hp v y):Dd f y=y:=by
 cases v with
 |agg cs=>obtain⟨us,rfl,hc⟩:=h;show V.agg _=_;rw[Ub hs h0 hc]
 |cl g cs=>obtain⟨us,rfl,hc⟩:=h;show V.cl _ _=_;rw[Ub hs h0 hc]
 |im t l=>rcases h with⟨_,rfl⟩|⟨_,rfl,_⟩<;>rfl
 |ow id=>simp[rf1,rf0]at h0
 |ar a b c=>simp[rf1,rf0]at h0
 |rf a b c=>simp[rf1,rf0]at h0
 |ir t a c=>obtain⟨_,rfl,_⟩:=h;rfl
 |any=>cases hs
 |tup cs=>exact h.elim
 |_=>have:y=_:=h;subst this;rfl
theorem Ad8{hp:THp}{f:Nat->Option Nat}:∀{vs:List SV}{ys:List V},vs.all Fp=true->vs.flatMap rf1=[]->RC (RV1 hp) vs ys->ys.map (Dd f)=ys
 |[],[],_,_,_=>rfl
 |v::vs,y::ys,hs,h0,h=>by
  simp only[zd3,za2]at hs;rw[zb5,List.append_eq_nil_iff]at h0;rw[zb9,A1W hs.1 h0.1 h.1,Ad8 hs.2 h0.2 h.2]
 |[],_::_,_,_,h=>h.elim
 |_::_,[],_,_,h=>h.elim
theorem A2g(c:AC)(x:c.den):KP (A4z c x)=true:=by cases c<;>rfl
theorem Rt:∀(cs:List AC)(x:UD cs),(ZN cs x).all KP=true
 |[],_=>rfl
 |c::cs,x=>by rw[ZN,zd3,A2g,Rt cs];rfl
theorem AW2(a:AS)(x:a.den):Fp (A1e a x)=true:=by
 cases a with
 |cell c=>cases c<;>rfl
 |agg cs=>exact Rt cs x
 |ref j isb=>cases isb<;>rfl
 |sub j=>rfl
 |clo f=>rfl
 |cap f js=>show(js.map fun j=>SV.rf j 0 0).all KP=true;simp[KP]
theorem A1i(b:AB)(x:b.den):Yn (A8c b x)=true:=by
 cases b with
 |arr ty deep t=>rfl
 |box ty cs=>exact Rt cs x
theorem Qk:∀(l:List Item)(k:Nat)(d:De l),((BL k l d).1.map (·.2)).all Fp=true
 |[],_,_=>rfl
 |.blk b::l,k,d=>by simp only[BL];exact Qk l _ _
 |.slot s a::l,k,d=>by simp only[BL,zb9,zd3,AW2,ze5];exact Qk l _ _
theorem PF:∀(l:List Item)(k:Nat)(d:De l)(i:Nat),i<(BL k l d).2.length->∃b,(BL k l d).2[i]? =some (k+i,some b)/\Yn b=true
 |[],_,_,i,h=>by simp[BL]at h
 |.blk b::l,k,d,i,h=>by
  simp only[BL,zb8]at h⊢
  cases i with
  |zero=>exact⟨_,rfl,A1i _ _⟩
  |succ i=>
   obtain⟨b',h1,h2⟩:=PF l (k+1) (tlI _ l d) i (by omega);exact⟨b',by rw[List.getElem?_cons_succ,h1];congr 2;omega,h2⟩
 |.slot s a::l,k,d,i,h=>by simp only[BL]at h⊢;exact PF l k _ i h
theorem U1:∀{l:THp}{k:Nat},(∀i,i<l.length->∃b,l[i]? =some (k+i,some b))->∀i,i<l.length->∃b,l[i]? =some (k+i,some b)/\AK l (k+i)=some b
 |[],_,_,i,h=>by simp at h
 |a::l,k,hl,i,h=>by
  obtain⟨b0,h0⟩:=hl 0 (by simp);simp at h0;subst h0;cases i with
  |zero=>exact⟨b0,rfl,by rw[Nat.add_zero,AF,zr rfl]⟩
  |succ i=>
   obtain⟨b,h1,h2⟩:=U1 (l:=l) (k:=k+1) (fun j hj=>by
    obtain⟨b,hb⟩:=hl (j+1) (by simpa using hj);exact⟨b,by rw[List.getElem?_cons_succ]at hb;rw[hb];congr 2;omega⟩) i (by simpa using h)
   exact⟨b,by rw[List.getElem?_cons_succ,h1];congr 2;omega,by rw[AF,zw (by omega),show k+(i+1)=k+1+i by omega];exact h2⟩
theorem A0i{l:List Item}{d:De l}{i:Nat}(h:i<(BL 0 l d).2.length):∃b,(BL 0 l d).2[i]? =some (i,some b)/\AK (BL 0 l d).2 i=some b/\Yn b=true:=by
 obtain⟨b,h1,h2⟩:=U1 (l:=(BL 0 l d).2) (k:=0) (fun i hi=>by obtain⟨b,h1,_⟩:=PF l 0 d i hi;exact⟨b,h1⟩) i h;obtain⟨b',h3,h4⟩:=PF l 0 d i h;simp only[zf0]at h1 h2 h3;rw[h3]at h1;cases h1
 exact⟨b,h3,h2,h4⟩
theorem A3k{l:List Item}{d:De l}{i:Nat}{b:TB}(h:AK (BL 0 l d).2 i=some b):i<(BL 0 l d).2.length:=by
 obtain⟨j,hj⟩:=List.getElem?_of_mem (Ag8 h);have hl:=(za4.1 hj).1;obtain⟨b',h1,_⟩:=PF l 0 d j hl;rw[hj]at h1;simp only[zf0,zx,Prod.mk.injEq]at h1;rw[h1.1];exact hl
theorem A2L{hp:THp}{v:SV}{y:V}(hs:KP v=true)(h:RV0 hp v y):GJ y=Xi v:=by
 cases v with
 |im t l=>rcases h with⟨_,rfl⟩|⟨_,rfl,_⟩<;>rfl
 |ow id=>obtain⟨_,rfl,_⟩:=h;rfl
 |ir t a c=>obtain⟨_,rfl,_⟩:=h;rfl
 |cl f cs=>cases cs with|nil=>have:y=_:=h;subst this;rfl|cons a l=>exact h.elim
 |any=>cases hs
 |agg cs=>exact h.elim
 |tup cs=>exact h.elim
 |_=>have:y=_:=h;subst this;rfl
theorem Ut{hp:THp}:∀{vs:List SV}{ys:List V},vs.all KP=true->RC (RV0 hp) vs ys->ys.all GJ=vs.all Xi
 |[],[],_,_=>rfl
 |v::vs,y::ys,hs,h=>by
  simp only[zd3,za2]at hs⊢
  rw[A2L hs.1 h.1,Ut hs.2 h.2]
 |[],_::_,_,h=>h.elim
 |_::_,[],_,h=>h.elim
def niV:V->Bool
 |.agg cs=>cs.all GJ
 |x=>GJ x
theorem AA8(vs:List V):LN (.tup vs)=vs.all niV:=by
 show(vs.all fun|.agg cs=>cs.all GJ|x=>GJ x)=_
 congr 1
theorem Ad4{hp:THp}{v:SV}{y:V}(hs:Fp v=true)(h:RV1 hp v y):niV y=Ap7 v/\LN y=Ap7 v:=by
 cases v with
 |agg cs=>obtain⟨us,rfl,hcs⟩:=h;have:=Ut hs hcs;exact⟨this,this⟩
 |cl f cs=>
  obtain⟨us,rfl,hcs⟩:=h;cases cs with
  |nil=>cases us with|nil=>exact⟨rfl,rfl⟩|cons a l=>exact hcs.elim
  |cons a l=>cases us with|nil=>exact hcs.elim|cons b m=>exact⟨rfl,rfl⟩
 |im t l=>rcases h with⟨_,rfl⟩|⟨_,rfl,_⟩<;>exact⟨rfl,rfl⟩
 |ow id=>obtain⟨_,rfl,_⟩:=h;exact⟨rfl,rfl⟩
 |ir t a c=>obtain⟨_,rfl,_⟩:=h;exact⟨rfl,rfl⟩
 |any=>cases hs
 |tup cs=>exact h.elim
 |_=>have:y=_:=h;subst this;exact⟨rfl,rfl⟩
theorem A1L{hp:THp}{b:TB}{k:Blk}(hs:Yn b=true)(h:RB hp b k):EP k=A4H b:=by
 cases b with
 |arr ty deep t l=>obtain⟨h1,h2,h3,_⟩:=h;unfold EP;rw[h1];exact h3
 |frz ty deep t l=>obtain⟨h1,h2,h3,_⟩:=h;unfold EP;rw[h1];rfl
 |box ty cs=>
  obtain⟨h1,h2,row,h3,h4,h5⟩:=h;unfold EP;rw[h1,h3];simp only[zd3,List.all_nil,Bool.and_true];exact Ut hs h5
end
section
open Go
theorem At4:∀(l:List Blk)(hp:Hp)(b i:Nat),inst hp b l i=if b<=i/\i<b+l.length then l[i-b]? else hp i
 |[],hp,b,i=>by rw[zw (by simp)];rfl
 |x::l,hp,b,i=>by
  simp only[inst];rw[At4 l];by_cases h:b+1<=i/\i<b+1+l.length
  ·rw[zr h,zr (by simp only[zb8];omega)];rw[show i-b=(i-(b+1))+1 by omega];rfl
  ·rw[zw h];unfold upd;by_cases hi:i=b
   ·subst hi;rw[zr rfl,zr (by simp)];simp
   ·rw[zw hi,zw (by simp only[zb8];omega)]
theorem PD:∀(ids:List Nat)(ks:List Blk)(hp:Hp)(i:Nat),i ∉ ids->setAt hp ids ks i=hp i
 |[],ks,hp,i,_=>by cases ks<;>rfl
 |_::_,[],hp,i,_=>rfl
 |id::ids,k::ks,hp,i,h=>by
  simp only[zc6,not_or]at h;simp only[setAt];rw[PD ids ks _ i h.2];simp[upd,h.1]
theorem AG8:∀(ids:List Nat)(ks:List Blk)(hp:Hp)(j:Nat)(id:Nat),ids.Nodup->ids[j]? =some id->j<ks.length->setAt hp ids ks id=ks[j]?
 |[],_,_,_,_,_,h,_=>by simp at h
 |_::_,[],_,_,_,_,_,h=>by simp at h
 |i::ids,k::ks,hp,j,id,hn,h,hl=>by
  simp only[List.nodup_cons]at hn;simp only[setAt];cases j with
  |zero=>
   simp at h;subst h;rw[PD ids ks _ i hn.1];simp[upd]
  |succ j=>
   simp only[List.getElem?_cons_succ]at h⊢
   exact AG8 ids ks _ j id hn.2 h (by simpa using hl)
theorem PI{l m:THp}{i:Nat}:AK (l++m) i=if i∈l.map (·.1)then AK l i else AK m i:=by
 induction l with
 |nil=>simp
 |cons a l ih=>
  obtain⟨k,x⟩:=a;rw[zd8,AF,ih,AF];by_cases h:i=k
  ·simp[h]
  ·simp only[zb9,zc6,h,false_or,if_false]
theorem Q3{α:Type}{hp out:THp}:∀{l:List Nat}{A:Option α}{z:α},AB1 hp out l A=some z->A=some z/\∀id∈l,∃b b',AK hp id=some b/\AK out id=some b'/\FY b=FY b'
 |[],A,z,h=>⟨h,fun id hid=>by simp at hid⟩
 |id::l,A,z,h=>by
  simp only[AB1]at h
  split at h
  ·rename_i t1 d1 e1 l1 t2 d2 e2 l2 g1 g2;obtain⟨hc,h⟩:=Dx h;obtain⟨q1,q2⟩:=Q3 h;refine⟨q1,fun i hi=> ?_⟩
   rcases zc6.1 hi with rfl|hi
   ·exact⟨_,_,g2,g1,by simp only[FY];rw[of_decide_eq_true hc]⟩
   ·exact q2 i hi
  ·rename_i t1 c1 t2 c2 g1 g2;obtain⟨q1,q2⟩:=Q3 h;refine⟨q1,fun i hi=> ?_⟩
   rcases zc6.1 hi with rfl|hi
   ·exact⟨_,_,g2,g1,rfl⟩
   ·exact q2 i hi
  ·cases h
theorem Rj:∀(l:List Nat)(hp:THp)(i:Nat),AK (D9 hp l) i=if i∈l then none else AK hp i
 |[],hp,i=>by simp[D9]
 |id::l,hp,i=>by
  rw[D9,Rj l,AF];by_cases h1:i∈l
  ·simp[h1]
  ·by_cases h2:i=id
   ·subst h2;simp
   ·simp[h1,h2]
theorem A5I(o:List Nat)(e n b:Nat):Th o e n b=B8 o e n b:=by
 funext j
 unfold Th B8;by_cases h:j<e
 ·have:Nat.blt j e=true:=Nat.ble_eq_true_of_le h;rw[this,zr h];rfl
 ·have:Nat.blt j e=false:=by cases hb:Nat.blt j e with|false=>rfl|true=>exact absurd (O7 hb) h
  rw[this,zw h];by_cases h2:j<n
  ·have:Nat.blt j n=true:=Nat.ble_eq_true_of_le h2;rw[this,zr h2];rfl
  ·have:Nat.blt j n=false:=by cases hb:Nat.blt j n with|false=>rfl|true=>exact absurd (O7 hb) h2
   rw[this,zw h2];rfl
theorem KZ{f:Nat->Option Nat}:∀{L:THp}{i:Nat}{bb:TB},AK (EA f L) i=some bb->∃j b0,(j,some b0)∈L/\f j=some i/\bb=Ze f b0
 |[],_,_,h=>by cases h
 |(k,x)::L,i,bb,h=>by
  simp only[EA]at h
  split at h
  ·rename_i i' hk;rw[AF]at h
   split at h
   ·rename_i he;subst he;cases x with
    |none=>cases h
    |some b0=>cases h;exact⟨k,b0,by simp,hk,rfl⟩
   ·obtain⟨j,b0,h1,h2,h3⟩:=KZ h;exact⟨j,b0,by simp[h1],h2,h3⟩
  ·obtain⟨j,b0,h1,h2,h3⟩:=KZ h;exact⟨j,b0,by simp[h1],h2,h3⟩
theorem W8{f:Nat->Option Nat}:∀{L:THp}{j i:Nat}{x:Option TB},(j,x)∈L->f j=some i->i∈(EA f L).map (·.1)
 |(k,x')::L,j,i,x,h,hf=>by
  simp only[EA];rcases zc6.1 h with h|h
  ·cases h
   rw[hf];simp
  ·have:=W8 h hf
   split
   ·simp only[zb9,zc6];exact .inr this
   ·exact this
section
variable {hp1:Hp} {o:List Nat} {e b:Nat} {blks:List Blk}
theorem A2b{i j:Nat}{k:Blk}(hn:o.Nodup)(hlow:∀id∈o,id<b)(heo:e<=o.length)(hen:e<=blks.length)(hj:blks[j]? =some k)(hf:B8 o e blks.length b j=some i):
  Cy hp1 o e b blks i=some (Fv (B8 o e blks.length b) k):=by
 have hjl:=(za4.1 hj).1;unfold Cy;rw[At4];unfold B8 at hf;by_cases h:j<e
 ·rw[zr h]at hf;have hlt:=hlow i (za3 hf);rw[zw (by omega)];rw[AG8 _ _ _ j _ (hn.sublist (List.take_sublist _ _)) (by rw[zc2,zr h];exact hf) (by simp;omega)];rw[zc2,zr h,zc9,hj];rfl
 ·rw[zw h,zr hjl]at hf;cases hf
  rw[zr (by simp;omega)];rw[zd6,zc9,show e+(b+(j-e)-b)=j by omega,hj];rfl
theorem Aw7{i:Nat}(h1:i ∉ o)(h2:¬(b<=i/\i<b+(blks.length-e))):Cy hp1 o e b blks i=hp1 i:=by
 unfold Cy;rw[At4,zw (by simpa using h2),PD _ _ _ _ (fun h=>h1 (List.mem_of_mem_take h)),Kz _ _ _ h1]
end
section
variable {α:Type} {P:Program} {R:Rel} {cf:Cfg} {X:TX} {b:Nat} {tm:TTm} {m:Tm} {hp:THp} {hv:Hp} {K:SV->THp->Cls->Option α} {z:α}
theorem An5{E:Ent}{y:De E.a.res}{o:List Nat}{r:V}{blks':List Blk}(hres:ResRel E.a.res y r blks')(hn:o.Nodup)(hlow:∀id∈o,id<b)(heo:E.a.e<=o.length)(hen:E.a.e<=(BL 0 E.a.res y).2.length)
  (hlens:∀id∈o.take E.a.e,∃b0 b1,AK hp id=some b0/\AK (EA (Th o E.a.e (BL 0 E.a.res y).2.length b) (BL 0 E.a.res y).2) id=some b1/\FY b0=FY b1)
  {hp1:THp} {hv1:Hp} (hh1:RH hp1 hv1) (hold:∀id∈o,AK hp1 id=AK hp id) (hids:∀i bb,AK hp1 i=some bb->∀q∈LT bb,q<b) (hr:RT hp1 tm m) (htm:∀t,∀i∈HL (CW tm t),i<b):
  RV2 (EA (Th o E.a.e (BL 0 E.a.res y).2.length b) (BL 0 E.a.res y).2++D9 hp1 (o.drop E.a.e)) (A29 ((BL 0 E.a.res y).1.map fun p=>B9 (Th o E.a.e (BL 0 E.a.res y).2.length b) p.2)) (Gc (B8 o E.a.e blks'.length b) r)/\
  RH (EA (Th o E.a.e (BL 0 E.a.res y).2.length b) (BL 0 E.a.res y).2++D9 hp1 (o.drop E.a.e)) (Cy hv1 o E.a.e b blks')/\
  RT (EA (Th o E.a.e (BL 0 E.a.res y).2.length b) (BL 0 E.a.res y).2++D9 hp1 (o.drop E.a.e)) tm m:=by
 have hlen:=hres.len;have hsure:=Qk E.a.res 0 y;have hval:=hres.val;have hblk:=hres.blk;have hget:=fun i (h:i<(BL 0 E.a.res y).2.length)=>A0i h
 have hnone:=fun i bb (h:AK (BL 0 E.a.res y).2 i=some bb)=>A3k h
 have hmem:∀j x,(j,x)∈(BL 0 E.a.res y).2->j<(BL 0 E.a.res y).2.length/\∃b0,x=some b0/\AK (BL 0 E.a.res y).2 j=some b0:=by
  intro j x h;obtain⟨i,hi⟩:=List.getElem?_of_mem h;have hl:=(za4.1 hi).1;obtain⟨b0,h1,h2,_⟩:=hget i hl;rw[hi]at h1;simp only[zx,Prod.mk.injEq]at h1;obtain⟨rfl,rfl⟩:=h1;exact⟨hl,b0,rfl,h2⟩
 rw[hlen];generalize hvs:(BL 0 E.a.res y).1=vs0 at*
 generalize (BL 0 E.a.res y).2=L at*
 rw[A5I]at*
 generalize hn':L.length=n at*
 have hinj:∀i j k,i<n->j<n->B8 o E.a.e n b i=some k->B8 o E.a.e n b j=some k->i=j:=by
  intro i j k hi hj h1 h2;unfold B8 at h1 h2;by_cases a1:i<E.a.e
  ·rw[zr a1]at h1;by_cases a2:j<E.a.e
   ·rw[zr a2]at h2;have g1:=Qf hn h1;have g2:=Qf hn h2;rw[g1]at g2;exact zv g2
   ·rw[zw a2,zr hj]at h2;cases h2
    have:=hlow _ (za3 h1);omega
  ·rw[zw a1,zr hi]at h1;cases h1
   by_cases a2:j<E.a.e
   ·rw[zr a2]at h2;have:=hlow _ (za3 h2);omega
   ·rw[zw a2,zr hj]at h2;have:=zv h2;omega
 have hfn:∀i k,B8 o E.a.e n b i=some k->i<n:=by
  intro i k h;unfold B8 at h;by_cases a1:i<E.a.e
  ·omega
  ·rw[zw a1]at h
   split at h
   ·assumption
   ·cases h
 have hkey:∀j i,B8 o E.a.e n b j=some i->i∈(EA (B8 o E.a.e n b) L).map (·.1):=by
  intro j i h;obtain⟨b0,h1,_⟩:=hget j (by rw[<-hn']at*;exact hfn j i h);exact W8 (za3 h1) h
 have hlow2:∀j i,B8 o E.a.e n b j=some i->i<b->j<E.a.e/\i∈o.take E.a.e:=by
  intro j i h hi;unfold B8 at h;by_cases a1:j<E.a.e
  ·rw[zr a1]at h;exact⟨a1,za3 (i:=j) (by rw[zc2,zr a1];exact h)⟩
  ·rw[zw a1]at h
   split at h
   ·cases h;omega
   ·cases h
 have hlenT:∀id j,B8 o E.a.e n b id=some j->∀b',AK (EA (B8 o E.a.e n b) L++D9 hp1 (o.drop E.a.e)) j=some b'->∃b0,AK L id=some b0/\FY b0=FY b':=by
  intro id j hj b' hb';rw[PI,zr (hkey id j hj)]at hb';obtain⟨j',b0,h1,h2,rfl⟩:=KZ hb';obtain⟨q1,b1,q2,q3⟩:=hmem j' _ h1;cases q2
  have:=hinj id j' j (hfn _ _ hj) q1 hj h2;subst this;exact⟨b0,q3,(AF2 b0).symm⟩
 have hkn:∀i,i<b->Db hp1 (EA (B8 o E.a.e n b) L++D9 hp1 (o.drop E.a.e)) i:=by
  intro i hi b' hb';rw[PI]at hb'
  split at hb'
  ·rename_i hm;obtain⟨j,b0,h1,h2,rfl⟩:=KZ hb';obtain⟨_,hto⟩:=hlow2 j i h2 hi;obtain⟨c0,c1,q1,q2,q3⟩:=hlens i hto;rw[hb']at q2;cases q2
   exact⟨c0,by rw[hold i (List.mem_of_mem_take hto)];exact q1,q3⟩
  ·rw[Rj]at hb'
   split at hb'
   ·cases hb'
   ·exact⟨b',hb',rfl⟩
 refine⟨?_,fun i bb hb=> ?_,hr.keeps fun t i hi=>hkn i (htm t i hi)⟩
 ·
  have e1:(vs0.map fun p=>B9 (B8 o E.a.e n b) p.2)=(vs0.map (·.2)).map (B9 (B8 o E.a.e n b)):=by simp
  rw[e1];generalize vs0.map (·.2)=vs at hval hsure⊢
  match vs,hval,hsure with
  |[v],hval,hsure=>
   have hs1:Fp v=true:=by simpa using hsure
   obtain⟨q1,_,_,q4⟩:=Iz hs1 (show RV2 L v r from hval);rw[A33 q4];exact(Av3 hlenT q1 hs1).to2
  |[],hval,hsure=>
   obtain⟨us,rfl,hc⟩:=(show ∃us,r=.tup us/\RC (RV1 L) [] us from hval);cases us with
   |nil=>exact⟨[],rfl,trivial⟩
   |cons a l=>exact hc.elim
  |v1::v2::vs,hval,hsure=>
   obtain⟨us,rfl,hc⟩:=(show ∃us,r=.tup us/\RC (RV1 L) (v1::v2::vs) us from hval);exact⟨us.map (Dd (B8 o E.a.e n b)),rfl,RC.ren hlenT hsure hc⟩
 ·rw[PI]at hb
  split at hb
  ·obtain⟨j,b0,h1,h2,rfl⟩:=KZ hb;obtain⟨q1,b1,q2,q3⟩:=hmem j _ h1;cases q2
   obtain⟨kj,hkj,hrb⟩:=hblk j b0 q3;have hkj:blks'[j]? =some kj:=hkj;refine⟨Fv (B8 o E.a.e n b) kj,?_,A3A hlenT hrb⟩
   have:=A2b (hp1:=hv1) (e:=E.a.e) hn hlow heo (by omega) hkj (by rw[hlen];exact h2);rw[hlen]at this;exact this
  ·rename_i hm;rw[Rj]at hb
   split at hb
   ·cases hb
   ·rename_i hd;obtain⟨k,hk,hrb⟩:=hh1 i bb hb;refine⟨k,?_,hrb.keeps fun q hq=>hkn q (hids i bb hb q hq)⟩
    rw[Aw7 ?_ ?_]
    ·exact hk
    ·intro hio;rw[<-List.take_append_drop E.a.e o]at hio;rcases zb2.1 hio with hio|hio
     ·obtain⟨j,hj⟩:=List.getElem?_of_mem hio;rw[zc2]at hj
      split at hj
      ·rename_i hje;exact hm (hkey j i (by unfold B8;rw[zr hje];exact hj))
      ·cases hj
     ·exact hd hio
    ·rintro⟨h1,h2⟩;rw[hlen]at h2;exact hm (hkey (E.a.e+(i-b)) i (by unfold B8;rw[zw (by omega),zr (by omega)];congr 1;omega))
theorem T6{H:THp}:∀{vs:List SV}{us:List V},vs.all Fp=true->RC (RV1 H) vs us->us.all niV=vs.all Ap7
 |[],[],_,_=>rfl
 |v::vs,u::us,hs,h=>by
  simp only[zd3,za2]at hs⊢
  rw[(Ad4 hs.1 h.1).1,T6 hs.2 h.2]
 |[],_::_,_,h=>h.elim
 |_::_,[],_,h=>h.elim
theorem A3c{res:List Item}{y:De res}{r:V}{blks':List Blk}(hres:ResRel res y r blks'):Ar1 ((BL 0 res y).1.map (·.2)) (BL 0 res y).2=(LN r&&blks'.all EP):=by
 have hsure:=Qk res 0 y;have hval:=hres.val;unfold Ar1
 congr 1
 ·generalize (BL 0 res y).1.map (·.2)=vs at hval hsure
  match vs,hval,hsure with
  |[v],hval,hsure=>
   have hs1:Fp v=true:=by simpa using hsure
   obtain⟨q1,_⟩:=Iz hs1 (show RV2 _ v r from hval);simp only[zd3,List.all_nil,Bool.and_true];exact(Ad4 hs1 q1).2.symm
  |[],hval,hsure=>
   obtain⟨us,rfl,hc⟩:=(show ∃us,r=.tup us/\RC (RV1 (BL 0 res y).2) [] us from hval);rw[AA8,T6 hsure hc]
  |v1::v2::vs,hval,hsure=>
   obtain⟨us,rfl,hc⟩:=(show ∃us,r=.tup us/\RC (RV1 (BL 0 res y).2) (v1::v2::vs) us from hval);rw[AA8,T6 hsure hc]
 ·have h3:(BL 0 res y).2.map A26=blks'.map EP:=by
   apply List.ext_getElem?
   intro j;rw[zc9,zc9];by_cases hj:j<(BL 0 res y).2.length
   ·obtain⟨b0,h1,h2,h3⟩:=A0i hj;obtain⟨kj,hkj,hrb⟩:=hres.blk j b0 h2;have hkj:blks'[j]? =some kj:=hkj;rw[h1,hkj];simp only[zd4,A1L h3 hrb,A26]
   ·rw[ze8 (by omega),ze8 (by have:=hres.len;omega)];rfl
  have h4:∀{γ:Type}(l:List γ)(f:γ->Bool),l.all f=(l.map f).all id:=by
   intro γ l f
   induction l with
   |nil=>rfl
   |cons a l ih=>simp only[zd3,zb9,ih];rfl
  rw[h4 (BL 0 res y).2,h4 blks',h3]
theorem Q6{hp:THp}:∀(n:Nat)(l acc o:List Nat),HV hp n l acc=some o->(∀i∈l,i∈o)/\(∀i∈acc,i∈o)/\∀i∈o,i∈acc\/∃b,AK hp i=some b/\Yn b=true/\∀j∈rfB b,j∈o
 |0,_,_,_,h=>by simp[HV]at h
 |n+1,[],acc,o,h=>by
  simp only[HV,zx]at h;subst h;exact⟨fun _ h=>by simp at h,fun _ h=>h,fun _ h=>.inl h⟩
 |n+1,id::l,acc,o,h=>by
  simp only[HV]at h;cases hm:A2q id acc with
  |true=>
   rw[hm]at h;simp only[cond_true]at h;obtain⟨h1,h2,h3⟩:=Q6 n l acc o h;refine⟨fun i hi=> ?_,h2,h3⟩
   rcases zc6.1 hi with rfl|hi
   ·exact h2 _ (by rw[ST]at hm;simpa using hm)
   ·exact h1 i hi
  |false=>
   rw[hm]at h;simp only[cond_false]at h;cases hb:AK hp id with
   |none=>rw[hb]at h;cases h
   |some b=>
    rw[hb]at h;simp only at h;obtain⟨hs,h⟩:=Dx h;obtain⟨h1,h2,h3⟩:=Q6 n _ _ o h;refine⟨fun i hi=> ?_,fun i hi=>h2 i (by simp[hi]),fun i hi=> ?_⟩
    ·rcases zc6.1 hi with rfl|hi
     ·exact h2 _ (by simp)
     ·exact h1 i (by simp[hi])
    ·rcases h3 i hi with h4|h4
     ·rcases zb2.1 h4 with h4|h4
      ·exact .inl h4
      ·simp only[zd1]at h4;subst h4;exact .inr ⟨b,hb,hs,fun j hj=>h1 j (by simp[hj])⟩
     ·exact .inr h4
theorem S7{l o:List Nat}(hh:RH hp hv)(h:HV hp 64 l []=some o):Uw hv l o=true:=by
 obtain⟨h1,_,h3⟩:=Q6 64 l [] o h;unfold Uw;simp only[za2,za5];refine⟨fun i hi=>by simpa using h1 i hi,fun i hi=> ?_⟩
 rcases h3 i hi with h4|⟨b,hb,hs,hr⟩
 ·simp at h4
 ·obtain⟨k,hk,hrb⟩:=hh i b hb;rw[hk];simp only;refine za5.2 fun j hj=> ?_
  rw[A0K hs hrb]at hj;simpa using hr j hj
theorem Am6{g:FuncId}{ys ys':List V}{lent:List Nat}{KV:Cx}(h1:F5 hv (cf.byref g) ys=some ys')(h2:E8 hv (ys'.flatMap Ai)=some [])(h3:EK (cf.byref g) ys=lent):
  EJ R cf g ys hv b KV=Kx R g ys' lent hv b KV:=by
 unfold EJ;rw[h1]
 dsimp only
 rw[h2,h3]
theorem YS{g:FuncId}{ys ys':List V}{lent:List Nat}{KV:Cx}{i:Nat}{l:List Nat}(h1:F5 hv (cf.byref g) ys=some ys')(h2:E8 hv (ys'.flatMap Ai)=some (i::l))(h3:EK (cf.byref g) ys=lent):
  EJ R cf g ys hv b KV=N3 R g ys' lent (ys'.flatMap Ai).eraseDups (i::l) hv b KV:=by
 unfold EJ;rw[h1]
 dsimp only
 rw[h2,h3]
theorem A1n{g:FuncId}{args:List SV}{ys:List V}(hE:∀g E,Ac6 X.ents g=some E->Eh R E/\E.a.g=g/\cf.byref g=(F6 E.a.params).map YQ)(hh:RH hp hv)(hr:RT hp tm m)(hargs:RC (RV2 hp) args ys)(h:A35 X g args tm hp b K=some z):
  ∃x hp' cls y hv',K x hp' cls=some z/\RV2 hp' x y/\RH hp' hv'/\RT hp' tm m/\∀KV:Cx,KV y hv' cls->EJ R cf g ys hv b KV:=by
 unfold A35 at h
 split at h
 case h_2=>cases h
 rename_i E hfe;obtain⟨hEnt,hEg,hbr⟩:=hE g E hfe
 split at h
 case h_2=>cases h
 rename_i args' hargs'
 split at h
 case h_2=>cases h
 rename_i o ho
 split at h
 case h_2=>cases h
 rename_i x hx
 split at h
 case isFalse=>cases h
 rename_i hc;simp only[za2]at hc;obtain⟨⟨⟨⟨⟨⟨⟨⟨s1,s2⟩,d1⟩,d2⟩,d3⟩,o16⟩,bel⟩,sl⟩,oall⟩:=hc;obtain⟨y,hFy,h⟩:=Bq h;simp only at h
 split at h
 case isFalse=>cases h
 rename_i hle;simp only[za2]at hle;have hen:=Nat.le_of_ble_eq_true hle.1;have hen16:=Nat.le_of_ble_eq_true hle.2;obtain⟨h,hlens⟩:=Q3 h;rw[KL]at h;have o16:=Nat.le_of_ble_eq_true o16;obtain⟨bel1,bel2⟩:=UP bel;obtain⟨ys',hV,hargs2,hlent⟩:=Rw hh hargs' hargs;rw[<-hbr]at hV hlent;generalize LP (F6 E.a.params) args=lent at h oall hlent;have hnl:∀id∈o,id ∉ lent:=fun id hid=>by
  have:=za5.1 oall id hid;simp only[za2]at this;exact TL this.2
 obtain⟨a1,a2,a3,a4⟩:=RC.all1 s1 hargs2;have hlow:∀id∈o,id<b:=fun id hid=>by
  have:=za5.1 oall id hid;simp only[za2]at this;exact O7 this.1
 have hclose:FI hv 64 (ys'.flatMap Ai) []=some o:=by rw[a2];exact H7 hh _ _ _ ho
 have hcloseC:E8 hv (ys'.flatMap Ai)=some o:=by
  unfold E8;rw[hclose];simp only;rw[zr (by rw[a2];exact S7 hh ho)]
 obtain⟨c1,c2,_,_⟩:=GB hv 64 _ _ _ hclose (by simp) (fun id hid=>by simp at hid);have hdir:(ys'.flatMap Ai).eraseDups=o.take E.a.e:=by rw[a2,<-AR6];exact(Mg d2).symm
 have hdl:(o.take E.a.e).length=E.a.e:=by rw[Mg d2];exact za6 d3
 have heo:E.a.e<=o.length:=by rw[zf2]at hdl;omega
 obtain⟨r1,r2⟩:=Uy hh o;have hf:Er o=idx o:=funext fun id=>P5 o id
 have hren:RC (RV1 (GG hp (Er o) 0 o)) (args'.map (B9 (Er o))) (ys'.map (Dd (idx o))):=by
  rw[hf]at r2⊢
  exact RC.ren r2 s1 a1
 obtain⟨_,e2,_,_⟩:=RC.all1 s2 (hren.mono fun _ _ _ h=>h.to2);have hed:((ys'.map (Dd (idx o))).flatMap Ai).eraseDups=List.range E.a.e:=by rw[e2,<-AR6];exact Mg d1
 have hids:LC (ys'.map (Dd (idx o))) (AN hv o)=true:=by
  unfold LC;simp only[za2,decide_eq_true_eq,beq_iff_eq];refine⟨⟨⟨za5.2 fun i hi=> ?_,za5.2 fun i hi=> ?_⟩,by simpa[AN]using o16⟩,by rw[hed,List.length_range]⟩
  ·obtain⟨u,hu,hi⟩:=zb3.1 hi;obtain⟨u0,_,rfl⟩:=zd2.1 hu;obtain⟨j,hj,_⟩:=Qt hi;have:=(za4.1 (AP1 hj)).1;simp;omega
  ·obtain⟨k,hk,hi⟩:=zb3.1 hi;unfold AN at hk;obtain⟨id,_,rfl⟩:=zd2.1 hk;obtain⟨j,hj,_⟩:=Ad5 hi;have:=(za4.1 (AP1 hj)).1;simp;omega
 have hRS:RS {tm:=Sq 0 (args'.map (B9 (Er o))),hp:=GG hp (Er o) 0 o,c:=1} (Xh (ys'.map (Dd (idx o))) (AN hv o)):=
  ⟨Am0 0 (hren.mono fun _ _ _ h=>h.to2),r1,rfl⟩
 have hno:E.a.e=0->o=[]:=by
  intro h0;have h1:(ddN [] (args'.flatMap rf1)).length=0:=by rw[za6 d3,h0]
  have h2:args'.flatMap rf1=[]:=by
   cases hl:args'.flatMap rf1 with
   |nil=>rfl
   |cons i l=>
    rw[hl,AR6]at h1;simp[List.eraseDups_cons]at h1
  rw[h2]at ho;simpa[HV]using ho.symm
 obtain⟨r,blks',hR,hres⟩:=hEnt x y _ _ _ hFy hRS hx hids (by rw[zd0,hargs2.length];exact(za6 sl).symm) (by rw[hed,List.length_range]) (fun h0=>by rw[hno h0];rfl);rw[hEg]at hR;have hlenB:=hres.len;have hlens':∀id∈o.take E.a.e,∃b0 b1,AK hp id=some b0/\AK (EA (Th o E.a.e (BL 0 E.a.res y).2.length b) (BL 0 E.a.res y).2) id=some b1/\FY b0=FY b1:=hlens;obtain⟨f1,f2⟩:=X6 lent hh;have hpl:=An5 (E:=E) hres c1 hlow heo hen hlens' hh (fun _ _=>rfl) (fun i bb hb=>(bel1 i bb hb).2) hr bel2
 have hfz:=An5 (E:=E) hres c1 hlow heo hen hlens' f1 (fun i hi=>Va _ _ _ (hnl i hi)) (fun i bb hb=>(OL lent bel1 i bb hb).2) (hr.keeps fun _ i _=>f2 i) bel2;rw[A3c hres]at h;have hcallR:∀F:V->List Blk->Prop,F r blks'->Jc R g (ys'.map (Dd (idx o))) (AN hv o) F:=fun F hF=>⟨r,blks',hR,hF⟩
 cases o with
 |nil=>
  have he0:E.a.e=0:=by simpa using heo
  have hno:args'.flatMap rf1=[]:=by
   rw[<-a2];cases hL:ys'.flatMap Ai with
   |nil=>rfl
   |cons i l=>
    exfalso
    have:=hdir;rw[hL,List.eraseDups_cons,he0]at this;simp at this
  have hsame:ys'.map (Dd (idx []))=ys':=Ad8 s1 hno a1;rw[hsame]at hcallR hids;rw[he0]at hpl hfz hen16 h;simp only[List.drop_nil]at hpl hfz;cases hc:(lent.isEmpty||(LN r&&blks'.all EP))with
  |true=>
   rw[hc]at h;obtain⟨m1,m2,m3⟩:=hpl;refine⟨_,_,_,_,_,h,m1,m2,m3,fun KV hK=> ?_⟩
   rw[Am6 hV hcloseC hlent];refine hcallR _ ⟨by omega,hids,?_⟩
   rw[zr hc];exact hK
  |false=>
   rw[hc]at h;obtain⟨m1,m2,m3⟩:=hfz;refine⟨_,_,_,_,_,h,m1,m2,m3,fun KV hK=> ?_⟩
   rw[Am6 hV hcloseC hlent];refine hcallR _ ⟨by omega,hids,?_⟩
   rw[zw (by rw[hc];simp)];exact hK
 |cons i l=>
  have hall:((i::l).all fun id=> !lent.contains id)=true:=za5.2 fun id hid=>by simpa using hnl id hid
  cases hc:(lent.isEmpty||(LN r&&blks'.all EP))with
  |true=>
   rw[hc]at h;obtain⟨m1,m2,m3⟩:=hpl;refine⟨_,_,_,_,_,h,m1,m2,m3,fun KV hK=> ?_⟩
   rw[YS hV hcloseC hlent,hdir];unfold N3;rw[hdl];refine⟨hall,rfl,hids,hcallR _ ⟨by omega,by omega,?_⟩⟩
   rw[zr hc];exact hK
  |false=>
   rw[hc]at h;obtain⟨m1,m2,m3⟩:=hfz;refine⟨_,_,_,_,_,h,m1,m2,m3,fun KV hK=> ?_⟩
   rw[YS hV hcloseC hlent,hdir];unfold N3;rw[hdl];refine⟨hall,rfl,hids,hcallR _ ⟨by omega,by omega,?_⟩⟩
   rw[zw (by rw[hc];simp)];exact hK
end
end
end Go.Proofs.YtiijheppiboglaaGreatDoor.Ev
