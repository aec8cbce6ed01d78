/- What the theorem of this claim leans on, part 3. -/
import Derived.Test.YtiijheppiboglaaGreatDoorKB
import Derived.Below
import Derived.Carry
import Derived.Laws.Strings
import Derived.Laws.StructEq
set_option maxHeartbeats 2000000
set_option linter.unusedVariables false
set_option linter.unusedSimpArgs false
set_option linter.unusedSectionVars false
namespace Go.Proofs.YtiijheppiboglaaGreatDoor.Ev
section
open Go Go.RowKit
variable {P:Program} {J:Tabs} {w:World}
theorem PO {xs:List V} {cs:List Value} (h:Told w xs cs):xs.flatMap refs1 = []:=by
 rw[List.flatMap_eq_nil_iff]
 intro x hx
 obtain ⟨i,hi⟩:=List.getElem?_of_mem hx
 obtain ⟨y,_,hr⟩:=h.get i x hi
 cases hr <;> rfl
theorem Tv {xs:List V} {cs:List Value} (h:Told w xs cs):idsOK xs []=true:=by
 unfold idsOK
 rw[PO h]
 rfl
theorem Wr {cf:Cfg} {ext:Rel} (hm:P.follows .mixedOrders=true) (hext:∀ g args blks r blks',ext g args blks r blks'→CSpec P J g args blks r blks') (hJ:∀ x∈J,w.heap[x.1]? = some x.2) {g:FuncId} {xs:List V} {vals:Array Value}
  (hv:Told w xs vals.toList) (h:Runs P cf ext g xs [] (.v (.bool true)) []):Calls P g vals w fun e w'=>e = .returned (.bool true)∧Below w.heap.size w w':=by
 obtain ⟨k,h⟩:=h
 have hs:=Qw hm hext k g xs [] _ [] h
 have hno:∀ E b,¬Own E (lkB []) b:=fun E b ⟨id,k,hk,_⟩=>by simp[lkB] at hk
 have hI:HpInv w (Own ⟨fun _=>none,fun _ _=>False⟩ (lkB [])) (fun b=>b<w.heap.size) ⟨fun _=>none,fun _ _=>False⟩ (fun b=>b<w.heap.size) (lkB []) w :=
  ⟨Fr.refl _ w,fun b hb=>⟨hb,.inl hb⟩,fun b _=>hno _ b,fun b h=>absurd h (hno _ b),fun id k id' k' hk=>by simp[lkB] at hk,fun id k b hk=>by simp[lkB] at hk,fun id k hk=>by simp[lkB] at hk⟩
 refine (hs.calls (Tv hv) w _ _ vals (fun x hx=>⟨hJ x hx,hno _ _⟩) hI (hv.mono fun x _ y hx=>by
  cases hx with
  | v _ hs=>exact .v _ hs
  | em a=>exact .em a
  | er0=>exact .er0
  | er1 t x=>exact .er1 t x
  | im0 a cap=>exact .im0 a cap
  | im b off cap size rows f h1 h2 h3 h4 h5 h6 h7=>exact .im b off cap size rows f h1 h2 h3 h4 h5 h6 h7)).mono ?_
 rintro e w' ⟨y,E',G',rfl,hI',hy,_⟩
 have hyt:y = .bool true:=(C4 hy).1
 subst hyt
 exact ⟨rfl,hI'.fr.os,hI'.fr.tape,hI'.fr.output,hI'.fr.size,fun b hb=>hI'.fr.block b hb (hno _ b)⟩
end
section
open Go
def caseT {α:Type} (x:Option α) (F : α→Prop):Prop:=match x with | some y=>F y | none=>False
@[simp] theorem Ae3 {α:Type} (y : α) (F : α→Prop):caseT (some y) F=F y:=(rfl)
@[simp] theorem Ae9 {α:Type} (F : α→Prop):caseT none F=False:=(rfl)
@[simp] theorem Af0 {α β:Type} (x:Option α) (f : α→Option β) (F : β→Prop):caseT (x.bind f) F=caseT x fun a=>caseT (f a) F:=by cases x <;> rfl
@[simp] theorem Af8 {α:Type} (c:Prop) [Decidable c] (a b:Option α) (F : α→Prop):caseT (if c then a else b) F=if c then caseT a F else caseT b F:=by split <;> rfl
def loopF {σ ρ:Type} (body : σ→Option (σ ⊕ ρ)):Nat→σ→Option ρ
 | 0,_=>none
 | n + 1,s=>(body s).bind (Sum.elim (loopF body n) some)
theorem Js {σ ρ:Type} {body : σ→Option (σ ⊕ ρ)}:∀ {n:Nat} {s : σ} {r : ρ},loopF body n s=some r→∀ m,n≤m→loopF body m s=some r
 | 0,_,_,h,_,_=>by simp[loopF] at h
 | n + 1,s,r,h,m,hm=>by
  cases m with
  | zero=>omega
  | succ m =>
   simp only[loopF] at h ⊢
   cases hb:body s with
   | none=>rw[hb] at h; simp at h
   | some x =>
    rw[hb] at h
    simp only[Option.bind_some] at h ⊢
    cases x with
    | inl s'=>exact Js h m (by omega)
    | inr r'=>exact h
open Classical in
noncomputable def loopM {σ ρ:Type} (body : σ→Option (σ ⊕ ρ)) (s : σ):Option ρ :=
 if h:∃ n,(loopF body n s).isSome then loopF body (Classical.choose h) s else none
theorem Na {σ ρ:Type} {body : σ→Option (σ ⊕ ρ)} {s : σ} {n:Nat} {r : ρ} (h:loopF body n s=some r):loopM body s=some r:=by
 have he:∃ n,(loopF body n s).isSome:=⟨n,by rw[h]; rfl⟩
 unfold loopM
 rw[dif_pos he]
 obtain ⟨r',hr⟩:=Option.isSome_iff_exists.1 (Classical.choose_spec he)
 have h1:=Js h (max n (Classical.choose he)) (Nat.le_max_left _ _)
 have h2:=Js hr (max n (Classical.choose he)) (Nat.le_max_right _ _)
 rw[h1] at h2
 rw[hr,h2]
theorem GN {σ ρ:Type} {body : σ→Option (σ ⊕ ρ)} {s : σ} {r : ρ} (h:loopM body s=some r):∃ n,loopF body n s=some r:=by
 unfold loopM at h
 split at h
 ·rename_i he; exact ⟨_,h⟩
 ·cases h
theorem TA {σ ρ:Type} (body : σ→Option (σ ⊕ ρ)) (s : σ):loopM body s=(body s).bind (Sum.elim (loopM body) some):=by
 cases hb:body s with
 | none =>
  cases hm:loopM body s with
  | none=>rfl
  | some r =>
   obtain ⟨n,hn⟩:=GN hm
   cases n with
   | zero=>simp[loopF] at hn
   | succ n=>simp[loopF,hb] at hn
 | some x =>
  cases x with
  | inr r=>exact Na (n:=1) (by simp[loopF,hb])
  | inl s' =>
   show loopM body s=loopM body s'
   cases hm:loopM body s' with
   | some r =>
    obtain ⟨n,hn⟩:=GN hm
    exact Na (n:=n + 1) (by simp[loopF,hb,hn])
   | none =>
    cases hm2:loopM body s with
    | none=>rfl
    | some r =>
     obtain ⟨n,hn⟩:=GN hm2
     cases n with
     | zero=>simp[loopF] at hn
     | succ n =>
      simp only[loopF,hb,Option.bind_some,Sum.elim_inl] at hn
      rw[Na hn] at hm
      cases hm
end
section
open Go
inductive Ty where
 | int (k:IntKind)
 | bool
 | str
 | pair (a b:Ty)
 | sl (e:Ty)
 deriving DecidableEq
abbrev Str:=List UInt8
@[reducible] def Ty.den:Ty→Type
 | .int _=>Int
 | .bool=>Bool
 | .str=>Str
 | .pair a b=>a.den×b.den
 | .sl e=>List e.den
def Ty.size:Ty→Nat
 | .pair a b=>a.size + b.size
 | _=>1
inductive SV where
 | int (k:IntKind) (n:Int)
 | bool (b:Bool)
 | str (s:Str)
 | sc (x:Value)
 | er (b:Bool)
 | em
 | im (t:Ty) (l:List t.den)
 | ow (id:Nat)
 | ar (id lo n:Nat)
 | rf (id r c:Nat)
 | ir (t:Ty) (a:t.den) (c:Nat)
 | agg (cs:List SV)
 | tup (vs:List SV)
 | cl (f:FuncId) (caps:List SV)
 | any
 deriving Inhabited
inductive TB where
 | box (ty:TypeId) (cs:List SV)
 | arr (ty:TypeId) (deep:Bool) (t:Ty) (l:List t.den)
 | frz (ty:TypeId) (deep:Bool) (t:Ty) (l:List t.den)
abbrev TTm:=List (Nat×SV)
abbrev THp:=List (Nat×Option TB)
structure TSt where
 tm:TTm
 hp:THp
 c:Nat
def getV:TTm→Nat→SV
 | [],_=>.any
 | (k,x)::l,i=>cond (Nat.beq i k) x (getV l i)
def getB:THp→Nat→Option TB
 | [],_=>none
 | (k,x)::l,i=>cond (Nat.beq i k) x (getB l i)
def getD:List (Nat×TyD)→Nat→Option TyD
 | [],_=>none
 | (k,x)::l,i=>cond (Nat.beq i k) (some x) (getD l i)
def cellT:Value→SV
 | .int k n=>.int k n
 | .bool b=>.bool b
 | .string s=>.str s.data.toList
 | .slice none 0 0=>.em
 | x=>if scalarB x then .sc x else .any
def constT:Value→SV
 | .agg cs=>.agg (cs.toList.map cellT)
 | x=>cellT x
def zeroT:V→SV
 | .v (.int k n)=>.int k n
 | .v (.bool b)=>.bool b
 | .v (.string s)=>.str s.data.toList
 | .v x=>.sc x
 | .em=>.em
 | _=>.any
def opT (tm:TTm):Operand→SV
 | .tmp t=>getV tm t
 | .const c=>constT c
 | .global _=>.any
 | .func f=>.cl f []
def force {α:Type} (x:SV) (F:SV→α) : α :=
 match x with
 | .int k n=>F (.int k n)
 | .bool b=>F (.bool b)
 | .str s=>F (.str s)
 | .sc x=>F (.sc x)
 | .er b=>F (.er b)
 | .em=>F .em
 | .im t l=>F (.im t l)
 | .ow id=>F (.ow id)
 | .ar id lo n=>F (.ar id lo n)
 | .rf id r c=>F (.rf id r c)
 | .ir t a c=>F (.ir t a c)
 | .agg cs=>F (.agg cs)
 | .tup vs=>F (.tup vs)
 | .cl f caps=>F (.cl f caps)
 | .any=>F .any
def encT:(t:Ty)→t.den→List SV
 | .int k,n=>[.int k n]
 | .bool,b=>[.bool b]
 | .str,s=>[.str s]
 | .pair a b,x=>encT a x.1++encT b x.2
 | .sl e,l=>[.im e l]
def castL {t e:Ty} (h:t=e) (l:List t.den):List e.den:=h▸l
def asL (e:Ty):SV→Option (List e.den)
 | .em=>some []
 | .im t l=>if h:t=e then some (castL h l) else none
 | _=>none
def decT:(t:Ty)→List SV→Option (t.den×List SV)
 | .int k,.int k' n::r=>if k'=k then some (n,r) else none
 | .bool,.bool b::r=>some (b,r)
 | .str,.str s::r=>some (s,r)
 | .pair a b,cs =>
  match decT a cs with
  | some (x,r)=>(match decT b r with | some (y,r')=>some ((x,y),r') | none=>none)
  | none=>none
 | .sl e,v::r=>(match asL e v with | some l=>some (l,r) | none=>none)
 | _,_=>none
def decR (t:Ty) (cs:List SV):Option t.den :=
 match decT t cs with
 | some (x,[])=>some x
 | _=>none
def flatT:SV→List SV
 | .agg cs=>cs
 | x=>[x]
def okT:SV→Bool
 | .int .. | .bool _ | .str _ | .sc _ | .em | .im .. | .ow _ | .ar .. | .rf .. | .ir .. => true
 | .cl _ []=>true
 | _=>false
def mkT (g:Bool) (cs:List SV):Option SV :=
 if g then some (.agg cs) else match cs with | [x]=>some x | _=>none
def segT (cs:List SV) (off n:Nat):Option (List SV):=if off + n≤cs.length then some ((cs.drop off).take n) else none
def putT (cs:List SV) (off:Nat) (new:List SV):Option (List SV) :=
 if off + new.length≤cs.length then some (cs.take off++new++cs.drop (off + new.length)) else none
def getN {β:Type} (l:List β) (n:Nat):Option β:=l[n]?
def getI {α:Type} (l:List α) (n:Int):Option α:=if 0≤n then l[n.toNat]? else none
def neL {α:Type} (l:List α):Option Unit:=match l with | []=>none | _::_=>some ()
def idxI (n:Int) (len:Nat):Option Nat:=if 0≤n∧n.toNat<len then some n.toNat else none
def subI (lo hi:Int) (len:Nat):Option (Nat×Nat):=if 0≤lo∧lo≤hi∧hi≤len then some (lo.toNat,hi.toNat) else none
def catS (s t:Str):Option Str:=if s.length + t.length≤9223372036854775807 then some (s++t) else none
def lenI (n:Int) (bytes size:Nat):Option Nat:=if 0≤n∧n.toNat*bytes≤maxBytes∧n.toNat*size≤maxBytes then some n.toNat else none
def roomI (n bytes size:Nat):Bool:=decide (n*bytes≤maxBytes)&&decide (n*size≤maxBytes)
def shlI (k:IntKind) (a b:Int):Int:=k.wrap (a*2 ^ (min b.toNat k.bits))
def shrI (k:IntKind) (a b:Int):Int:=a.fdiv (2 ^ (min b.toNat k.bits))
def andI (k:IntKind) (a b:Int):Int:=k.wrap ((BitVec.ofInt k.bits a &&& BitVec.ofInt k.bits b).toNat:Int)
def orI (k:IntKind) (a b:Int):Int:=k.wrap ((BitVec.ofInt k.bits a ||| BitVec.ofInt k.bits b).toNat:Int)
def xorI (k:IntKind) (a b:Int):Int:=k.wrap ((BitVec.ofInt k.bits a ^^^ BitVec.ofInt k.bits b).toNat:Int)
def numsOf (s:Str):List Int:=s.map fun c=>(c.toNat:Int)
def strOf (l:List Int):Str:=l.map fun n=>UInt8.ofNat n.toNat
section
variable {α:Type}
def tBinI (op:BinOp) (k k':IntKind) (a b:Int) (K:SV→Option α):Option α :=
 match op with
 | .shl=>cond (decide (b<0)) none (K (.int k (shlI k a b)))
 | .shr=>cond (decide (b<0)) none (K (.int k (shrI k a b)))
 | _ =>
  if k=k' then
   match op with
   | .add=>K (.int k (k.wrap (a + b)))
   | .sub=>K (.int k (k.wrap (a-b)))
   | .mul=>K (.int k (k.wrap (a*b)))
   | .quo=>cond (b==0) none (K (.int k (k.wrap (a.tdiv b))))
   | .rem=>cond (b==0) none (K (.int k (a.tmod b)))
   | .and=>K (.int k (andI k a b))
   | .or=>K (.int k (orI k a b))
   | .xor=>K (.int k (xorI k a b))
   | .eql=>K (.bool (a==b))
   | .neq=>K (.bool (a != b))
   | .lss=>K (.bool (decide (a<b)))
   | .leq=>K (.bool (decide (a≤b)))
   | .gtr=>K (.bool (decide (a>b)))
   | .geq=>K (.bool (decide (a≥b)))
   | _=>none
  else none
def tBinS (op:BinOp) (s t:Str) (K:SV→Option α):Option α :=
 match op with
 | .add=>(catS s t).bind fun u=>K (.str u)
 | .eql=>K (.bool (s==t))
 | .neq=>K (.bool (!(s==t)))
 | .lss=>K (.bool (Op.bytesLess s t))
 | .leq=>K (.bool (Op.bytesLess s t || s==t))
 | .gtr=>K (.bool (!(Op.bytesLess s t || s==t)))
 | .geq=>K (.bool (!(Op.bytesLess s t)))
 | _=>none
def eqCells:List SV→List SV→Option Bool
 | [],[]=>some true
 | [.int k a],[.int k' b]=>if k=k' then some (a==b) else none
 | .int k a::x,.int k' b::y=>if k=k' then (match eqCells x y with | some r=>some ((a==b)&&r) | none=>none) else none
 | _,_=>none
def tUn (u:UnOp) (x:SV) (K:SV→Option α):Option α :=
 match u,x with
 | .not,.bool b=>K (.bool (!b))
 | .neg,.int k n=>K (.int k (k.wrap (0-n)))
 | _,_=>none
def tFill (flds:List Fld) (tm:TTm):List SV→List (Nat×Operand)→(List SV→Option α)→Option α
 | cs,[],K=>K cs
 | cs,(k,x)::rest,K =>
  match flds[k]? with
  | some f=>force (opT tm x) fun v=>if (flatT v).length=f.size&&(flatT v).all okT then (match putT cs f.off (flatT v) with | some cs=>tFill flds tm cs rest K | none=>none) else none
  | none=>none
def intOf':SV→Option Int
 | .int _ n=>some n
 | _=>none
def tBnd (tm:TTm):Option Operand→Int→Option Int
 | none,d=>some d
 | some x,_=>intOf' (opT tm x)
def allInts:List SV→Option (IntKind×List Int)
 | [.int k n]=>some (k,[n])
 | .int k n::l=>match allInts l with | some (k',ns)=>if k=k' then some (k,n::ns) else none | none=>none
 | _=>none
def minL:List Int→Int
 | []=>0
 | x::l=>l.foldl (fun a b=>if b<a then b else a) x
def maxL:List Int→Int
 | []=>0
 | x::l=>l.foldl (fun a b=>if b>a then b else a) x
end
def ids0:SV→List Nat
 | .ow id=>[id]
 | _=>[]
def ids1:SV→List Nat
 | .agg cs=>cs.flatMap ids0
 | .cl _ cs=>cs.flatMap ids0
 | x=>ids0 x
def ids2:SV→List Nat
 | .tup vs=>vs.flatMap ids1
 | x=>ids1 x
def idsB:TB→List Nat
 | .box _ cs=>cs.flatMap ids0
 | _=>[]
def notIn (b:Nat) (l:List Nat):Bool:=l.all fun i=>!Nat.beq i b
def freshT (tm:TTm) (hp:THp) (b:Nat):Bool :=
 tm.all (fun x=>notIn b (ids2 x.2))&&hp.all fun x=>match x.2 with | some k=>notIn b (idsB k) | none=>true
def killT (hp:THp):List Nat→THp
 | []=>hp
 | id::l=>killT ((id,none)::hp) l
def frzB:TB→TB
 | .arr ty deep t l=>.frz ty deep t l
 | x=>x
def freezeT (hp:THp):List Nat→THp
 | []=>hp
 | id::l=>freezeT ((id,(getB hp id).map frzB)::hp) l
def maskT (b:Nat) (hp:THp):THp:=hp.filter fun x=>Nat.blt x.1 b
inductive AC where
 | int (k:IntKind)
 | bool
 | str
 | err
 | im (t:Ty)
 | at (j:Nat)
inductive AB where
 | arr (ty:TypeId) (deep:Bool) (t:Ty)
 | box (ty:TypeId) (cs:List AC)
inductive AS where
 | cell (c:AC)
 | agg (cs:List AC)
 | ref (j:Nat) (isbox:Bool)
 | sub (j:Nat)
 | clo (f:FuncId)
 | cap (f:FuncId) (js:List Nat)
inductive Item where
 | blk (b:AB)
 | slot (s:Nat) (a:AS)
@[reducible] def PairT (u v:Bool) (A B:Type):Type :=
 match u,v with
 | true,_=>B
 | false,true=>A
 | false,false=>A×B
def mkP:(u v:Bool)→(A B:Type)→A→B→PairT u v A B
 | true,_,_,_,_,b=>b
 | false,true,_,_,a,_=>a
 | false,false,_,_,a,b=>(a,b)
def fstP:(u v:Bool)→(A B:Type)→(u=true→A)→PairT u v A B→A
 | true,_,_,_,a,_=>a rfl
 | false,true,_,_,_,x=>x
 | false,false,_,_,_,x=>x.1
def sndP:(u v:Bool)→(A B:Type)→(v=true→B)→PairT u v A B→B
 | true,_,_,_,_,x=>x
 | false,true,_,_,b,_=>b rfl
 | false,false,_,_,_,x=>x.2
section
variable {ι:Type} (den : ι→Type) (u : ι→Bool)
@[reducible] def denL:List ι→Type
 | []=>Unit
 | x::l=>PairT (u x) (l.all u) (den x) (denL l)
variable (un:∀ x,u x=true→den x)
def unitL:(l:List ι)→l.all u=true→denL den u l
 | [],_=>()
 | x::l,h=>mkP (u x) (l.all u) (den x) (denL den u l) (un x (by simp at h; exact h.1)) (unitL l (by simp at h ⊢; exact h.2))
def hdL (x : ι) (l:List ι) (d:denL den u (x::l)):den x:=fstP (u x) (l.all u) (den x) (denL den u l) (un x) d
def tlL (x : ι) (l:List ι) (d:denL den u (x::l)):denL den u l:=sndP (u x) (l.all u) (den x) (denL den u l) (unitL den u un l) d
def consL (x : ι) (l:List ι) (a:den x) (d:denL den u l):denL den u (x::l):=mkP (u x) (l.all u) (den x) (denL den u l) a d
end
@[reducible] def AC.den:AC→Type
 | .int _=>Int
 | .bool=>Bool
 | .str=>Str
 | .err=>Bool
 | .im t=>List t.den
 | .at _=>Unit
def AC.isU:AC→Bool
 | .at _=>true
 | _=>false
def unitC:(c:AC)→c.isU=true→c.den
 | .at _,_=>()
 | .int _,h=>by cases h
 | .bool,h=>by cases h
 | .str,h=>by cases h
 | .err,h=>by cases h
 | .im _,h=>by cases h
@[reducible] def denC (cs:List AC):Type:=denL AC.den AC.isU cs
def hdC (c:AC) (cs:List AC) (d:denC (c::cs)):c.den:=hdL AC.den AC.isU unitC c cs d
def tlC (c:AC) (cs:List AC) (d:denC (c::cs)):denC cs:=tlL AC.den AC.isU unitC c cs d
def consC (c:AC) (cs:List AC) (a:c.den) (d:denC cs):denC (c::cs):=consL AC.den AC.isU c cs a d
@[reducible] def AB.den:AB→Type
 | .arr _ _ t=>List t.den
 | .box _ cs=>denC cs
@[reducible] def AS.den:AS→Type
 | .cell c=>c.den
 | .agg cs=>denC cs
 | .ref _ _=>Unit
 | .sub _=>Nat×Nat
 | .clo _=>Unit
 | .cap _ _=>Unit
@[reducible] def Item.den:Item→Type
 | .blk b=>b.den
 | .slot _ a=>a.den
def AB.isU:AB→Bool
 | .arr _ _ _=>false
 | .box _ cs=>cs.all AC.isU
def AS.isU:AS→Bool
 | .cell c=>c.isU
 | .agg cs=>cs.all AC.isU
 | .ref _ _=>true
 | .sub _=>false
 | .clo _=>true
 | .cap _ _=>true
def Item.isU:Item→Bool
 | .blk b=>b.isU
 | .slot _ a=>a.isU
def unitB:(b:AB)→b.isU=true→b.den
 | .box _ cs,h=>unitL AC.den AC.isU unitC cs h
 | .arr _ _ _,h=>by cases h
def unitA:(a:AS)→a.isU=true→a.den
 | .cell c,h=>unitC c h
 | .agg cs,h=>unitL AC.den AC.isU unitC cs h
 | .ref _ _,_=>()
 | .clo _,_=>()
 | .cap _ _,_=>()
 | .sub _,h=>by cases h
def unitI:(x:Item)→x.isU=true→x.den
 | .blk b,h=>unitB b h
 | .slot _ a,h=>unitA a h
@[reducible] def denI (l:List Item):Type:=denL Item.den Item.isU l
def hdI (x:Item) (l:List Item) (d:denI (x::l)):x.den:=hdL Item.den Item.isU unitI x l d
def tlI (x:Item) (l:List Item) (d:denI (x::l)):denI l:=tlL Item.den Item.isU unitI x l d
def consI (x:Item) (l:List Item) (a:x.den) (d:denI l):denI (x::l):=consL Item.den Item.isU x l a d
def encC:(c:AC)→c.den→SV
 | .int k,n=>.int k n
 | .bool,b=>.bool b
 | .str,s=>.str s
 | .err,b=>.er b
 | .im t,l=>.im t l
 | .at j,_=>.ow j
def encCs:(cs:List AC)→denC cs→List SV
 | [],_=>[]
 | c::cs,d=>encC c (hdC c cs d)::encCs cs (tlC c cs d)
def encB:(b:AB)→b.den→TB
 | .arr ty deep t,l=>.arr ty deep t l
 | .box ty cs,x=>.box ty (encCs cs x)
def encSV:(a:AS)→a.den→SV
 | .cell c,x=>encC c x
 | .agg cs,x=>.agg (encCs cs x)
 | .ref j false,_=>.ow j
 | .ref j true,_=>.rf j 0 0
 | .sub j,x=>.ar j x.1 x.2
 | .clo g,_=>.cl g []
 | .cap g js,_=>.cl g (js.map fun j=>.rf j 0 0)
def encI:Nat→(l:List Item)→denI l→TTm×THp
 | _,[],_=>([],[])
 | k,.blk b::l,d=>((encI (k + 1) l (tlI (.blk b) l d)).1,(k,some (encB b (hdI (.blk b) l d)))::(encI (k + 1) l (tlI (.blk b) l d)).2)
 | k,.slot s a::l,d=>((s,encSV a (hdI (.slot s a) l d))::(encI k l (tlI (.slot s a) l d)).1,(encI k l (tlI (.slot s a) l d)).2)
def encSt (l:List Item) (d:denI l):TSt:={ tm:=(encI 0 l d).1,hp:=(encI 0 l d).2,c:=1 }
def slotsI:List Item→List Nat
 | []=>[]
 | .blk _::l=>slotsI l
 | .slot s _::l=>s::slotsI l
def slotsA:List Item→List AS
 | []=>[]
 | .blk _::l=>slotsA l
 | .slot _ a::l=>a::slotsA l
def blksI:List Item→List AB
 | []=>[]
 | .blk b::l=>b::blksI l
 | .slot _ _::l=>blksI l
inductive TM where
 | keep
 | own (ty:TypeId) (deep:Bool) (t:Ty)
 | im (t:Ty)
 | sub
inductive TMs where
 | one (m:TM)
 | agg (l:List TM)
 | box (l:List TM)
def ownM (bl:List AB) (j:Nat):TM:=match bl[j]? with | some (.arr ty deep t)=>.own ty deep t | _=>.keep
def tmC (bl:List AB):AC→TM
 | .im t=>.im t
 | .at j=>ownM bl j
 | _=>.keep
def tmS (bl:List AB):AS→TMs
 | .cell c=>.one (tmC bl c)
 | .agg cs=>.agg (cs.map (tmC bl))
 | .ref j false=>.one (ownM bl j)
 | .ref j true=>match bl[j]? with | some (.box _ cs)=>.box (cs.map (tmC bl)) | _=>.one .keep
 | .sub _=>.one .sub
 | .clo _=>.one .keep
 | .cap _ _=>.one .keep
def TM.md:TM→Md
 | .keep=>.keep
 | .own ty deep t=>.own ty t.size deep
 | .im _=>.im
 | .sub=>.keep
def TMs.mds:TMs→Mds
 | .one m=>.one m.md
 | .agg l=>.agg (l.map TM.md)
 | .box l=>.box (l.map TM.md)
def keepT (bl:List AB):List Item→List (Nat×TMs)
 | []=>[]
 | .blk _::l=>keepT bl l
 | .slot s a::l=>(s,tmS bl a)::keepT bl l
def mdsL (l:List (Nat×TMs)):List (Nat×Mds):=l.map fun p=>(p.1,p.2.mds)
def keepI (l:List Item):List (Nat×Mds):=mdsL (keepT (blksI l) l)
def asLh (hp:THp) (e:Ty):SV→Option (List e.den)
 | .ow id =>
  match getB hp id with
  | some (.arr _ _ t l) | some (.frz _ _ t l)=>if h:t=e then some (castL h l) else none
  | _=>none
 | .ar id lo n =>
  match getB hp id with
  | some (.arr _ _ t l) | some (.frz _ _ t l)=>if h:t=e then some (((castL h l).take (lo + n)).drop lo) else none
  | _=>none
 | v=>asL e v
def frV:SV→List Nat
 | .ow id=>[id]
 | .ar id _ _=>[id]
 | _=>[]
def tnC (m:TM) (v:SV) (hp:THp) (b:Nat):Option (SV×THp×Nat) :=
 match m with
 | .keep=>some (v,hp,0)
 | .own ty deep t =>
  match v with
  | .em=>some (.ow b,(b,some (.arr ty deep t []))::hp,1)
  | .ow id =>
   match getB hp id with
   | some (.arr ty' deep' t' _)=>if t'=t then (if Nat.beq ty' ty&&(deep'==deep) then some (.ow id,hp,0) else none) else none
   | _=>none
  | _=>none
 | .im t=>match asLh hp t v with | some l=>some (.im t l,freezeT hp (frV v),0) | none=>none
 | .sub =>
  match v with
  | .ow id=>match getB hp id with | some (.arr _ _ _ l)=>some (.ar id 0 l.length,hp,0) | _=>none
  | .ar id lo n=>some (.ar id lo n,hp,0)
  | _=>none
def tnL:List TM→List SV→THp→Nat→Option (List SV×THp×Nat)
 | [],[],hp,_=>some ([],hp,0)
 | m::ms,x::xs,hp,b =>
  match tnC m x hp b with
  | some (y,hp1,n) =>
   match tnL ms xs hp1 (b + n) with
   | some (ys,hp2,k)=>some (y::ys,hp2,n + k)
   | none=>none
  | none=>none
 | _,_,_,_=>none
def tnV (m:TMs) (v:SV) (hp:THp) (b:Nat):Option (SV×THp×Nat) :=
 match m with
 | .one m=>tnC m v hp b
 | .agg l=>match v with | .agg cs=>(match tnL l cs hp b with | some (cs',hp',n)=>some (.agg cs',hp',n) | none=>none) | _=>none
 | .box l =>
  match v with
  | .rf id r c =>
   match getB hp id with
   | some (.box ty cs)=>(match tnL l cs hp b with | some (cs',hp',n)=>if cs'.all okT then some (.rf id r c,(id,some (.box ty cs'))::hp',n) else none | none=>none)
   | _=>none
  | _=>none
def tnS:List (Nat×TMs)→TSt→Option TSt
 | [],st=>some st
 | (s,m)::l,st =>
  match tnV m (getV st.tm s) st.hp (16*st.c) with
  | some (x,hp,n)=>if Nat.ble n 16 then tnS l { tm:=(s,x)::st.tm,hp:=hp,c:=st.c + 1 } else none
  | none=>none
def belowT (tm:TTm) (hp:THp) (b:Nat):Bool :=
 tm.all (fun x=>(ids2 x.2).all fun i=>Nat.blt i b)&&hp.all fun x=>match x.2 with | some k=>Nat.blt x.1 b&&(idsB k).all fun i=>Nat.blt i b | none=>true
def rf0:SV→List Nat
 | .ow id=>[id]
 | .ar id _ _=>[id]
 | .rf id _ _=>[id]
 | _=>[]
def rf1:SV→List Nat
 | .agg cs=>cs.flatMap rf0
 | .cl _ caps=>caps.flatMap rf0
 | x=>rf0 x
def rfB:TB→List Nat
 | .box _ cs=>cs.flatMap rf0
 | _=>[]
def sure0:SV→Bool
 | .agg _ | .tup _ | .any=>false
 | .cl _ caps=>caps.isEmpty
 | _=>true
def sure1:SV→Bool
 | .agg cs=>cs.all sure0
 | .cl _ caps=>caps.all sure0
 | x=>sure0 x
def sureB:TB→Bool
 | .box _ cs=>cs.all sure0
 | _=>true
def memN (i:Nat):List Nat→Bool
 | []=>false
 | x::l=>cond (Nat.beq x i) true (memN i l)
def closeT (hp:THp):Nat→List Nat→List Nat→Option (List Nat)
 | 0,_,_=>none
 | _ + 1,[],acc=>some acc
 | k + 1,id::l,acc =>
  cond (memN id acc) (closeT hp k l acc)
   (match getB hp id with
   | none=>none
   | some b=>cond (sureB b) (closeT hp k (l++rfB b) (acc ++ [id])) none)
def idxT:List Nat→Nat→Option Nat
 | [],_=>none
 | x::l,id=>cond (Nat.beq x id) (some 0) (match idxT l id with | some j=>some (j + 1) | none=>none)
def eqNs:List Nat→List Nat→Bool
 | [],[]=>true
 | x::l,y::m=>Nat.beq x y&&eqNs l m
 | _,_=>false
def renS0 (f:Nat→Option Nat):SV→SV
 | .ow id=>match f id with | some j=>.ow j | none=>.any
 | .ar id lo n=>match f id with | some j=>.ar j lo n | none=>.any
 | .rf id r c=>match f id with | some j=>.rf j r c | none=>.any
 | .cl g []=>.cl g []
 | .cl _ _ | .agg _ | .tup _=>.any
 | x=>x
def renS1 (f:Nat→Option Nat):SV→SV
 | .agg cs=>.agg (cs.map (renS0 f))
 | .cl g caps=>.cl g (caps.map (renS0 f))
 | x=>renS0 f x
def renTB (f:Nat→Option Nat):TB→TB
 | .box ty cs=>.box ty (cs.map (renS0 f))
 | x=>x
def renHp (hp:THp) (f:Nat→Option Nat):Nat→List Nat→THp
 | _,[]=>[]
 | k,id::l=>(k,match getB hp id with | some b=>some (renTB f b) | none=>none)::renHp hp f (k + 1) l
def canonT (e:Nat) (keep:List Nat) (st:TSt):Option TSt :=
 if keep.all (fun s=>sure1 (getV st.tm s)) then
  match closeT st.hp 64 (List.range e++keep.flatMap fun s=>rf1 (getV st.tm s)) [] with
  | some o =>
   if Nat.ble o.length 16&&eqNs (o.take e) (List.range e) then
    some { tm:=keep.map fun s=>(s,renS1 (idxT o) (getV st.tm s)),hp:=renHp st.hp (idxT o) 0 o,c:=1 }
   else none
  | none=>none
 else none
def rdC:(c:AC)→SV→Option c.den
 | .int k,.int k' n=>if k'=k then some n else none
 | .bool,.bool b=>some b
 | .str,.str s=>some s
 | .err,.er b=>some b
 | .im t,.im t' l=>if h:t'=t then some (castL h l) else none
 | .at j,.ow i=>if Nat.beq i j then some () else none
 | _,_=>none
def rdCs:(cs:List AC)→List SV→Option (denC cs)
 | [],[]=>some ()
 | c::cs,v::vs=>(match rdC c v with | some x=>(match rdCs cs vs with | some y=>some (consC c cs x y) | none=>none) | none=>none)
 | _,_=>none
def rdB:(b:AB)→TB→Option b.den
 | .arr ty deep t,.arr ty' deep' t' l=>if h:t'=t then (if Nat.beq ty' ty&&(deep'==deep) then some (castL h l) else none) else none
 | .box ty cs,.box ty' vs=>if Nat.beq ty' ty then rdCs cs vs else none
 | _,_=>none
def rfsB:List Nat→List SV→Bool
 | [],[]=>true
 | j::js,.rf i 0 0::vs=>cond (Nat.beq i j) (rfsB js vs) false
 | _,_=>false
def rdS:(a:AS)→SV→Option a.den
 | .cell c,v=>rdC c v
 | .agg cs,.agg vs=>rdCs cs vs
 | .ref j false,.ow i=>if Nat.beq i j then some () else none
 | .ref j true,.rf i 0 0=>if Nat.beq i j then some () else none
 | .sub j,.ar i lo n=>if Nat.beq i j then some (lo,n) else none
 | .clo f,.cl g []=>if Nat.beq g f then some () else none
 | .cap f js,.cl g vs=>if Nat.beq g f&&rfsB js vs then some () else none
 | _,_=>none
def rdI:Nat→(l:List Item)→TTm→THp→Option (denI l)
 | _,[],[],[]=>some ()
 | k,.blk b::l,tm,(i,some tb)::hp =>
  if Nat.beq i k then (match rdB b tb with | some x=>(match rdI (k + 1) l tm hp with | some y=>some (consI (.blk b) l x y) | none=>none) | none=>none) else none
 | k,.slot s a::l,(i,v)::tm,hp =>
  if Nat.beq i s then (match rdS a v with | some x=>(match rdI k l tm hp with | some y=>some (consI (.slot s a) l x y) | none=>none) | none=>none) else none
 | _,_,_,_=>none
def decSt (e:Nat) (l:List Item) (st:TSt):Option (denI l) :=
 if belowT st.tm st.hp (16*st.c) then
  match tnS (keepT (blksI l) l) st with
  | some st1=>(match canonT e (slotsI l) st1 with | some st2=>rdI 0 l st2.tm st2.hp | none=>none)
  | none=>none
 else none
structure FAnn where
 g:FuncId
 e:Nat:=0
 params:List Item
 res:List Item
 heads:List (Nat×List Item):=[]
 outs:List (Nat×List (Ex×List Item)):=[]
 joins:List (Nat×List Item):=[]
def findA:List FAnn→FuncId→Option FAnn
 | [],_=>none
 | a::l,g=>cond (Nat.beq a.g g) (some a) (findA l g)
def findN {α:Type}:List (Nat×α)→Nat→Option α
 | [],_=>none
 | (k,x)::l,i=>cond (Nat.beq k i) (some x) (findN l i)
def exEq:Ex→Ex→Bool
 | .normal,.normal=>true
 | .ret,.ret=>true
 | .exit i,.exit j=>Nat.beq i j
 | _,_=>false
def findE:List (Ex×List Item)→Ex→Option (List Item)
 | [],_=>none
 | (e,x)::l,i=>cond (exEq e i) (some x) (findE l i)
def rtsT (bl:List AB):Nat→Nat→List AB→List (Nat×TMs)
 | 0,_,_=>[]
 | _,_,[]=>[]
 | e + 1,k,.box _ cs::l=>(k,.box (cs.map (tmC bl)))::rtsT bl e (k + 1) l
 | e + 1,k,_::l=>rtsT bl e (k + 1) l
def isAt:AC→Bool
 | .at _=>true
 | _=>false
def refA:AS→Bool
 | .ref _ false=>true
 | .sub _=>true
 | .agg cs=>cs.any isAt
 | .clo _=>true
 | .cap _ _=>true
 | _=>false
def cfOf (tab:List FAnn) (ext:FuncId→Bool):Cfg where
 live g r:=match (findA tab g).bind fun a=>findN a.heads r with | some l=>keepI l | none=>[]
 out g r ex:=match ((findA tab g).bind fun a=>findN a.outs r).bind fun l=>findE l ex with | some l=>keepI l | none=>[]
 join g r:=match (findA tab g).bind fun a=>findN a.joins r with | some l=>some (keepI l) | none=>none
 res g:=match findA tab g with | some a=>(keepI a.res).map (·.2) | none=>[]
 par g:=match findA tab g with | some a=>keepI a.params | none=>[]
 rts g:=match findA tab g with | some a=>mdsL (rtsT (blksI a.res) a.e 0 (blksI a.res)) | none=>[]
 byref g:=match findA tab g with | some a=>(slotsA a.params).map refA | none=>[]
 isExt:=ext
structure Ent where
 a:FAnn
 F:denI a.params→Option (denI a.res)
def findF:List Ent→FuncId→Option Ent
 | [],_=>none
 | x::l,g=>cond (Nat.beq x.a.g g) (some x) (findF l g)
structure TX where
 ty:List (Nat×TyD)
 cod:List (Nat×Ty)
 eqs:List Nat
 bools:List Nat
 ents:List Ent
 ann:FAnn
def flatTy:Ty→Bool
 | .sl _=>false
 | .pair a b=>flatTy a&&flatTy b
 | _=>true
section
variable {α:Type} (X:TX)
def elemX (t:TypeId):Option (TypeId×TyD×Ty) :=
 match getD X.ty t with
 | some d =>
  match d.elem with
  | some e =>
   match getD X.ty e,findN X.cod e with
   | some de,some c=>if Nat.beq de.size c.size&&(de.zero.all isVB==flatTy c) then some (e,de,c) else none
   | _,_=>none
  | none=>none
 | none=>none
def isIfX (t:TypeId):Bool:=match getD X.ty t with | some d=>d.ifc | none=>false
def isStrX (t:TypeId):Bool:=match getD X.ty t with | some d=>d.str | none=>false
def tBin (op:BinOp) (t:TypeId) (x y:SV) (K:SV→Option α):Option α :=
 match x,y with
 | .int k a,.int k' b=>tBinI op k k' a b K
 | .str s,.str u=>tBinS op s u K
 | .bool a,.bool b =>
  if X.bools.contains t then (match op with | .eql=>K (.bool (a==b)) | .neq=>K (.bool (!(a==b))) | _=>none) else none
 | .agg cs,.agg ds =>
  if X.eqs.contains t then
   match getD X.ty t,eqCells cs ds with
   | some d,some r=>if Nat.beq cs.length d.size then (match op with | .eql=>K (.bool r) | .neq=>K (.bool (!r)) | _=>none) else none
   | _,_=>none
  else none
 | _,_=>none
def tMk (g:Bool) (cs:Option (List SV)) (K:SV→Option α):Option α :=
 match cs with
 | some cs=>(match mkT g cs with | some x=>force x K | none=>none)
 | none=>none
def tLoad (t:TypeId) (v:SV) (hp:THp) (K:SV→Option α):Option α :=
 match getD X.ty t,v with
 | some d,.ir ty a c=>tMk d.agg (segT (encT ty a) c d.size) K
 | some d,.rf id r c =>
  match getB hp id with
  | some (.box _ cs)=>(match r with | 0=>tMk d.agg (segT cs c d.size) K | _=>none)
  | some (.arr _ deep ty l)=>if !deep || flatTy ty then (getN l r).bind fun a=>tMk d.agg (segT (encT ty a) c d.size) K else none
  | some (.frz _ _ ty l)=>if flatTy ty then (getN l r).bind fun a=>tMk d.agg (segT (encT ty a) c d.size) K else none
  | none=>none
 | _,_=>none
def closeCT (hp:THp):SV→Option (SV×List Nat×Bool)
 | .int k n=>some (.int k n,[],true)
 | .bool b=>some (.bool b,[],true)
 | .str s=>some (.str s,[],true)
 | .sc x=>some (.sc x,[],true)
 | .em=>some (.em,[],false)
 | .im t l=>some (.im t l,[],false)
 | .ow id =>
  match getB hp id with
  | some (.arr _ deep t l)=>some (.im t l,[id],deep)
  | some (.frz _ _ t l)=>some (.im t l,[],false)
  | _=>none
 | .ar id lo n =>
  match getB hp id with
  | some (.arr _ deep t l)=>some (.im t ((l.take (lo + n)).drop lo),[id],deep)
  | some (.frz _ _ t l)=>some (.im t ((l.take (lo + n)).drop lo),[],false)
  | _=>none
 | _=>none
def closeLT (hp:THp):List SV→Option (List SV×List Nat×Bool)
 | []=>some ([],[],true)
 | x::l =>
  match closeCT hp x,closeLT hp l with
  | some (y,a,d),some (ys,as,ds)=>some (y::ys,a++as,d&&ds)
  | _,_=>none
def tStore (t:TypeId) (a x:SV) (hp:THp) (K:SV→THp→Cls→Option α):Option α :=
 match getD X.ty t,a with
 | some d,.rf id r c =>
  if Nat.beq (flatT x).length d.size then
   match getB hp id with
   | some (.box ty cs) =>
    match r with
    | 0=>if (flatT x).all okT then (match putT cs c (flatT x) with | some cs=>K .any ((id,some (.box ty cs))::hp) .E | none=>none) else none
    | _=>none
   | some (.arr ty deep e l) =>
    (getN l r).bind fun y =>
    match closeLT hp (flatT x) with
    | some (cs,kills,deep') =>
     if nodupB (id::kills) then
      match putT (encT e y) c cs with
      | some cs=>(match decR e cs with | some z=>K .any ((id,some (.arr ty (deep&&deep') e (l.set r z)))::killT hp kills) .E | none=>none)
      | none=>none
     else none
    | none=>none
   | _=>none
  else none
 | _,_=>none
def closePT (hp:THp) (tm:TTm) (e:Ty):Nat→List (Nat×Operand)→Option (List e.den×List Nat×Bool)
 | _,[]=>some ([],[],true)
 | n,(k,x)::l =>
  if Nat.beq k n&&Nat.beq (flatT (opT tm x)).length e.size then
   match closeLT hp (flatT (opT tm x)),closePT hp tm e (n + 1) l with
   | some (cs,a,d),some (ys,as,ds)=>(match decR e cs with | some y=>some (y::ys,a++as,d&&ds) | none=>none)
   | _,_=>none
  else none
def closedTT:SV→Bool
 | .int .. | .bool _ | .str _ | .sc _ | .em | .im .. => true
 | _=>false
def apartT (tm:TTm) (parts:List (Nat×Operand)):Bool:=parts.all fun p=>(flatT (opT tm p.2)).all closedTT
def tBuildSl (t:TypeId) (len:Nat) (parts:List (Nat×Operand)) (tm:TTm) (hp:THp) (b:Nat) (K:SV→THp→Cls→Option α):Option α :=
 match elemX X t with
 | some (e,de,c) =>
  match len,parts with
  | 0,[]=>K .em hp .M
  | 0,_::_=>none
  | len + 1,parts =>
   match closePT hp tm c 0 parts with
   | some (l,kills,deep) =>
    if Nat.beq l.length (len + 1)&&Nat.ble ((len + 1)*de.size) 16777216&&nodupB kills&&freshT tm hp b then
     K (.ow b) ((b,some (.arr e deep c l))::killT hp kills) (clsOf kills (apartT tm parts))
    else none
   | none=>none
 | none=>none
def srcT (c:Ty) (x:SV) (hp:THp):Option (List c.den×List Nat×Bool) :=
 match x with
 | .ow id =>
  match getB hp id with
  | some (.arr _ deep t l)=>if h:t=c then (if flatTy c then some (castL h l,[],true) else some (castL h l,[id],deep)) else none
  | some (.frz _ _ t l)=>if h:t=c then some (castL h l,[],flatTy c) else none
  | _=>none
 | .ar id lo n =>
  match getB hp id with
  | some (.arr _ deep t l)=>if h:t=c then (if flatTy c then some (((castL h l).take (lo + n)).drop lo,[],true) else some (((castL h l).take (lo + n)).drop lo,[id],deep)) else none
  | some (.frz _ _ t l)=>if h:t=c then some (((castL h l).take (lo + n)).drop lo,[],flatTy c) else none
  | _=>none
 | v=>match asL c v with | some l=>some (l,[],flatTy c) | none=>none
def appL {β:Type} (bytes size:Nat) (l m:List β):Option (List β):=if (l.length + m.length)*bytes≤maxBytes∧(l.length + m.length)*size≤maxBytes then some (l++m) else none
def tAppend (ts:List TypeId) (s x:SV) (tm:TTm) (hp:THp) (b:Nat) (K:SV→THp→Cls→Option α):Option α :=
 match ts with
 | [t,t'] =>
  if Nat.beq t' t then
   match elemX X t with
   | some (e,de,c) =>
    match srcT c x hp with
    | some (m,kills,deep) =>
     match s with
     | .em=>if nodupB kills&&freshT tm hp b then cond (roomI m.length de.bytes de.size) (K (.ow b) ((b,some (.arr e deep c m))::killT hp kills) (match kills with | []=>.M | _=>.E)) none else none
     | .ow id =>
      match getB hp id with
      | some (.arr ty d0 t0 l) =>
       if h:t0=c then
        if Nat.beq ty e&&nodupB (id::kills)&&freshT tm hp b then
         (appL de.bytes de.size (castL h l) m).bind fun r=>K (.ow b) ((b,some (.arr e (d0&&deep) c r))::killT hp (id::kills)) .E
        else none
       else none
      | _=>none
     | .ar id 0 n =>
      match getB hp id with
      | some (.arr ty d0 t0 l) =>
       if h:t0=c then
        if Nat.beq ty e&&nodupB (id::kills)&&freshT tm hp b then
         cond (decide (n≤l.length)) ((appL de.bytes de.size ((castL h l).take n) m).bind fun r=>K (.ow b) ((b,some (.arr e (d0&&deep) c r))::killT hp (id::kills)) .E) none
        else none
       else none
      | _=>none
     | _=>none
    | none=>none
   | none=>none
  else none
 | _=>none
def tSub (tm:TTm) (lo hi:Option Operand) (len:Nat) (K:Nat→Nat→Option α):Option α :=
 match lo,hi with
 | none,none=>K 0 len
 | _,_ =>
  match tBnd tm lo 0,tBnd tm hi (len:Int) with
  | some l,some h=>(subI l h len).bind fun p=>K p.1 p.2
  | _,_=>none
def tSubW (tm:TTm) (lo hi:Option Operand) (len:Nat) (A:Option α) (K:Nat→Nat→Option α):Option α :=
 match lo,hi with
 | none,none=>A
 | _,_=>tSub tm lo hi len K
def tSlice (t:TypeId) (x:SV) (lo hi:Option Operand) (tm:TTm) (hp:THp) (K:SV→Option α):Option α :=
 match x with
 | .str s=>if isStrX X t then tSub tm lo hi s.length fun l h=>K (.str ((s.take h).drop l)) else none
 | x =>
  match elemX X t with
  | some (e,de,c) =>
   match x with
   | .em=>tSub tm lo hi 0 fun _ _=>K .em
   | .im ty l=>if Nat.beq ty.size de.size then tSub tm lo hi l.length fun lo hi=>K (.im ty ((l.take hi).drop lo)) else none
   | .ow id =>
    match getB hp id with
    | some (.arr _ _ ty l) | some (.frz _ _ ty l)=>if Nat.beq ty.size de.size then tSubW tm lo hi l.length (K (.ow id)) fun l h=>K (.ar id l (h-l)) else none
    | _=>none
   | .ar id l0 n =>
    match getB hp id with
    | some (.arr _ _ ty l) | some (.frz _ _ ty l)=>if Nat.beq ty.size de.size then tSub tm lo hi n fun l h=>K (.ar id (l0 + l) (h-l)) else none
    | _=>none
   | _=>none
  | none=>none
def tIdx (t:TypeId) (x i:SV) (hp:THp) (K:SV→Cls→Option α):Option α :=
 match elemX X t with
 | some (_,de,_) =>
  match x,i with
  | .im ty l,.int _ n=>if Nat.beq ty.size de.size then (getI l n).bind fun a=>K (.ir ty a 0) .T else none
  | .ow id,.int _ n =>
   match getB hp id with
   | some (.arr _ _ ty l) | some (.frz _ _ ty l)=>if Nat.beq ty.size de.size then (idxI n l.length).bind fun k=>K (.rf id k 0) .M else none
   | _=>none
  | .ar id lo len,.int _ n =>
   match getB hp id with
   | some (.arr _ _ ty l) | some (.frz _ _ ty l)=>if Nat.beq ty.size de.size then (idxI n len).bind fun k=>K (.rf id (lo + k) 0) .M else none
   | _=>none
  | _,_=>none
 | none=>none
def tMake (t:TypeId) (same:Bool) (l c:SV) (tm:TTm) (hp:THp) (b:Nat) (K:SV→THp→Cls→Option α):Option α :=
 match elemX X t,l,c with
 | some (e,de,ty),.int _ n,.int _ m =>
  match decR ty (de.zero.map zeroT) with
  | some z =>
   if freshT tm hp b&&de.zero.all scalarV then
    cond same
     ((lenI m de.bytes de.size).bind fun k=>K (.ow b) ((b,some (.arr e true ty (List.replicate k z)))::hp) .M)
     ((lenI m de.bytes de.size).bind fun _=>cond (decide (0≤n)&&decide (n≤m)) (K (.ow b) ((b,some (.arr e true ty (List.replicate n.toNat z)))::hp) .M) none)
   else none
  | none=>none
 | _,_,_=>none
def isSlX (t:TypeId):Bool:=match getD X.ty t with | some d=>d.elem.isSome | none=>false
def isBytesX (t:TypeId):Bool:=match getD X.ty t with | some d=>(match d.elem with | some e=>(match getD X.ty e with | some de=>de.int==some .u8 | none=>false) | none=>false) | none=>false
def tConv (s d:TypeId) (x:SV) (hp:THp) (K:SV→Cls→Option α):Option α :=
 match x with
 | .int _ n=>(match getD X.ty s,getD X.ty d with | some _,some dd=>(match dd.int with | some k=>K (.int k (k.wrap n)) .T | none=>none) | _,_=>none)
 | .str v =>
  if isStrX X s then
   if isBytesX X d then cond (decide (v.length≤maxBytes)) (K (.im (.int .u8) (numsOf v)) .M) none
   else if isStrX X d then K (.str v) .T else none
  else none
 | x =>
  if isBytesX X s&&isStrX X d then
   match asLh hp (.int .u8) x with
   | some l=>K (.str (strOf l)) .M
   | none=>none
  else none
def tLen (t:TypeId) (x:SV) (hp:THp) (K:SV→Option α):Option α :=
 match x with
 | .str s=>if isStrX X t && !isSlX X t then K (.int .i64 (s.length:Int)) else none
 | x =>
  if isSlX X t then
   match x with
   | .em=>K (.int .i64 0)
   | .im _ l=>K (.int .i64 (l.length:Int))
   | .ow id =>
    match getB hp id with
    | some (.arr _ _ _ l) | some (.frz _ _ _ l)=>K (.int .i64 (l.length:Int))
    | _=>none
   | .ar _ _ n=>K (.int .i64 (n:Int))
   | _=>none
  else none
def tMinMax (mx:Bool) (xs:List SV) (K:SV→Option α):Option α :=
 match allInts xs with
 | some (k,ns)=>K (.int k (if mx then maxL ns else minL ns))
 | none=>none
def lentV:SV→List Nat
 | .ow id=>[id]
 | .ar id _ _=>[id]
 | _=>[]
def lentV1:SV→List Nat
 | .agg cs=>cs.flatMap lentV
 | .cl _ cs=>cs.flatMap lentV
 | x=>lentV x
def lendCT (hp:THp):AC→SV→Option SV
 | .im t,v=>match asLh hp t v with | some l=>some (.im t l) | none=>none
 | .int _,.int k n=>some (.int k n)
 | .bool,.bool b=>some (.bool b)
 | .str,.str s=>some (.str s)
 | _,_=>none
def lendCsT (hp:THp):List AC→List SV→Option (List SV)
 | [],[]=>some []
 | c::cs,v::vs=>(match lendCT hp c v with | some x=>(match lendCsT hp cs vs with | some y=>some (x::y) | none=>none) | none=>none)
 | _,_=>none
def lendST (hp:THp):AS→SV→Option SV
 | .cell c,v=>lendCT hp c v
 | .agg cs,.agg vs=>(match lendCsT hp cs vs with | some l=>some (.agg l) | none=>none)
 | .ref _ true,.rf id r c=>some (.rf id r c)
 | .clo _,.cl g []=>some (.cl g [])
 | _,_=>none
def lentLT:List AS→List SV→List Nat
 | a::l,v::vs=>(cond (refA a) [] (lentV1 v))++lentLT l vs
 | _,_=>[]
def lendLT (hp:THp):List AS→List SV→Option (List SV)
 | [],[]=>some []
 | a::l,v::vs=>(match (cond (refA a) (cond (sure1 v) (some v) none) (lendST hp a v)) with | some x=>(match lendLT hp l vs with | some y=>some (x::y) | none=>none) | none=>none)
 | _,_=>none
def noImT0:SV→Bool
 | .int .. | .bool _ | .str _ | .sc _ | .ow _ | .ar .. | .rf .. => true
 | .cl _ []=>true
 | _=>false
def noImT1:SV→Bool
 | .agg cs=>cs.all noImT0
 | x=>noImT0 x
def noImBT:TB→Bool
 | .box _ cs=>cs.all noImT0
 | .arr _ deep _ _=>deep
 | .frz .. => false
def ddN:List Nat→List Nat→List Nat
 | acc,[]=>acc
 | acc,id::l=>cond (memN id acc) (ddN acc l) (ddN (acc ++ [id]) l)
def backF (order:List Nat) (e n b j:Nat):Option Nat:=cond (Nat.blt j e) order[j]? (cond (Nat.blt j n) (some (b + (j-e))) none)
def tupT (vs:List SV):SV:=match vs with | [v]=>v | vs=>.tup vs
def lensC (hp out:THp):List Nat→Option α→Option α
 | [],A=>A
 | id::l,A =>
  match getB out id,getB hp id with
  | some (.arr _ _ _ l'),some (.arr _ _ _ l0)=>cond (decide (l'.length=l0.length)) (lensC hp out l A) none
  | some (.box _ _),some (.box _ _)=>lensC hp out l A
  | _,_=>none
def noImO:Nat×Option TB→Bool
 | (_,some k)=>noImBT k
 | (_,none)=>false
def noImRes (vs:List SV) (bs:THp):Bool:=vs.all noImT1&&bs.all noImO
def callK (o:List Nat) (c:Bool) (A B C D:Option α):Option α :=
 match o,c with
 | [],true=>A
 | [],false=>B
 | _::_,true=>C
 | _::_,false=>D
def enumT:Nat→List SV→TTm
 | _,[]=>[]
 | n,x::l=>(n,x)::enumT (n + 1) l
def renOut (f:Nat→Option Nat):THp→THp
 | []=>[]
 | (k,b)::l=>match f k with | some i=>(i,match b with | some b=>some (renTB f b) | none=>none)::renOut f l | none=>renOut f l
def tCall (g:FuncId) (args:List SV) (tm:TTm) (hp:THp) (b:Nat) (K:SV→THp→Cls→Option α):Option α :=
 match findF X.ents g with
 | some E =>
  match lendLT hp (slotsA E.a.params) args with
  | some args' =>
   match closeT hp 64 (args'.flatMap rf1) [] with
   | some o =>
    match decSt E.a.e E.a.params { tm:=enumT 0 (args'.map (renS1 (idxT o))),hp:=renHp hp (idxT o) 0 o,c:=1 } with
    | some x =>
     if args'.all sure1&&(args'.map (renS1 (idxT o))).all sure1&&eqNs (ddN [] ((args'.map (renS1 (idxT o))).flatMap rf1)) (List.range E.a.e)&&eqNs (o.take E.a.e) (ddN [] (args'.flatMap rf1))&&Nat.beq (ddN [] (args'.flatMap rf1)).length E.a.e&&Nat.ble o.length 16&&belowT tm hp b&&Nat.beq (slotsI E.a.params).length args'.length&&o.all (fun id=>Nat.blt id b&&notIn id (lentLT (slotsA E.a.params) args)) then
      (E.F x).bind fun y =>
       let r:=encI 0 E.a.res y
       let f:=backF o E.a.e r.2.length b
       if Nat.ble E.a.e r.2.length&&Nat.ble r.2.length (E.a.e + 16) then
        lensC hp (renOut f r.2) (o.take E.a.e) (force (tupT (r.1.map fun p=>renS1 f p.2)) fun v =>
         callK o ((lentLT (slotsA E.a.params) args).isEmpty || noImRes (r.1.map (·.2)) r.2)
          (K v (renOut f r.2++hp) .M)
          (K v (renOut f r.2++freezeT hp (lentLT (slotsA E.a.params) args)) .E)
          (K v (renOut f r.2++killT hp (o.drop E.a.e)) .E)
          (K v (renOut f r.2++killT (freezeT hp (lentLT (slotsA E.a.params) args)) (o.drop E.a.e)) .E))
       else none
     else none
    | none=>none
   | none=>none
  | none=>none
 | none=>none
def sameOp:Operand→Operand→Bool
 | .tmp a,.tmp b=>Nat.beq a b
 | _,_=>false
def erC (b:BinOp) (y:Operand):Option Bool :=
 match b,y with
 | .eql,.const .nilIface=>some true
 | .neq,.const .nilIface=>some false
 | _,_=>none
def wtOp (op:Op) (b:Nat) (tm:TTm) (hp:THp) (K:SV→THp→Cls→Option α):Option α :=
 match op with
 | .store t a x=>tStore X t (opT tm a) (opT tm x) hp K
 | .buildSlice t len parts=>tBuildSl X t len parts.toList tm hp b K
 | .slice t x lo hi none=>tSlice X t (opT tm x) lo hi tm hp fun v=>K v hp .M
 | .move x | .assign x=>force (opT tm x) fun v=>K v hp .T
 | .pick c x y=>(match opT tm c with | .bool t=>cond t (force (opT tm x) fun v=>K v hp .T) (force (opT tm y) fun v=>K v hp .T) | _=>none)
 | .build t parts=>(match getD X.ty t with | some d=>if d.agg && !d.flds.isEmpty then tFill d.flds tm (d.zero.map zeroT) parts.toList fun cs=>K (.agg cs) hp .T else none | none=>none)
 | .nilCheck x=>(match opT tm x with | .rf id r c=>K (.rf id r c) hp .T | .ir t a c=>K (.ir t a c) hp .T | .cl f caps=>K (.cl f caps) hp .T | _=>none)
 | .binOp op t x y _ =>
  (match nilC op y with
  | true=>(match getD X.ty t,opT tm x with | some d,.im _ l=>(match d.elem with | some _=>(neL l).bind fun _=>K (.bool false) hp .T | none=>none) | _,_=>none)
  | false=>(match erC op y with
   | some s=>(match opT tm x with
    | .er e=>cond (isIfX X t) (K (.bool (cond s (!e) e)) hp .T) none
    | _=>tBin X op t (opT tm x) (opT tm y) fun v=>K v hp .T)
   | none=>tBin X op t (opT tm x) (opT tm y) fun v=>K v hp .T))
 | .unOp u _ x=>tUn u (opT tm x) fun v=>K v hp .T
 | .convert s d x=>tConv X s d (opT tm x) hp fun v c=>K v hp c
 | .field t x k =>
  match opT tm x,getD X.ty t with
  | .agg cs,some d=>(match d.flds[k]? with | some f=>tMk f.agg (segT cs f.off f.size) fun v=>K v hp .T | none=>none)
  | _,_=>none
 | .fieldAddr t x k =>
  match getD X.ty t with
  | some d =>
   match d.flds[k]?,opT tm x with
   | some f,.rf id r c=>K (.rf id r (c + f.off)) hp .T
   | some f,.ir t a c=>K (.ir t a (c + f.off)) hp .T
   | _,_=>none
  | none=>none
 | .index t x i =>
  match isStrX X t,opT tm x,opT tm i with
  | true,.str s,.int _ n=>(getI s n).bind fun c=>K (.int .u8 (c.toNat:Int)) hp .T
  | _,_,_=>none
 | .indexAddr t x i=>tIdx X t (opT tm x) (opT tm i) hp fun v c=>K v hp c
 | .slice t x lo (some hi) (some mx) =>
  match elemX X t,opT tm x with
  | some (_,_,_),.im _ l =>
   match tBnd tm lo 0,tBnd tm (some hi) 0,tBnd tm (some mx) 0 with
   | some lo,some hi,some mx=>cond (decide (lo=0∧hi=0∧mx=0)) (K .em hp .T) none
   | _,_,_=>none
  | _,_=>none
 | .extract x k=>(match opT tm x with | .tup vs=>(match vs[k]? with | some v=>force v fun v=>K v hp .T | none=>none) | _=>none)
 | .makeFunc (.func f) first caps=>if first.isEmpty&&(caps.toList.map (opT tm)).all okT then K (.cl f (caps.toList.map (opT tm))) hp .T else none
 | .call { callee:=.builtin .append,args,argTypes }=>(match args.toList with | [s,x]=>tAppend X argTypes.toList (opT tm s) (opT tm x) tm hp b K | _=>none)
 | .call { callee:=.builtin .len,args,argTypes }=>(match args.toList,argTypes.toList with | [x],[t]=>tLen X t (opT tm x) hp fun v=>K v hp .T | _,_=>none)
 | .call { callee:=.builtin .min,args,.. }=>tMinMax false (args.toList.map (opT tm)) fun v=>K v hp .T
 | .call { callee:=.builtin .max,args,.. }=>tMinMax true (args.toList.map (opT tm)) fun v=>K v hp .T
 | .call { callee:=.value f,args,.. }=>(match opT tm f with | .cl g caps=>tCall X g (args.toList.map (opT tm)++caps) tm hp b K | _=>none)
 | .alloc t=>(match getD X.ty t with | some d=>if freshT tm hp b then K (.rf b 0 0) ((b,some (.box t (d.zero.map zeroT)))::hp) .M else none | none=>none)
 | .box t x=>(match getD X.ty t with | some d=>if Nat.beq (flatT (opT tm x)).length d.size&&(flatT (opT tm x)).all okT&&freshT tm hp b then K (.rf b 0 0) ((b,some (.box t (flatT (opT tm x))))::hp) .M else none | none=>none)
 | .load t a=>tLoad X t (opT tm a) hp fun v=>K v hp .M
 | .makeSlice t l c=>tMake X t (sameOp l c) (opT tm l) (opT tm c) tm hp b K
 | _=>none
def wtAt (draw:Bool) (op:Op) (b:Nat) (tm:TTm) (hp:THp) (K:SV→THp→Cls→Option α):Option α :=
 match draw&&isR op with
 | true=>wtOp X op b tm (maskT b hp) fun x _ cls=>K x hp cls
 | false=>wtOp X op b tm hp K
def drawnT (draw ok:Bool) (cls:Cls) (A:Option α):Option α :=
 match draw,cls with
 | true,.E=>cond ok A none
 | _,_=>A
def sureOp (tm:TTm) (op:Op):Bool:=(op.operands.toList.map (opT tm)).all sure1
def idsOp (tm:TTm) (op:Op):List Nat:=(op.operands.toList.map (opT tm)).flatMap rf1
def touchedT (op:Op) (tm:TTm) (hp:THp):Option (List Nat) :=
 match op with
 | .store _ a x=>if sure1 (opT tm a)&&sure1 (opT tm x) then some (rf1 (opT tm a)++rf1 (opT tm x)) else none
 | .call { callee:=.value f,args,.. } =>
  match opT tm f with
  | .cl g caps =>
   match findF X.ents g with
   | some E =>
    match lendLT hp (slotsA E.a.params) (args.toList.map (opT tm)++caps) with
    | some args'=>if args'.all sure1 then (match closeT hp 64 (args'.flatMap rf1) [] with | some o=>some (o++lentLT (slotsA E.a.params) (args.toList.map (opT tm)++caps)) | none=>none) else none
    | none=>none
   | none=>none
  | _=>none
 | .buildSlice _ (_ + 1) parts=>if parts.toList.all fun p=>sure1 (opT tm p.2) then some (parts.toList.flatMap fun p=>rf1 (opT tm p.2)) else none
 | _=>none
def farT (ops:List Oper) (tm:TTm) (hp:THp) (i:Nat):Bool :=
 match ops[i]? with
 | some a=>!isAl ops a&&(match touchedT X a.op tm hp with
  | some ids=>(List.range ops.length).all fun j=>j==i || aheadB ops i j || (match ops[j]? with
   | some o=>isT o.op || (isR o.op&&decide (j<i)&&keptB ops j i o&&(sureOp tm o.op&&(idsOp tm o.op).all fun id=>!ids.contains id))
   | none=>true)
  | none=>false)
 | none=>false
def putTm (tm:TTm) (dst:Option Tmp) (x:SV):TTm :=
 match dst with
 | some d=>(d,x)::tm
 | none=>tm
def wtOps (all:List Oper) (draw:Bool):List Oper→Nat→TSt→(TSt→Option α)→Option α
 | [],_,st,K=>K st
 | o::l,i,st,K =>
  match o.guard with
  | none =>
   wtAt X draw o.op (16*(st.c + i)) st.tm st.hp fun x hp cls=>drawnT draw (eOK all i || farT X all st.tm st.hp i) cls (wtOps all draw l (i + 1) { tm:=putTm st.tm o.dst x,hp:=hp,c:=st.c } K)
  | some (j,want) =>
   match (all[j]?).bind (·.dst) with
   | some d =>
    match getV st.tm d with
    | .bool t =>
     let go (tm:TTm):Option α:=wtAt X draw o.op (16*(st.c + i)) tm st.hp fun x hp cls=>drawnT draw (eOK all i || farT X all tm st.hp i) cls (wtOps all draw l (i + 1) { tm:=putTm tm o.dst x,hp:=hp,c:=st.c } K)
     let no (tm:TTm):Option α:=wtOps all draw l (i + 1) { tm:=putTm tm o.dst (.tup []),hp:=st.hp,c:=st.c } K
     match want with
     | true=>cond t (go ((d,.bool true)::st.tm)) (no ((d,.bool false)::st.tm))
     | false=>cond t (no ((d,.bool true)::st.tm)) (go ((d,.bool false)::st.tm))
    | .tup []=>wtOps all draw l (i + 1) { tm:=putTm st.tm o.dst (.tup []),hp:=st.hp,c:=st.c } K
    | _=>none
   | none=>none
end
@[reducible] def denX:List (Ex×List Item)→Type
 | []=>Empty
 | [a]=>denI a.2
 | a::b::l=>denI a.2 ⊕ denX (b::l)
def injX (e:Nat):(l:List (Ex×List Item))→Ex→TSt→Option (denX l)
 | [],_,_=>none
 | [a],ex,st=>cond (exEq a.1 ex) (decSt e a.2 st) none
 | a::b::l,ex,st=>cond (exEq a.1 ex) ((decSt e a.2 st).map .inl) ((injX e (b::l) ex st).map .inr)
def elimX {α:Type} (K:Ex→TSt→Option α):(l:List (Ex×List Item))→denX l→Option α
 | []=>fun d=>nomatch d
 | [a]=>fun d=>K a.1 (encSt a.2 d)
 | a::b::l=>fun d=>Sum.elim (fun d=>K a.1 (encSt a.2 d)) (elimX K (b::l)) d
abbrev TPost (α:Type):=Ex→TSt→Option α
def TX.e (X:TX):Nat:=X.ann.e
noncomputable def wtC (X:TX):Code→{α:Type}→TSt→TPost α→Option α
 | .skip,_,st,Q=>Q .normal st
 | .region _ ops draw,_,st,Q=>wtOps X (reo draw ops.toList) draw (reo draw ops.toList) 0 st fun s=>Q .normal { s with c:=s.c + ops.size }
 | .seq a b,_,st,Q =>
  match findN X.ann.joins (rid b) with
  | none=>wtC X a st fun ex s=>match ex with | .normal=>wtC X b s Q | ex=>Q ex s
  | some an =>
   (wtC X a (α:=_ ⊕ denI an) st fun ex s=>match ex with | .normal=>(decSt X.e an s).map .inr | ex=>(Q ex s).map .inl).bind fun z=>Sum.elim some (fun d=>wtC X b (encSt an d) Q) z
 | .cond c x y,_,st,Q =>
  match opT st.tm c with
  | .bool t=>cond t (wtC X x st Q) (wtC X y st Q)
  | _=>none
 | .block id c,_,st,Q=>wtC X c st fun ex s=>match ex with | .exit j=>cond (Nat.beq j id) (Q .normal s) (Q (.exit j) s) | ex=>Q ex s
 | .loop c,_,st,Q =>
  match findN X.ann.heads (rid c),findN X.ann.outs (rid c) with
  | some an,some outs =>
   (decSt X.e an st).bind fun d0 =>
   (loopM (fun d=>wtC X c (encSt an d) fun ex s=>match ex with | .normal=>(decSt X.e an s).map .inl | ex=>(injX X.e outs ex s).map .inr) d0).bind fun z=>elimX Q outs z
  | _,_=>none
 | .exit id,_,st,Q=>Q (.exit id) st
 | .ret,_,st,Q=>Q .ret st
 | _,_,_,_=>none
def tRes {α:Type} (X:TX) (tm:TTm) (hp:THp):List ResultVar→(List SV→Option α)→Option α
 | [],K=>K []
 | .tmp t::l,K=>tRes X tm hp l fun xs=>K (getV tm t::xs)
 | .cell a t::l,K=>tLoad X t (getV tm a) hp fun x=>tRes X tm hp l fun xs=>K (x::xs)
def tnR:List TMs→List SV→THp→Nat→Option (List SV×THp)
 | [],[],hp,_=>some ([],hp)
 | m::ms,x::xs,hp,c =>
  match tnV m x hp (16*c) with
  | some (y,hp1,n)=>if Nat.ble n 16 then (match tnR ms xs hp1 (c + 1) with | some (ys,hp2)=>some (y::ys,hp2) | none=>none) else none
  | none=>none
 | _,_,_,_=>none
def rootsT (rts:List (Nat×TMs)) (hp:THp):Bool:=rts.all fun p=>Nat.blt p.1 16&&(match getB hp p.1 with | some (.box _ _)=>true | _=>false)
def outT (res:List Item) (e:Nat) (s:TSt) (xs:List SV):Option (denI res) :=
 let rts:=rtsT (blksI res) e 0 (blksI res)
 if rootsT rts s.hp&&xs.all sure1&&belowT (enumT 0 xs) s.hp (16*(s.c + 1)) then
  match tnR (rts.map (·.2)++(keepT (blksI res) res).map (·.2)) (rts.map (fun p=>SV.rf p.1 0 0)++xs) s.hp (s.c + 1) with
  | some (ys,hp) =>
   let zs:=ys.drop rts.length
   if zs.all sure1 then
    match closeT hp 64 (List.range e++zs.flatMap rf1) [] with
    | some o=>if eqNs (o.take e) (List.range e) then rdI 0 res (enumT 0 (zs.map (renS1 (idxT o)))) (renHp hp (idxT o) 0 o) else none
    | none=>none
   else none
  | none=>none
 else none
noncomputable def wtF (X:TX) (fn:Func) (x:denI X.ann.params):Option (denI X.ann.res) :=
 match fn.body with
 | some c=>wtC X c (encSt X.ann.params x) fun ex s =>
  match ex with
  | .exit _=>none
  | _=>tRes X s.tm s.hp fn.results.toList fun xs=>outT X.ann.res X.e s xs
 | none=>none
end
section
open Go
def RLx {α:Type} (R : α→List V→Prop) (l:List α) (rows:List (List V)):Prop :=
 rows.length=l.length∧∀ (i:Nat) (a : α) (r:List V),l[i]? = some a→rows[i]? = some r→R a r
section
variable {α:Type} {R : α→List V→Prop} {l m:List α} {rows rs:List (List V)}
theorem RLx.nil:RLx R ([]:List α) []:=⟨rfl,fun i a r h=>by simp at h⟩
theorem RLx.of_nil (h:RLx R ([]:List α) rows):rows = []:=List.eq_nil_of_length_eq_zero h.1
theorem RLx.get (h:RLx R l rows) {i:Nat} {a : α} (hi:l[i]? = some a):∃ r,rows[i]? = some r∧R a r:=by
 have hlt:i<rows.length:=by rw[h.1]; exact (List.getElem?_eq_some_iff.1 hi).1
 exact ⟨rows[i],List.getElem?_eq_getElem hlt,h.2 i a _ hi (List.getElem?_eq_getElem hlt)⟩
theorem RLx.get' (h:RLx R l rows) {i:Nat} {r:List V} (hi:rows[i]? = some r):∃ a,l[i]? = some a∧R a r:=by
 have hlt:i<l.length:=by rw[←h.1]; exact (List.getElem?_eq_some_iff.1 hi).1
 exact ⟨l[i],List.getElem?_eq_getElem hlt,h.2 i _ r (List.getElem?_eq_getElem hlt) hi⟩
theorem RLx.mono {R' : α→List V→Prop} (h:RLx R l rows) (hm:∀ a r,R a r→R' a r):RLx R' l rows:=⟨h.1,fun i a r h1 h2=>hm a r (h.2 i a r h1 h2)⟩
theorem RLx.set (h:RLx R l rows) (k:Nat) {z : α} {r:List V} (hz:R z r):RLx R (l.set k z) (rows.set k r):=by
 refine ⟨by simp[h.1],fun i a q h1 h2=>?_⟩
 rw[List.getElem?_set] at h1 h2
 by_cases hk:k=i
 ·subst hk
  rw[if_pos rfl] at h1 h2
  split at h1
  ·split at h2
   ·cases h1; cases h2; exact hz
   ·cases h2
  ·cases h1
 ·rw[if_neg hk] at h1 h2
  exact h.2 i a q h1 h2
theorem RLx.append (h:RLx R l rows) (k:RLx R m rs):RLx R (l++m) (rows++rs):=by
 refine ⟨by simp[h.1,k.1],fun i a q h1 h2=>?_⟩
 rw[List.getElem?_append] at h1 h2
 rw[h.1] at h2
 split at h1
 ·rename_i hi; rw[if_pos hi] at h2; exact h.2 i a q h1 h2
 ·rename_i hi; rw[if_neg hi] at h2; exact k.2 _ a q h1 h2
theorem RLx.take (h:RLx R l rows) (n:Nat):RLx R (l.take n) (rows.take n):=by
 refine ⟨by simp[h.1],fun i a q h1 h2=>?_⟩
 rw[List.getElem?_take] at h1 h2
 split at h1
 ·rename_i hi; rw[if_pos hi] at h2; exact h.2 i a q h1 h2
 ·cases h1
theorem RLx.drop (h:RLx R l rows) (n:Nat):RLx R (l.drop n) (rows.drop n):=by
 refine ⟨by simp[h.1],fun i a q h1 h2=>?_⟩
 rw[List.getElem?_drop] at h1 h2
 exact h.2 _ a q h1 h2
theorem RLx.replicate {z : α} {r:List V} (h:R z r) (n:Nat):RLx R (List.replicate n z) (List.replicate n r):=by
 refine ⟨by simp,fun i a q h1 h2=>?_⟩
 rw[List.getElem?_replicate] at h1 h2
 split at h1
 ·rename_i hi; rw[if_pos hi] at h2; cases h1; cases h2; exact h
 ·cases h1
theorem RLx.cons {a : α} {r:List V} (h:R a r) (k:RLx R l rows):RLx R (a::l) (r::rows):=by
 refine ⟨by simp[k.1],fun i a' q h1 h2=>?_⟩
 cases i with
 | zero=>simp at h1 h2; subst h1; subst h2; exact h
 | succ i=>exact k.2 i a' q (by simpa using h1) (by simpa using h2)
end
def RE:(t:Ty)→t.den→List V→Prop
 | .int k,n,row=>row = [.v (.int k n)]
 | .bool,b,row=>row = [.v (.bool b)]
 | .str,s,row=>row = [.v (.string ⟨s.toArray⟩)]
 | .pair a b,x,row=>∃ r1 r2,row=r1++r2∧RE a x.1 r1∧RE b x.2 r2
 | .sl e,l,row=>(l = []∧row = [.em])∨∃ rows,row = [.im rows]∧RLx (RE e) l rows
theorem RE.len:∀ {t:Ty} {a:t.den} {row:List V},RE t a row→row.length=t.size
 | .int _,_,_,h=>by simp only[RE] at h; subst h; rfl
 | .bool,_,_,h=>by simp only[RE] at h; subst h; rfl
 | .str,_,_,h=>by simp only[RE] at h; subst h; rfl
 | .pair a b,x,_,h=>by
  obtain ⟨r1,r2,rfl,h1,h2⟩:=h
  simp[Ty.size,h1.len,h2.len]
 | .sl e,_,_,h=>by
  rcases h with ⟨_,rfl⟩ | ⟨rows,rfl,_⟩ <;> rfl
def blen:TB→Option Nat
 | .box _ _=>none
 | .arr _ _ _ l=>some l.length
 | .frz _ _ _ l=>some l.length
def RV0 (hp:THp):SV→V→Prop
 | .int k n,y=>y = .v (.int k n)
 | .bool b,y=>y = .v (.bool b)
 | .str s,y=>y = .v (.string ⟨s.toArray⟩)
 | .sc x,y=>y = .v x
 | .er b,y=>y = .er b
 | .em,y=>y = .em
 | .im t l,y=>(l = []∧y = .em)∨∃ rows,y = .im rows∧RLx (RE t) l rows
 | .ow id,y=>∃ n,y = .ar id 0 n∧∀ b,getB hp id=some b→blen b=some n
 | .ar id lo n,y=>y = .ar id lo n
 | .rf id r c,y=>y = .rf id r c
 | .ir t a c,y=>∃ row,y = .ir row c∧RE t a row
 | .cl f [],y=>y = .cl f []
 | .any,_=>True
 | _,_=>False
def RC (R:SV→V→Prop):List SV→List V→Prop
 | [],[]=>True
 | x::xs,y::ys=>R x y∧RC R xs ys
 | _,_=>False
def RV1 (hp:THp):SV→V→Prop
 | .agg cs,y=>∃ us,y = .agg us∧RC (RV0 hp) cs us
 | .cl f caps,y=>∃ us,y = .cl f us∧RC (RV0 hp) caps us
 | x,y=>RV0 hp x y
def RV2 (hp:THp):SV→V→Prop
 | .tup vs,y=>∃ us,y = .tup us∧RC (RV1 hp) vs us
 | x,y=>RV1 hp x y
section
variable {R R':SV→V→Prop}
theorem RC.length:∀ {xs:List SV} {ys:List V},RC R xs ys→ys.length=xs.length
 | [],[],_=>rfl
 | _::xs,_::ys,h=>by simp[RC.length (xs:=xs) (ys:=ys) h.2]
 | [],_::_,h=>h.elim
 | _::_,[],h=>h.elim
theorem RC.mono:∀ {xs:List SV} {ys:List V},RC R xs ys→(∀ x∈xs,∀ y,R x y→R' x y)→RC R' xs ys
 | [],[],_,_=>trivial
 | x::xs,y::ys,h,hm=>⟨hm x (by simp) y h.1,RC.mono h.2 fun x hx=>hm x (by simp[hx])⟩
 | [],_::_,h,_=>h.elim
 | _::_,[],h,_=>h.elim
theorem RC.append:∀ {xs xs':List SV} {ys ys':List V},RC R xs ys→RC R xs' ys'→RC R (xs++xs') (ys++ys')
 | [],_,[],_,_,h=>h
 | _::xs,_,_::ys,_,h,h'=>⟨h.1,RC.append h.2 h'⟩
 | [],_,_::_,_,h,_=>h.elim
 | _::_,_,[],_,h,_=>h.elim
theorem RC.take:∀ {xs:List SV} {ys:List V} (n:Nat),RC R xs ys→RC R (xs.take n) (ys.take n)
 | [],[],n,_=>by simp[RC]
 | a::xs,b::ys,0,_=>by simp[RC]
 | a::xs,b::ys,n + 1,h=>⟨h.1,RC.take n h.2⟩
 | [],_::_,_,h=>h.elim
 | _::_,[],_,h=>h.elim
theorem RC.drop:∀ {xs:List SV} {ys:List V} (n:Nat),RC R xs ys→RC R (xs.drop n) (ys.drop n)
 | [],[],n,_=>by simp[RC]
 | a::xs,b::ys,0,h=>h
 | a::xs,b::ys,n + 1,h=>by simpa using RC.drop n h.2
 | [],_::_,_,h=>h.elim
 | _::_,[],_,h=>h.elim
theorem RC.get:∀ {xs:List SV} {ys:List V},RC R xs ys→∀ {j:Nat} {x:SV},xs[j]? = some x→∃ y,ys[j]? = some y∧R x y
 | [],[],_,j,x,h=>by simp at h
 | a::xs,b::ys,h,0,x,hx=>by simp at hx; subst hx; exact ⟨b,by simp,h.1⟩
 | a::xs,b::ys,h,j + 1,x,hx=>by simpa using RC.get h.2 (by simpa using hx)
 | [],_::_,h,_,_,_=>h.elim
 | _::_,[],h,_,_,_=>h.elim
theorem RC.map {α:Type} {f : α→SV} {g : α→V}:∀ {l:List α},(∀ x∈l,R (f x) (g x))→RC R (l.map f) (l.map g)
 | [],_=>trivial
 | x::l,h=>⟨h x (by simp),RC.map fun y hy=>h y (by simp[hy])⟩
end
theorem RC.seg {hp:THp} {cs l:List SV} {us:List V} {off n:Nat} (h:segT cs off n=some l) (hr:RC (RV0 hp) cs us):∃ vs,seg us off n=some vs∧RC (RV0 hp) l vs:=by
 unfold segT at h
 split at h
 ·rename_i hn
  cases h
  refine ⟨_,by unfold Ev.seg; rw[if_pos (by rw[hr.length]; exact hn)],(hr.drop off).take n⟩
 ·cases h
theorem RC.put {hp:THp} {cs cs' new:List SV} {us vs:List V} {off:Nat} (h:putT cs off new=some cs') (hr:RC (RV0 hp) cs us) (hn:RC (RV0 hp) new vs):∃ us',putSeg us off vs=some us'∧RC (RV0 hp) cs' us':=by
 unfold putT at h
 split at h
 ·rename_i hl
  cases h
  have h1:=hr.length
  have h2:=hn.length
  refine ⟨_,by unfold putSeg; rw[if_pos (by omega)],?_⟩
  rw[h2]
  exact ((hr.take off).append hn).append (hr.drop _)
 ·cases h
theorem RV0.to1 {hp:THp}:∀ {x:SV} {y:V},RV0 hp x y→RV1 hp x y
 | .cl f [],y,h=>⟨[],h,trivial⟩
 | .cl _ (_::_),_,h=>h.elim
 | .agg _,_,h=>h.elim
 | .tup _,_,h=>h
 | .int ..,_,h | .bool _,_,h | .str _,_,h | .sc _,_,h | .er _,_,h | .em,_,h | .im ..,_,h | .ow _,_,h | .ar ..,_,h | .rf ..,_,h | .ir ..,_,h | .any,_,h=>h
theorem RV1.to2 {hp:THp}:∀ {x:SV} {y:V},RV1 hp x y→RV2 hp x y
 | .tup _,_,h=>False.elim h
 | .cl ..,_,h | .agg _,_,h | .int ..,_,h | .bool _,_,h | .str _,_,h | .sc _,_,h | .er _,_,h | .em,_,h | .im ..,_,h | .ow _,_,h | .ar ..,_,h | .rf ..,_,h | .ir ..,_,h | .any,_,h=>h
def Keeps (hp hp':THp) (id:Nat):Prop:=∀ b',getB hp' id=some b'→∃ b,getB hp id=some b∧blen b=blen b'
theorem Keeps.refl (hp:THp) (id:Nat):Keeps hp hp id:=fun b h=>⟨b,h,rfl⟩
theorem Keeps.trans {a b c:THp} {id:Nat} (h:Keeps a b id) (k:Keeps b c id):Keeps a c id:=fun x hx=>by
 obtain ⟨y,hy,e⟩:=k x hx
 obtain ⟨z,hz,e'⟩:=h y hy
 exact ⟨z,hz,e'.trans e⟩
theorem RV0.keeps {hp hp':THp}:∀ {x:SV} {y:V},RV0 hp x y→(∀ id∈ids0 x,Keeps hp hp' id)→RV0 hp' x y
 | .ow id,y,⟨n,hy,h⟩,hk=>⟨n,hy,fun b hb=>by
   obtain ⟨b0,h0,e⟩:=hk id (by simp[ids0]) b hb
   rw[←e]; exact h b0 h0⟩
 | .cl _ [],_,h,_=>h
 | .cl _ (_::_),_,h,_=>h.elim
 | .int ..,_,h,_ | .bool _,_,h,_ | .str _,_,h,_ | .sc _,_,h,_ | .er _,_,h,_ | .em,_,h,_ | .im ..,_,h,_ | .ar ..,_,h,_ | .rf ..,_,h,_ | .ir ..,_,h,_ | .any,_,h,_=>h
 | .agg _,_,h,_=>h.elim
 | .tup _,_,h,_=>h.elim
theorem RV1.keeps {hp hp':THp} {x:SV} {y:V} (h:RV1 hp x y) (hk:∀ id∈ids1 x,Keeps hp hp' id):RV1 hp' x y:=by
 have key:∀ {cs:List SV} {us:List V},(∀ id∈cs.flatMap ids0,Keeps hp hp' id)→RC (RV0 hp) cs us→RC (RV0 hp') cs us:=fun hk h =>
  h.mono fun x hx y hxy=>hxy.keeps fun id hid=>hk id (List.mem_flatMap.2 ⟨x,hx,hid⟩)
 cases x with
 | agg cs=>obtain ⟨us,rfl,h⟩:=h; exact ⟨us,rfl,key hk h⟩
 | cl f cs=>obtain ⟨us,rfl,h⟩:=h; exact ⟨us,rfl,key hk h⟩
 | int k n=>exact RV0.keeps (x:=.int k n) h hk
 | bool b=>exact RV0.keeps (x:=.bool b) h hk
 | str s=>exact RV0.keeps (x:=.str s) h hk
 | sc v=>exact RV0.keeps (x:=.sc v) h hk
 | em=>exact RV0.keeps (x:=.em) h hk
 | er e=>exact RV0.keeps (x:=.er e) h hk
 | im t l=>exact RV0.keeps (x:=.im t l) h hk
 | ow id=>exact RV0.keeps (x:=.ow id) h hk
 | ar a b c=>exact RV0.keeps (x:=.ar a b c) h hk
 | rf a b c=>exact RV0.keeps (x:=.rf a b c) h hk
 | ir a b c=>exact RV0.keeps (x:=.ir a b c) h hk
 | tup l=>exact h.elim
 | any=>trivial
theorem RV2.keeps {hp hp':THp} {x:SV} {y:V} (h:RV2 hp x y) (hk:∀ id∈ids2 x,Keeps hp hp' id):RV2 hp' x y:=by
 cases x with
 | tup vs=>obtain ⟨us,rfl,h⟩:=h; exact ⟨us,rfl,h.mono fun x hx y hxy=>hxy.keeps fun id hid=>hk id (List.mem_flatMap.2 ⟨x,hx,hid⟩)⟩
 | agg cs=>exact RV1.keeps (x:=.agg cs) h hk
 | cl f cs=>exact RV1.keeps (x:=.cl f cs) h hk
 | int k n=>exact RV1.keeps (x:=.int k n) h hk
 | bool b=>exact RV1.keeps (x:=.bool b) h hk
 | str s=>exact RV1.keeps (x:=.str s) h hk
 | sc v=>exact RV1.keeps (x:=.sc v) h hk
 | em=>exact RV1.keeps (x:=.em) h hk
 | er e=>exact RV1.keeps (x:=.er e) h hk
 | im t l=>exact RV1.keeps (x:=.im t l) h hk
 | ow id=>exact RV1.keeps (x:=.ow id) h hk
 | ar a b c=>exact RV1.keeps (x:=.ar a b c) h hk
 | rf a b c=>exact RV1.keeps (x:=.rf a b c) h hk
 | ir a b c=>exact RV1.keeps (x:=.ir a b c) h hk
 | any=>trivial
def RB (hp:THp):TB→Blk→Prop
 | .box ty cs,k=>k.kind = .box∧k.ty=ty∧∃ row,k.rows = [row]∧k.size=row.length∧RC (RV0 hp) cs row
 | .arr ty deep t l,k=>k.kind = .arr∧k.ty=ty∧k.deep=deep∧k.size=t.size∧RLx (RE t) l k.rows
 | .frz ty deep t l,k=>k.kind = .frz∧k.ty=ty∧k.deep=deep∧k.size=t.size∧RLx (RE t) l k.rows
theorem RB.keeps {hp hp':THp}:∀ {b:TB} {k:Blk},RB hp b k→(∀ id∈idsB b,Keeps hp hp' id)→RB hp' b k
 | .box ty cs,k,⟨h1,h2,row,h3,h4,h5⟩,hk=>⟨h1,h2,row,h3,h4,h5.mono fun x hx y hxy=>hxy.keeps fun id hid=>hk id (List.mem_flatMap.2 ⟨x,hx,hid⟩)⟩
 | .arr ..,_,h,_=>h
 | .frz ..,_,h,_=>h
def RH (hp:THp) (h:Hp):Prop:=∀ id b,getB hp id=some b→∃ k,h id=some k∧RB hp b k
def RT (hp:THp) (tm:TTm) (m:Tm):Prop:=∀ t,RV2 hp (getV tm t) (m t)
structure RS (st:TSt) (s:St):Prop where
 tm:RT st.hp st.tm s.tm
 hp:RH st.hp s.hp
 c:s.c=st.c
theorem Al (k:Nat) (x:Option TB) (l:THp) (i:Nat):getB ((k,x)::l) i=if i=k then x else getB l i:=by
 simp only[getB]
 by_cases h:i=k
 ·subst h; simp
 ·rw[if_neg h]
  have:Nat.beq i k=false:=by cases hb:Nat.beq i k with | false=>rfl | true=>exact absurd (Nat.eq_of_beq_eq_true hb) h
  rw[this]; rfl
theorem CM (k:Nat) (x:SV) (l:TTm) (i:Nat):getV ((k,x)::l) i=if i=k then x else getV l i:=by
 simp only[getV]
 by_cases h:i=k
 ·subst h; simp
 ·rw[if_neg h]
  have:Nat.beq i k=false:=by cases hb:Nat.beq i k with | false=>rfl | true=>exact absurd (Nat.eq_of_beq_eq_true hb) h
  rw[this]; rfl
theorem SR {tm:TTm} {t:Nat}:getV tm t = .any∨∃ x∈tm,x.2=getV tm t:=by
 induction tm with
 | nil=>exact .inl rfl
 | cons a l ih =>
  obtain ⟨k,x⟩:=a
  rw[CM]
  split
  ·exact .inr ⟨(k,x),by simp,rfl⟩
  ·rcases ih with h | ⟨y,hy,h⟩
   ·exact .inl h
   ·exact .inr ⟨y,by simp[hy],h⟩
theorem Y5 {hp:THp} {id:Nat} {b:TB} (h:getB hp id=some b):∃ x∈hp,x.2=some b:=by
 induction hp with
 | nil=>cases h
 | cons a l ih =>
  obtain ⟨k,x⟩:=a
  rw[Al] at h
  split at h
  ·exact ⟨(k,x),by simp,h⟩
  ·obtain ⟨y,hy,h⟩:=ih h
   exact ⟨y,by simp[hy],h⟩
theorem Lq {b:Nat} {l:List Nat} (h:notIn b l=true):b ∉ l:=by
 intro hm
 have:=List.all_eq_true.1 h b hm
 simp at this
theorem EF {tm:TTm} {hp:THp} {b:Nat} (h:freshT tm hp b=true) (t:Nat):b ∉ ids2 (getV tm t):=by
 simp only[freshT,Bool.and_eq_true] at h
 rcases SR (tm:=tm) (t:=t) with h' | ⟨x,hx,h'⟩
 ·rw[h']; simp[ids2,ids1,ids0]
 ·rw[←h']; exact Lq (List.all_eq_true.1 h.1 x hx)
theorem Kd {tm:TTm} {hp:THp} {b:Nat} (h:freshT tm hp b=true) {id:Nat} {k:TB} (hk:getB hp id=some k):b ∉ idsB k:=by
 simp only[freshT,Bool.and_eq_true] at h
 obtain ⟨x,hx,h'⟩:=Y5 hk
 have:=List.all_eq_true.1 h.2 x hx
 rw[h'] at this
 exact Lq this
theorem RT.keeps {hp hp':THp} {tm:TTm} {m:Tm} (h:RT hp tm m) (hk:∀ t,∀ id∈ids2 (getV tm t),Keeps hp hp' id):RT hp' tm m:=fun t=>(h t).keeps (hk t)
theorem FW {hp:THp} {b:Nat} {x:Option TB} {id:Nat} (h:id≠b):Keeps hp ((b,x)::hp) id:=fun k hk=>by
 rw[Al,if_neg h] at hk
 exact ⟨k,hk,rfl⟩
theorem N1 {hp:THp} {b:Nat} {x y:TB} (hx:getB hp b=some x) (hl:blen x=blen y) (id:Nat):Keeps hp ((b,some y)::hp) id:=fun k hk=>by
 rw[Al] at hk
 split at hk
 ·rename_i he; subst he; cases hk; exact ⟨x,hx,hl⟩
 ·exact ⟨k,hk,rfl⟩
theorem U8 {hp:THp} {b:Nat} (id:Nat):Keeps hp ((b,none)::hp) id:=fun k hk=>by
 rw[Al] at hk
 split at hk
 ·cases hk
 ·exact ⟨k,hk,rfl⟩
theorem Dg:∀ (l:List Nat) (hp:THp) (id:Nat),Keeps hp (killT hp l) id
 | [],hp,id=>Keeps.refl hp id
 | b::l,hp,id=>(U8 id).trans (Dg l _ id)
theorem JP:∀ (l:List Nat) (hp:THp) (id:Nat) (b:TB),getB (killT hp l) id=some b→getB hp id=some b∧id ∉ l
 | [],_,_,_,h=>⟨h,by simp⟩
 | x::l,hp,id,b,h=>by
  obtain ⟨h1,h2⟩:=JP l _ id b h
  rw[Al] at h1
  split at h1
  ·cases h1
  ·rename_i hne
   exact ⟨h1,by simp[hne,h2]⟩
theorem RH.kill {hp:THp} {h:Hp} (hr:RH hp h) (l:List Nat):RH (killT hp l) (Ev.kill h l):=fun id b hb=>by
 obtain ⟨h1,h2⟩:=JP l hp id b hb
 obtain ⟨k,hk,hrb⟩:=hr id b h1
 exact ⟨k,by rw[Fe l h id h2]; exact hk,hrb.keeps fun i _=>Dg l hp i⟩
theorem RH.put {hp:THp} {h:Hp} (hr:RH hp h) {b:Nat} {x:TB} {k:Blk} (hk:∀ id∈idsB x,Keeps hp ((b,some x)::hp) id) (hold:∀ id y,id≠b→getB hp id=some y→∀ i∈idsB y,Keeps hp ((b,some x)::hp) i) (hx:RB hp x k):RH ((b,some x)::hp) (upd h b (some k)):=fun id y hy=>by
 rw[Al] at hy
 split at hy
 ·rename_i he
  subst he
  cases hy
  exact ⟨k,by simp[upd],hx.keeps hk⟩
 ·rename_i he
  obtain ⟨k',hk',hr'⟩:=hr id y hy
  exact ⟨k',by simp[upd,he,hk'],hr'.keeps (hold id y he hy)⟩
end
section
open Go
theorem RE.cells {hp:THp}:∀ {t:Ty} {a:t.den} {row:List V},RE t a row→RC (RV0 hp) (encT t a) row
 | .int _,_,_,h=>by simp only[RE] at h; subst h; exact ⟨rfl,trivial⟩
 | .bool,_,_,h=>by simp only[RE] at h; subst h; exact ⟨rfl,trivial⟩
 | .str,_,_,h=>by simp only[RE] at h; subst h; exact ⟨rfl,trivial⟩
 | .pair a b,x,_,h=>by
  obtain ⟨r1,r2,rfl,h1,h2⟩:=h
  exact h1.cells.append h2.cells
 | .sl e,l,_,h=>by
  rcases h with ⟨rfl,rfl⟩ | ⟨rows,rfl,hr⟩
  ·exact ⟨.inl ⟨rfl,rfl⟩,trivial⟩
  ·exact ⟨.inr ⟨rows,rfl,hr⟩,trivial⟩
theorem CL {t e:Ty} (h:t=e) {l:List t.den} {rows:List (List V)} (hr:RLx (RE t) l rows):RLx (RE e) (castL h l) rows:=by subst h; exact hr
theorem Rz {hp:THp} {e:Ty} {x:SV} {l:List e.den} {y:V} (h:asL e x=some l) (hv:RV0 hp x y):(l = []∧y = .em)∨∃ rows,y = .im rows∧RLx (RE e) l rows:=by
 unfold asL at h
 split at h
 ·cases h; exact .inl ⟨rfl,hv⟩
 ·split at h
  ·rename_i t l' he
   cases h
   subst he
   rcases hv with ⟨rfl,rfl⟩ | ⟨rows,rfl,hr⟩
   ·exact .inl ⟨rfl,rfl⟩
   ·exact .inr ⟨rows,rfl,hr⟩
  ·cases h
 ·cases h
theorem Nz {hp:THp}:∀ {t:Ty} {cs r:List SV} {x:t.den} {us:List V},decT t cs=some (x,r)→RC (RV0 hp) cs us→∃ row us',us=row++us'∧RE t x row∧RC (RV0 hp) r us'
 | .int k,cs,r,x,us,h,hv=>by
  cases cs with
  | nil=>simp[decT] at h
  | cons c cs =>
   cases c <;> simp only[decT,reduceCtorEq] at h
   rename_i k' n
   split at h
   ·rename_i hk
    cases h
    subst hk
    cases us with
    | nil=>exact hv.elim
    | cons u us=>obtain ⟨h1,h2⟩:=hv; exact ⟨[u],us,rfl,by simp only[RE]; rw[h1],h2⟩
   ·cases h
 | .bool,cs,r,x,us,h,hv=>by
  cases cs with
  | nil=>simp[decT] at h
  | cons c cs =>
   cases c <;> simp only[decT,reduceCtorEq] at h
   cases h
   cases us with
   | nil=>exact hv.elim
   | cons u us=>obtain ⟨h1,h2⟩:=hv; exact ⟨[u],us,rfl,by simp only[RE]; rw[h1],h2⟩
 | .str,cs,r,x,us,h,hv=>by
  cases cs with
  | nil=>simp[decT] at h
  | cons c cs =>
   cases c <;> simp only[decT,reduceCtorEq] at h
   cases h
   cases us with
   | nil=>exact hv.elim
   | cons u us=>obtain ⟨h1,h2⟩:=hv; exact ⟨[u],us,rfl,by simp only[RE]; rw[h1],h2⟩
 | .pair a b,cs,r,x,us,h,hv=>by
  simp only[decT] at h
  split at h
  ·rename_i x1 r1 h1
   split at h
   ·rename_i y1 r2 h2
    cases h
    obtain ⟨row1,us1,rfl,e1,v1⟩:=Nz h1 hv
    obtain ⟨row2,us2,rfl,e2,v2⟩:=Nz h2 v1
    exact ⟨row1++row2,us2,by simp,⟨row1,row2,rfl,e1,e2⟩,v2⟩
   ·cases h
  ·cases h
 | .sl e,cs,r,x,us,h,hv=>by
  cases cs with
  | nil=>simp[decT] at h
  | cons c cs =>
   simp only[decT] at h
   split at h
   ·rename_i l h1
    cases h
    cases us with
    | nil=>exact hv.elim
    | cons u us =>
     obtain ⟨q1,q2⟩:=hv
     refine ⟨[u],us,rfl,?_,q2⟩
     rcases Rz h1 q1 with ⟨rfl,rfl⟩ | ⟨rows,rfl,hr⟩
     ·exact .inl ⟨rfl,rfl⟩
     ·exact .inr ⟨rows,rfl,hr⟩
   ·cases h
theorem Ok {hp:THp} {t:Ty} {cs:List SV} {x:t.den} {us:List V} (h:decR t cs=some x) (hv:RC (RV0 hp) cs us):RE t x us:=by
 unfold decR at h
 split at h
 ·rename_i y hd
  cases h
  obtain ⟨row,us',rfl,e,v⟩:=Nz hd hv
  cases us' with
  | nil=>simpa using e
  | cons a l=>exact v.elim
 ·cases h
theorem TC {hp:THp} (c:Value):RV0 hp (cellT c) (ofCell c):=by
 unfold cellT ofCell
 split
 ·simp[scalarB,RV0]
 ·simp[scalarB,RV0]
 ·simp[scalarB,RV0]
 ·rfl
 ·split
  ·rename_i h1 h2 h3 h4 h5
   split
   ·exact absurd rfl h4
   ·rw[if_pos h5]; rfl
  ·trivial
theorem QJ {hp:THp}:∀ (l:List Value),RC (RV0 hp) (l.map cellT) (l.map ofCell)
 | []=>trivial
 | c::l=>⟨TC c,QJ l⟩
theorem Xv {hp:THp} (c:Value):RV2 hp (constT c) (ofConst c):=by
 unfold constT ofConst
 split
 ·rename_i cs
  exact ⟨_,rfl,QJ cs.toList⟩
 ·rename_i hn
  split
  ·rename_i cs; exact absurd rfl (hn cs)
  ·exact (TC c).to1.to2
theorem Au {hp:THp} {tm:TTm} {m:Tm} (h:RT hp tm m) (x:Operand):RV2 hp (opT tm x) (opnd m x):=by
 cases x with
 | tmp t=>exact h t
 | const c=>exact Xv c
 | global g=>trivial
 | func f=>exact ⟨[],rfl,trivial⟩
theorem J7 {hp:THp}:∀ (l:List V),RC (RV0 hp) (l.map zeroT) l
 | []=>trivial
 | x::l=>by
  refine ⟨?_,J7 l⟩
  unfold zeroT
  split <;> first | rfl | trivial
theorem Fb {α:Type} (x:SV) (F:SV→α):force x F=F x:=by cases x <;> rfl
section
variable {hp:THp} {x:SV} {y:V}
theorem EQ {k:IntKind} {n:Int} (h:RV2 hp (.int k n) y):y = .v (.int k n):=h
theorem Ir {b:Bool} (h:RV2 hp (.bool b) y):y = .v (.bool b):=h
theorem Lx {s:Str} (h:RV2 hp (.str s) y):y = .v (.string ⟨s.toArray⟩):=h
theorem Ny {cs:List SV} (h:RV2 hp (.agg cs) y):∃ us,y = .agg us∧RC (RV0 hp) cs us:=h
theorem VD {f:FuncId} {cs:List SV} (h:RV2 hp (.cl f cs) y):∃ us,y = .cl f us∧RC (RV0 hp) cs us:=h
theorem El (hv:RV2 hp x y) (hok:(flatT x).all okT=true):RC (RV0 hp) (flatT x) (flat y)∧(flat y).all okCell=true:=by
 have one:∀ {x:SV} {y:V},RV0 hp x y→okT x=true→okCell y=true:=by
  intro x y h hk
  cases x with
  | int k n=>have:y=_:=h; subst this; rfl
  | bool b=>have:y=_:=h; subst this; rfl
  | str s=>have:y=_:=h; subst this; rfl
  | sc v=>have:y=_:=h; subst this; rfl
  | em=>have:y=_:=h; subst this; rfl
  | er e=>simp[okT] at hk
  | im t l=>rcases h with ⟨_,rfl⟩ | ⟨rows,rfl,_⟩ <;> rfl
  | ow id=>obtain ⟨n,rfl,_⟩:=h; rfl
  | ar a b c=>have:y=_:=h; subst this; rfl
  | rf a b c=>have:y=_:=h; subst this; rfl
  | ir a b c=>obtain ⟨row,rfl,_⟩:=h; rfl
  | agg cs=>simp[okT] at hk
  | tup cs=>simp[okT] at hk
  | cl f cs=>cases cs with
   | nil=>have:y=_:=h; subst this; rfl
   | cons a l=>simp[okT] at hk
  | any=>simp[okT] at hk
 have many:∀ {xs:List SV} {ys:List V},RC (RV0 hp) xs ys→xs.all okT=true→ys.all okCell=true:=by
  intro xs
  induction xs with
  | nil=>intro ys h _; cases ys with | nil=>rfl | cons a l=>exact h.elim
  | cons a l ih =>
   intro ys h hk
   cases ys with
   | nil=>exact h.elim
   | cons b m =>
    simp only[List.all_cons,Bool.and_eq_true] at hk ⊢
    exact ⟨one h.1 hk.1,ih h.2 hk.2⟩
 have single:RV0 hp x y→flatT x = [x]→flat y = [y]→RC (RV0 hp) (flatT x) (flat y)∧(flat y).all okCell=true:=by
  intro h h1 h2
  rw[h1] at hok ⊢
  rw[h2]
  exact ⟨⟨h,trivial⟩,many (xs:=[x]) (ys:=[y]) ⟨h,trivial⟩ hok⟩
 cases x with
 | agg cs=>obtain ⟨us,rfl,h⟩:=hv; exact ⟨h,many h hok⟩
 | int k n=>have:y=_:=hv; subst this; exact single rfl rfl rfl
 | bool b=>have:y=_:=hv; subst this; exact single rfl rfl rfl
 | str s=>have:y=_:=hv; subst this; exact single rfl rfl rfl
 | sc v=>have:y=_:=hv; subst this; exact single rfl rfl rfl
 | em=>have:y=_:=hv; subst this; exact single rfl rfl rfl
 | er e=>simp[flatT,okT] at hok
 | im t l=>have hv':RV0 hp (.im t l) y:=hv; rcases hv with ⟨_,rfl⟩ | ⟨rows,rfl,_⟩ <;> exact single hv' rfl rfl
 | ow id=>have hv':RV0 hp (.ow id) y:=hv; obtain ⟨n,rfl,_⟩:=hv; exact single hv' rfl rfl
 | ar a b c=>have:y=_:=hv; subst this; exact single rfl rfl rfl
 | rf a b c=>have:y=_:=hv; subst this; exact single rfl rfl rfl
 | ir a b c=>have hv':RV0 hp (.ir a b c) y:=hv; obtain ⟨row,rfl,_⟩:=hv; exact single hv' rfl rfl
 | tup cs=>simp[flatT,okT] at hok
 | cl f cs =>
  cases cs with
  | nil =>
   obtain ⟨us,rfl,h⟩:=hv
   cases us with
   | nil=>exact single rfl rfl rfl
   | cons a l=>exact h.elim
  | cons a l=>simp[flatT,okT] at hok
 | any=>simp[flatT,okT] at hok
end
theorem MZ {hp:THp} {g:Bool} {cs:List SV} {us:List V} {x:SV} (h:mkT g cs=some x) (hr:RC (RV0 hp) cs us):∃ y,mk g us=some y∧RV2 hp x y:=by
 unfold mkT at h
 split at h
 ·rename_i hg
  cases h
  exact ⟨.agg us,by simp[mk,hg],us,rfl,hr⟩
 ·rename_i hg
  split at h
  ·cases h
   cases us with
   | nil=>exact hr.elim
   | cons u us =>
    cases us with
    | nil=>exact ⟨u,by simp[mk,hg],hr.1.to1.to2⟩
    | cons a l=>exact hr.2.elim
  ·cases h
theorem JY {α:Type} {g:Bool} {cs:Option (List SV)} {K:SV→Option α} {z : α} (h:tMk g cs K=some z):∃ l x,cs=some l∧mkT g l=some x∧K x=some z:=by
 unfold tMk at h
 split at h
 ·split at h
  ·rename_i x hx
   rw[Fb] at h
   exact ⟨_,x,rfl,hx,h⟩
  ·cases h
 ·cases h
theorem AA {α β:Type} {x:Option α} {f : α→Option β} {z : β} (h:x.bind f=some z):∃ a,x=some a∧f a=some z:=by
 cases x with
 | none=>cases h
 | some a=>exact ⟨a,rfl,h⟩
theorem It {α:Type} {c:Bool} {A:Option α} {z : α} (h:cond c none A=some z):c=false∧A=some z:=by
 cases c with
 | true=>cases h
 | false=>exact ⟨rfl,h⟩
theorem Bd {α:Type} {c:Bool} {A:Option α} {z : α} (h:cond c A none=some z):c=true∧A=some z:=by
 cases c with
 | false=>cases h
 | true=>exact ⟨rfl,h⟩
theorem Cr {α:Type} {X:Option V} {k:IntKind} {n:Int} {K:SV→Option α} {z : α} (h:K (.int k n)=some z) (he:X=some (.v (.int k n))):∃ v u,X=some (.v u)∧(∀ hp,RV2 hp v (.v u))∧K v=some z:=⟨.int k n,.int k n,he,fun _=>rfl,h⟩
theorem Dd {α:Type} {X:Option V} {b:Bool} {K:SV→Option α} {z : α} (h:K (.bool b)=some z) (he:X=some (.v (.bool b))):∃ v u,X=some (.v u)∧(∀ hp,RV2 hp v (.v u))∧K v=some z:=⟨.bool b,.bool b,he,fun _=>rfl,h⟩
theorem XX {α:Type} {X:Option V} {s:Str} {K:SV→Option α} {z : α} (h:K (.str s)=some z) (he:X=some (.v (.string ⟨s.toArray⟩))):∃ v u,X=some (.v u)∧(∀ hp,RV2 hp v (.v u))∧K v=some z:=⟨.str s,.string ⟨s.toArray⟩,he,fun _=>rfl,h⟩
theorem Zp {α:Type} {P:Program} {op:BinOp} {t:TypeId} {x y:Operand} {k k':IntKind} {a b:Int} {K:SV→Option α} {z : α} (h:tBinI op k k' a b K=some z) :
  ∃ v u,((pureRun P (do eqGuard op t x y (.int k a) (.int k' b); binOp op t (.int k a) (.int k' b))).bind ofScalar)=some (.v u)∧(∀ hp,RV2 hp v (.v u))∧K v=some z:=by
 have hk:k=k'→(op≠.shl∧op≠.shr)→∃ v u,((pureRun P (do eqGuard op t x y (.int k a) (.int k b); binOp op t (.int k a) (.int k b))).bind ofScalar)=some (.v u)∧(∀ hp,RV2 hp v (.v u))∧K v=some z:=by
  intro he hop
  subst he
  cases op
  case quo =>
   simp only[tBinI,if_true] at h
   obtain ⟨h1,h2⟩:=It h
   have h0:¬b=0:=by simpa using h1
   refine Cr h2 ?_
   show ((pureRun P (if k≠k then _ else if b=0 then _ else _)).bind ofScalar)=_
   rw[if_neg (by simp),if_neg h0]; rfl
  case rem =>
   simp only[tBinI,if_true] at h
   obtain ⟨h1,h2⟩:=It h
   have h0:¬b=0:=by simpa using h1
   refine Cr h2 ?_
   show ((pureRun P (if k≠k then _ else if b=0 then _ else _)).bind ofScalar)=_
   rw[if_neg (by simp),if_neg h0]; rfl
  case shl=>exact absurd rfl hop.1
  case shr=>exact absurd rfl hop.2
  case andNot=>simp only[tBinI,if_true,reduceCtorEq] at h
  case add=>simp only[tBinI,if_true] at h; exact Cr h (by show ((pureRun P (if k≠k then _ else _)).bind ofScalar)=_; rw[if_neg (by simp)]; rfl)
  case sub=>simp only[tBinI,if_true] at h; exact Cr h (by show ((pureRun P (if k≠k then _ else _)).bind ofScalar)=_; rw[if_neg (by simp)]; rfl)
  case mul=>simp only[tBinI,if_true] at h; exact Cr h (by show ((pureRun P (if k≠k then _ else _)).bind ofScalar)=_; rw[if_neg (by simp)]; rfl)
  case and=>simp only[tBinI,if_true] at h; exact Cr h (by show ((pureRun P (if k≠k then _ else _)).bind ofScalar)=_; rw[if_neg (by simp)]; rfl)
  case or=>simp only[tBinI,if_true] at h; exact Cr h (by show ((pureRun P (if k≠k then _ else _)).bind ofScalar)=_; rw[if_neg (by simp)]; rfl)
  case xor=>simp only[tBinI,if_true] at h; exact Cr h (by show ((pureRun P (if k≠k then _ else _)).bind ofScalar)=_; rw[if_neg (by simp)]; rfl)
  case eql=>simp only[tBinI,if_true] at h; exact Dd h (by show ((pureRun P (if k≠k then _ else _)).bind ofScalar)=_; rw[if_neg (by simp)]; rfl)
  case neq=>simp only[tBinI,if_true] at h; exact Dd h (by show ((pureRun P (if k≠k then _ else _)).bind ofScalar)=_; rw[if_neg (by simp)]; rfl)
  case lss=>simp only[tBinI,if_true] at h; exact Dd h (by show ((pureRun P (if k≠k then _ else _)).bind ofScalar)=_; rw[if_neg (by simp)]; rfl)
  case leq=>simp only[tBinI,if_true] at h; exact Dd h (by show ((pureRun P (if k≠k then _ else _)).bind ofScalar)=_; rw[if_neg (by simp)]; rfl)
  case gtr=>simp only[tBinI,if_true] at h; exact Dd h (by show ((pureRun P (if k≠k then _ else _)).bind ofScalar)=_; rw[if_neg (by simp)]; rfl)
  case geq=>simp only[tBinI,if_true] at h; exact Dd h (by show ((pureRun P (if k≠k then _ else _)).bind ofScalar)=_; rw[if_neg (by simp)]; rfl)
 by_cases h1:op = .shl
 ·subst h1
  simp only[tBinI] at h
  obtain ⟨h1,h2⟩:=It h
  have h0:¬b<0:=by simpa using h1
  refine Cr h2 ?_
  show ((pureRun P (if b<0 then _ else _)).bind ofScalar)=_
  rw[if_neg h0]; rfl
 ·by_cases h2:op = .shr
  ·subst h2
   simp only[tBinI] at h
   obtain ⟨h1,h2⟩:=It h
   have h0:¬b<0:=by simpa using h1
   refine Cr h2 ?_
   show ((pureRun P (if b<0 then _ else _)).bind ofScalar)=_
   rw[if_neg h0]; rfl
  ·by_cases hkk:k=k'
   ·subst hkk; exact hk rfl ⟨h1,h2⟩
   ·exfalso
    cases op <;> simp only[tBinI,if_neg hkk,reduceCtorEq] at h
    ·exact h1 rfl
    ·exact h2 rfl
theorem Aa2 {α:Type} {P:Program} {op:BinOp} {t:TypeId} {x y:Operand} {s u:Str} {K:SV→Option α} {z : α} (h:tBinS op s u K=some z) :
  ∃ v w,((pureRun P (do eqGuard op t x y (.string ⟨s.toArray⟩) (.string ⟨u.toArray⟩); binOp op t (.string ⟨s.toArray⟩) (.string ⟨u.toArray⟩))).bind ofScalar)=some (.v w)∧(∀ hp,RV2 hp v (.v w))∧K v=some z:=by
 have e1:(ByteArray.mk s.toArray).toList=s:=ByteArray.toList_mk s
 have e2:(ByteArray.mk u.toArray).toList=u:=ByteArray.toList_mk u
 cases op <;> simp only[tBinS,reduceCtorEq] at h
 case add =>
  obtain ⟨r,h1,h2⟩:=AA h
  unfold catS at h1
  split at h1
  ·rename_i hle
   cases h1
   refine XX h2 ?_
   show ((pureRun P (if (((ByteArray.mk s.toArray).size + (ByteArray.mk u.toArray).size:Nat):Int)>IntKind.i64.max then _ else _)).bind ofScalar)=_
   have hs:(ByteArray.mk s.toArray).size=s.length:=by simp[ByteArray.size]
   have hu:(ByteArray.mk u.toArray).size=u.length:=by simp[ByteArray.size]
   have hm:IntKind.i64.max=9223372036854775807:=by decide
   rw[if_neg (by rw[hs,hu,hm]; omega)]
   have:(ByteArray.mk s.toArray)++(ByteArray.mk u.toArray)=⟨(s++u).toArray⟩:=by
    apply ByteArray.ext; simp
   show some (V.v (.string ((ByteArray.mk s.toArray)++(ByteArray.mk u.toArray))))=_
   rw[this]
  ·cases h1
 all_goals
  refine Dd h ?_
  show some (V.v (.bool _))=_
  simp only[e1,e2]
end
section
open Go
abbrev EqR:SV→V→Prop:=fun s u=>∃ k n,s = .int k n∧u = .v (.int k n)
def EqAt (P:Program) (t:TypeId) (n:Nat):Prop:=∀ (x y:Operand) (cs ds:List SV) (us vs:List Value) (r:Bool),us.length=n→RC EqR cs (us.map .v) →
 RC EqR ds (vs.map .v)→eqCells cs ds=some r →
 pureRun P (do eqGuard .eql t x y (.agg us.toArray) (.agg vs.toArray); binOp .eql t (.agg us.toArray) (.agg vs.toArray))=some (.bool r) ∧
 pureRun P (do eqGuard .neq t x y (.agg us.toArray) (.agg vs.toArray); binOp .neq t (.agg us.toArray) (.agg vs.toArray))=some (.bool (!r))
def EqOK (P:Program) (t:TypeId):Prop:=∀ d,tyOf P t=some d→EqAt P t d.size
structure XOK (P:Program) (X:TX):Prop where
 ty:∀ t d,getD X.ty t=some d→tyOf P t=some d
 bools:∀ t,X.bools.contains t=true→P.underlying t=some .bool
 eqs:∀ t,X.eqs.contains t=true→EqOK P t
section
variable {α:Type} {P:Program} {R:Rel} {cf:Cfg} {X:TX} {b:Nat} {tm:TTm} {m:Tm} {hp hpm:THp} {hv hvm:Hp} {K:SV→THp→Cls→Option α} {z : α}
def Looks (P:Program) (R:Rel) (cf:Cfg) (op:Op) (b:Nat) (m:Tm) (hp:THp) (hpm:THp) (hvm:Hp) (K:SV→THp→Cls→Option α) (z : α):Prop :=
 ∃ x y cls,K x hpm cls=some z∧RV2 hp x y∧∀ KV:Cont,KV y hvm cls→weOp P R cf op b (opnd m) hvm KV
def RHm (hpm hp:THp) (hvm:Hp):Prop:=∀ id b,getB hpm id=some b→getB hp id=some b∧∃ k,hvm id=some k∧RB hp b k
theorem RH.toM (h:RH hp hv):RHm hp hp hv:=fun id b hb=>⟨hb,h id b hb⟩
theorem Av {op:Op} {x:SV} {y:V} (h:K x hpm .T=some z) (hr:RV2 hp x y) (hn:nevT P op (opnd m)=some y)
  (hop:∀ KV:Cont,weOp P R cf op b (opnd m) hvm KV=(match nevT P op (opnd m) with | some x=>KV x hvm .T | none=>caseO (nevM P op (opnd m) hvm b) fun z=>z.2.length≤16∧KV z.1 (inst hvm b z.2) .M)):Looks P R cf op b m hp hpm hvm K z :=
 ⟨x,y,.T,h,hr,fun KV hk=>by rw[hop,hn]; exact hk⟩
theorem Gz {op:Op} {x:SV} {y:V} (h:K x hpm .M=some z) (hr:RV2 hp x y) (hn:nevT P op (opnd m)=none) (hm:nevM P op (opnd m) hvm b=some (y,[]))
  (hop:∀ KV:Cont,weOp P R cf op b (opnd m) hvm KV=(match nevT P op (opnd m) with | some x=>KV x hvm .T | none=>caseO (nevM P op (opnd m) hvm b) fun z=>z.2.length≤16∧KV z.1 (inst hvm b z.2) .M)):Looks P R cf op b m hp hpm hvm K z :=
 ⟨x,y,.M,h,hr,fun KV hk=>by rw[hop,hn]; simp only[hm,Af,inst]; exact ⟨by simp,hk⟩⟩
theorem Ae7 {x:Operand} (hr:RT hp tm m) (h:wtOp X (.move x) b tm hpm K=some z):Looks P R cf (.move x) b m hp hpm hvm K z:=by
 simp only[wtOp,Fb] at h
 exact Av h (Au hr x) rfl fun _=>rfl
theorem YL {x:Operand} (hr:RT hp tm m) (h:wtOp X (.assign x) b tm hpm K=some z):Looks P R cf (.assign x) b m hp hpm hvm K z:=by
 simp only[wtOp,Fb] at h
 exact Av h (Au hr x) rfl fun _=>rfl
theorem Ad1 {c x y:Operand} (hr:RT hp tm m) (h:wtOp X (.pick c x y) b tm hpm K=some z):Looks P R cf (.pick c x y) b m hp hpm hvm K z:=by
 simp only[wtOp,Fb] at h
 split at h
 ·rename_i t ht
  have hc:=Au hr c
  rw[ht] at hc
  have hc:=Ir hc
  cases t with
  | true=>exact Av h (Au hr x) (by simp[nevT,hc]) fun _=>rfl
  | false=>exact Av h (Au hr y) (by simp[nevT,hc]) fun _=>rfl
 ·cases h
theorem Ah1 {x:Operand} (hr:RT hp tm m) (h:wtOp X (.nilCheck x) b tm hpm K=some z):Looks P R cf (.nilCheck x) b m hp hpm hvm K z:=by
 simp only[wtOp] at h
 have hc:=Au hr x
 split at h
 ·rename_i id r c hx
  rw[hx] at hc
  have hc':opnd m x = .rf id r c:=hc
  exact Av h (y:=.rf id r c) rfl (by simp[nevT,hc']) fun _=>rfl
 ·rename_i t a c hx
  rw[hx] at hc
  obtain ⟨row,he,hre⟩:=hc
  exact Av h (y:=.ir row c) ⟨row,rfl,hre⟩ (by simp[nevT,he]) fun _=>rfl
 ·rename_i f caps hx
  rw[hx] at hc
  obtain ⟨us,he,hre⟩:=VD hc
  exact Av h (y:=.cl f us) ⟨us,rfl,hre⟩ (by simp[nevT,he]) fun _=>rfl
 ·cases h
theorem l_un {u:UnOp} {t:TypeId} {x:Operand} (hr:RT hp tm m) (h:wtOp X (.unOp u t x) b tm hpm K=some z):Looks P R cf (.unOp u t x) b m hp hpm hvm K z:=by
 simp only[wtOp,tUn] at h
 have hc:=Au hr x
 split at h
 ·rename_i bb hx
  rw[hx] at hc
  have hc:=Ir hc
  exact Av h (y:=.v (.bool !bb)) rfl (by simp only[nevT,hc]; rfl) fun _=>rfl
 ·rename_i k n hx
  rw[hx] at hc
  have hc:=EQ hc
  exact Av h (y:=.v (.int k (k.wrap (0-n)))) rfl (by simp only[nevT,hc]; rfl) fun _=>rfl
 ·cases h
theorem Y4 {cs ds:List SV} {r:Bool} (h:eqCells cs ds=some r):∀ {us vs:List V},RC (RV0 hp) cs us→RC (RV0 hp) ds vs→∃ us' vs':List Value,us=us'.map .v∧vs=vs'.map .v ∧
  RC EqR cs (us'.map .v)∧RC EqR ds (vs'.map .v):=by
 induction cs generalizing ds r with
 | nil =>
  intro us vs h1 h2
  cases ds with
  | nil =>
   cases us with
   | nil=>cases vs with
    | nil=>exact ⟨[],[],rfl,rfl,trivial,trivial⟩
    | cons a l=>exact h2.elim
   | cons a l=>exact h1.elim
  | cons a l=>simp[eqCells] at h
 | cons c cs ih =>
  intro us vs h1 h2
  cases ds with
  | nil=>cases c <;> simp[eqCells] at h
  | cons d ds =>
   cases us with
   | nil=>exact h1.elim
   | cons u us =>
    cases vs with
    | nil=>exact h2.elim
    | cons v vs =>
     cases c <;> cases d <;> first | (simp[eqCells] at h; done) | skip
     rename_i k n k' n'
     have hrest:∃ r',eqCells cs ds=some r':=by
      cases cs with
      | nil =>
       cases ds with
       | nil=>exact ⟨true,rfl⟩
       | cons a l=>simp only[eqCells] at h; split at h <;> simp_all
      | cons a l =>
       simp only[eqCells] at h
       split at h
       ·cases he:eqCells (a::l) ds with
        | none=>rw[he] at h; cases h
        | some r'=>exact ⟨r',rfl⟩
       ·cases h
     obtain ⟨r',hr'⟩:=hrest
     obtain ⟨us',vs',e1,e2,e3,e4⟩:=ih hr' h1.2 h2.2
     have q1:u = .v (.int k n):=h1.1
     have q2:v = .v (.int k' n'):=h2.1
     subst q1
     subst q2
     subst e1
     subst e2
     exact ⟨_::us',_::vs',rfl,rfl,⟨⟨_,_,rfl,rfl⟩,e3⟩,⟨⟨_,_,rfl,rfl⟩,e4⟩⟩
theorem Ch {β:Type} {t:TypeId} {d:TypeDesc} (hu:P.underlying t=some d) (f:TypeDesc→Sem β):pureRun P (underlying t >>= f)=pureRun P (f d):=by
 show pureRun P ((match P.underlying t with | some d=>(pure d:Sem TypeDesc) | none=>stuck "no such type") >>= f)=_
 rw[hu]; rfl
theorem WH {t:TypeId} (hu:P.underlying t=some .bool) (p q:Bool):pureRun P (Op.equal t (.bool p) (.bool q))=some (p==q):=by
 show pureRun P (Op.equalIn (9999 + 1) t (.bool p) (.bool q))=_
 unfold Op.equalIn
 rw[Ch hu]
 rfl
theorem JS {α β:Type} (f : α→Sem β) (s:Sem α) (a : α) (h:pureRun P s=some a):pureRun P (s >>= f)=pureRun P (f a):=by
 induction s with
 | pure b=>simp[pureRun] at h; subst h; rfl
 | program k ih=>exact ih P (by simpa[pureRun] using h)
 | _=>simp[pureRun] at h
theorem Gm:∀ (l:List Value),toVals (l.map V.v)=some l
 | []=>rfl
 | x::l=>by simp[toVals,Gm l]
theorem Ag8 {op:BinOp} {t yt:TypeId} {x y:Operand} (hX:XOK P X) (hr:RT hp tm m) (h:wtOp X (.binOp op t x y yt) b tm hpm K=some z):Looks P R cf (.binOp op t x y yt) b m hp hpm hvm K z:=by
 simp only[wtOp] at h
 have hx:=Au hr x
 have hy:=Au hr y
 cases hnc:nilC op y with
 | true =>
  rw[hnc] at h
  simp only at h
  split at h
  case h_2=>cases h
  rename_i d ty l hd hl
  split at h
  case h_2=>cases h
  rename_i e he
  obtain ⟨u,hu,h2⟩:=AA h
  rw[hl] at hx
  have hne:∃ r rows,opnd m x = .im (r::rows):=by
   cases l with
   | nil=>cases hu
   | cons a l =>
    rcases hx with ⟨h0,_⟩ | ⟨rows,hrow,hrl⟩
    ·cases h0
    ·cases rows with
     | nil=>exact absurd hrl.1 (by simp)
     | cons r rows=>exact ⟨r,rows,hrow⟩
  obtain ⟨r,rows,hxv⟩:=hne
  have hsl:isSl P t=true:=by unfold isSl; rw[hX.ty t d hd]; simp[he]
  refine Av h2 (y:=.v (.bool false)) rfl ?_ fun _=>rfl
  unfold nilC at hnc
  split at hnc
  ·simp only[nevT,hxv,toVal,nilEq,hsl]
  ·cases hnc
 | false =>
 rw[hnc] at h
 simp only at h
 have h:(∃ s e,erC op y=some s∧opT tm x = .er e∧isIfX X t=true∧K (.bool (cond s (!e) e)) hpm .T=some z)∨tBin X op t (opT tm x) (opT tm y) (fun v=>K v hpm .T)=some z:=by
  split at h
  ·rename_i s hs
   split at h
   ·rename_i e he
    cases hi:isIfX X t with
    | true=>rw[hi] at h; exact .inl ⟨s,e,hs,he,rfl,h⟩
    | false=>rw[hi] at h; cases h
   ·exact .inr h
  ·exact .inr h
 rcases h with ⟨s,e,hs,he,hi,h⟩ | h
 ·rw[he] at hx
  have hx:opnd m x = .er e:=hx
  have hic:isIfc P t=true:=by
   unfold isIfX at hi
   split at hi
   ·rename_i d hd
    unfold isIfc
    rw[hX.ty t d hd]
    exact hi
   ·cases hi
  unfold erC at hs
  split at hs
  ·cases hs
   refine Av h (y:=.v (.bool !e)) rfl ?_ fun _=>rfl
   simp only[nevT,hx,toVal,nilEq,erEq,hic]
  ·cases hs
   refine Av h (y:=.v (.bool e)) rfl ?_ fun _=>rfl
   simp only[nevT,hx,toVal,nilEq,erEq,hic]
  ·cases hs
 simp only[tBin] at h
 split at h
 ·rename_i k a k' c e1 e2
  rw[e1] at hx
  rw[e2] at hy
  have hx:=EQ hx
  have hy:=EQ hy
  obtain ⟨v,u,q1,q2,q3⟩:=Zp (P:=P) (t:=t) (x:=x) (y:=y) h
  exact Av q3 (q2 hp) (by simp only[nevT,hx,hy,toVal]; exact q1) fun _=>rfl
 ·rename_i s u e1 e2
  rw[e1] at hx
  rw[e2] at hy
  have hx:=Lx hx
  have hy:=Lx hy
  obtain ⟨v,u,q1,q2,q3⟩:=Aa2 (P:=P) (t:=t) (x:=x) (y:=y) h
  exact Av q3 (q2 hp) (by simp only[nevT,hx,hy,toVal]; exact q1) fun _=>rfl
 ·rename_i p q e1 e2
  rw[e1] at hx
  rw[e2] at hy
  have hx:=Ir hx
  have hy:=Ir hy
  split at h
  ·rename_i hb
   have hu:=hX.bools t hb
   have heq:=WH hu p q
   split at h
   ·refine Av h (y:=.v (.bool (p==q))) rfl ?_ fun _=>rfl
    simp only[nevT,hx,hy,toVal]
    show ((pureRun P (do let r ←Op.equal t (.bool p) (.bool q); pure (.bool r))).bind ofScalar)=_
    rw[JS _ _ _ heq]; rfl
   ·refine Av h (y:=.v (.bool !(p==q))) rfl ?_ fun _=>rfl
    simp only[nevT,hx,hy,toVal]
    show ((pureRun P (do let r ←Op.equal t (.bool p) (.bool q); pure (.bool !r))).bind ofScalar)=_
    rw[JS _ _ _ heq]; rfl
   ·cases h
  ·cases h
 ·rename_i cs ds e1 e2
  rw[e1] at hx
  rw[e2] at hy
  obtain ⟨us,hx,r1⟩:=Ny hx
  obtain ⟨vs,hy,r2⟩:=Ny hy
  split at h
  ·rename_i ht
   split at h
   ·rename_i d r hd hq
    split at h
    case isFalse=>cases h
    rename_i hlen
    obtain ⟨us',vs',rfl,rfl,q1,q2⟩:=Y4 hq r1 r2
    have hl:us'.length=d.size:=by
     have:=RC.length q1
     rw[List.length_map] at this
     rw[this]
     exact Nat.eq_of_beq_eq_true hlen
    obtain ⟨p1,p2⟩:=hX.eqs t ht d (hX.ty t d hd) x y cs ds us' vs' r hl q1 q2 hq
    split at h
    ·exact Av h (y:=.v (.bool r)) rfl (by simp only[nevT,hx,hy,toVal,Gm]; rw[p1]; rfl) fun _=>rfl
    ·exact Av h (y:=.v (.bool !r)) rfl (by simp only[nevT,hx,hy,toVal,Gm]; rw[p2]; rfl) fun _=>rfl
    ·cases h
   ·cases h
  ·cases h
 ·cases h
end
end
section
open Go
variable {P:Program}
end
section
open Go
section
variable {α:Type} {P:Program} {R:Rel} {cf:Cfg} {X:TX} {b:Nat} {tm:TTm} {m:Tm} {hp hpm:THp} {hv hvm:Hp} {K:SV→THp→Cls→Option α} {z : α}
theorem PZ {β:Type} {flds:List Fld} (hr:RT hp tm m):∀ {parts:List (Nat×Operand)} {cs:List SV} {us:List V} {K:List SV→Option β} {z : β},tFill flds tm cs parts K=some z→RC (RV0 hp) cs us →
  ∃ cs' us',fillV flds (opnd m) us parts=some us'∧RC (RV0 hp) cs' us'∧K cs'=some z
 | [],cs,us,K,z,h,hc=>⟨cs,us,rfl,hc,h⟩
 | (k,x)::rest,cs,us,K,z,h,hc=>by
  simp only[tFill,Fb] at h
  split at h
  ·rename_i f hf
   split at h
   ·rename_i hok
    simp only[Bool.and_eq_true,decide_eq_true_eq] at hok
    split at h
    ·rename_i cs1 hp1
     obtain ⟨f1,f2⟩:=El (Au hr x) hok.2
     obtain ⟨us1,h1,h2⟩:=RC.put hp1 hc f1
     obtain ⟨cs2,us2,h3,h4,h5⟩:=PZ hr h h2
     refine ⟨cs2,us2,?_,h4,h5⟩
     simp only[fillV,hf]
     have hl:=f1.length
     have he:=of_decide_eq_true (by simpa using hok.1:decide ((flatT (opT tm x)).length=f.size)=true)
     rw[if_pos (by simp only[Bool.and_eq_true,decide_eq_true_eq]; exact ⟨by omega,f2⟩),h1]
     exact h3
    ·cases h
   ·cases h
  ·cases h
theorem Z7 {t:TypeId} {parts:Array (Nat×Operand)} (hX:XOK P X) (hr:RT hp tm m) (h:wtOp X (.build t parts) b tm hpm K=some z):Looks P R cf (.build t parts) b m hp hpm hvm K z:=by
 simp only[wtOp] at h
 split at h
 ·rename_i d hd
  split at h
  ·rename_i hc
   obtain ⟨cs,us,h1,h2,h3⟩:=PZ hr h (J7 d.zero)
   exact Av h3 (y:=.agg us) ⟨us,rfl,h2⟩ (by simp only[nevT,hX.ty t d hd,hc,if_true,h1,Option.map_some]) fun _=>rfl
  ·cases h
 ·cases h
theorem Aa3 {t:TypeId} {x:Operand} {k:Nat} (hX:XOK P X) (hr:RT hp tm m) (h:wtOp X (.field t x k) b tm hpm K=some z):Looks P R cf (.field t x k) b m hp hpm hvm K z:=by
 simp only[wtOp] at h
 have hx:=Au hr x
 split at h
 ·rename_i cs d e1 hd
  rw[e1] at hx
  obtain ⟨us,hx,hc⟩:=Ny hx
  split at h
  ·rename_i f hf
   obtain ⟨l,v,h1,h2,h3⟩:=JY h
   obtain ⟨vs,h4,h5⟩:=RC.seg h1 hc
   obtain ⟨y,h6,h7⟩:=MZ h2 h5
   exact Av h3 h7 (by simp only[nevT,hx,hX.ty t d hd,hf,h4,Option.bind_some,h6]) fun _=>rfl
  ·cases h
 ·cases h
theorem Ti {t:TypeId} {x:Operand} {k:Nat} (hX:XOK P X) (hr:RT hp tm m) (h:wtOp X (.fieldAddr t x k) b tm hpm K=some z):Looks P R cf (.fieldAddr t x k) b m hp hpm hvm K z:=by
 simp only[wtOp] at h
 have hx:=Au hr x
 split at h
 ·rename_i d hd
  split at h
  ·rename_i f id r c hf e1
   rw[e1] at hx
   have hx:opnd m x = .rf id r c:=hx
   exact Av h (y:=.rf id r (c + f.off)) rfl (by simp only[nevT,hX.ty t d hd,hf,hx]) fun _=>rfl
  ·rename_i f ty a c hf e1
   rw[e1] at hx
   obtain ⟨row,hx,hre⟩:=hx
   exact Av h (y:=.ir row (c + f.off)) ⟨row,rfl,hre⟩ (by simp only[nevT,hX.ty t d hd,hf,hx]) fun _=>rfl
  ·cases h
 ·cases h
theorem strX {t:TypeId} (hX:XOK P X) (h:isStrX X t=true):isStr P t=true:=by
 unfold isStrX at h
 split at h
 ·rename_i d hd
  simp only[isStr,hX.ty t d hd]; exact h
 ·cases h
theorem slX {t:TypeId} (hX:XOK P X) (h:isSlX X t=true):isSl P t=true:=by
 unfold isSlX at h
 split at h
 ·rename_i d hd
  simp only[isSl,hX.ty t d hd]; exact h
 ·cases h
theorem Qv {β:Type} {l:List β} {n:Int} {a : β} (h:getI l n=some a) : 0≤n∧l[n.toNat]? = some a:=by
 unfold getI at h
 split at h
 ·rename_i h0; exact ⟨h0,h⟩
 ·cases h
theorem Qx {n:Int} {len k:Nat} (h:idxI n len=some k) : 0≤n∧n.toNat<len∧k=n.toNat:=by
 unfold idxI at h
 split at h
 ·rename_i h0; cases h; exact ⟨h0.1,h0.2,rfl⟩
 ·cases h
theorem Z2 {t:TypeId} {x i:Operand} (hX:XOK P X) (hr:RT hp tm m) (h:wtOp X (.index t x i) b tm hpm K=some z):Looks P R cf (.index t x i) b m hp hpm hvm K z:=by
 simp only[wtOp] at h
 have hx:=Au hr x
 have hi:=Au hr i
 split at h
 ·rename_i s k n hs e1 e2
  rw[e1] at hx
  rw[e2] at hi
  have hx:=Lx hx
  have hi:=EQ hi
  obtain ⟨c,h1,h2⟩:=AA h
  obtain ⟨h0,hc⟩:=Qv h1
  have hlt:n.toNat<s.length:=(List.getElem?_eq_some_iff.1 hc).1
  refine Av h2 (y:=.v (.int .u8 (c.toNat:Int))) rfl ?_ fun _=>rfl
  simp only[nevT,strX hX hs,hx,hi]
  have hsz:n.toNat<(ByteArray.mk s.toArray).size:=by simpa[ByteArray.size] using hlt
  rw[dif_pos ⟨h0,hsz⟩]
  have:(ByteArray.mk s.toArray)[n.toNat]'hsz=c:=by
   have:=(List.getElem?_eq_some_iff.1 hc).2
   rw[←this]; rfl
  rw[this]
 ·cases h
structure ElemOK (P:Program) (t e:TypeId) (d:TyD) (c:Ty):Prop where
 el:(tyOf P t).bind (·.elem)=some e
 ty:tyOf P e=some d
 size:d.size=c.size
 flat:d.zero.all isVB=flatTy c
theorem Im {t e:TypeId} {d:TyD} {c:Ty} (hX:XOK P X) (h:elemX X t=some (e,d,c)):ElemOK P t e d c:=by
 unfold elemX at h
 split at h
 ·rename_i d0 hd0
  split at h
  ·rename_i e0 he0
   split at h
   ·rename_i de c0 hde hc0
    split at h
    ·rename_i hb
     simp only[Bool.and_eq_true,beq_iff_eq] at hb
     simp only[Option.some.injEq,Prod.mk.injEq] at h
     obtain ⟨rfl,rfl,rfl⟩:=h
     exact ⟨by rw[hX.ty t d0 hd0]; exact he0,hX.ty _ _ hde,Nat.eq_of_beq_eq_true hb.1,hb.2⟩
    ·cases h
   ·cases h
  ·cases h
 ·cases h
theorem Ab6 {t:TypeId} {x i:Operand} (hX:XOK P X) (hr:RT hp tm m) (hh:RHm hpm hp hvm) (h:wtOp X (.indexAddr t x i) b tm hpm K=some z):Looks P R cf (.indexAddr t x i) b m hp hpm hvm K z:=by
 simp only[wtOp,tIdx] at h
 have hx:=Au hr x
 have hi:=Au hr i
 split at h
 ·rename_i e de c he
  have hE:=Im hX he
  split at h
  ·rename_i ty l k n e1 e2
   rw[e1] at hx
   rw[e2] at hi
   have hi:=EQ hi
   split at h
   ·rename_i hsz
    obtain ⟨a,h1,h2⟩:=AA h
    obtain ⟨h0,hc⟩:=Qv h1
    rcases hx with ⟨rfl,hx⟩ | ⟨rows,hx,hrl⟩
    ·simp at hc
    ·obtain ⟨row,hrow,hre⟩:=hrl.get hc
     have hlt:n.toNat<rows.length:=(List.getElem?_eq_some_iff.1 hrow).1
     refine Av h2 (y:=.ir row 0) ⟨row,rfl,hre⟩ ?_ fun _=>rfl
     simp only[nevT,hx,hi,hE.el,hE.ty]
     have hg:rows[n.toNat]'hlt=row:=(List.getElem?_eq_some_iff.1 hrow).2
     rw[dif_pos ⟨h0,hlt⟩,hg,if_pos (by rw[hre.len]; exact Nat.eq_of_beq_eq_true hsz)]
   ·cases h
  ·rename_i id k n e1 e2
   rw[e1] at hx
   rw[e2] at hi
   have hi:=EQ hi
   obtain ⟨len,hx,hlen⟩:=hx
   have key:∀ (ty:Ty) (l:List ty.den) (tb:TB),getB hpm id=some tb→blen tb=some l.length→(∀ kb,RB hp tb kb→kb.size=ty.size)→(Nat.beq ty.size de.size=true)→((idxI n l.length).bind fun k=>K (.rf id k 0) hpm .M)=some z→Looks P R cf (.indexAddr t x i) b m hp hpm hvm K z:=by
    intro ty l tb hg hbl hks hsz h
    obtain ⟨hg',kb,hkb,hrb⟩:=hh id tb hg
    have hlen':=hlen tb hg'
    rw[hbl] at hlen'
    cases hlen'
    obtain ⟨kk,h1,h2⟩:=AA h
    obtain ⟨h0,h3,rfl⟩:=Qx h1
    refine Gz h2 (y:=.rf id (0 + n.toNat) 0) (by rw[Nat.zero_add]; rfl) (by simp only[nevT,hx,hi]) ?_ fun _=>rfl
    simp only[nevM,hx,hi,hE.el,hE.ty,hkb]
    rw[if_pos ⟨by rw[hks kb hrb]; exact Nat.eq_of_beq_eq_true hsz,h0,h3⟩]
   split at h
   ·rename_i a b' ty l hg
    split at h
    ·rename_i hsz; exact key ty l _ hg rfl (fun kb hrb=>hrb.2.2.2.1) hsz h
    ·cases h
   ·rename_i a b' ty l hg
    split at h
    ·rename_i hsz; exact key ty l _ hg rfl (fun kb hrb=>hrb.2.2.2.1) hsz h
    ·cases h
   ·cases h
  ·rename_i id lo len k n e1 e2
   rw[e1] at hx
   rw[e2] at hi
   have hi:=EQ hi
   have hx:opnd m x = .ar id lo len:=hx
   have key:∀ (ty:Ty) (tb:TB),getB hpm id=some tb→(∀ kb,RB hp tb kb→kb.size=ty.size)→(Nat.beq ty.size de.size=true)→((idxI n len).bind fun k=>K (.rf id (lo + k) 0) hpm .M)=some z→Looks P R cf (.indexAddr t x i) b m hp hpm hvm K z:=by
    intro ty tb hg hks hsz h
    obtain ⟨hg',kb,hkb,hrb⟩:=hh id tb hg
    obtain ⟨kk,h1,h2⟩:=AA h
    obtain ⟨h0,h3,rfl⟩:=Qx h1
    refine Gz h2 (y:=.rf id (lo + n.toNat) 0) rfl (by simp only[nevT,hx,hi]) ?_ fun _=>rfl
    simp only[nevM,hx,hi,hE.el,hE.ty,hkb]
    rw[if_pos ⟨by rw[hks kb hrb]; exact Nat.eq_of_beq_eq_true hsz,h0,h3⟩]
   split at h
   ·rename_i a b' ty l hg
    split at h
    ·rename_i hsz; exact key ty _ hg (fun kb hrb=>hrb.2.2.2.1) hsz h
    ·cases h
   ·rename_i a b' ty l hg
    split at h
    ·rename_i hsz; exact key ty _ hg (fun kb hrb=>hrb.2.2.2.1) hsz h
    ·cases h
   ·cases h
  ·cases h
 ·cases h
theorem WN {x:Operand} {k:Nat} (hr:RT hp tm m) (h:wtOp X (.extract x k) b tm hpm K=some z):Looks P R cf (.extract x k) b m hp hpm hvm K z:=by
 simp only[wtOp,Fb] at h
 have hx:=Au hr x
 split at h
 ·rename_i vs e1
  rw[e1] at hx
  obtain ⟨us,hx,hc⟩:=hx
  split at h
  ·rename_i v hv
   obtain ⟨y,hy,hry⟩:=hc.get hv
   exact Av h hry.to2 (by simp only[nevT,hx,hy]) fun _=>rfl
  ·cases h
 ·cases h
theorem Sl (hr:RT hp tm m):∀ {l:List Operand},(l.map (opT tm)).all okT=true→RC (RV0 hp) (l.map (opT tm)) (l.map (opnd m))∧(l.map (opnd m)).all okCell=true
 | [],_=>⟨trivial,rfl⟩
 | x::l,h=>by
  simp only[List.map_cons,List.all_cons,Bool.and_eq_true] at h
  obtain ⟨h1,h2⟩:=Sl hr h.2
  have hx:=Au hr x
  have hfl:flatT (opT tm x) = [opT tm x]:=by
   cases he:opT tm x with
   | agg cs=>rw[he] at h; simp[okT] at h
   | _=>rfl
  obtain ⟨f1,f2⟩:=El hx (by rw[hfl]; simpa using h.1)
  rw[hfl] at f1
  have hfv:flat (opnd m x) = [opnd m x]:=by
   cases he:opnd m x with
   | agg cs =>
    exfalso
    rw[he] at hx
    cases ho:opT tm x with
    | agg cs=>rw[ho] at h; simp[okT] at h
    | im t l=>rw[ho] at hx; rcases hx with ⟨_,hx⟩ | ⟨_,hx,_⟩ <;> cases hx
    | ow id=>rw[ho] at hx; obtain ⟨_,hx,_⟩:=hx; cases hx
    | ir t a c=>rw[ho] at hx; obtain ⟨_,hx,_⟩:=hx; cases hx
    | cl f cs=>rw[ho] at hx; obtain ⟨_,hx,_⟩:=hx; cases hx
    | tup cs=>rw[ho] at h; simp[okT] at h
    | any=>rw[ho] at h; simp[okT] at h
    | int k n=>rw[ho] at hx; cases hx
    | bool k=>rw[ho] at hx; cases hx
    | str k=>rw[ho] at hx; cases hx
    | sc k=>rw[ho] at hx; cases hx
    | em=>rw[ho] at hx; cases hx
    | er e=>rw[ho] at hx; cases hx
    | ar a b c=>rw[ho] at hx; cases hx
    | rf a b c=>rw[ho] at hx; cases hx
   | _=>rfl
  rw[hfv] at f1 f2
  simp only[List.map_cons,List.all_cons,List.all_nil,Bool.and_true,Bool.and_eq_true] at f2 ⊢
  exact ⟨⟨f1.1,h1⟩,f2,h2⟩
theorem Ae5 {f:FuncId} {first caps:Array Operand} (hr:RT hp tm m) (h:wtOp X (.makeFunc (.func f) first caps) b tm hpm K=some z):Looks P R cf (.makeFunc (.func f) first caps) b m hp hpm hvm K z:=by
 simp only[wtOp] at h
 split at h
 ·rename_i hc
  simp only[Bool.and_eq_true] at hc
  obtain ⟨h1,h2⟩:=Sl hr hc.2
  exact Av h (y:=.cl f (caps.toList.map (opnd m))) ⟨_,rfl,h1⟩ (by simp only[nevT,hc.1,h2,Bool.and_self,if_true]) fun _=>rfl
 ·cases h
theorem Ag9 {args:Array Operand} {ts:Array TypeId} (hX:XOK P X) (hr:RT hp tm m) (hh:RHm hpm hp hvm) (h:wtOp X (.call { callee:=.builtin .len,args:=args,argTypes:=ts }) b tm hpm K=some z) :
  Looks P R cf (.call { callee:=.builtin .len,args:=args,argTypes:=ts }) b m hp hpm hvm K z:=by
 simp only[wtOp] at h
 split at h
 ·rename_i x t hx0 ht0
  have hx:=Au hr x
  have fin:∀ n:Int,K (.int .i64 n) hpm .T=some z→nevT P (.call { callee:=.builtin .len,args:=args,argTypes:=ts }) (opnd m)=some (.v (.int .i64 n))→Looks P R cf (.call { callee:=.builtin .len,args:=args,argTypes:=ts }) b m hp hpm hvm K z :=
   fun n h hn=>Av h (y:=.v (.int .i64 n)) rfl hn fun _=>rfl
  unfold tLen at h
  split at h
  ·rename_i s e1
   rw[e1] at hx
   have hx:=Lx hx
   split at h
   ·rename_i hc
    simp only[Bool.and_eq_true,Bool.not_eq_true'] at hc
    refine fin _ h ?_
    have h1:=strX hX hc.1
    have h2:isSl P t=false:=by
     cases hs:isSl P t with
     | false=>rfl
     | true =>
      have h3:=hc.2
      have h4:=hc.1
      unfold isSlX at h3
      unfold isStrX at h4
      unfold isSl at hs
      split at h4
      ·rename_i d hd
       simp only[hd] at h3
       rw[hX.ty t d hd] at hs
       simp only at hs
       rw[h3] at hs
       cases hs
      ·cases h4
    simp only[nevT,hx0,ht0,h1,h2,hx]
    simp[ByteArray.size]
   ·cases h
  ·rename_i hns
   split at h
   ·rename_i hc
    have h1:=slX hX hc
    split at h
    ·rename_i e1
     rw[e1] at hx
     have hx:opnd m x = .em:=hx
     exact fin _ h (by simp only[nevT,hx0,ht0,h1,hx])
    ·rename_i ty l e1
     rw[e1] at hx
     rcases hx with ⟨rfl,hx⟩ | ⟨rows,hx,hrl⟩
     ·exact fin _ h (by simp only[nevT,hx0,ht0,h1,hx]; rfl)
     ·exact fin _ h (by simp only[nevT,hx0,ht0,h1,hx,hrl.1])
    ·rename_i id e1
     rw[e1] at hx
     obtain ⟨n,hx,hlen⟩:=hx
     split at h
     ·rename_i a b' ty l hg
      have:=hlen _ (hh id _ hg).1
      cases this
      exact fin _ h (by simp only[nevT,hx0,ht0,h1,hx])
     ·rename_i a b' ty l hg
      have:=hlen _ (hh id _ hg).1
      cases this
      exact fin _ h (by simp only[nevT,hx0,ht0,h1,hx])
     ·cases h
    ·rename_i id lo n e1
     rw[e1] at hx
     have hx:opnd m x = .ar id lo n:=hx
     exact fin _ h (by simp only[nevT,hx0,ht0,h1,hx])
    ·cases h
   ·cases h
 ·cases h
theorem H6:∀ {xs:List SV} {us:List V} {k:IntKind} {ns:List Int},allInts xs=some (k,ns)→RC (RV2 hp) xs us→toVals us=some (ns.map fun n=>.int k n)∧ns≠[]
 | [],us,k,ns,h,_=>by simp[allInts] at h
 | [x],us,k,ns,h,hc=>by
  cases x <;> simp[allInts] at h
  obtain ⟨rfl,rfl⟩:=h
  cases us with
  | nil=>exact hc.elim
  | cons u us =>
   cases us with
   | nil=>have:u=_:=hc.1; subst this; exact ⟨rfl,by simp⟩
   | cons a l=>exact hc.2.elim
 | x::y::l,us,k,ns,h,hc=>by
  cases x <;> simp[allInts] at h
  split at h
  ·rename_i k' ns' hr
   split at h
   ·rename_i hk
    simp only[Option.some.injEq,Prod.mk.injEq] at h
    obtain ⟨rfl,rfl⟩:=h
    subst hk
    cases us with
    | nil=>exact hc.elim
    | cons u us =>
     have:u=_:=hc.1
     subst this
     obtain ⟨h1,_⟩:=H6 hr hc.2
     exact ⟨by simp[toVals,h1],by simp⟩
   ·cases h
  ·cases h
theorem EB (hr:RT hp tm m):∀ (l:List Operand),RC (RV2 hp) (l.map (opT tm)) (l.map (opnd m))
 | []=>trivial
 | x::l=>⟨Au hr x,EB hr l⟩
theorem TD {k:IntKind}:∀ (l:List Int) (x:Int),pureRun P ((l.map fun n=>Value.int k n).foldlM Builtin.min2 (.int k x))=some (.int k (l.foldl (fun a b=>if b<a then b else a) x))
 | [],x=>rfl
 | y::l,x=>by
  simp only[List.map_cons,List.foldlM_cons,List.foldl_cons]
  exact TD l (if y<x then y else x)
theorem R3 {k:IntKind}:∀ (l:List Int) (x:Int),pureRun P ((l.map fun n=>Value.int k n).foldlM Builtin.max2 (.int k x))=some (.int k (l.foldl (fun a b=>if b>a then b else a) x))
 | [],x=>rfl
 | y::l,x=>by
  simp only[List.map_cons,List.foldlM_cons,List.foldl_cons]
  exact R3 l (if y>x then y else x)
theorem Ag4 {args:Array Operand} {ts:Array TypeId} (hr:RT hp tm m) (h:wtOp X (.call { callee:=.builtin .min,args:=args,argTypes:=ts }) b tm hpm K=some z) :
  Looks P R cf (.call { callee:=.builtin .min,args:=args,argTypes:=ts }) b m hp hpm hvm K z:=by
 simp only[wtOp,tMinMax] at h
 split at h
 ·rename_i k ns hi
  obtain ⟨h1,h2⟩:=H6 hi (EB hr _)
  simp only[Bool.false_eq_true,if_false] at h
  refine Av h (y:=.v (.int k (minL ns))) rfl ?_ fun _=>rfl
  simp only[nevT,h1]
  cases ns with
  | nil=>exact absurd rfl h2
  | cons x l =>
   show ((pureRun P ((l.map fun n=>Value.int k n).foldlM Builtin.min2 (.int k x))).bind ofScalar)=_
   rw[TD]; rfl
 ·cases h
theorem Ag0 {args:Array Operand} {ts:Array TypeId} (hr:RT hp tm m) (h:wtOp X (.call { callee:=.builtin .max,args:=args,argTypes:=ts }) b tm hpm K=some z) :
  Looks P R cf (.call { callee:=.builtin .max,args:=args,argTypes:=ts }) b m hp hpm hvm K z:=by
 simp only[wtOp,tMinMax] at h
 split at h
 ·rename_i k ns hi
  obtain ⟨h1,h2⟩:=H6 hi (EB hr _)
  simp only[if_true] at h
  refine Av h (y:=.v (.int k (maxL ns))) rfl ?_ fun _=>rfl
  simp only[nevT,h1]
  cases ns with
  | nil=>exact absurd rfl h2
  | cons x l =>
   show ((pureRun P ((l.map fun n=>Value.int k n).foldlM Builtin.max2 (.int k x))).bind ofScalar)=_
   rw[R3]; rfl
 ·cases h
theorem Fq:∀ {t:Ty} {a:t.den} {row:List V},flatTy t=true→RE t a row→row.all scalarV=true
 | .int _,_,_,_,h=>by simp only[RE] at h; subst h; rfl
 | .bool,_,_,_,h=>by simp only[RE] at h; subst h; rfl
 | .str,_,_,_,h=>by simp only[RE] at h; subst h; rfl
 | .pair a b,x,_,hf,h=>by
  obtain ⟨r1,r2,rfl,h1,h2⟩:=h
  simp only[flatTy,Bool.and_eq_true] at hf
  simp[List.all_append,Fq hf.1 h1,Fq hf.2 h2]
 | .sl e,l,_,hf,_=>by cases hf
theorem ZX {p:V→Bool} {cs l:List V} {off n:Nat} (h:seg cs off n=some l) (ha:cs.all p=true):l.all p=true:=by
 unfold seg at h
 split at h
 ·cases h
  exact List.all_eq_true.2 fun x hx=>List.all_eq_true.1 ha x (List.mem_of_mem_drop (List.mem_of_mem_take hx))
 ·cases h
theorem S3 {β:Type} {t:TypeId} {v:SV} {y:V} {KS:SV→Option β} {z : β} (hX:XOK P X) (hv:RV2 hp v y) (hh:RHm hpm hp hvm) (h:tLoad X t v hpm KS=some z) :
  ∃ x u,KS x=some z∧RV2 hp x u∧∀ (ρ:Operand→V) (a:Operand) (b:Nat),ρ a=y→nevM P (.load t a) ρ hvm b=some (u,[]):=by
 unfold tLoad at h
 split at h
 ·rename_i d ty a c hd
  obtain ⟨row,rfl,hre⟩:=hv
  obtain ⟨l,x,h1,h2,h3⟩:=JY h
  obtain ⟨vs,h4,h5⟩:=RC.seg (hp:=hp) h1 hre.cells
  obtain ⟨u,h6,h7⟩:=MZ h2 h5
  exact ⟨x,u,h3,h7,fun ρ a b he=>by simp only[nevM,hX.ty t d hd,he,h4,Option.bind_some,h6]⟩
 ·rename_i d id r c hd
  have hy:y = .rf id r c:=hv
  subst hy
  have arr:∀ (ty:Ty) (l:List ty.den) (tb:TB),getB hpm id=some tb→(∀ kb,RB hp tb kb→RLx (RE ty) l kb.rows∧(flatTy ty=true∨kb.deep=false))→((l[r]?).bind fun a=>tMk d.agg (segT (encT ty a) c d.size) KS)=some z →
    ∃ x u,KS x=some z∧RV2 hp x u∧∀ (ρ:Operand→V) (a:Operand) (b:Nat),ρ a = .rf id r c→nevM P (.load t a) ρ hvm b=some (u,[]):=by
   intro ty l tb hg hks h
   obtain ⟨hg',kb,hkb,hrb⟩:=hh id tb hg
   obtain ⟨q1,q2⟩:=hks kb hrb
   obtain ⟨a,h0,h⟩:=AA h
   obtain ⟨row,hrow,hre⟩:=q1.get h0
   obtain ⟨l',x,h1,h2,h3⟩:=JY h
   obtain ⟨vs,h4,h5⟩:=RC.seg (hp:=hp) h1 hre.cells
   obtain ⟨u,h6,h7⟩:=MZ h2 h5
   have hcond:(decide (kb.kind = .box) || !kb.deep || vs.all scalarV)=true:=by
    rcases q2 with hf | hd
    ·simp[ZX h4 (Fq hf hre)]
    ·simp[hd]
   exact ⟨x,u,h3,h7,fun ρ a b he=>by simp only[nevM,hX.ty t d hd,he,hkb,hrow,h4,hcond,if_true,h6]⟩
  split at h
  ·rename_i ty cs hg
   split at h
   ·rename_i hr0
    obtain ⟨hg',kb,hkb,hrb⟩:=hh id _ hg
    obtain ⟨hk1,hk2,row,hk3,hk4,hk5⟩:=hrb
    obtain ⟨l,x,h1,h2,h3⟩:=JY h
    obtain ⟨vs,h4,h5⟩:=RC.seg h1 hk5
    obtain ⟨u,h6,h7⟩:=MZ h2 h5
    refine ⟨x,u,h3,h7,fun ρ a b he=>?_⟩
    simp only[nevM,hX.ty t d hd,he,hkb,hk3,List.getElem?_cons_zero,h4,hk1,decide_true,Bool.true_or,if_true,h6]
   ·cases h
  ·rename_i ty deep ty' l hg
   split at h
   ·rename_i hc
    refine arr ty' l _ hg (fun kb hrb=>⟨hrb.2.2.2.2,?_⟩) h
    simp only[Bool.or_eq_true,Bool.not_eq_true'] at hc
    rcases hc with hc | hc
    ·right; rw[hrb.2.2.1]; exact hc
    ·left; exact hc
   ·cases h
  ·rename_i ty deep ty' l hg
   split at h
   ·rename_i hc
    exact arr ty' l _ hg (fun kb hrb=>⟨hrb.2.2.2.2,.inl hc⟩) h
   ·cases h
  ·cases h
 ·cases h
theorem Zi {t:TypeId} {a:Operand} (hX:XOK P X) (hr:RT hp tm m) (hh:RHm hpm hp hvm) (h:wtOp X (.load t a) b tm hpm K=some z):Looks P R cf (.load t a) b m hp hpm hvm K z:=by
 simp only[wtOp] at h
 obtain ⟨x,u,h1,h2,h3⟩:=S3 hX (Au hr a) hh h
 exact Gz h1 h2 rfl (h3 _ _ _ rfl) fun _=>rfl
end
end
section
open Go
section
variable {α:Type} {P:Program} {R:Rel} {cf:Cfg} {X:TX} {b:Nat} {tm:TTm} {m:Tm} {hp hpm:THp} {hv hvm:Hp} {K:SV→THp→Cls→Option α} {z : α}
theorem J6 (hr:RT hp tm m) {x:Option Operand} {d:Nat} {n:Int} (h:tBnd tm x (d:Int)=some n) (h0 : 0≤n):bnd (opnd m) x d=some n.toNat:=by
 cases x with
 | none=>simp only[tBnd,Option.some.injEq] at h; subst h; simp[bnd]
 | some x =>
  simp only[tBnd] at h
  have hx:=Au hr x
  unfold intOf' at h
  split at h
  ·rename_i k n' e1
   cases h
   rw[e1] at hx
   have hx:=EQ hx
   simp only[bnd,hx,if_pos h0]
  ·cases h
theorem KD {β:Type} {lo hi:Option Operand} {len:Nat} {KS:Nat→Nat→Option β} {z : β} (hr:RT hp tm m) (h:tSub tm lo hi len KS=some z) :
  ∃ l r,KS l r=some z∧bnd (opnd m) lo 0=some l∧bnd (opnd m) hi len=some r∧l≤r∧r≤len:=by
 have main:(match tBnd tm lo 0,tBnd tm hi (len:Int) with | some l,some h=>(subI l h len).bind fun p=>KS p.1 p.2 | _,_=>none)=some z→∃ l r,KS l r=some z∧bnd (opnd m) lo 0=some l∧bnd (opnd m) hi len=some r∧l≤r∧r≤len:=by
  intro h
  split at h
  ·rename_i l r e1 e2
   obtain ⟨p,h1,h2⟩:=AA h
   unfold subI at h1
   split at h1
   ·rename_i hc
    cases h1
    exact ⟨l.toNat,r.toNat,h2,J6 hr (d:=0) e1 hc.1,J6 hr e2 (by omega),by omega,by omega⟩
   ·cases h1
  ·cases h
 unfold tSub at h
 cases lo with
 | none =>
  cases hi with
  | none=>exact ⟨0,len,h,rfl,rfl,Nat.zero_le _,Nat.le_refl _⟩
  | some y=>exact main h
 | some x=>exact main h
theorem Ad7 {t e:TypeId} (h:(tyOf P t).bind (·.elem)=some e):isStr P t=false:=by
 cases hs:isStr P t with
 | false=>rfl
 | true =>
  have h1:=AI h
  have h2:=B3 hs
  rw[h1] at h2
  cases h2
theorem Wd {t:TypeId} {x:Operand} {lo hi:Option Operand} (hX:XOK P X) (hr:RT hp tm m) (hh:RHm hpm hp hvm) (h:wtOp X (.slice t x lo hi none) b tm hpm K=some z) :
  Looks P R cf (.slice t x lo hi none) b m hp hpm hvm K z:=by
 simp only[wtOp,tSlice] at h
 have hx:=Au hr x
 split at h
 ·rename_i s e1
  rw[e1] at hx
  have hx:=Lx hx
  split at h
  ·rename_i hs
   have hs':isStr P t=true:=strX hX hs
   obtain ⟨l,r,h1,h2,h3,h4,h5⟩:=KD hr h
   have hsz:(ByteArray.mk s.toArray).size=s.length:=by simp[ByteArray.size]
   refine ⟨_,.v (.string ⟨((s.take r).drop l).toArray⟩),.M,h1,rfl,fun KV hk=>?_⟩
   show (if isStr P t then caseO (nevT P (.slice t x lo hi none) (opnd m)) fun z=>KV z hvm .M else _)
   rw[if_pos hs']
   have:nevT P (.slice t x lo hi none) (opnd m)=some (.v (.string ⟨((s.take r).drop l).toArray⟩)):=by
    simp only[nevT,hs',hx,h2,hsz,h3]
    rw[if_pos ⟨h4,h5⟩]
    congr 3
    apply ByteArray.ext
    simp[List.drop_take]
   rw[this]
   exact hk
  ·cases h
 ·rename_i hns
  split at h
  ·rename_i e de c he
   have hE:=Im hX he
   have hs':=Ad7 hE.el
   have fin:∀ (v:SV) (y:V),K v hpm .M=some z→RV2 hp v y→(∀ KV:Cont,KV y hvm .M→weSlice P t (opnd m x) lo hi (opnd m) hvm KV)→Looks P R cf (.slice t x lo hi none) b m hp hpm hvm K z:=by
    intro v y h hv hw
    refine ⟨v,y,.M,h,hv,fun KV hk=>?_⟩
    show (if isStr P t then _ else weSlice P t (opnd m x) lo hi (opnd m) hvm KV)
    rw[if_neg (by rw[hs']; simp)]
    exact hw KV hk
   split at h
   ·rename_i e1
    rw[e1] at hx
    have hx:opnd m x = .em:=hx
    obtain ⟨l,r,h1,h2,h3,h4,h5⟩:=KD hr h
    refine fin _ .em h1 rfl fun KV hk=>?_
    simp only[weSlice,hE.el,hE.ty,Af,hx,h2,h3]
    exact ⟨by omega,by omega,hk⟩
   ·rename_i ty l0 e1
    rw[e1] at hx
    split at h
    ·rename_i hsz
     have hsz:=Nat.eq_of_beq_eq_true hsz
     obtain ⟨l,r,h1,h2,h3,h4,h5⟩:=KD hr h
     rcases hx with ⟨rfl,hx⟩ | ⟨rows,hx,hrl⟩
     ·refine fin _ .em h1 (.inl ⟨by simp,rfl⟩) fun KV hk=>?_
      simp only[List.length_nil] at h3 h5
      simp only[weSlice,hE.el,hE.ty,Af,hx,h2,h3]
      exact ⟨by omega,by omega,hk⟩
     ·refine fin _ (.im ((rows.take r).drop l)) h1 (.inr ⟨_,rfl,(hrl.take r).drop l⟩) fun KV hk=>?_
      simp only[weSlice,hE.el,hE.ty,Af,hx,h2,hrl.1,h3]
      refine ⟨h4,h5,fun row hrow=>?_,hk⟩
      obtain ⟨i,hi⟩:=List.getElem?_of_mem hrow
      obtain ⟨a,_,hre⟩:=hrl.get' hi
      rw[hre.len]; exact hsz
    ·cases h
   ·rename_i id e1
    rw[e1] at hx
    obtain ⟨len,hx,hlen⟩:=hx
    have key:∀ (ty:Ty) (l0:List ty.den) (tb:TB),getB hpm id=some tb→blen tb=some l0.length→(∀ kb,RB hp tb kb→kb.size=ty.size)→(Nat.beq ty.size de.size=true) →
      tSubW tm lo hi l0.length (K (.ow id) hpm .M) (fun l h=>K (.ar id l (h-l)) hpm .M)=some z→Looks P R cf (.slice t x lo hi none) b m hp hpm hvm K z:=by
     intro ty l0 tb hg hbl hks hsz h
     obtain ⟨hg',kb,hkb,hrb⟩:=hh id tb hg
     have hl:=hlen tb hg'
     rw[hbl] at hl
     cases hl
     have hsz:kb.size=de.size:=by rw[hks kb hrb]; exact Nat.eq_of_beq_eq_true hsz
     have gen:(tSub tm lo hi l0.length fun l h=>K (.ar id l (h-l)) hpm .M)=some z→Looks P R cf (.slice t x lo hi none) b m hp hpm hvm K z:=by
      intro h
      obtain ⟨l,r,h1,h2,h3,h4,h5⟩:=KD hr h
      refine fin _ (.ar id (0 + l) (r-l)) h1 (by rw[Nat.zero_add]; rfl) fun KV hk=>?_
      simp only[weSlice,hE.el,hE.ty,Af,hx,h2,h3,hkb]
      exact ⟨h4,h5,hsz,hk⟩
     cases lo with
     | none =>
      cases hi with
      | none =>
       refine fin _ (.ar id (0 + 0) (l0.length-0)) h ⟨l0.length,by simp,hlen⟩ fun KV hk=>?_
       simp only[weSlice,hE.el,hE.ty,Af,hx,bnd,hkb]
       exact ⟨Nat.zero_le _,Nat.le_refl _,hsz,hk⟩
      | some y=>exact gen h
     | some y=>exact gen h
    split at h
    ·rename_i a b' ty l hg
     split at h
     ·rename_i hsz; exact key ty l _ hg rfl (fun kb hrb=>hrb.2.2.2.1) hsz h
     ·cases h
    ·rename_i a b' ty l hg
     split at h
     ·rename_i hsz; exact key ty l _ hg rfl (fun kb hrb=>hrb.2.2.2.1) hsz h
     ·cases h
    ·cases h
   ·rename_i id l1 n e1
    rw[e1] at hx
    have hx:opnd m x = .ar id l1 n:=hx
    have key:∀ (ty:Ty) (tb:TB),getB hpm id=some tb→(∀ kb,RB hp tb kb→kb.size=ty.size)→(Nat.beq ty.size de.size=true) →
      (tSub tm lo hi n fun l h=>K (.ar id (l1 + l) (h-l)) hpm .M)=some z→Looks P R cf (.slice t x lo hi none) b m hp hpm hvm K z:=by
     intro ty tb hg hks hsz h
     obtain ⟨hg',kb,hkb,hrb⟩:=hh id tb hg
     have hsz:kb.size=de.size:=by rw[hks kb hrb]; exact Nat.eq_of_beq_eq_true hsz
     obtain ⟨l,r,h1,h2,h3,h4,h5⟩:=KD hr h
     refine fin _ (.ar id (l1 + l) (r-l)) h1 rfl fun KV hk=>?_
     simp only[weSlice,hE.el,hE.ty,Af,hx,h2,h3,hkb]
     exact ⟨h4,h5,hsz,hk⟩
    split at h
    ·rename_i a b' ty l hg
     split at h
     ·rename_i hsz; exact key ty _ hg (fun kb hrb=>hrb.2.2.2.1) hsz h
     ·cases h
    ·rename_i a b' ty l hg
     split at h
     ·rename_i hsz; exact key ty _ hg (fun kb hrb=>hrb.2.2.2.1) hsz h
     ·cases h
    ·cases h
   ·cases h
  ·cases h
theorem TH {t:TypeId} {x hi mx:Operand} {lo:Option Operand} (hX:XOK P X) (hr:RT hp tm m) (h:wtOp X (.slice t x lo (some hi) (some mx)) b tm hpm K=some z) :
  Looks P R cf (.slice t x lo (some hi) (some mx)) b m hp hpm hvm K z:=by
 simp only[wtOp] at h
 have hx:=Au hr x
 split at h
 ·rename_i e de c ty l he e1
  rw[e1] at hx
  have hE:=Im hX he
  split at h
  ·rename_i l0 h0 m0 q1 q2 q3
   obtain ⟨hc,h⟩:=Bd h
   have hc:=of_decide_eq_true hc
   obtain ⟨rfl,rfl,rfl⟩:=hc
   have b1:=J6 hr (d:=0) q1 (by omega)
   have b2:=J6 hr (d:=0) q2 (by omega)
   have b3:=J6 hr (d:=0) q3 (by omega)
   have hel:((tyOf P t).bind (·.elem)).bind (tyOf P)=some de:=by rw[hE.el]; exact hE.ty
   refine Av h (y:=.em) rfl ?_ fun _=>rfl
   rcases hx with ⟨rfl,hx⟩ | ⟨rows,hx,hrl⟩
   ·simp only[nevT,hel,hx,b1,b2,b3]; rfl
   ·simp only[nevT,hel,hx,b1,b2,b3]
    rw[if_pos (by simp)]
  ·cases h
 ·cases h
theorem bytesX {t:TypeId} (hX:XOK P X) (h:isBytesX X t=true):isBytes P t=true:=by
 unfold isBytesX at h
 split at h
 ·rename_i d hd
  split at h
  ·rename_i e he
   split at h
   ·rename_i de hde
    have:(tyOf P t).bind (·.elem)=some e:=by rw[hX.ty t d hd]; exact he
    simp only[isBytes,this,hX.ty e de hde]; exact h
   ·cases h
  ·cases h
 ·cases h
theorem NO:∀ {l:List Int} {rows:List (List V)},RLx (RE (.int .u8)) l rows→bytesOfRows rows=some (strOf l)
 | [],rows,h=>by rw[h.of_nil]; rfl
 | n::l,rows,h=>by
  cases rows with
  | nil=>have:=h.1; simp at this
  | cons r rows =>
   have hr:RE (.int .u8) n r:=h.2 0 n r rfl rfl
   have hrest:RLx (RE (.int .u8)) l rows:=⟨by have:=h.1; simpa using this,fun i a q h1 h2=>h.2 (i + 1) a q (by simpa using h1) (by simpa using h2)⟩
   simp only[RE] at hr
   subst hr
   simp only[bytesOfRows,byteOfRow,NO hrest,strOf,List.map_cons]
theorem Z1 (s:Str):RLx (RE (.int .u8)) (numsOf s) (u8rows ⟨s.toArray⟩):=by
 refine ⟨by simp[u8rows,numsOf],fun i a r h1 h2=>?_⟩
 simp only[u8rows,numsOf,List.getElem?_map,Option.map_eq_some_iff] at h1 h2
 obtain ⟨c,hc,rfl⟩:=h1
 obtain ⟨c',hc',rfl⟩:=h2
 have:c'=c:=by
  have h3:s[i]? = some c':=by simpa using hc'
  rw[hc] at h3
  exact (Option.some.inj h3).symm
 subst this
 rfl
theorem X1 {s d:TypeId} {ds dd:TyD} {k k0:IntKind} {n:Int} (h1:tyOf P s=some ds) (h2:tyOf P d=some dd) (h3:dd.int=some k):(pureRun P (Go.convert s d (.int k0 n))).bind ofScalar=some (.v (.int k (k.wrap n))):=by
 obtain ⟨i,u,z,hi,hu,_⟩:=AN h1
 obtain ⟨i',u',z',hi',hu',_,_,_,_,rfl⟩:=AN h2
 have hud:u' = .int k:=by cases u' <;> simp[intD] at h3; rw[h3]
 subst hud
 unfold Go.convert
 rw[Ch hu,Ch hu']
 cases u <;> rfl
theorem XO {s d:TypeId} {x:ByteArray} (h1:isStr P s=true) (h2:isStr P d=true):(pureRun P (Go.convert s d (.string x))).bind ofScalar=some (.v (.string x)):=by
 unfold Go.convert
 rw[Ch (B3 h1),Ch (B3 h2)]
 rfl
theorem Vj {s d:TypeId} {x:ByteArray} (h1:isStr P s=true) (h2:isBytes P d=true):(pureRun P (Go.convert s d (.string x))).bind ofScalar=none:=by
 obtain ⟨e,h3,h4⟩:=Lc h2
 unfold Go.convert
 rw[Ch (B3 h1),Ch h3]
 show (pureRun P (underlying e >>= _)).bind ofScalar=none
 rw[Ch h4]
 rfl
theorem OG {e:Ty} {x:SV} {l:List e.den} {y:V} (h:asLh hpm e x=some l) (hv:RV0 hp x y) (hh:RHm hpm hp hvm) :
  (l = []∧y = .em)∨(∃ rows,y = .im rows∧RLx (RE e) l rows)∨∃ id lo n kb,y = .ar id lo n∧hvm id=some kb∧kb.kind≠.box∧RLx (RE e) l ((kb.rows.take (lo + n)).drop lo):=by
 unfold asLh at h
 split at h
 ·rename_i id
  obtain ⟨n,rfl,hlen⟩:=hv
  have key:∀ (t:Ty) (l0:List t.den) (tb:TB),getB hpm id=some tb→blen tb=some l0.length→(∀ kb,RB hp tb kb→kb.kind≠.box∧RLx (RE t) l0 kb.rows)→(if h:t=e then some (castL h l0) else none)=some l →
    (l = []∧V.ar id 0 n = .em)∨(∃ rows,V.ar id 0 n = .im rows∧RLx (RE e) l rows)∨∃ id' lo n' kb,V.ar id 0 n = .ar id' lo n'∧hvm id'=some kb∧kb.kind≠.box∧RLx (RE e) l ((kb.rows.take (lo + n')).drop lo):=by
   intro t l0 tb hg hbl hks h
   obtain ⟨hg',kb,hkb,hrb⟩:=hh id tb hg
   have hl:=hlen tb hg'
   rw[hbl] at hl
   cases hl
   obtain ⟨q1,q2⟩:=hks kb hrb
   split at h
   ·rename_i he
    cases h
    refine .inr (.inr ⟨id,0,l0.length,kb,rfl,hkb,q1,?_⟩)
    have:(kb.rows.take (0 + l0.length)).drop 0=kb.rows:=by rw[Nat.zero_add,←q2.1]; simp
    rw[this]
    exact CL he q2
   ·cases h
  split at h
  ·rename_i a b' t l0 hg; exact key t l0 _ hg rfl (fun kb hrb=>⟨by rw[hrb.1]; simp,hrb.2.2.2.2⟩) h
  ·rename_i a b' t l0 hg; exact key t l0 _ hg rfl (fun kb hrb=>⟨by rw[hrb.1]; simp,hrb.2.2.2.2⟩) h
  ·cases h
 ·rename_i id lo n
  have hv:y = .ar id lo n:=hv
  subst hv
  have key:∀ (t:Ty) (l0:List t.den) (tb:TB),getB hpm id=some tb→(∀ kb,RB hp tb kb→kb.kind≠.box∧RLx (RE t) l0 kb.rows)→(if h:t=e then some (((castL h l0).take (lo + n)).drop lo) else none)=some l →
    (l = []∧V.ar id lo n = .em)∨(∃ rows,V.ar id lo n = .im rows∧RLx (RE e) l rows)∨∃ id' lo' n' kb,V.ar id lo n = .ar id' lo' n'∧hvm id'=some kb∧kb.kind≠.box∧RLx (RE e) l ((kb.rows.take (lo' + n')).drop lo'):=by
   intro t l0 tb hg hks h
   obtain ⟨hg',kb,hkb,hrb⟩:=hh id tb hg
   obtain ⟨q1,q2⟩:=hks kb hrb
   split at h
   ·rename_i he
    cases h
    exact .inr (.inr ⟨id,lo,n,kb,rfl,hkb,q1,((CL he q2).take _).drop _⟩)
   ·cases h
  split at h
  ·rename_i a b' t l0 hg; exact key t l0 _ hg (fun kb hrb=>⟨by rw[hrb.1]; simp,hrb.2.2.2.2⟩) h
  ·rename_i a b' t l0 hg; exact key t l0 _ hg (fun kb hrb=>⟨by rw[hrb.1]; simp,hrb.2.2.2.2⟩) h
  ·cases h
 ·rcases Rz h hv with h1 | h1
  ·exact .inl h1
  ·exact .inr (.inl h1)
theorem PS {e:Ty} {x:SV} {l:List e.den} {y:V} (h:asLh hpm e x=some l) (hv:RV2 hp x y):RV0 hp x y:=by
 cases x with
 | agg cs=>simp[asLh,asL] at h
 | tup cs=>simp[asLh,asL] at h
 | cl f cs=>simp[asLh,asL] at h
 | _=>exact hv
theorem YZ {s d:TypeId} {x:Operand} (hX:XOK P X) (hr:RT hp tm m) (hh:RHm hpm hp hvm) (h:wtOp X (.convert s d x) b tm hpm K=some z):Looks P R cf (.convert s d x) b m hp hpm hvm K z:=by
 simp only[wtOp,tConv] at h
 have hx:=Au hr x
 split at h
 ·rename_i k n e1
  rw[e1] at hx
  have hx:=EQ hx
  split at h
  ·rename_i ds dd h1 h2
   split at h
   ·rename_i k' h3
    exact Av h (y:=.v (.int k' (k'.wrap n))) rfl (by simp only[nevT,hx]; exact X1 (hX.ty _ _ h1) (hX.ty _ _ h2) h3) fun _=>rfl
   ·cases h
  ·cases h
 ·rename_i v e1
  rw[e1] at hx
  have hx:=Lx hx
  split at h
  ·rename_i hs
   have hs:=strX hX hs
   split at h
   ·rename_i hd
    have hd:=bytesX hX hd
    obtain ⟨hc,h⟩:=Bd h
    have hc:=of_decide_eq_true hc
    refine Gz h (y:=.im (u8rows ⟨v.toArray⟩)) (.inr ⟨_,rfl,Z1 v⟩) (by simp only[nevT,hx]; exact Vj hs hd) ?_ fun _=>rfl
    simp only[nevM,hx,hs,hd,Bool.true_and]
    have:(ByteArray.mk v.toArray).size≤maxBytes:=by simpa[ByteArray.size] using hc
    rw[if_pos (by simpa using this)]
   ·split at h
    ·rename_i hd
     have hd:=strX hX hd
     exact Av h (y:=.v (.string ⟨v.toArray⟩)) rfl (by simp only[nevT,hx]; exact XO hs hd) fun _=>rfl
    ·cases h
  ·cases h
 ·rename_i hn1 hn2
  split at h
  ·rename_i hc
   simp only[Bool.and_eq_true] at hc
   have h1:=bytesX hX hc.1
   have h2:=strX hX hc.2
   split at h
   ·rename_i l hl
    have hx0:=PS hl hx
    have hrel:=OG hl hx0 hh
    ·rcases hrel with ⟨rfl,hy⟩ | ⟨rows,hy,hrl⟩ | ⟨id,lo,n,kb,hy,hkb,hkk,hrl⟩
     ·refine Gz h (y:=.v (.string ⟨(strOf []).toArray⟩)) rfl (by simp only[nevT,hy]) ?_ fun _=>rfl
      simp only[nevM,hy,h1,h2,Bool.and_self,if_true]
      rfl
     ·refine Gz h (y:=.v (.string ⟨(strOf l).toArray⟩)) rfl (by simp only[nevT,hy]) ?_ fun _=>rfl
      simp only[nevM,hy,h1,h2,Bool.and_self,if_true,NO hrl]
     ·refine Gz h (y:=.v (.string ⟨(strOf l).toArray⟩)) rfl (by simp only[nevT,hy]) ?_ fun _=>rfl
      simp only[nevM,hy,hkb,h1,h2,Bool.and_self,NO hrl]
      rw[if_pos (by simpa using hkk)]
   ·cases h
  ·cases h
end
end
section
open Go
section
variable {α:Type} {P:Program} {R:Rel} {cf:Cfg} {X:TX} {b:Nat} {tm:TTm} {m:Tm} {hp hpm:THp} {hv hvm:Hp} {K:SV→THp→Cls→Option α} {z : α}
def Done (P:Program) (R:Rel) (cf:Cfg) (op:Op) (b:Nat) (tm:TTm) (m:Tm) (hv:Hp) (K:SV→THp→Cls→Option α) (z : α):Prop :=
 ∃ x hp' cls y hv',K x hp' cls=some z∧RV2 hp' x y∧RH hp' hv'∧RT hp' tm m∧∀ KV:Cont,KV y hv' cls→weOp P R cf op b (opnd m) hv KV
theorem Looks.done {op:Op} (h:Looks P R cf op b m hp hp hv K z) (hh:RH hp hv) (hr:RT hp tm m):Done P R cf op b tm m hv K z:=by
 obtain ⟨x,y,cls,h1,h2,h3⟩:=h
 exact ⟨x,hp,cls,y,hv,h1,h2,hh,hr,h3⟩
theorem KU {x:TB} {k:Blk} (hh:RH hp hv) (hr:RT hp tm m) (hf:∀ t,b ∉ ids2 (getV tm t)) (hb:∀ id y,getB hp id=some y→b ∉ idsB y) (hx:b ∉ idsB x) (hk:RB hp x k) :
  RH ((b,some x)::hp) (upd hv b (some k))∧RT ((b,some x)::hp) tm m :=
 ⟨hh.put (fun id hid=>FW fun he=>hx (he▸hid)) (fun id y _ hy i hi=>FW fun he=>hb id y hy (he▸hi)) hk,hr.keeps fun t id hid=>FW fun he=>hf t (he▸hid)⟩
theorem I2 {l:List Nat} (h:freshT tm hp b=true) {id:Nat} {k:TB} (hk:getB (killT hp l) id=some k):b ∉ idsB k:=Kd h (JP l hp id k hk).1
theorem TQ:∀ (l:List V),(l.map zeroT).flatMap ids0 = []
 | []=>rfl
 | x::l=>by
  rw[List.map_cons,List.flatMap_cons,TQ l]
  unfold zeroT
  split <;> rfl
theorem Z3 {t:TypeId} (hX:XOK P X) (hh:RH hp hv) (hr:RT hp tm m) (h:wtOp X (.alloc t) b tm hp K=some z):Done P R cf (.alloc t) b tm m hv K z:=by
 simp only[wtOp] at h
 split at h
 ·rename_i d hd
  split at h
  ·rename_i hf
   obtain ⟨h1,h2⟩:=KU (x:=.box t (d.zero.map zeroT)) (k:=boxOf t d.zero) hh hr (EF hf) (fun id y hy=>Kd hf hy) (by simp only[idsB]; rw[TQ]; simp) ⟨rfl,rfl,d.zero,rfl,rfl,J7 d.zero⟩
   refine ⟨_,_,_,.rf b 0 0,_,h,rfl,h1,h2,fun KV hk=>?_⟩
   show caseO (nevM P (.alloc t) (opnd m) hv b) (fun z=>z.2.length≤16∧KV z.1 (inst hv b z.2) .M)
   simp only[nevM,hX.ty t d hd,Af]
   exact ⟨by simp,hk⟩
  ·cases h
 ·cases h
theorem X0 {x:SV}:∀ id∈(flatT x).flatMap ids0,id∈ids2 x:=by
 intro id hid
 cases x with
 | agg cs=>exact hid
 | tup cs=>simp[flatT,ids0] at hid
 | cl f cs=>simp[flatT,ids0] at hid
 | ow id'=>simpa[flatT,ids0,ids1,ids2] using hid
 | _=>simp[flatT,ids0] at hid
theorem Xb (c:Value):ids2 (constT c) = []:=by
 have h0:∀ c,ids0 (cellT c) = []∧ids2 (cellT c) = []:=by
  intro c
  unfold cellT
  split <;> first | exact ⟨rfl,rfl⟩ | (split <;> exact ⟨rfl,rfl⟩)
 unfold constT
 split
 ·rename_i cs
  show (cs.toList.map cellT).flatMap ids0 = []
  rw[List.flatMap_eq_nil_iff]
  intro x hx
  obtain ⟨c,_,rfl⟩:=List.mem_map.1 hx
  exact (h0 c).1
 ·exact (h0 c).2
theorem Zh (h:freshT tm hp b=true) (x:Operand):b ∉ ids2 (opT tm x):=by
 cases x with
 | tmp t=>exact EF h t
 | const c=>simp only[opT,Xb]; simp
 | global g=>simp[opT,ids2,ids1,ids0]
 | func f=>simp[opT,ids2,ids1,ids0]
theorem Ah0 {t:TypeId} {x:Operand} (hX:XOK P X) (hh:RH hp hv) (hr:RT hp tm m) (h:wtOp X (.box t x) b tm hp K=some z):Done P R cf (.box t x) b tm m hv K z:=by
 simp only[wtOp] at h
 split at h
 ·rename_i d hd
  split at h
  ·rename_i hc
   simp only[Bool.and_eq_true] at hc
   obtain ⟨⟨c1,c2⟩,hf⟩:=hc
   obtain ⟨f1,f2⟩:=El (Au hr x) c2
   obtain ⟨h1,h2⟩:=KU (x:=.box t (flatT (opT tm x))) (k:=boxOf t (flat (opnd m x))) hh hr (EF hf) (fun id y hy=>Kd hf hy) (fun hi=>Zh hf x (X0 b hi)) ⟨rfl,rfl,_,rfl,rfl,f1⟩
   refine ⟨_,_,_,.rf b 0 0,_,h,rfl,h1,h2,fun KV hk=>?_⟩
   show caseO (nevM P (.box t x) (opnd m) hv b) (fun z=>z.2.length≤16∧KV z.1 (inst hv b z.2) .M)
   simp only[nevM,hX.ty t d hd]
   have hl:(flat (opnd m x)).length=d.size:=by have:=f1.length; have:=Nat.eq_of_beq_eq_true c1; omega
   rw[if_pos (by simp[hl,f2])]
   exact ⟨by simp,hk⟩
  ·cases h
 ·cases h
theorem PQ {n:Int} {bytes size k:Nat} (h:lenI n bytes size=some k) : 0≤n∧n.toNat*bytes≤maxBytes∧n.toNat*size≤maxBytes∧k=n.toNat:=by
 unfold lenI at h
 split at h
 ·rename_i hc; cases h; exact ⟨hc.1,hc.2.1,hc.2.2,rfl⟩
 ·cases h
theorem Ae1 {t:TypeId} {l c:Operand} (hX:XOK P X) (hh:RH hp hv) (hr:RT hp tm m) (h:wtOp X (.makeSlice t l c) b tm hp K=some z):Done P R cf (.makeSlice t l c) b tm m hv K z:=by
 simp only[wtOp,tMake] at h
 have hl:=Au hr l
 have hc:=Au hr c
 split at h
 ·rename_i e de ty k1 n k2 n2 he e1 e2
  rw[e1] at hl
  rw[e2] at hc
  have hl:=EQ hl
  have hc:=EQ hc
  have hE:=Im hX he
  split at h
  ·rename_i zz hz
   split at h
   ·rename_i hq
    simp only[Bool.and_eq_true] at hq
    obtain ⟨hf,hsc⟩:=hq
    have hre:RE ty zz de.zero:=Ok (hp:=hp) hz (J7 de.zero)
    have fin:∀ (kk:Nat),kk=n.toNat→0≤n→n≤n2→n2.toNat*de.bytes≤maxBytes→n2.toNat*de.size≤maxBytes→K (.ow b) ((b,some (.arr e true ty (List.replicate kk zz)))::hp) .M=some z→Done P R cf (.makeSlice t l c) b tm m hv K z:=by
     intro kk hkk h0 h1 h2 h3 hK
     obtain ⟨g1,g2⟩:=KU (x:=.arr e true ty (List.replicate kk zz)) (k:=arrOf e de.size true (List.replicate n.toNat de.zero)) hh hr (EF hf) (fun id y hy=>Kd hf hy) (by simp[idsB]) ⟨rfl,rfl,rfl,hE.size,by rw[hkk]; exact RLx.replicate hre _⟩
     refine ⟨_,_,_,.ar b 0 n.toNat,_,hK,⟨n.toNat,rfl,fun bb hb=>?_⟩,g1,g2,fun KV hk=>?_⟩
     ·rw[Al,if_pos rfl] at hb
      cases hb
      simp[blen,hkk]
     ·show caseO (nevM P (.makeSlice t l c) (opnd m) hv b) (fun z=>z.2.length≤16∧KV z.1 (inst hv b z.2) .M)
      simp only[nevM,hl,hc,hE.el,hE.ty]
      rw[if_pos ⟨h0,h1,h2,h3,hsc⟩]
      exact ⟨by simp,hk⟩
    cases hs:sameOp l c with
    | true =>
     rw[hs] at h
     obtain ⟨kk,h1,h2⟩:=AA (show ((lenI n2 de.bytes de.size).bind fun k=>K (.ow b) ((b,some (.arr e true ty (List.replicate k zz)))::hp) .M)=some z from h)
     obtain ⟨q1,q2,q3,q4⟩:=PQ h1
     have hn:n=n2:=by
      have:l=c:=by
       unfold sameOp at hs
       split at hs
       ·rw[Nat.eq_of_beq_eq_true hs]
       ·cases hs
      subst this
      rw[e1] at e2
      cases e2
      rfl
     subst hn
     exact fin kk q4 q1 (Int.le_refl _) q2 q3 h2
    | false =>
     rw[hs] at h
     obtain ⟨kk,h1,h2⟩:=AA (show ((lenI n2 de.bytes de.size).bind fun _=>cond (decide (0≤n)&&decide (n≤n2)) (K (.ow b) ((b,some (.arr e true ty (List.replicate n.toNat zz)))::hp) .M) none)=some z from h)
     obtain ⟨q1,q2,q3,q4⟩:=PQ h1
     obtain ⟨c1,h2⟩:=Bd h2
     simp only[Bool.and_eq_true,decide_eq_true_eq] at c1
     exact fin n.toNat rfl c1.1 c1.2 q2 q3 h2
   ·cases h
  ·cases h
 ·cases h
theorem SH {x x':SV} {y:V} {kills:List Nat} {deep:Bool} (hh:RH hp hv) (h:closeCT hp x=some (x',kills,deep)) (hx:RV0 hp x y) :
  ∃ y',closeCell hv y=some (y',kills,deep)∧RV0 hp x' y'∧ids0 x' = []:=by
 unfold closeCT at h
 split at h
 ·cases h; have:y=_:=hx; subst this; exact ⟨_,rfl,rfl,rfl⟩
 ·cases h; have:y=_:=hx; subst this; exact ⟨_,rfl,rfl,rfl⟩
 ·cases h; have:y=_:=hx; subst this; exact ⟨_,rfl,rfl,rfl⟩
 ·cases h; have:y=_:=hx; subst this; exact ⟨_,rfl,rfl,rfl⟩
 ·cases h; have:y=_:=hx; subst this; exact ⟨_,rfl,rfl,rfl⟩
 ·cases h
  rcases hx with ⟨rfl,rfl⟩ | ⟨rows,rfl,hr⟩
  ·exact ⟨.em,rfl,.inl ⟨rfl,rfl⟩,rfl⟩
  ·exact ⟨.im rows,rfl,.inr ⟨rows,rfl,hr⟩,rfl⟩
 ·rename_i id
  obtain ⟨n,rfl,hlen⟩:=hx
  split at h
  ·rename_i a dd t l hg
   cases h
   obtain ⟨k,hk,hrb⟩:=hh id _ hg
   have:=hlen _ hg
   cases this
   have hrows:(k.rows.take (0 + l.length)).drop 0=k.rows:=by rw[Nat.zero_add,←hrb.2.2.2.2.1]; simp
   refine ⟨.im k.rows,?_,.inr ⟨_,rfl,hrb.2.2.2.2⟩,rfl⟩
   simp only[closeCell,hk,hrb.1,hrows,hrb.2.2.1]
  ·rename_i a dd t l hg
   cases h
   obtain ⟨k,hk,hrb⟩:=hh id _ hg
   have:=hlen _ hg
   cases this
   have hrows:(k.rows.take (0 + l.length)).drop 0=k.rows:=by rw[Nat.zero_add,←hrb.2.2.2.2.1]; simp
   refine ⟨.im k.rows,?_,.inr ⟨_,rfl,hrb.2.2.2.2⟩,rfl⟩
   simp only[closeCell,hk,hrb.1,hrows]
  ·cases h
 ·rename_i id lo n
  have:y=_:=hx
  subst this
  split at h
  ·rename_i a dd t l hg
   cases h
   obtain ⟨k,hk,hrb⟩:=hh id _ hg
   refine ⟨.im ((k.rows.take (lo + n)).drop lo),?_,.inr ⟨_,rfl,(hrb.2.2.2.2.take _).drop _⟩,rfl⟩
   simp only[closeCell,hk,hrb.1,hrb.2.2.1]
  ·rename_i a dd t l hg
   cases h
   obtain ⟨k,hk,hrb⟩:=hh id _ hg
   refine ⟨.im ((k.rows.take (lo + n)).drop lo),?_,.inr ⟨_,rfl,(hrb.2.2.2.2.take _).drop _⟩,rfl⟩
   simp only[closeCell,hk,hrb.1]
  ·cases h
 ·cases h
theorem H4 (hh:RH hp hv):∀ {xs xs':List SV} {ys:List V} {kills:List Nat} {deep:Bool},closeLT hp xs=some (xs',kills,deep)→RC (RV0 hp) xs ys →
  ∃ ys',closeCells hv ys=some (ys',kills,deep)∧RC (RV0 hp) xs' ys'∧xs'.flatMap ids0 = []
 | [],xs',ys,kills,deep,h,hc=>by
  simp only[closeLT,Option.some.injEq,Prod.mk.injEq] at h
  obtain ⟨rfl,rfl,rfl⟩:=h
  cases ys with
  | nil=>exact ⟨[],rfl,trivial,rfl⟩
  | cons a l=>exact hc.elim
 | x::xs,xs',ys,kills,deep,h,hc=>by
  simp only[closeLT] at h
  split at h
  ·rename_i x1 a d xs1 as ds h1 h2
   simp only[Option.some.injEq,Prod.mk.injEq] at h
   obtain ⟨rfl,rfl,rfl⟩:=h
   cases ys with
   | nil=>exact hc.elim
   | cons y ys =>
    obtain ⟨y',q1,q2,q3⟩:=SH hh h1 hc.1
    obtain ⟨ys',q4,q5,q6⟩:=H4 hh h2 hc.2
    exact ⟨y'::ys',by simp only[closeCells,q1,q4],⟨q2,q5⟩,by rw[List.flatMap_cons,q3,q6]; rfl⟩
  ·cases h
theorem Ei:∀ {xs xs':List SV} {kills:List Nat} {deep:Bool},closeLT hp xs=some (xs',kills,deep)→xs.all okT=true
 | [],_,_,_,_=>rfl
 | x::xs,xs',kills,deep,h=>by
  simp only[closeLT] at h
  split at h
  ·rename_i x1 a d xs1 as ds h1 h2
   have:okT x=true:=by
    cases x <;> first | rfl | (simp[closeCT] at h1; done) | skip
   simp only[List.all_cons,this,Ei h2,Bool.and_self]
  ·cases h
theorem Ab1 {t:TypeId} {a x:Operand} (hX:XOK P X) (hh:RH hp hv) (hr:RT hp tm m) (h:wtOp X (.store t a x) b tm hp K=some z):Done P R cf (.store t a x) b tm m hv K z:=by
 simp only[wtOp,tStore] at h
 have ha:=Au hr a
 have hx:=Au hr x
 split at h
 ·rename_i d id r c hd e1
  rw[e1] at ha
  have ha:opnd m a = .rf id r c:=ha
  split at h
  ·rename_i hlen
   have hlen:=Nat.eq_of_beq_eq_true hlen
   split at h
   ·rename_i ty cs hg
    split at h
    ·split at h
     ·rename_i hok
      split at h
      ·rename_i cs' hput
       obtain ⟨kb,hkb,hk1,hk2,row,hk3,hk4,hk5⟩:=hh id _ hg
       obtain ⟨f1,f2⟩:=El hx hok
       obtain ⟨row',p1,p2⟩:=RC.put hput hk5 f1
       have hkeep:∀ i,Keeps hp ((id,some (.box ty cs'))::hp) i:=fun i=>N1 (y:=.box ty cs') hg rfl i
       have hrl:row'.length=row.length:=by
        have q1:=p2.length
        have q2:=hk5.length
        have q3:cs'.length=cs.length:=by
         unfold putT at hput
         split at hput
         ·cases hput; simp; omega
         ·cases hput
        omega
       refine ⟨_,_,_,.any,upd hv id (some { kb with rows:=kb.rows.set 0 row' }),h,trivial,?_,hr.keeps fun t i _=>hkeep i,fun KV hk=>?_⟩
       ·exact hh.put (fun i _=>hkeep i) (fun _ _ _ _ i _=>hkeep i) ⟨hk1,hk2,row',by rw[hk3]; rfl,by show kb.size=_; rw[hk4,hrl],p2⟩
       ·show weStore P t (opnd m a) (opnd m x) hv KV
        have hl:(flat (opnd m x)).length=d.size:=by have:=f1.length; omega
        simp only[weStore,hX.ty t d hd,ha,hkb,hk3,List.getElem?_cons_zero,hl,if_true,hk1,f2,p1]
        rw[hk3,hk1] at hk
        exact hk
      ·cases h
     ·cases h
    ·cases h
   ·rename_i ty deep e l hg
    obtain ⟨y,h1,h⟩:=AA h
    split at h
    ·rename_i cs kills deep' hcl
     split at h
     ·rename_i hnd
      split at h
      ·rename_i cs' hput
       split at h
       ·rename_i zz hz
        obtain ⟨kb,hkb,hk1,hk2,hk3,hk4,hk5⟩:=hh id _ hg
        obtain ⟨f1,f2⟩:=El hx (Ei hcl)
        obtain ⟨ys,q1,q2,q3⟩:=H4 hh hcl f1
        obtain ⟨row,hrow,hre⟩:=hk5.get h1
        obtain ⟨row',p1,p2⟩:=RC.put hput hre.cells q2
        have hrz:=Ok hz p2
        have hidk:id ∉ kills:=by
         simp only[nodupB,Bool.and_eq_true,Bool.not_eq_true',List.contains_eq_mem,decide_eq_false_iff_not] at hnd
         exact hnd.1
        have hkeep:∀ i,Keeps hp ((id,some (.arr ty (deep&&deep') e (l.set r zz)))::killT hp kills) i:=by
         intro i bb hbb
         rw[Al] at hbb
         split at hbb
         ·rename_i hi; subst hi; cases hbb; exact ⟨_,hg,by simp[blen]⟩
         ·exact Dg kills hp i bb hbb
        have hkeep':∀ i,Keeps (killT hp kills) ((id,some (.arr ty (deep&&deep') e (l.set r zz)))::killT hp kills) i:=by
         intro i bb hbb
         rw[Al] at hbb
         split at hbb
         ·rename_i hi
          subst hi
          cases hbb
          cases hgk:getB (killT hp kills) i with
          | none =>
           exfalso
           have:∀ (ks:List Nat) (hp:THp),i ∉ ks→getB (killT hp ks) i=getB hp i:=by
            intro ks
            induction ks with
            | nil=>intro hp _; rfl
            | cons q ks ih =>
             intro hp hq
             simp only[List.mem_cons,not_or] at hq
             rw[killT,ih _ hq.2,Al,if_neg hq.1]
           rw[this kills hp hidk,hg] at hgk
           cases hgk
          | some b0 =>
           have:=(JP kills hp i b0 hgk).1
           rw[hg] at this
           cases this
           exact ⟨_,rfl,by simp[blen]⟩
         ·exact ⟨bb,hbb,rfl⟩
        refine ⟨_,_,_,.any,upd (kill hv kills) id (some { kb with rows:=kb.rows.set r row',deep:=kb.deep&&deep' }),h,trivial,?_,hr.keeps fun t i _=>hkeep i,fun KV hk=>?_⟩
        ·exact (hh.kill kills).put (fun i _=>hkeep' i) (fun _ _ _ _ i _=>hkeep' i) ⟨hk1,hk2,by show (kb.deep&&deep')=_; rw[hk3],hk4,hk5.set r hrz⟩
        ·show weStore P t (opnd m a) (opnd m x) hv KV
         have hl:(flat (opnd m x)).length=d.size:=by have:=f1.length; omega
         simp only[weStore,hX.ty t d hd,ha,hkb,hrow,hl,if_true,hk1,q1,hnd,p1]
         rw[hk1] at hk
         exact hk
       ·cases h
      ·cases h
     ·cases h
    ·cases h
   ·cases h
  ·cases h
 ·cases h
theorem LY {e:Ty} {size:Nat} (hr:RT hp tm m) (hh:RH hp hv) (hs:size=e.size):∀ {parts:List (Nat×Operand)} {n:Nat} {l:List e.den} {kills:List Nat} {deep:Bool},closePT hp tm e n parts=some (l,kills,deep) →
  ∃ rows,closeParts hv (opnd m) size n parts=some (rows,kills,deep)∧RLx (RE e) l rows
 | [],n,l,kills,deep,h=>by
  simp only[closePT,Option.some.injEq,Prod.mk.injEq] at h
  obtain ⟨rfl,rfl,rfl⟩:=h
  exact ⟨[],rfl,RLx.nil⟩
 | (k,x)::parts,n,l,kills,deep,h=>by
  simp only[closePT] at h
  split at h
  ·rename_i hc
   simp only[Bool.and_eq_true] at hc
   have h1:=Nat.eq_of_beq_eq_true hc.1
   have h2:=Nat.eq_of_beq_eq_true hc.2
   split at h
   ·rename_i cs a d ys as ds g1 g2
    split at h
    ·rename_i y hy
     simp only[Option.some.injEq,Prod.mk.injEq] at h
     obtain ⟨rfl,rfl,rfl⟩:=h
     obtain ⟨f1,f2⟩:=El (Au hr x) (Ei g1)
     obtain ⟨us,q1,q2,q3⟩:=H4 hh g1 f1
     obtain ⟨rows,q4,q5⟩:=LY hr hh hs g2
     refine ⟨us::rows,?_,RLx.cons (Ok hy q2) q5⟩
     simp only[closeParts,q1,q4]
     rw[if_pos ⟨h1,by have:=f1.length; omega⟩]
    ·cases h
   ·cases h
  ·cases h
theorem Sp {cs:List SV}:∀ {us:List V},RC (RV0 hp) cs us→cs.all okT=true→cs.all closedTT=us.all closedB:=by
 induction cs with
 | nil =>
  intro us h _
  cases us with
  | nil=>rfl
  | cons a l=>exact h.elim
 | cons c cs ih =>
  intro us h hok
  cases us with
  | nil=>exact h.elim
  | cons u us =>
   simp only[List.all_cons,Bool.and_eq_true] at hok
   simp only[List.all_cons,ih h.2 hok.2]
   have h1:closedTT c=closedB u:=by
    have h0:=h.1
    cases c with
    | int k n=>have:u=_:=h0; subst this; rfl
    | bool b=>have:u=_:=h0; subst this; rfl
    | str s=>have:u=_:=h0; subst this; rfl
    | sc x=>have:u=_:=h0; subst this; rfl
    | em=>have:u=_:=h0; subst this; rfl
    | im t l=>rcases h0 with ⟨_,rfl⟩ | ⟨rows,rfl,_⟩ <;> rfl
    | ow id=>obtain ⟨n,rfl,_⟩:=h0; rfl
    | ar a b c=>have:u=_:=h0; subst this; rfl
    | rf a b c=>have:u=_:=h0; subst this; rfl
    | ir a b c=>obtain ⟨row,rfl,_⟩:=h0; rfl
    | cl f caps =>
     cases caps with
     | nil=>have:u=_:=h0; subst this; rfl
     | cons a l=>simp[okT] at hok
    | er b=>simp[okT] at hok
    | agg l=>simp[okT] at hok
    | tup l=>simp[okT] at hok
    | any=>simp[okT] at hok
   rw[h1]
theorem PU {e:Ty} (hr:RT hp tm m):∀ {parts:List (Nat×Operand)} {n:Nat} {l:List e.den} {kills:List Nat} {deep:Bool},closePT hp tm e n parts=some (l,kills,deep)→apartT tm parts=apartB (opnd m) parts
 | [],n,l,kills,deep,h=>rfl
 | (k,x)::parts,n,l,kills,deep,h=>by
  simp only[closePT] at h
  split at h
  ·split at h
   ·rename_i cs a d ys as ds g1 g2
    obtain ⟨f1,f2⟩:=El (Au hr x) (Ei g1)
    have h1:=Sp f1 (Ei g1)
    have h2:=PU hr g2
    unfold apartT apartB at h2 ⊢
    simp only[List.all_cons,h1,h2]
   ·cases h
  ·cases h
theorem ZO {t:TypeId} {len:Nat} {parts:Array (Nat×Operand)} (hX:XOK P X) (hh:RH hp hv) (hr:RT hp tm m) (h:wtOp X (.buildSlice t len parts) b tm hp K=some z) :
  Done P R cf (.buildSlice t len parts) b tm m hv K z:=by
 simp only[wtOp,tBuildSl] at h
 split at h
 ·rename_i e de c he
  have hE:=Im hX he
  generalize hps:parts.toList=ps at h
  cases len with
  | zero =>
   cases ps with
   | nil =>
    refine ⟨_,_,_,.em,hv,h,rfl,hh,hr,fun KV hk=>?_⟩
    show weBuildSlice P t 0 parts.toList (opnd m) hv b KV
    rw[hps]
    simp only[weBuildSlice,hE.el,hE.ty,Af,true_and]
    exact hk
   | cons a l=>cases h
  | succ len =>
   simp only at h
   split at h
   ·rename_i l kills deep hcl
    split at h
    ·rename_i hc
     simp only[Bool.and_eq_true] at hc
     obtain ⟨⟨⟨c1,c2⟩,c3⟩,hf⟩:=hc
     have c1:=Nat.eq_of_beq_eq_true c1
     have c2:=Nat.le_of_ble_eq_true c2
     obtain ⟨rows,q1,q2⟩:=LY hr hh hE.size hcl
     obtain ⟨g1,g2⟩:=KU (x:=.arr e deep c l) (k:=arrOf e de.size deep rows) (hh.kill kills) (hr.keeps fun t i _=>Dg kills hp i) (EF hf) (fun id y hy=>I2 hf hy) (by simp[idsB]) ⟨rfl,rfl,rfl,hE.size,q2⟩
     refine ⟨_,_,_,.ar b 0 (len + 1),_,h,⟨len + 1,rfl,fun bb hb=>?_⟩,g1,g2,fun KV hk=>?_⟩
     ·rw[Al,if_pos rfl] at hb
      cases hb
      simp[blen,c1]
     ·show weBuildSlice P t (len + 1) parts.toList (opnd m) hv b KV
      rw[hps]
      simp only[weBuildSlice,hE.el,hE.ty,Af,q1]
      rw[PU hr hcl] at hk
      exact ⟨by rw[q2.1]; exact c1,by simpa using c2,c3,hk⟩
    ·cases h
   ·cases h
 ·cases h
theorem Aa0 {c:Ty} {d:TyD} {x:SV} {y:V} {l:List c.den} {kills:List Nat} {deep:Bool} (hh:RH hp hv) (hf:d.zero.all isVB=flatTy c) (h:srcT c x hp=some (l,kills,deep)) (hx:RV2 hp x y) :
  ∃ rows,RLx (RE c) l rows∧∀ KV:List (List V)→List Nat→Bool→Prop,KV rows kills deep→srcRows d y hv KV:=by
 have hsc:∀ rows,flatTy c=true→RLx (RE c) l rows→scalarRows rows=true:=by
  intro rows hfl hr
  refine List.all_eq_true.2 fun row hrow=>?_
  obtain ⟨i,hi⟩:=List.getElem?_of_mem hrow
  obtain ⟨a,_,hre⟩:=hr.get' hi
  exact Fq hfl hre
 have im:∀ rows,RLx (RE c) l rows→(d.zero.all isVB&&scalarRows rows)=flatTy c:=by
  intro rows hr
  rw[hf]
  cases hfl:flatTy c with
  | false=>rfl
  | true=>rw[hsc rows hfl hr]; rfl
 unfold srcT at h
 split at h
 ·rename_i id
  obtain ⟨n,rfl,hlen⟩:=hx
  split at h
  ·rename_i a dd t l0 hg
   obtain ⟨k,hk,hk1,hk2,hk3,hk4,hk5⟩:=hh id _ hg
   have:=hlen _ hg
   cases this
   have hrows:(k.rows.take (0 + l0.length)).drop 0=k.rows:=by rw[Nat.zero_add,←hk5.1]; simp
   split at h
   ·rename_i he
    split at h
    ·rename_i hfl
     simp only[Option.some.injEq,Prod.mk.injEq] at h
     obtain ⟨rfl,rfl,rfl⟩:=h
     have hr:=CL he hk5
     refine ⟨k.rows,hr,fun KV hK=>?_⟩
     simp only[srcRows,hk,hk1,hrows]
     rw[if_pos (by rw[hf]; exact hfl)]
     exact ⟨hsc _ hfl hr,hK⟩
    ·rename_i hfl
     simp only[Option.some.injEq,Prod.mk.injEq] at h
     obtain ⟨rfl,rfl,rfl⟩:=h
     have hr:=CL he hk5
     refine ⟨k.rows,hr,fun KV hK=>?_⟩
     simp only[srcRows,hk,hk1,hrows]
     rw[if_neg (by rw[hf]; exact hfl),hk3]
     exact hK
   ·cases h
  ·rename_i a dd t l0 hg
   obtain ⟨k,hk,hk1,hk2,hk3,hk4,hk5⟩:=hh id _ hg
   have:=hlen _ hg
   cases this
   have hrows:(k.rows.take (0 + l0.length)).drop 0=k.rows:=by rw[Nat.zero_add,←hk5.1]; simp
   split at h
   ·rename_i he
    simp only[Option.some.injEq,Prod.mk.injEq] at h
    obtain ⟨rfl,rfl,rfl⟩:=h
    have hr:=CL he hk5
    refine ⟨k.rows,hr,fun KV hK=>?_⟩
    simp only[srcRows,hk,hk1,hrows,im _ hr]
    exact hK
   ·cases h
  ·cases h
 ·rename_i id lo n
  have hx:y = .ar id lo n:=hx
  subst hx
  split at h
  ·rename_i a dd t l0 hg
   obtain ⟨k,hk,hk1,hk2,hk3,hk4,hk5⟩:=hh id _ hg
   split at h
   ·rename_i he
    split at h
    ·rename_i hfl
     simp only[Option.some.injEq,Prod.mk.injEq] at h
     obtain ⟨rfl,rfl,rfl⟩:=h
     have hr:=((CL he hk5).take (lo + n)).drop lo
     refine ⟨_,hr,fun KV hK=>?_⟩
     simp only[srcRows,hk,hk1]
     rw[if_pos (by rw[hf]; exact hfl)]
     exact ⟨hsc _ hfl hr,hK⟩
    ·rename_i hfl
     simp only[Option.some.injEq,Prod.mk.injEq] at h
     obtain ⟨rfl,rfl,rfl⟩:=h
     have hr:=((CL he hk5).take (lo + n)).drop lo
     refine ⟨_,hr,fun KV hK=>?_⟩
     simp only[srcRows,hk,hk1]
     rw[if_neg (by rw[hf]; exact hfl),hk3]
     exact hK
   ·cases h
  ·rename_i a dd t l0 hg
   obtain ⟨k,hk,hk1,hk2,hk3,hk4,hk5⟩:=hh id _ hg
   split at h
   ·rename_i he
    simp only[Option.some.injEq,Prod.mk.injEq] at h
    obtain ⟨rfl,rfl,rfl⟩:=h
    have hr:=((CL he hk5).take (lo + n)).drop lo
    refine ⟨_,hr,fun KV hK=>?_⟩
    simp only[srcRows,hk,hk1,im _ hr]
    exact hK
   ·cases h
  ·cases h
 ·split at h
  ·rename_i hl
   simp only[Option.some.injEq,Prod.mk.injEq] at h
   obtain ⟨rfl,rfl,rfl⟩:=h
   rename_i l'
   have hx0:RV0 hp x y:=PS (hpm:=hp) (e:=c) (l:=l') (by unfold asLh; split <;> simp_all [asL]) hx
   rcases Rz hl hx0 with ⟨rfl,rfl⟩ | ⟨rows,rfl,hr⟩
   ·exact ⟨[],RLx.nil,fun KV hK=>by simp only[srcRows]; rw[hf]; exact hK⟩
   ·exact ⟨rows,hr,fun KV hK=>by simp only[srcRows]; rw[im _ hr]; exact hK⟩
  ·cases h
theorem Xw {β:Type} {bytes size:Nat} {l m r:List β} (h:appL bytes size l m=some r):r=l++m∧(l.length + m.length)*bytes≤maxBytes∧(l.length + m.length)*size≤maxBytes:=by
 unfold appL at h
 split at h
 ·rename_i hc; cases h; exact ⟨rfl,hc⟩
 ·cases h
theorem Yx {args : Array Operand} {ts : Array TypeId} (hX : XOK P X) (hh : RH hp hv) (hr : RT hp tm m) (h : wtOp X (.call { callee := .builtin .append, args := args, argTypes := ts }) b tm hp K = some z) :
    Done P R cf (.call { callee := .builtin .append, args := args, argTypes := ts }) b tm m hv K z := by
  simp only [wtOp] at h
  split at h
  · rename_i s x hargs
    unfold tAppend at h
    split at h
    · rename_i t t' hts
      split at h
      · rename_i htt
        have htt := Nat.eq_of_beq_eq_true htt
        split at h
        · rename_i e de c he
          have hE := Im hX he
          split at h
          · rename_i mm kills deep hsrc
            obtain ⟨rows, r1, r2⟩ := Aa0 (d := de) hh hE.flat hsrc (Au hr x)
            have hs := Au hr s
            have hrl : ∀ r ∈ rows, r.length = de.size := fun row hrow => by
              obtain ⟨i, hi⟩ := List.getElem?_of_mem hrow
              obtain ⟨a, _, hre⟩ := r1.get' hi
              rw [hre.len, hE.size]
            have step : ∀ KV : Cont, (∀ s', opnd m s = s' → srcRows de (opnd m x) hv fun rows kills deep =>
                match s' with
                | .em =>
                  rows.length * de.bytes ≤ maxBytes ∧ rows.length * de.size ≤ maxBytes ∧ (∀ r ∈ rows, r.length = de.size) ∧ nodupB kills = true ∧
                  KV (.ar b 0 rows.length) (upd (kill hv kills) b (some (arrOf e de.size deep rows))) (match kills with | [] => .M | _ => .E)
                | .ar id lo n =>
                  caseO (hv id) fun k =>
                    k.kind = .arr ∧ lo = 0 ∧ k.ty = e ∧ k.size = de.size ∧ nodupB (id :: kills) = true ∧
                    (n + rows.length) * de.bytes ≤ maxBytes ∧ (n + rows.length) * de.size ≤ maxBytes ∧ (∀ r ∈ rows, r.length = de.size) ∧
                    KV (.ar b 0 (n + rows.length)) (upd (kill hv (id :: kills)) b (some (arrOf e de.size (k.deep && deep) (k.rows.take n ++ rows)))) .E
                | _ => False) → weOp P R cf (.call { callee := .builtin .append, args := args, argTypes := ts }) b (opnd m) hv KV := by
              intro KV hK
              show (match args.toList with | [s, x] => weAppend P ts.toList (opnd m s) (opnd m x) hv b KV | _ => False)
              rw [hargs, hts]
              simp only [weAppend, hE.el, hE.ty, Af]
              exact ⟨htt, hK _ rfl⟩
            have own : ∀ (id n ty : Nat) (d0 : Bool) (l : List c.den) (k : Blk), opnd m s = .ar id 0 n → hv id = some k → k.kind = .arr → k.ty = ty → k.deep = d0 → k.size = c.size → RLx (RE c) l (k.rows.take n) → l.length = n →
                (Nat.beq ty e && nodupB (id :: kills) && freshT tm hp b) = true → ((appL de.bytes de.size l mm).bind fun r => K (.ow b) ((b, some (.arr e (d0 && deep) c r)) :: killT hp (id :: kills)) .E) = some z →
                Done P R cf (.call { callee := .builtin .append, args := args, argTypes := ts }) b tm m hv K z := by
              intro id n ty d0 l k hs hk k1 k2 k3 k4 hl hln hc h
              simp only [Bool.and_eq_true] at hc
              obtain ⟨⟨c1, c2⟩, hf⟩ := hc
              have c1 := Nat.eq_of_beq_eq_true c1
              obtain ⟨r, a1, a2⟩ := AA h
              obtain ⟨rfl, a3, a4⟩ := Xw a1
              obtain ⟨g1, g2⟩ := KU (x := .arr e (d0 && deep) c (l ++ mm)) (k := arrOf e de.size (k.deep && deep) (k.rows.take n ++ rows)) (hh.kill (id :: kills)) (hr.keeps fun t i _ => Dg (id :: kills) hp i) (EF hf) (fun id y hy => I2 hf hy) (by simp [idsB])
                ⟨rfl, rfl, by show (k.deep && deep) = _; rw [k3], hE.size, hl.append r1⟩
              refine ⟨_, _, _, .ar b 0 (n + rows.length), _, a2, ⟨n + rows.length, rfl, fun bb hb => ?_⟩, g1, g2, fun KV hk' => step KV fun s' hs' => ?_⟩
              · rw [Al, if_pos rfl] at hb
                cases hb
                simp [blen, hln, r1.1]
              · rw [hs] at hs'
                subst hs'
                refine r2 _ ?_
                simp only [hk, Af]
                exact ⟨k1, trivial, by rw [k2, c1], by rw [k4, hE.size], c2, by rw [r1.1, ← hln]; exact a3, by rw [r1.1, ← hln]; exact a4, hrl, hk'⟩
            split at h
            · rename_i e1
              rw [e1] at hs
              have hs : opnd m s = .em := hs
              split at h
              · rename_i hc
                simp only [Bool.and_eq_true] at hc
                obtain ⟨c1, hf⟩ := hc
                obtain ⟨hroom, h⟩ := Bd h
                simp only [roomI, Bool.and_eq_true, decide_eq_true_eq] at hroom
                obtain ⟨g1, g2⟩ := KU (x := .arr e deep c mm) (k := arrOf e de.size deep rows) (hh.kill kills) (hr.keeps fun t i _ => Dg kills hp i) (EF hf) (fun id y hy => I2 hf hy) (by simp [idsB]) ⟨rfl, rfl, rfl, hE.size, r1⟩
                refine ⟨_, _, _, .ar b 0 rows.length, _, h, ⟨rows.length, rfl, fun bb hb => ?_⟩, g1, g2, fun KV hk => step KV fun s' hs' => ?_⟩
                · rw [Al, if_pos rfl] at hb
                  cases hb
                  simp [blen, r1.1]
                · rw [hs] at hs'
                  subst hs'
                  refine r2 _ ?_
                  exact ⟨by rw [r1.1]; exact hroom.1, by rw [r1.1]; exact hroom.2, hrl, c1, hk⟩
              · cases h
            · rename_i id e1
              rw [e1] at hs
              obtain ⟨n, hs, hlen⟩ := hs
              split at h
              · rename_i ty d0 t0 l hg
                split at h
                · rename_i ht0
                  split at h
                  · rename_i hc
                    obtain ⟨k, hk, k1, k2, k3, k4, k5⟩ := hh id _ hg
                    have := hlen _ hg
                    cases this
                    subst ht0
                    exact own id l.length ty d0 l k hs hk k1 k2 k3 k4 (by have : k.rows.take l.length = k.rows := by rw [← k5.1]; simp
                                                                          rw [this]; exact k5) rfl hc h
                  · cases h
                · cases h
              · cases h
            · rename_i id n e1
              rw [e1] at hs
              have hs : opnd m s = .ar id 0 n := hs
              split at h
              · rename_i ty d0 t0 l hg
                split at h
                · rename_i ht0
                  split at h
                  · rename_i hc
                    obtain ⟨k, hk, k1, k2, k3, k4, k5⟩ := hh id _ hg
                    subst ht0
                    obtain ⟨hle, h⟩ := Bd h
                    have hle := of_decide_eq_true hle
                    exact own id n ty d0 (l.take n) k hs hk k1 k2 k3 k4 (k5.take n) (by simp; omega) hc h
                  · cases h
                · cases h
              · cases h
            · cases h
          · cases h
        · cases h
      · cases h
    · cases h
  · cases h
end
end
section
open Go
section
variable {tm:TTm} {m:Tm} {hp hp':THp} {hv hv':Hp}
theorem Wk {id:Nat} (hh:RH hp hv):RH ((id,(getB hp id).map frzB)::hp) (upd hv id ((hv id).map fun k=>{ k with kind:=match k.kind with | .arr=>.frz | x=>x }))∧∀ i,Keeps hp ((id,(getB hp id).map frzB)::hp) i:=by
 have hk:∀ i,Keeps hp ((id,(getB hp id).map frzB)::hp) i:=by
  intro i b hb
  rw[Al] at hb
  split at hb
  ·rename_i hi
   subst hi
   simp only[Option.map_eq_some_iff] at hb
   obtain ⟨b0,h0,rfl⟩:=hb
   exact ⟨b0,h0,by cases b0 <;> rfl⟩
  ·exact ⟨b,hb,rfl⟩
 refine ⟨fun i b hb=>?_,hk⟩
 rw[Al] at hb
 split at hb
 ·rename_i hi
  subst hi
  simp only[Option.map_eq_some_iff] at hb
  obtain ⟨b0,h0,rfl⟩:=hb
  obtain ⟨k,hk1,hrb⟩:=hh i b0 h0
  refine ⟨_,by simp only[upd,if_true,hk1,Option.map_some]; rfl,RB.keeps (hp:=hp) ?_ fun j _=>hk j⟩
  cases b0 with
  | box ty cs=>obtain ⟨h1,h2,h3⟩:=hrb; exact ⟨by simp[h1],h2,h3⟩
  | arr ty deep t l=>obtain ⟨h1,h2,h3⟩:=hrb; exact ⟨by simp[h1],h2,h3⟩
  | frz ty deep t l=>obtain ⟨h1,h2,h3⟩:=hrb; exact ⟨by simp[h1],h2,h3⟩
 ·rename_i hi
  obtain ⟨k,hk1,hrb⟩:=hh i b hb
  exact ⟨k,by simp only[upd,if_neg hi]; exact hk1,hrb.keeps fun j _=>hk j⟩
theorem OT:∀ (l:List Nat) {hp:THp} {hv:Hp},RH hp hv→RH (freezeT hp l) (freeze hv l)∧∀ i,Keeps hp (freezeT hp l) i
 | [],hp,hv,h=>⟨h,fun i=>Keeps.refl hp i⟩
 | id::l,hp,hv,h=>by
  obtain ⟨h1,h2⟩:=Wk (id:=id) h
  obtain ⟨h3,h4⟩:=OT l h1
  exact ⟨h3,fun i=>(h2 i).trans (h4 i)⟩
theorem Mz:∀ (l:List Nat) (hp:THp) (id:Nat),id ∉ l→getB (freezeT hp l) id=getB hp id
 | [],_,_,_=>rfl
 | x::l,hp,id,h=>by
  simp only[List.mem_cons,not_or] at h
  rw[freezeT,Mz l _ id h.2,Al,if_neg h.1]
theorem L4:∀ (l:List Nat) (hp:THp) (id:Nat) (ty:TypeId) (cs:List SV),getB hp id=some (.box ty cs)→getB (freezeT hp l) id=some (.box ty cs)
 | [],_,_,_,_,h=>h
 | x::l,hp,id,ty,cs,h=>by
  rw[freezeT]
  refine L4 l _ id ty cs ?_
  rw[Al]
  split
  ·rename_i he; subst he; rw[h]; rfl
  ·exact h
theorem QP {hp:THp} {id:Nat} {b:TB} (h:getB hp id=some b):(id,some b)∈hp:=by
 induction hp with
 | nil=>cases h
 | cons a l ih =>
  obtain ⟨k,x⟩:=a
  rw[Al] at h
  split at h
  ·rename_i he; subst he; subst h; simp
  ·exact List.mem_cons_of_mem _ (ih h)
theorem Hg {a b:Nat} (h:Nat.blt a b=true):a<b:=Nat.lt_of_succ_le (Nat.le_of_ble_eq_true h)
def Bel (b:Nat) (hp:THp):Prop:=∀ id k,getB hp id=some k→id<b∧∀ i∈idsB k,i<b
theorem Bel.mono {b b':Nat} {hp:THp} (h:Bel b hp) (hb:b≤b'):Bel b' hp:=fun id k hk=>⟨Nat.lt_of_lt_of_le (h id k hk).1 hb,fun i hi=>Nat.lt_of_lt_of_le ((h id k hk).2 i hi) hb⟩
theorem LF {tm:TTm} {hp:THp} {b:Nat} (h:belowT tm hp b=true):Bel b hp∧∀ t,∀ i∈ids2 (getV tm t),i<b:=by
 simp only[belowT,Bool.and_eq_true] at h
 refine ⟨fun id k hk=>?_,fun t i hi=>?_⟩
 ·have:=List.all_eq_true.1 h.2 _ (QP hk)
  simp only[Bool.and_eq_true] at this
  exact ⟨Hg this.1,fun i hi=>Hg (List.all_eq_true.1 this.2 i hi)⟩
 ·rcases SR (tm:=tm) (t:=t) with h' | ⟨x,hx,h'⟩
  ·rw[h'] at hi; simp[ids2,ids1,ids0] at hi
  ·rw[←h'] at hi
   exact Hg (List.all_eq_true.1 (List.all_eq_true.1 h.1 x hx) i hi)
theorem Yy {b:TB} {i:Nat} (h:i∈idsB (frzB b)):i∈idsB b:=by
 cases b with
 | arr _ _ _ _=>simp[frzB,idsB] at h
 | _=>exact h
theorem H8:∀ (l:List Nat) {hp:THp} {b:Nat},Bel b hp→Bel b (freezeT hp l)
 | [],_,_,h=>h
 | x::l,hp,b,h=>by
  rw[freezeT]
  refine H8 l fun id k hk=>?_
  rw[Al] at hk
  split at hk
  ·rename_i he
   subst he
   simp only[Option.map_eq_some_iff] at hk
   obtain ⟨k0,h0,rfl⟩:=hk
   exact ⟨(h id k0 h0).1,fun i hi=>(h id k0 h0).2 i (Yy hi)⟩
  ·exact h id k hk
theorem Xf {hp:THp} {x:SV} {y:V} (h:RV0 hp x y) (hx:okT x=true):okCell y=true:=by
 cases x with
 | im t l=>rcases h with ⟨_,rfl⟩ | ⟨_,rfl,_⟩ <;> rfl
 | ow id=>obtain ⟨_,rfl,_⟩:=h; rfl
 | ir t a c=>obtain ⟨_,rfl,_⟩:=h; rfl
 | cl f cs=>cases cs with | nil=>have:y=_:=h; subst this; rfl | cons a l=>exact h.elim
 | any=>simp[okT] at hx
 | agg cs=>exact h.elim
 | tup cs=>exact h.elim
 | int k n=>have:y=_:=h; subst this; rfl
 | bool k=>have:y=_:=h; subst this; rfl
 | str k=>have:y=_:=h; subst this; rfl
 | sc k=>have:y=_:=h; subst this; rfl
 | em=>have:y=_:=h; subst this; rfl
 | er e=>simp[okT] at hx
 | ar a b c=>have:y=_:=h; subst this; rfl
 | rf a b c=>have:y=_:=h; subst this; rfl
structure NV (b n:Nat) (hp:THp) (hp':THp) (hv':Hp):Prop where
 rh:RH hp' hv'
 bel:Bel (b + n) hp'
 keep:∀ i,i<b→Keeps hp hp' i
structure NT (b n:Nat) (hp:THp) (hp':THp) (hv':Hp):Prop extends NV b n hp hp' hv' where
 box:∀ i ty cs,i<b→getB hp i=some (.box ty cs)→getB hp' i=some (.box ty cs)
theorem NT.refl (hh:RH hp hv) {b:Nat} (hb:Bel b hp):NT b 0 hp hp hv:=⟨⟨hh,hb,fun i _=>Keeps.refl hp i⟩,fun _ _ _ _ h=>h⟩
theorem NT.trans {b n k:Nat} {hp1 hp2:THp} {hv1 hv2:Hp} (h:NT b n hp hp1 hv1) (g:NT (b + n) k hp1 hp2 hv2):NT b (n + k) hp hp2 hv2 :=
 ⟨⟨g.rh,by have:=g.bel; rwa [Nat.add_assoc] at this,fun i hi=>(h.keep i hi).trans (g.keep i (by omega))⟩,fun i ty cs hi hg=>g.box i ty cs (by omega) (h.box i ty cs hi hg)⟩
theorem VO {m:TM} {v v':SV} {y:V} {b n:Nat} (hh:RH hp hv) (hb:Bel b hp) (hi:∀ i∈ids0 v,i<b) (hv0:RV0 hp v y) (h:tnC m v hp b=some (v',hp',n)) :
  ∃ y' hv',normC m.md y hv b=some (y',hv',n)∧NT b n hp hp' hv'∧RV0 hp' v' y'∧∀ i∈ids0 v',i<b + n:=by
 cases m with
 | keep =>
  simp only[tnC,Option.some.injEq,Prod.mk.injEq] at h
  obtain ⟨rfl,rfl,rfl⟩:=h
  exact ⟨y,hv,rfl,NT.refl hh hb,hv0,hi⟩
 | own ty deep t =>
  cases v with
  | em =>
   simp only[tnC,Option.some.injEq,Prod.mk.injEq] at h
   obtain ⟨rfl,rfl,rfl⟩:=h
   have:y = .em:=hv0
   subst this
   refine ⟨.ar b 0 0,upd hv b (some (arrOf ty t.size deep [])),rfl,⟨⟨?_,fun id k hk=>?_,fun i hi=>FW (by omega)⟩,fun i ty' cs hi hg=>by rw[Al,if_neg (by omega)]; exact hg⟩,⟨0,rfl,fun k hk=>?_⟩,fun i hi=>by simp[ids0] at hi; omega⟩
   ·exact hh.put (fun i hi=>by simp[idsB] at hi) (fun id z _ hz i hi=>FW fun he=>by have:=(hb id z hz).2 i hi; omega) ⟨rfl,rfl,rfl,rfl,RLx.nil⟩
   ·rw[Al] at hk
    split at hk
    ·cases hk; exact ⟨by omega,fun i hi=>by simp[idsB] at hi⟩
    ·exact (hb.mono (by omega)) id k hk
   ·rw[Al,if_pos rfl] at hk
    cases hk; rfl
  | ow id =>
   simp only[tnC] at h
   split at h
   ·rename_i ty' deep' t' l hg
    split at h
    ·rename_i he
     split at h
     ·rename_i hc
      simp only[Bool.and_eq_true,beq_iff_eq] at hc
      simp only[Option.some.injEq,Prod.mk.injEq] at h
      obtain ⟨rfl,rfl,rfl⟩:=h
      subst he
      have e1:=Nat.eq_of_beq_eq_true hc.1
      have e2:=hc.2
      subst e1
      subst e2
      obtain ⟨k,hk,k1,k2,k3,k4,k5⟩:=hh id _ hg
      obtain ⟨n',rfl,hlen⟩:=hv0
      have hn':=hlen _ hg
      cases hn'
      refine ⟨.ar id 0 l.length,hv,?_,NT.refl hh hb,⟨_,rfl,hlen⟩,hi⟩
      show (match hv id with | some k=>if k.kind=Kind.arr∧0=0∧l.length=k.rows.length∧k.ty=ty'∧k.size=t'.size∧k.deep=deep' then some (V.ar id 0 l.length,hv,0) else none | none=>none)=_
      rw[hk]
      simp only
      rw[if_pos ⟨k1,trivial,k5.1.symm,k2,k4,k3⟩]
     ·cases h
    ·cases h
   ·cases h
  | _=>simp[tnC] at h
 | im t =>
  simp only[tnC] at h
  split at h
  ·rename_i l hl
   simp only[Option.some.injEq,Prod.mk.injEq] at h
   obtain ⟨rfl,rfl,rfl⟩:=h
   obtain ⟨g1,g2⟩:=OT (frV v) hh
   have nt:NT b 0 hp (freezeT hp (frV v)) (freeze hv (frV v)):=⟨⟨g1,H8 _ hb,fun i _=>g2 i⟩,fun i ty cs _ hg=>L4 _ _ _ _ _ hg⟩
   rcases OG hl hv0 hh.toM with ⟨rfl,rfl⟩ | ⟨rows,rfl,hr⟩ | ⟨id,lo,n,kb,rfl,hk,hkk,hr⟩
   ·have hf:frV v = []:=by
     cases v <;> first | rfl | (obtain ⟨n,hy,_⟩:=hv0; cases hy) | (have:V.em=_:=hv0; cases this)
    exact ⟨.im [],_,by rw[hf]; rfl,nt,.inr ⟨[],rfl,RLx.nil⟩,fun i hi=>by simp[ids0] at hi⟩
   ·have hf:frV v = []:=by
     cases v <;> first | rfl | (obtain ⟨n,hy,_⟩:=hv0; cases hy) | (have:V.im rows=_:=hv0; cases this)
    exact ⟨.im rows,_,by rw[hf]; rfl,nt,.inr ⟨rows,rfl,hr⟩,fun i hi=>by simp[ids0] at hi⟩
   ·have hf:frV v = [id]:=by
     cases v with
     | ow id'=>obtain ⟨n',hy,_⟩:=hv0; cases hy; rfl
     | ar a b c=>have:V.ar id lo n=_:=hv0; cases this; rfl
     | em=>have:V.ar id lo n=_:=hv0; cases this
     | er e=>have:V.ar id lo n=_:=hv0; cases this
     | im t' l'=>rcases hv0 with ⟨_,hy⟩ | ⟨_,hy,_⟩ <;> cases hy
     | _=>simp[asLh,asL] at hl
    refine ⟨.im ((kb.rows.take (lo + n)).drop lo),_,?_,nt,.inr ⟨_,rfl,hr⟩,fun i hi=>by simp[ids0] at hi⟩
    rw[hf]
    show (match hv id with | some k=>(match k.kind with | .box=>none | _=>some (V.im ((k.rows.take (lo + n)).drop lo),freeze hv [id],0)) | none=>none)=_
    rw[hk]
    simp only
  ·cases h
 | sub =>
  cases v with
  | ow id =>
   simp only[tnC] at h
   split at h
   ·rename_i ty' deep' t' l hg
    simp only[Option.some.injEq,Prod.mk.injEq] at h
    obtain ⟨rfl,rfl,rfl⟩:=h
    obtain ⟨n',rfl,hlen⟩:=hv0
    have hn':=hlen _ hg
    cases hn'
    exact ⟨_,hv,rfl,NT.refl hh hb,rfl,fun i hi=>by simp[ids0] at hi⟩
   ·cases h
  | ar id lo n' =>
   simp only[tnC,Option.some.injEq,Prod.mk.injEq] at h
   obtain ⟨rfl,rfl,rfl⟩:=h
   exact ⟨y,hv,rfl,NT.refl hh hb,hv0,hi⟩
  | _=>simp[tnC] at h
theorem Rr:∀ {ms:List TM} {vs vs':List SV} {ys:List V} {hp hp':THp} {hv:Hp} {b n:Nat},RH hp hv→Bel b hp→(∀ i∈vs.flatMap ids0,i<b)→RC (RV0 hp) vs ys→tnL ms vs hp b=some (vs',hp',n) →
  ∃ ys' hv',normL (ms.map TM.md) ys hv b=some (ys',hv',n)∧NT b n hp hp' hv'∧RC (RV0 hp') vs' ys'∧∀ i∈vs'.flatMap ids0,i<b + n
 | [],[],vs',ys,hp,hp',hv,b,n,hh,hb,hi,hc,h=>by
  simp only[tnL,Option.some.injEq,Prod.mk.injEq] at h
  obtain ⟨rfl,rfl,rfl⟩:=h
  cases ys with
  | nil=>exact ⟨[],hv,rfl,NT.refl hh hb,trivial,fun i hi=>by simp at hi⟩
  | cons a l=>exact hc.elim
 | m::ms,v::vs,vs',ys,hp,hp',hv,b,n,hh,hb,hi,hc,h=>by
  cases ys with
  | nil=>exact hc.elim
  | cons y ys =>
   simp only[tnL] at h
   split at h
   ·rename_i z hp1 n1 h1
    split at h
    ·rename_i zs hp2 k h2
     simp only[Option.some.injEq,Prod.mk.injEq] at h
     obtain ⟨rfl,rfl,rfl⟩:=h
     obtain ⟨y',hv1,e1,q1,r1,s1⟩:=VO hh hb (fun i hi'=>hi i (by simp[hi'])) hc.1 h1
     obtain ⟨ys',hv2,e2,q2,r2,s2⟩:=Rr q1.rh q1.bel (fun i hi'=>by have:=hi i (by simp only[List.flatMap_cons,List.mem_append]; exact .inr hi'); omega) (hc.2.mono fun x hx y hxy=>hxy.keeps fun i hi'=>q1.keep i (hi i (by simp only[List.flatMap_cons,List.mem_append]; exact .inr (List.mem_flatMap.2 ⟨x,hx,hi'⟩)))) h2
     refine ⟨y'::ys',hv2,by simp only[List.map_cons,normL,e1,e2],q1.trans q2,⟨r1.keeps fun i hi'=>q2.keep i (s1 i hi'),r2⟩,fun i hi'=>?_⟩
     rcases List.mem_append.1 (by simpa only[List.flatMap_cons] using hi') with hi' | hi'
     ·have:=s1 i hi'; omega
     ·have:=s2 i hi'; omega
    ·cases h
   ·cases h
 | [],_::_,_,_,_,_,_,_,_,_,_,_,_,h=>by simp[tnL] at h
 | _::_,[],_,_,_,_,_,_,_,_,_,_,_,h=>by simp[tnL] at h
theorem V4 {m:TMs} {v v':SV} {y:V} {b n:Nat} (hh:RH hp hv) (hb:Bel b hp) (hi:∀ i∈ids2 v,i<b) (hv2:RV2 hp v y) (h:tnV m v hp b=some (v',hp',n)) :
  ∃ y' hv',normV m.mds y hv b=some (y',hv',n)∧NV b n hp hp' hv'∧RV2 hp' v' y'∧∀ i∈ids2 v',i<b + n:=by
 cases m with
 | one m =>
  have h:tnC m v hp b=some (v',hp',n):=h
  have cell:(∃ y0,RV0 hp v y0∧y0=y)→ids2 v=ids0 v→ids2 v'=ids0 v'→(∀ y',RV0 hp' v' y'→RV2 hp' v' y')→∃ y' hv',normV (TMs.one m).mds y hv b=some (y',hv',n)∧NV b n hp hp' hv'∧RV2 hp' v' y'∧∀ i∈ids2 v',i<b + n:=by
   rintro ⟨_,h0,rfl⟩ e1 e2 h2
   obtain ⟨y',hv',q1,q2,q3,q4⟩:=VO hh hb (by rw[←e1]; exact hi) h0 h
   exact ⟨y',hv',q1,q2.toNV,h2 y' q3,by rw[e2]; exact q4⟩
  cases m with
  | keep =>
   simp only[tnC,Option.some.injEq,Prod.mk.injEq] at h
   obtain ⟨rfl,rfl,rfl⟩:=h
   exact ⟨y,hv,rfl,(NT.refl hh hb).toNV,hv2,hi⟩
  | own ty deep t =>
   have hw:∃ i,v' = .ow i:=by
    cases v <;> simp only[tnC,reduceCtorEq] at h
    ·simp only[Option.some.injEq,Prod.mk.injEq] at h; exact ⟨_,h.1.symm⟩
    ·repeat' (split at h)
     all_goals first | (simp only[Option.some.injEq,Prod.mk.injEq] at h; exact ⟨_,h.1.symm⟩) | cases h
   obtain ⟨i',rfl⟩:=hw
   cases v <;> simp only[tnC,reduceCtorEq] at h
   ·exact cell ⟨y,hv2,rfl⟩ rfl rfl fun y' h=>h
   ·exact cell ⟨y,hv2,rfl⟩ rfl rfl fun y' h=>h
  | im t =>
   have hw:∃ l,v' = .im t l:=by
    simp only[tnC] at h
    split at h
    ·simp only[Option.some.injEq,Prod.mk.injEq] at h; exact ⟨_,h.1.symm⟩
    ·cases h
   obtain ⟨l',rfl⟩:=hw
   cases v <;> first | exact cell ⟨y,hv2,rfl⟩ rfl rfl fun y' h=>h | (simp[tnC,asLh,asL] at h; done)
  | sub =>
   have hw:∃ i lo k,v' = .ar i lo k:=by
    cases v <;> simp only[tnC,reduceCtorEq] at h
    ·split at h
     ·simp only[Option.some.injEq,Prod.mk.injEq] at h; exact ⟨_,_,_,h.1.symm⟩
     ·cases h
    ·simp only[Option.some.injEq,Prod.mk.injEq] at h; exact ⟨_,_,_,h.1.symm⟩
   obtain ⟨i',lo',k',rfl⟩:=hw
   cases v <;> first | exact cell ⟨y,hv2,rfl⟩ rfl rfl fun y' h=>h | (simp[tnC] at h; done)
 | agg l =>
  cases v with
  | agg cs =>
   simp only[tnV] at h
   split at h
   ·rename_i cs' hp1 n1 h1
    simp only[Option.some.injEq,Prod.mk.injEq] at h
    obtain ⟨rfl,rfl,rfl⟩:=h
    obtain ⟨us,rfl,hc⟩:=Ny hv2
    obtain ⟨ys',hv',q1,q2,q3,q4⟩:=Rr hh hb hi hc h1
    refine ⟨.agg ys',hv',?_,q2.toNV,⟨ys',rfl,q3⟩,q4⟩
    show (normL (l.map TM.md) us hv b).map _=_
    rw[q1]; rfl
   ·cases h
  | _=>simp[tnV] at h
 | box l =>
  cases v with
  | rf id r c =>
   simp only[tnV] at h
   split at h
   ·rename_i ty cs hg
    split at h
    ·rename_i cs' hp1 n1 h1
     split at h
     ·rename_i hok
      simp only[Option.some.injEq,Prod.mk.injEq] at h
      obtain ⟨rfl,rfl,rfl⟩:=h
      have:y = .rf id r c:=hv2
      subst this
      obtain ⟨k,hk,k1,k2,row,k3,k4,k5⟩:=hh id _ hg
      obtain ⟨ys',hv',q1,q2,q3,q4⟩:=Rr hh hb (hb id _ hg).2 k5 h1
      have hlt:=(hb id _ hg).1
      have hbx:=q2.box id ty cs hlt hg
      have hkp:∀ i,Keeps hp1 ((id,some (.box ty cs'))::hp1) i:=fun i=>N1 (y:=.box ty cs') hbx rfl i
      have hoc:ys'.all okCell=true:=by
       have key:∀ {xs:List SV} {us:List V},RC (RV0 hp1) xs us→xs.all okT=true→us.all okCell=true:=by
        intro xs
        induction xs with
        | nil=>intro us h _; cases us with | nil=>rfl | cons a l=>exact h.elim
        | cons x xs ih =>
         intro us h ho
         cases us with
         | nil=>exact h.elim
         | cons u us =>
          simp only[List.all_cons,Bool.and_eq_true] at ho ⊢
          exact ⟨Xf h.1 ho.1,ih h.2 ho.2⟩
       exact key q3 hok
      have hlen:cs'.length=cs.length:=by
       have:∀ {ms:List TM} {vs vs':List SV} {hp hp':THp} {b n:Nat},tnL ms vs hp b=some (vs',hp',n)→vs'.length=vs.length:=by
        intro ms
        induction ms with
        | nil=>intro vs vs' hp hp' b n h; cases vs with | nil=>simp[tnL] at h; simp[h] | cons _ _=>simp[tnL] at h
        | cons m ms ih =>
         intro vs vs' hp hp' b n h
         cases vs with
         | nil=>simp[tnL] at h
         | cons v vs =>
          simp only[tnL] at h
          split at h
          ·split at h
           ·rename_i h2
            simp only[Option.some.injEq,Prod.mk.injEq] at h
            obtain ⟨rfl,_,_⟩:=h
            simp[ih h2]
           ·cases h
          ·cases h
       exact this h1
      refine ⟨.rf id r c,upd hv' id (some { k with rows:=[ys'] }),?_,⟨?_,fun i z hz=>?_,fun i hi=>(q2.keep i hi).trans (hkp i)⟩,rfl,fun i hi=>by simp[ids2,ids1,ids0] at hi⟩
      ·show (match hv id with | some k=>(match k.kind,k.rows with | Kind.box,[row]=>(match normL (l.map TM.md) row hv b with | some (cs',hp1,n)=>if cs'.all okCell then some (V.rf id r c,upd hp1 id (some { k with rows:=[cs'] }),n) else none | none=>none) | _,_=>none) | none=>none)=_
       rw[hk]
       simp only[k1,k3,q1,hoc,if_true]
      ·refine q2.rh.put (fun i _=>hkp i) (fun _ _ _ _ i _=>hkp i) ⟨k1,k2,ys',rfl,?_,q3⟩
       show k.size=ys'.length
       rw[k4,k5.length,q3.length,hlen]
      ·rw[Al] at hz
       split at hz
       ·cases hz; rename_i he; subst he; exact ⟨by omega,q4⟩
       ·exact q2.bel i z hz
     ·cases h
    ·cases h
   ·cases h
  | _=>simp[tnV] at h
theorem VI:∀ {l:List (Nat×TMs)} {st st':TSt} {s:St},RS st s→Bel (16*st.c) st.hp→(∀ t,∀ i∈ids2 (getV st.tm t),i<16*st.c)→tnS l st=some st' →
  ∃ s',normS (mdsL l) s=some s'∧RS st' s'∧Bel (16*st'.c) st'.hp∧∀ t,∀ i∈ids2 (getV st'.tm t),i<16*st'.c
 | [],st,st',s,hs,hb,hi,h=>by
  simp only[tnS,Option.some.injEq] at h
  subst h
  exact ⟨s,rfl,hs,hb,hi⟩
 | (k,m)::l,st,st',s,hs,hb,hi,h=>by
  simp only[tnS] at h
  split at h
  ·rename_i x hp1 n h1
   split at h
   ·rename_i hn
    have hn:=Nat.le_of_ble_eq_true hn
    obtain ⟨y',hv1,q1,q2,q3,q4⟩:=V4 hs.hp hb (hi k) (hs.tm k) h1
    obtain ⟨s',e1,e2,e3,e4⟩:=VI (s:={ tm:=upd s.tm k y',hp:=hv1,c:=s.c + 1 }) (st:={ tm:=(k,x)::st.tm,hp:=hp1,c:=st.c + 1 }) ⟨fun t=>by
      show RV2 hp1 (getV ((k,x)::st.tm) t) (upd s.tm k y' t)
      rw[CM]
      unfold upd
      split
      ·exact q3
      ·exact (hs.tm t).keeps fun i hi'=>q2.keep i (hi t i hi'),q2.rh,by show s.c + 1=st.c + 1; rw[hs.c]⟩ (q2.bel.mono (by show _≤16*(st.c + 1); omega)) (fun t i hi'=>by
      have hi':i∈ids2 (getV ((k,x)::st.tm) t):=hi'
      show i<16*(st.c + 1)
      rw[CM] at hi'
      split at hi'
      ·have:=q4 i hi'; omega
      ·have:=hi t i hi'; omega) h
    refine ⟨s',?_,e2,e3,e4⟩
    show normS ((k,m.mds)::mdsL l) s=_
    simp only[normS]
    rw[hs.c,q1]
    simp only
    rw[if_pos hn]
    rw[←hs.c]
    exact e1
   ·cases h
  ·cases h
theorem Vy:∀ {ms:List TMs} {xs xs':List SV} {ys:List V} {hp hp':THp} {hv:Hp} {c:Nat},RH hp hv→Bel (16*c) hp→(∀ i∈xs.flatMap ids2,i<16*c)→RC (RV2 hp) xs ys→tnR ms xs hp c=some (xs',hp') →
  ∃ ys' hv' c',normR (ms.map TMs.mds) ys hv c=some (ys',hv',c')∧RH hp' hv'∧RC (RV2 hp') xs' ys'∧(∀ i,i<16*c→Keeps hp hp' i)
 | [],[],xs',ys,hp,hp',hv,c,hh,hb,hi,hc,h=>by
  simp only[tnR,Option.some.injEq,Prod.mk.injEq] at h
  obtain ⟨rfl,rfl⟩:=h
  cases ys with
  | nil=>exact ⟨[],hv,c,rfl,hh,trivial,fun i _=>Keeps.refl hp i⟩
  | cons a l=>exact hc.elim
 | m::ms,x::xs,xs',ys,hp,hp',hv,c,hh,hb,hi,hc,h=>by
  cases ys with
  | nil=>exact hc.elim
  | cons y ys =>
   simp only[tnR] at h
   split at h
   ·rename_i z hp1 n h1
    split at h
    ·rename_i hn
     have hn:=Nat.le_of_ble_eq_true hn
     split at h
     ·rename_i zs hp2 h2
      simp only[Option.some.injEq,Prod.mk.injEq] at h
      obtain ⟨rfl,rfl⟩:=h
      obtain ⟨y',hv1,q1,q2,q3,q4⟩:=V4 hh hb (fun i hi'=>hi i (by simp[hi'])) hc.1 h1
      obtain ⟨ys',hv2,c',e1,e2,e3,e4⟩:=Vy q2.rh (q2.bel.mono (show _≤16*(c + 1) by omega)) (fun i hi'=>by have:=hi i (by simp only[List.flatMap_cons,List.mem_append]; exact .inr hi'); omega) (hc.2.mono fun x hx y hxy=>hxy.keeps fun i hi'=>q2.keep i (hi i (by simp only[List.flatMap_cons,List.mem_append]; exact .inr (List.mem_flatMap.2 ⟨x,hx,hi'⟩)))) h2
      refine ⟨y'::ys',hv2,c',?_,e2,⟨q3.keeps fun i hi'=>e4 i (by have:=q4 i hi'; omega),e3⟩,fun i hi'=>(q2.keep i hi').trans (e4 i (by omega))⟩
      simp only[List.map_cons,normR,q1,if_pos hn,e1]
     ·cases h
    ·cases h
   ·cases h
 | [],_::_,_,_,_,_,_,_,_,_,_,_,h=>by simp[tnR] at h
 | _::_,[],_,_,_,_,_,_,_,_,_,_,h=>by simp[tnR] at h
end
end
section
open Go
section
variable {hp hp' H:THp} {hv hv':Hp}
theorem JR {i:Nat}:∀ {l:List Nat},memN i l=l.contains i
 | []=>rfl
 | x::l=>by
  simp only[memN,List.contains_cons]
  rw[JR]
  cases h:Nat.beq x i with
  | true=>have:=Nat.eq_of_beq_eq_true h; subst this; simp
  | false =>
   have:x≠i:=fun he=>by subst he; rw[Nat.beq_refl] at h; cases h
   have h2:(i==x)=false:=by simpa using fun he:i=x=>this he.symm
   rw[h2]; rfl
theorem FV:∀ {l m:List Nat},eqNs l m=true→l=m
 | [],[],_=>rfl
 | x::l,y::m,h=>by
  simp only[eqNs,Bool.and_eq_true] at h
  rw[Nat.eq_of_beq_eq_true h.1,FV h.2]
 | [],_::_,h=>by cases h
 | _::_,[],h=>by cases h
theorem Z9 {v:SV} {y:V} (hs:sure0 v=true) (h:RV0 hp v y):refs0 y=rf0 v:=by
 cases v with
 | im t l=>rcases h with ⟨_,rfl⟩ | ⟨_,rfl,_⟩ <;> rfl
 | ow id=>obtain ⟨_,rfl,_⟩:=h; rfl
 | ir t a c=>obtain ⟨_,rfl,_⟩:=h; rfl
 | cl f cs=>cases cs with | nil=>have:y=_:=h; subst this; rfl | cons a l=>exact h.elim
 | any=>cases hs
 | agg cs=>exact h.elim
 | tup cs=>exact h.elim
 | _=>have:y=_:=h; subst this; rfl
theorem MU:∀ {vs:List SV} {ys:List V},vs.all sure0=true→RC (RV0 hp) vs ys→ys.flatMap refs0=vs.flatMap rf0
 | [],[],_,_=>rfl
 | v::vs,y::ys,hs,h=>by
  simp only[List.all_cons,Bool.and_eq_true] at hs
  rw[List.flatMap_cons,List.flatMap_cons,Z9 hs.1 h.1,MU hs.2 h.2]
 | [],_::_,_,h=>h.elim
 | _::_,[],_,h=>h.elim
theorem Du {v:SV} {y:V} (hs:sure1 v=true) (h:RV2 hp v y):RV1 hp v y∧refs1 y=rf1 v∧refs2 y=rf1 v∧notTup y=true:=by
 have cell:∀ {v:SV} {y:V},sure0 v=true→RV0 hp v y→RV1 hp v y∧refs1 y=rf0 v∧refs2 y=rf0 v∧notTup y=true:=by
  intro v y hs h
  refine ⟨h.to1,?_⟩
  cases v with
  | im t l=>rcases h with ⟨_,rfl⟩ | ⟨_,rfl,_⟩ <;> exact ⟨rfl,rfl,rfl⟩
  | ow id=>obtain ⟨_,rfl,_⟩:=h; exact ⟨rfl,rfl,rfl⟩
  | ir t a c=>obtain ⟨_,rfl,_⟩:=h; exact ⟨rfl,rfl,rfl⟩
  | cl f cs=>cases cs with | nil=>have:y=_:=h; subst this; exact ⟨rfl,rfl,rfl⟩ | cons a l=>exact h.elim
  | any=>cases hs
  | agg cs=>exact h.elim
  | tup cs=>exact h.elim
  | _=>have:y=_:=h; subst this; exact ⟨rfl,rfl,rfl⟩
 cases v with
 | agg cs =>
  obtain ⟨us,rfl,hc⟩:=h
  have:=MU hs hc
  exact ⟨⟨us,rfl,hc⟩,this,this,rfl⟩
 | cl f cs =>
  obtain ⟨us,rfl,hc⟩:=h
  have:=MU hs hc
  exact ⟨⟨us,rfl,hc⟩,this,this,rfl⟩
 | tup vs=>cases hs
 | any=>cases hs
 | int k n=>exact cell (v:=.int k n) hs h
 | bool b=>exact cell (v:=.bool b) hs h
 | str s=>exact cell (v:=.str s) hs h
 | sc x=>exact cell (v:=.sc x) hs h
 | em=>exact cell (v:=.em) hs h
 | er e=>exact cell (v:=.er e) hs h
 | im t l=>exact cell (v:=.im t l) hs h
 | ow id=>exact cell (v:=.ow id) hs h
 | ar a b c=>exact cell (v:=.ar a b c) hs h
 | rf a b c=>exact cell (v:=.rf a b c) hs h
 | ir a b c=>exact cell (v:=.ir a b c) hs h
theorem VS {b:TB} {k:Blk} (hs:sureB b=true) (h:RB hp b k):refsB k=rfB b:=by
 cases b with
 | arr ty deep t l=>obtain ⟨h1,_⟩:=h; simp only[refsB,h1,rfB]
 | frz ty deep t l=>obtain ⟨h1,_⟩:=h; simp only[refsB,h1,rfB]
 | box ty cs =>
  obtain ⟨h1,h2,row,h3,h4,h5⟩:=h
  unfold refsB
  rw[h1,h3]
  simp only[List.flatMap_cons,List.flatMap_nil,List.append_nil]
  exact MU hs h5
theorem Dq (hh:RH hp hv):∀ (k:Nat) (l acc:List Nat) {o:List Nat},closeT hp k l acc=some o→close hv k l acc=some o
 | 0,_,_,_,h=>by cases h
 | k + 1,[],acc,o,h=>h
 | k + 1,id::l,acc,o,h=>by
  simp only[closeT] at h
  simp only[close]
  rw[JR] at h
  cases hc:acc.contains id with
  | true =>
   rw[hc] at h
   rw[if_pos rfl]
   exact Dq hh k l acc h
  | false =>
   rw[hc] at h
   rw[if_neg (by simp)]
   simp only[cond_false] at h
   split at h
   ·cases h
   ·rename_i b hb
    obtain ⟨hs,h⟩:=Bd h
    obtain ⟨kb,hk,hr⟩:=hh id b hb
    simp only[hk,VS hs hr]
    exact Dq hh k _ _ h
theorem Il:∀ (o:List Nat) (id:Nat),idxT o id=idx o id
 | [],_=>rfl
 | x::l,id=>by
  unfold idx
  rw[List.idxOf?_cons]
  simp only[idxT]
  cases h:Nat.beq x id with
  | true=>have:=Nat.eq_of_beq_eq_true h; subst this; simp
  | false =>
   have:x≠id:=fun he=>by subst he; rw[Nat.beq_refl] at h; cases h
   have h2:(x==id)=false:=by simpa using this
   rw[h2]
   simp only[cond_false,Bool.false_eq_true,if_false]
   rw[Il l id]
   unfold idx
   cases List.idxOf? id l <;> rfl
theorem UT:∀ {o:List Nat} {id j:Nat},idx o id=some j→o[j]? = some id:=by
 intro o id j h
 rw[←Il] at h
 induction o generalizing j with
 | nil=>cases h
 | cons x l ih =>
  simp only[idxT] at h
  cases hx:Nat.beq x id with
  | true =>
   rw[hx] at h
   have:=Nat.eq_of_beq_eq_true hx
   subst this
   cases h
   rfl
  | false =>
   rw[hx] at h
   simp only[cond_false] at h
   split at h
   ·rename_i j' hj
    cases h
    rw[List.getElem?_cons_succ]
    exact ih hj
   ·cases h
section
variable {f:Nat→Option Nat} (hlen:∀ id j,f id=some j→∀ b',getB H j=some b'→∃ b,getB hp id=some b∧blen b=blen b')
include hlen
theorem V1 {v:SV} {y:V} (h:RV0 hp v y):RV0 H (renS0 f v) (ren0 f y):=by
 cases v with
 | im t l=>rcases h with ⟨h1,rfl⟩ | ⟨rows,rfl,h1⟩; exact .inl ⟨h1,rfl⟩; exact .inr ⟨rows,rfl,h1⟩
 | ow id =>
  obtain ⟨n,rfl,h1⟩:=h
  simp only[renS0,ren0]
  cases hf:f id with
  | none=>trivial
  | some j =>
   refine ⟨n,rfl,fun b' hb'=>?_⟩
   obtain ⟨b,q1,q2⟩:=hlen id j hf b' hb'
   rw[←q2]; exact h1 b q1
 | ar id lo n =>
  have:y=_:=h
  subst this
  simp only[renS0,ren0]
  cases hf:f id with
  | none=>trivial
  | some j=>rfl
 | rf id r c =>
  have:y=_:=h
  subst this
  simp only[renS0,ren0]
  cases hf:f id with
  | none=>trivial
  | some j=>rfl
 | ir t a c=>obtain ⟨row,rfl,h1⟩:=h; exact ⟨row,rfl,h1⟩
 | cl g cs=>cases cs with | nil=>have:y=_:=h; subst this; rfl | cons a l=>exact h.elim
 | any=>trivial
 | agg cs=>exact h.elim
 | tup cs=>exact h.elim
 | _=>have:y=_:=h; subst this; rfl
theorem MR:∀ {vs:List SV} {ys:List V},RC (RV0 hp) vs ys→RC (RV0 H) (vs.map (renS0 f)) (ys.map (ren0 f))
 | [],[],_=>trivial
 | v::vs,y::ys,h=>⟨V1 hlen h.1,MR h.2⟩
 | [],_::_,h=>h.elim
 | _::_,[],h=>h.elim
theorem Ru {v:SV} {y:V} (h:RV1 hp v y) (hs:sure1 v=true):RV1 H (renS1 f v) (ren1 f y):=by
 have cell:∀ {v:SV} {y:V},RV0 hp v y→renS1 f v=renS0 f v→ren1 f y=ren0 f y→RV1 H (renS1 f v) (ren1 f y):=by
  intro v y h e1 e2
  rw[e1,e2]
  exact (V1 hlen h).to1
 cases v with
 | agg cs=>obtain ⟨us,rfl,hc⟩:=h; exact ⟨_,rfl,MR hlen hc⟩
 | cl g cs=>obtain ⟨us,rfl,hc⟩:=h; exact ⟨_,rfl,MR hlen hc⟩
 | im t l=>rcases h with ⟨h1,rfl⟩ | ⟨rows,rfl,h1⟩; exact .inl ⟨h1,rfl⟩; exact .inr ⟨rows,rfl,h1⟩
 | ow id=>obtain ⟨n,rfl,h1⟩:=h; exact cell (v:=.ow id) ⟨n,rfl,h1⟩ rfl rfl
 | ir t a c=>obtain ⟨row,rfl,h1⟩:=h; exact ⟨row,rfl,h1⟩
 | any=>trivial
 | tup cs=>exact h.elim
 | ar id lo n=>have:y=_:=h; subst this; exact cell (v:=.ar id lo n) rfl rfl rfl
 | rf id lo n=>have:y=_:=h; subst this; exact cell (v:=.rf id lo n) rfl rfl rfl
 | _=>have:y=_:=h; subst this; rfl
theorem Zb {b:TB} {k:Blk} (h:RB hp b k):RB H (renTB f b) (renB f k):=by
 cases b with
 | arr ty deep t l =>
  obtain ⟨h1,h2,h3,h4,h5⟩:=h
  have:renB f k=k:=by unfold renB; rw[h1]
  rw[this]; exact ⟨h1,h2,h3,h4,h5⟩
 | frz ty deep t l =>
  obtain ⟨h1,h2,h3,h4,h5⟩:=h
  have:renB f k=k:=by unfold renB; rw[h1]
  rw[this]; exact ⟨h1,h2,h3,h4,h5⟩
 | box ty cs =>
  obtain ⟨h1,h2,row,h3,h4,h5⟩:=h
  have e:renB f k = { k with rows:=k.rows.map (·.map (ren0 f)) }:=by unfold renB; rw[h1]
  rw[e]
  refine ⟨h1,h2,row.map (ren0 f),by simp[h3],by simpa using h4,MR hlen h5⟩
end
theorem Sm {f:Nat→Option Nat} (b:TB):blen (renTB f b)=blen b:=by cases b <;> rfl
theorem M3 {f:Nat→Option Nat}:∀ (o:List Nat) (k j:Nat),getB (renHp hp f k o) j=if k≤j then (o[j-k]?).bind fun id=>(getB hp id).map (renTB f) else none
 | [],k,j=>by simp[renHp,getB]
 | id::o,k,j=>by
  simp only[renHp]
  rw[Al,M3 o (k + 1) j]
  by_cases h:j=k
  ·subst h
   rw[if_pos rfl,if_pos (Nat.le_refl _)]
   simp
   cases getB hp id <;> rfl
  ·rw[if_neg h]
   by_cases h2:k≤j
   ·rw[if_pos h2,if_pos (by omega),show j-k=(j-(k + 1)) + 1 by omega,List.getElem?_cons_succ]
   ·rw[if_neg h2,if_neg (by omega)]
theorem K2 (hh:RH hp hv) (o:List Nat):RH (renHp hp (idxT o) 0 o) (lkB (blksOf hv o))∧∀ id j,idx o id=some j→∀ b',getB (renHp hp (idxT o) 0 o) j=some b'→∃ b,getB hp id=some b∧blen b=blen b':=by
 have hf:idxT o=idx o:=funext fun id=>Il o id
 have hget:∀ j b',getB (renHp hp (idxT o) 0 o) j=some b'→∃ id b,o[j]? = some id∧getB hp id=some b∧b'=renTB (idx o) b:=by
  intro j b' hb
  rw[M3,if_pos (Nat.zero_le _),Nat.sub_zero,hf] at hb
  obtain ⟨id,h1,h2⟩:=AA hb
  simp only[Option.map_eq_some_iff] at h2
  obtain ⟨b,h3,h4⟩:=h2
  exact ⟨id,b,h1,h3,h4.symm⟩
 have hlen:∀ id j,idx o id=some j→∀ b',getB (renHp hp (idxT o) 0 o) j=some b'→∃ b,getB hp id=some b∧blen b=blen b':=by
  intro id j hj b' hb
  obtain ⟨id',b,h1,h2,rfl⟩:=hget j b' hb
  rw[UT hj] at h1
  cases h1
  exact ⟨b,h2,(Sm b).symm⟩
 refine ⟨fun j b' hb=>?_,hlen⟩
 obtain ⟨id,b,h1,h2,rfl⟩:=hget j b' hb
 obtain ⟨k,hk,hr⟩:=hh id b h2
 refine ⟨renB (idx o) k,?_,Zb hlen hr⟩
 show (blksOf hv o)[j]? = _
 unfold blksOf
 rw[List.getElem?_map,h1]
 simp only[Option.map_some,hk,Option.getD_some]
theorem ren12 {f:Nat→Option Nat} {y:V} (h:notTup y=true):ren2 f y=ren1 f y:=by
 cases y <;> first | rfl | cases h
theorem U7 {e:Nat} {keep:List Nat} {st st2:TSt} {s:St} (hs:RS st s) (h:canonT e keep st=some st2):∃ s2,(∀ K:St→Prop,K s2→canon0 e keep s K)∧RS st2 s2:=by
 unfold canonT at h
 split at h
 ·rename_i hsure
  split at h
  ·rename_i o ho
   split at h
   ·rename_i hc
    simp only[Bool.and_eq_true] at hc
    simp only[Option.some.injEq] at h
    subst h
    have hrefs:∀ t∈keep,refs2 (s.tm t)=rf1 (getV st.tm t):=fun t ht=>(Du (List.all_eq_true.1 hsure t ht) (hs.tm t)).2.2.1
    have hfl:(keep.flatMap fun t=>refs2 (s.tm t))=keep.flatMap fun t=>rf1 (getV st.tm t):=by
     have:∀ (l:List Nat),(∀ t∈l,refs2 (s.tm t)=rf1 (getV st.tm t))→(l.flatMap fun t=>refs2 (s.tm t))=l.flatMap fun t=>rf1 (getV st.tm t):=by
      intro l
      induction l with
      | nil=>intro _; rfl
      | cons a l ih=>intro h; rw[List.flatMap_cons,List.flatMap_cons,h a (by simp),ih fun t ht=>h t (by simp[ht])]
     exact this keep hrefs
    have hcl:=Dq hs.hp _ _ _ ho
    obtain ⟨h1,hlen⟩:=K2 hs.hp o
    have hf:idxT o=idx o:=funext fun id=>Il o id
    refine ⟨{ tm:=lk .any (keep.map fun t=>(t,ren2 (idx o) (s.tm t))),hp:=lkB (blksOf s.hp o),c:=1 },fun K hK=>?_,⟨?_,h1,rfl⟩⟩
    ·unfold canon0
     rw[hfl,hcl]
     exact ⟨Nat.le_of_ble_eq_true hc.1,FV hc.2,hK⟩
    ·have key:∀ (l:List Nat),(∀ t∈l,t∈keep)→RT (renHp st.hp (idxT o) 0 o) (l.map fun t=>(t,renS1 (idxT o) (getV st.tm t))) (lk .any (l.map fun t=>(t,ren2 (idx o) (s.tm t)))):=by
      intro l
      induction l with
      | nil=>intro _ t; trivial
      | cons a l ih =>
       intro hl t
       show RV2 _ (getV ((a,_)::l.map _) t) (if t=a then _ else lk .any (l.map _) t)
       rw[CM]
       split
       ·obtain ⟨q1,_,_,q4⟩:=Du (List.all_eq_true.1 hsure a (hl a (by simp))) (hs.tm a)
        rw[ren12 q4,hf]
        rw[hf] at hlen
        exact (Ru hlen q1 (List.all_eq_true.1 hsure a (hl a (by simp)))).to2
       ·exact ih (fun t ht=>hl t (by simp[ht])) t
     exact key keep fun t ht=>ht
   ·cases h
  ·cases h
 ·cases h
end
end
section
open Go
theorem Ac9:∀ (u v:Bool) (A B:Type) (a0:u=true→A) (a:A) (b:B),(u=true→∀ x y:A,x=y)→fstP u v A B a0 (mkP u v A B a b)=a
 | true,_,_,_,_,_,_,h=>h rfl _ _
 | false,true,_,_,_,_,_,_=>rfl
 | false,false,_,_,_,_,_,_=>rfl
theorem Ae2:∀ (u v:Bool) (A B:Type) (b0:v=true→B) (a:A) (b:B),(v=true→∀ x y:B,x=y)→sndP u v A B b0 (mkP u v A B a b)=b
 | true,_,_,_,_,_,_,_=>rfl
 | false,true,_,_,_,_,_,h=>h rfl _ _
 | false,false,_,_,_,_,_,_=>rfl
theorem Zr:∀ (u v:Bool) (A B:Type),u=true→(v=true→∀ x y:B,x=y)→v=true→∀ x y:PairT u v A B,x=y
 | true,true,_,_,_,h,_,x,y=>h rfl x y
 | false,_,_,_,h,_,_,_,_=>by cases h
 | true,false,_,_,_,_,h,_,_=>by cases h
section
variable {ι:Type} {den : ι→Type} {u : ι→Bool} {un:∀ x,u x=true→den x} (hu:∀ x,u x=true→∀ a b:den x,a=b)
include hu
theorem KA:∀ (l:List ι),l.all u=true→∀ a b:denL den u l,a=b
 | [],_,_,_=>rfl
 | x::l,h,a,b=>by
  simp only[List.all_cons,Bool.and_eq_true] at h
  exact Zr (u x) (l.all u) (den x) (denL den u l) h.1 (fun hl=>KA l hl) h.2 a b
theorem Sk (x : ι) (l:List ι) (a:den x) (d:denL den u l):hdL den u un x l (consL den u x l a d)=a:=Ac9 _ _ _ _ _ _ _ fun h=>hu x h
theorem TK (x : ι) (l:List ι) (a:den x) (d:denL den u l):tlL den u un x l (consL den u x l a d)=d:=Ae2 _ _ _ _ _ _ _ fun h=>KA hu l h
end
theorem Hi:∀ (c:AC),c.isU=true→∀ a b:c.den,a=b
 | .at _,_,_,_=>rfl
 | .int _,h,_,_=>by cases h
 | .bool,h,_,_=>by cases h
 | .str,h,_,_=>by cases h
 | .im _,h,_,_=>by cases h
theorem YX (c:AC) (cs:List AC) (a:c.den) (d:denC cs):hdC c cs (consC c cs a d)=a:=Sk Hi c cs a d
theorem Yt (c:AC) (cs:List AC) (a:c.den) (d:denC cs):tlC c cs (consC c cs a d)=d:=TK Hi c cs a d
theorem SQ:∀ (x:Item),x.isU=true→∀ a b:x.den,a=b
 | .blk (.box _ cs),h,a,b=>KA Hi cs h a b
 | .blk (.arr _ _ _),h,_,_=>by cases h
 | .slot _ (.cell c),h,a,b=>Hi c h a b
 | .slot _ (.agg cs),h,a,b=>KA Hi cs h a b
 | .slot _ (.ref _ _),_,_,_=>rfl
 | .slot _ (.clo _),_,_,_=>rfl
 | .slot _ (.cap _ _),_,_,_=>rfl
 | .slot _ (.sub _),h,_,_=>by cases h
theorem MQ (x:Item) (l:List Item) (a:x.den) (d:denI l):hdI x l (consI x l a d)=a:=Sk SQ x l a d
theorem J5 (x:Item) (l:List Item) (a:x.den) (d:denI l):tlI x l (consI x l a d)=d:=TK SQ x l a d
theorem YU {c:AC} {v:SV} {x:c.den} (h:rdC c v=some x):v=encC c x:=by
 cases c with
 | int k =>
  cases v <;> simp only[rdC,reduceCtorEq] at h
  split at h
  ·rename_i hk; cases h; subst hk; rfl
  ·cases h
 | bool=>cases v <;> simp only[rdC,reduceCtorEq] at h; cases h; rfl
 | str=>cases v <;> simp only[rdC,reduceCtorEq] at h; cases h; rfl
 | err=>cases v <;> simp only[rdC,reduceCtorEq] at h; cases h; rfl
 | im t =>
  cases v <;> simp only[rdC,reduceCtorEq] at h
  split at h
  ·rename_i he; cases h; subst he; rfl
  ·cases h
 | «at» j =>
  cases v <;> simp only[rdC,reduceCtorEq] at h
  split at h
  ·rename_i he; have:=Nat.eq_of_beq_eq_true he; subst this; rfl
  ·cases h
theorem RO:∀ {cs:List AC} {vs:List SV} {x:denC cs},rdCs cs vs=some x→vs=encCs cs x
 | [],[],_,_=>rfl
 | [],_::_,_,h=>by cases h
 | _::_,[],_,h=>by cases h
 | c::cs,v::vs,x,h=>by
  simp only[rdCs] at h
  split at h
  ·rename_i a ha
   split at h
   ·rename_i d hd
    cases h
    rw[encCs,YX,Yt,←YU ha,←RO hd]
   ·cases h
  ·cases h
theorem Af1 {b:AB} {tb:TB} {x:b.den} (h:rdB b tb=some x):tb=encB b x:=by
 cases b with
 | arr ty deep t =>
  cases tb <;> simp only[rdB,reduceCtorEq] at h
  split at h
  ·rename_i he
   split at h
   ·rename_i hc
    simp only[Bool.and_eq_true,beq_iff_eq] at hc
    cases h
    subst he
    rw[Nat.eq_of_beq_eq_true hc.1,hc.2]
    rfl
   ·cases h
  ·cases h
 | box ty cs =>
  cases tb <;> simp only[rdB,reduceCtorEq] at h
  split at h
  ·rename_i hc
   rw[Nat.eq_of_beq_eq_true hc,RO h]
   rfl
  ·cases h
theorem VG:∀ {js:List Nat} {vs:List SV},rfsB js vs=true→vs=js.map fun j=>.rf j 0 0
 | [],[],_=>rfl
 | [],_::_,h=>by simp[rfsB] at h
 | j::js,v::vs,h=>by
  cases v with
  | rf i r c =>
   cases r with
   | zero =>
    cases c with
    | zero =>
     simp only[rfsB] at h
     cases hb:Nat.beq i j with
     | false=>rw[hb] at h; cases h
     | true =>
      rw[hb] at h
      have:=Nat.eq_of_beq_eq_true hb
      subst this
      rw[List.map_cons,←VG (vs:=vs) h]
    | succ _=>simp[rfsB] at h
   | succ _=>simp[rfsB] at h
  | _=>simp[rfsB] at h
 | _::_,[],h=>by simp[rfsB] at h
theorem Af5 {a:AS} {v:SV} {x:a.den} (h:rdS a v=some x):v=encSV a x:=by
 cases a with
 | cell c=>exact YU (by cases v <;> exact h)
 | agg cs=>cases v <;> simp only[rdS,reduceCtorEq] at h; rw[RO h]; rfl
 | ref j isb =>
  cases isb with
  | false =>
   cases v <;> simp only[rdS,reduceCtorEq] at h
   split at h
   ·rename_i he; have:=Nat.eq_of_beq_eq_true he; subst this; rfl
   ·cases h
  | true =>
   cases v with
   | rf i r c =>
    cases r with
    | zero =>
     cases c with
     | zero =>
      simp only[rdS] at h
      split at h
      ·rename_i he; have:=Nat.eq_of_beq_eq_true he; subst this; rfl
      ·cases h
     | succ _=>simp[rdS] at h
    | succ _=>simp[rdS] at h
   | _=>simp[rdS] at h
 | sub j =>
  cases v <;> simp only[rdS,reduceCtorEq] at h
  split at h
  ·rename_i he; have:=Nat.eq_of_beq_eq_true he; subst this; cases h; rfl
  ·cases h
 | clo f =>
  cases v with
  | cl g cs =>
   cases cs with
   | nil =>
    simp only[rdS] at h
    split at h
    ·rename_i he; have:=Nat.eq_of_beq_eq_true he; subst this; rfl
    ·cases h
   | cons _ _=>simp[rdS] at h
  | _=>simp[rdS] at h
 | cap f js =>
  cases v with
  | cl g cs =>
   simp only[rdS] at h
   split at h
   ·rename_i he
    rw[Bool.and_eq_true] at he
    have:=Nat.eq_of_beq_eq_true he.1
    subst this
    rw[VG he.2]
    rfl
   ·cases h
  | _=>simp[rdS] at h
theorem Q6:∀ {l:List Item} {k:Nat} {tm:TTm} {hp:THp} {d:denI l},rdI k l tm hp=some d→tm=(encI k l d).1∧hp=(encI k l d).2
 | [],k,[],[],d,_=>⟨rfl,rfl⟩
 | [],k,_::_,_,_,h=>by simp[rdI] at h
 | [],k,[],_::_,_,h=>by simp[rdI] at h
 | .blk b::l,k,tm,[],_,h=>by simp[rdI] at h
 | .blk b::l,k,tm,(i,none)::hp,_,h=>by simp[rdI] at h
 | .blk b::l,k,tm,(i,some tb)::hp,d,h=>by
  simp only[rdI] at h
  split at h
  ·rename_i hi
   have:=Nat.eq_of_beq_eq_true hi
   subst this
   split at h
   ·rename_i x hx
    split at h
    ·rename_i y hy
     cases h
     obtain ⟨e1,e2⟩:=Q6 hy
     rw[encI,MQ,J5,←Af1 hx,←e1,←e2]
     exact ⟨rfl,rfl⟩
    ·cases h
   ·cases h
  ·cases h
 | .slot s a::l,k,[],hp,_,h=>by simp[rdI] at h
 | .slot s a::l,k,(i,v)::tm,hp,d,h=>by
  simp only[rdI] at h
  split at h
  ·rename_i hi
   have:=Nat.eq_of_beq_eq_true hi
   subst this
   split at h
   ·rename_i x hx
    split at h
    ·rename_i y hy
     cases h
     obtain ⟨e1,e2⟩:=Q6 hy
     rw[encI,MQ,J5,←Af5 hx,←e1,←e2]
     exact ⟨rfl,rfl⟩
    ·cases h
   ·cases h
  ·cases h
theorem JL (bl:List AB):∀ (l:List Item),(mdsL (keepT bl l)).map (·.1)=slotsI l
 | []=>rfl
 | .blk b::l=>JL bl l
 | .slot s a::l=>by
  have:=JL bl l
  unfold mdsL at this ⊢
  simp only[keepT,slotsI,List.map_cons,this]
theorem FX {e:Nat} {l:List Item} {st:TSt} {s:St} {d:denI l} (hs:RS st s) (h:decSt e l st=some d):∃ s',(∀ K:St→Prop,K s'→canon e (keepI l) s K)∧RS (encSt l d) s':=by
 unfold decSt at h
 split at h
 ·rename_i hb
  obtain ⟨b1,b2⟩:=LF hb
  split at h
  ·rename_i st1 h1
   obtain ⟨s1,n1,n2,n3,n4⟩:=VI hs b1 b2 h1
   split at h
   ·rename_i st2 h2
    obtain ⟨s2,c1,c2⟩:=U7 n2 h2
    obtain ⟨e1,e2⟩:=Q6 h
    have hc:st2.c=1:=by
     unfold canonT at h2
     split at h2
     ·split at h2
      ·split at h2
       ·simp only[Option.some.injEq] at h2; subst h2; rfl
       ·cases h2
      ·cases h2
     ·cases h2
    have:st2=encSt l d:=by
     cases st2 with
     | mk tm hp c =>
      simp only at e1 e2 hc
      subst e1
      subst e2
      subst hc
      rfl
    rw[this] at c2
    refine ⟨s2,fun K hK=>?_,c2⟩
    unfold canon
    rw[show keepI l=mdsL (keepT (blksI l) l) from rfl,n1]
    simp only[Af,JL]
    exact c1 K hK
   ·cases h
  ·cases h
 ·cases h
end
section
open Go
structure ResRel (res:List Item) (y:denI res) (r:V) (blks:List Blk):Prop where
 val:RV2 (encI 0 res y).2 (tupT ((encI 0 res y).1.map (·.2))) r
 blk:RH (encI 0 res y).2 (lkB blks)
 len:blks.length=(encI 0 res y).2.length
def EntOK (R:Rel) (E:Ent):Prop:=∀ x y args blks st,E.F x=some y→RS st (entry args blks)→decSt E.a.e E.a.params st=some x→idsOK args blks=true→args.length=(slotsI E.a.params).length→(args.flatMap refs1).eraseDups.length=E.a.e→(E.a.e=0→blks = []) →
 ∃ r blks',R E.a.g args blks r blks'∧ResRel E.a.res y r blks'
section
variable {P:Program} {X:TX} {g:FuncId}
theorem NM {α:Type} (hX:XOK P X) {st:TSt} {s:St} (hs:RS st s):∀ (l:List ResultVar) {K:List SV→Option α} {z : α},tRes X st.tm st.hp l K=some z →
  ∃ xs ys,K xs=some z∧RC (RV2 st.hp) xs ys∧∀ KV:List V→Prop,KV ys→resVs P s l KV
 | [],K,z,h=>⟨[],[],h,trivial,fun KV hk=>hk⟩
 | .tmp t::l,K,z,h=>by
  obtain ⟨xs,ys,h1,h2,h3⟩:=NM hX hs l h
  exact ⟨_,_::ys,h1,⟨hs.tm t,h2⟩,fun KV hk=>h3 _ hk⟩
 | .cell a t::l,K,z,h=>by
  simp only[tRes] at h
  obtain ⟨x,u,h1,h2,h3⟩:=S3 hX (hs.tm a) hs.hp.toM h
  obtain ⟨xs,ys,q1,q2,q3⟩:=NM hX hs l h1
  refine ⟨_,u::ys,q1,⟨h2,q2⟩,fun KV hk=>?_⟩
  show (match nevM P (.load t (.tmp a)) (opnd s.tm) s.hp 0 with | some (x,_)=>resVs P s l fun xs=>KV (x::xs) | none=>False)
  rw[h3 (opnd s.tm) (.tmp a) 0 rfl]
  exact q3 _ hk
theorem QO {hp:THp}:∀ {xs:List SV} {ys:List V} (k:Nat),RC (RV2 hp) xs ys→RT hp (enumT k xs) (lk .any (enum k ys))
 | [],[],k,_=>fun t=>trivial
 | x::xs,y::ys,k,h=>by
  intro t
  show RV2 hp (getV ((k,x)::enumT (k + 1) xs) t) (if t=k then y else lk .any (enum (k + 1) ys) t)
  rw[CM]
  split
  ·exact h.1
  ·exact QO (k + 1) h.2 t
 | [],_::_,_,h=>h.elim
 | _::_,[],_,h=>h.elim
theorem JK:∀ (xs:List SV) (k:Nat),(enumT k xs).map (·.2)=xs
 | [],_=>rfl
 | x::xs,k=>by simp[enumT,JK xs (k + 1)]
theorem PI {hp:THp} {f:Nat→Option Nat}:∀ (o:List Nat) (k:Nat),(renHp hp f k o).length=o.length
 | [],_=>rfl
 | id::o,k=>by simp[renHp,PI o (k + 1)]
theorem RC.all1 {hp:THp}:∀ {vs:List SV} {ys:List V},vs.all sure1=true→RC (RV2 hp) vs ys→RC (RV1 hp) vs ys∧ys.flatMap refs1=vs.flatMap rf1∧ys.flatMap refs2=vs.flatMap rf1∧ys.all notTup=true
 | [],[],_,_=>⟨trivial,rfl,rfl,rfl⟩
 | v::vs,y::ys,hs,h=>by
  simp only[List.all_cons,Bool.and_eq_true] at hs
  obtain ⟨q1,q2,q3,q4⟩:=Du hs.1 h.1
  obtain ⟨e1,e2,e3,e4⟩:=RC.all1 hs.2 h.2
  exact ⟨⟨q1,e1⟩,by simp only[List.flatMap_cons,q2,e2],by simp only[List.flatMap_cons,q3,e3],by simp[q4,e4]⟩
 | [],_::_,_,h=>h.elim
 | _::_,[],_,h=>h.elim
theorem RC.ren {hp H:THp} {f:Nat→Option Nat} (hlen:∀ id j,f id=some j→∀ b',getB H j=some b'→∃ b,getB hp id=some b∧blen b=blen b'):∀ {vs:List SV} {ys:List V},vs.all sure1=true→RC (RV1 hp) vs ys→RC (RV1 H) (vs.map (renS1 f)) (ys.map (ren1 f))
 | [],[],_,_=>trivial
 | v::vs,y::ys,hs,h=>by
  simp only[List.all_cons,Bool.and_eq_true] at hs
  exact ⟨Ru hlen h.1 hs.1,RC.ren hlen hs.2 h.2⟩
 | [],_::_,_,h=>h.elim
 | _::_,[],_,h=>h.elim
theorem VJ (l:List (Nat×TMs)):(mdsL l).map (·.2)=(l.map (·.2)).map TMs.mds∧rootVs (mdsL l)=l.map (fun p=>V.rf p.1 0 0)∧(mdsL l).length=l.length:=by
 refine ⟨?_,?_,?_⟩
 ·simp[mdsL]
 ·unfold rootVs mdsL; simp
 ·simp[mdsL]
theorem X2 {e:Nat} {st:TSt} {s:St} {res:List Item} {rs:List ResultVar} {y:denI res} (hX:XOK P X) (hs:RS st s)
  (h:(tRes X st.tm st.hp rs fun xs=>outT res e st xs)=some y) :
  ∃ r blks',(rootsOK (mdsL (rtsT (blksI res) e 0 (blksI res))) s.hp=true∧resVs P s rs fun xs=>caseO (normR ((mdsL (rtsT (blksI res) e 0 (blksI res))).map (·.2)++(keepI res).map (·.2)) (rootVs (mdsL (rtsT (blksI res) e 0 (blksI res)))++xs) s.hp (s.c + 1)) fun z=>outL z.2.1 e r blks' (z.1.drop (mdsL (rtsT (blksI res) e 0 (blksI res))).length))∧ResRel res y r blks':=by
 obtain ⟨xs,ys,h1,h2,h3⟩:=NM hX hs rs h
 unfold outT at h1
 simp only at h1
 generalize rtsT (blksI res) e 0 (blksI res)=rts at h1 ⊢
 split at h1
 case isFalse=>cases h1
 rename_i hc
 simp only[Bool.and_eq_true] at hc
 obtain ⟨⟨c1,c2⟩,c3⟩:=hc
 split at h1
 case h_2=>cases h1
 rename_i zs0 hp1 hn
 split at h1
 case isFalse=>cases h1
 rename_i hz
 split at h1
 case h_2=>cases h1
 rename_i o ho
 split at h1
 case isFalse=>cases h1
 rename_i he
 obtain ⟨m1,m2,m3⟩:=VJ rts
 have hroot:rootsOK (mdsL rts) s.hp=true:=by
  unfold rootsT at c1
  unfold rootsOK mdsL
  rw[List.all_map]
  refine List.all_eq_true.2 fun p hp=>?_
  have:=List.all_eq_true.1 c1 p hp
  simp only[Bool.and_eq_true] at this
  simp only[Function.comp,Bool.and_eq_true,decide_eq_true_eq]
  refine ⟨Hg this.1,?_⟩
  have h4:=this.2
  split at h4
  ·rename_i ty cs hg
   obtain ⟨k,hk,k1,_⟩:=hs.hp p.1 _ hg
   rw[hk]
   simp[k1]
  ·cases h4
 have hsc:s.c=st.c:=hs.c
 obtain ⟨b1,_⟩:=LF c3
 have hids:∀ i∈(rts.map (fun p=>SV.rf p.1 0 0)++xs).flatMap ids2,i<16*(s.c + 1):=by
  intro i hi
  rw[List.flatMap_append,List.mem_append] at hi
  rcases hi with hi | hi
  ·obtain ⟨v,hv,hi⟩:=List.mem_flatMap.1 hi
   obtain ⟨p,_,rfl⟩:=List.mem_map.1 hv
   simp[ids2,ids1,ids0] at hi
  ·obtain ⟨v,hv,hi⟩:=List.mem_flatMap.1 hi
   simp only[belowT,Bool.and_eq_true] at c3
   rw[←JK xs 0] at hv
   obtain ⟨p,hp,rfl⟩:=List.mem_map.1 hv
   have:=Hg (List.all_eq_true.1 (List.all_eq_true.1 c3.1 p hp) i hi)
   omega
 have hrc:RC (RV2 st.hp) (rts.map (fun p=>SV.rf p.1 0 0)++xs) (rootVs (mdsL rts)++ys):=by
  rw[m2]
  refine RC.append (RC.map fun p _=>rfl) h2
 obtain ⟨ys',hv',c',n1,n2,n3,_⟩:=Vy (c:=s.c + 1) hs.hp (by rw[hsc]; exact b1) hids hrc (by rw[hsc]; exact hn)
 have hzc:=n3.drop rts.length
 obtain ⟨a1,a2,a3,a4⟩:=RC.all1 hz hzc
 have hcl:=Dq n2 _ _ _ ho
 obtain ⟨r1,r2⟩:=K2 n2 o
 have hf:idxT o=idx o:=funext fun id=>Il o id
 obtain ⟨e1,e2⟩:=Q6 h1
 have hvals:(encI 0 res y).1.map (·.2)=(zs0.drop rts.length).map (renS1 (idxT o)):=by rw[←e1,JK]
 have htake:=FV he
 have hrv:RC (RV1 (renHp hp1 (idxT o) 0 o)) ((zs0.drop rts.length).map (renS1 (idxT o))) ((ys'.drop rts.length).map (ren1 (idx o))):=by
  rw[hf] at r2 ⊢
  exact RC.ren r2 hz a1
 have fin:∀ r,outL hv' e r (blksOf hv' o) (ys'.drop rts.length)→RV2 (renHp hp1 (idxT o) 0 o) (tupT ((zs0.drop rts.length).map (renS1 (idxT o)))) r→∃ r blks',(rootsOK (mdsL rts) s.hp=true∧resVs P s rs fun xs=>caseO (normR ((mdsL rts).map (·.2)++(keepI res).map (·.2)) (rootVs (mdsL rts)++xs) s.hp (s.c + 1)) fun z=>outL z.2.1 e r blks' (z.1.drop (mdsL rts).length))∧ResRel res y r blks':=by
  intro r hr hv
  refine ⟨r,blksOf hv' o,⟨hroot,h3 _ ?_⟩,⟨by rw[hvals,←e2]; exact hv,by rw[←e2]; exact r1,by rw[←e2,PI]; simp[blksOf]⟩⟩
  have:(mdsL rts).map (·.2)++(keepI res).map (·.2)=(rts.map (·.2)++(keepT (blksI res) res).map (·.2)).map TMs.mds:=by
   rw[m1,show keepI res=mdsL (keepT (blksI res) res) from rfl,(VJ (keepT (blksI res) res)).1,List.map_append]
  rw[this,n1]
  simp only[Af,m3]
  exact hr
 generalize ys'.drop rts.length=zs at a1 a2 a3 a4 hrv fin
 generalize zs0.drop rts.length=vs at hrv fin a2 a3 hcl
 have many:(tupT (vs.map (renS1 (idxT o))) = .tup (vs.map (renS1 (idxT o))))→(∀ r,outL hv' e r (blksOf hv' o) zs=(zs.all notTup=true∧out1 hv' e (.tup zs) r (blksOf hv' o)))→∃ r blks',(rootsOK (mdsL rts) s.hp=true∧resVs P s rs fun xs=>caseO (normR ((mdsL rts).map (·.2)++(keepI res).map (·.2)) (rootVs (mdsL rts)++xs) s.hp (s.c + 1)) fun z=>outL z.2.1 e r blks' (z.1.drop (mdsL rts).length))∧ResRel res y r blks':=by
  intro ht ho'
  refine fin (.tup (zs.map (ren1 (idx o)))) ?_ ?_
  ·rw[ho']
   refine ⟨a4,?_⟩
   unfold out1
   rw[show refs2 (.tup zs)=zs.flatMap refs1 from rfl,a2,hcl]
   exact ⟨htake,rfl,rfl⟩
  ·rw[ht]
   exact ⟨_,rfl,hrv⟩
 match zs,vs,a2,a3,a4,hrv,hcl,fin,many with
 | [z],[v],a2,a3,a4,hrv,hcl,fin,_ =>
  refine fin (ren2 (idx o) z) ?_ ?_
  ·show out1 _ _ _ _ _
   unfold out1
   have:refs2 z = [v].flatMap rf1:=by simpa using a3
   rw[this,hcl]
   exact ⟨htake,rfl,rfl⟩
  ·have:notTup z=true:=by simpa using a4
   rw[ren12 this]
   exact hrv.1.to2
 | [],[],_,_,_,_,_,_,many=>exact many rfl fun r=>rfl
 | _::_::_,_::_::_,_,_,_,_,_,_,many=>exact many rfl fun r=>rfl
 | [],_::_,_,_,_,h,_,_,_=>exact h.elim
 | _::_,[],_,_,_,h,_,_,_=>exact h.elim
 | [_],_::_::_,_,_,_,h,_,_,_=>exact h.2.elim
 | _::_::_,[_],_,_,_,h,_,_,_=>exact h.2.elim
end
end
section
open Go
theorem Nv {hp:THp} {hv:Hp} {c:AC} {v x:SV} {y:V} (hh:RH hp hv) (h:lendCT hp c v=some x) (hv':RV0 hp v y) :
  ∃ y',lend0 hv y=some y'∧RV0 hp x y'∧arIds0 y=lentV v:=by
 cases c with
 | int k =>
  cases v <;> simp only[lendCT,reduceCtorEq] at h
  cases h; have:y=_:=hv'; subst this; exact ⟨_,rfl,rfl,rfl⟩
 | bool=>cases v <;> simp only[lendCT,reduceCtorEq] at h; cases h; have:y=_:=hv'; subst this; exact ⟨_,rfl,rfl,rfl⟩
 | str=>cases v <;> simp only[lendCT,reduceCtorEq] at h; cases h; have:y=_:=hv'; subst this; exact ⟨_,rfl,rfl,rfl⟩
 | err=>cases v <;> simp only[lendCT,reduceCtorEq] at h
 | «at» j=>cases v <;> simp[lendCT] at h
 | im t =>
  have h':∃ l,asLh hp t v=some l∧x = .im t l:=by
   simp only[lendCT] at h
   split at h
   ·rename_i l hl; cases h; exact ⟨l,hl,rfl⟩
   ·cases h
  obtain ⟨l,h',rfl⟩:=h'
  have hids:arIds0 y=lentV v:=by
   cases v with
   | ow id=>obtain ⟨n,rfl,_⟩:=hv'; rfl
   | ar a b c=>have:y=_:=hv'; subst this; rfl
   | em=>have:y=_:=hv'; subst this; rfl
   | er e=>have:y=_:=hv'; subst this; rfl
   | im t' l'=>rcases hv' with ⟨_,rfl⟩ | ⟨_,rfl,_⟩ <;> rfl
   | _=>simp[asLh,asL] at h'
  rcases OG h' hv' hh.toM with ⟨rfl,rfl⟩ | ⟨rows,rfl,hr⟩ | ⟨id,lo,n,kb,rfl,hk,hkk,hr⟩
  ·exact ⟨.im [],rfl,.inr ⟨[],rfl,RLx.nil⟩,hids⟩
  ·exact ⟨.im rows,rfl,.inr ⟨rows,rfl,hr⟩,hids⟩
  ·refine ⟨.im ((kb.rows.take (lo + n)).drop lo),?_,.inr ⟨_,rfl,hr⟩,hids⟩
   simp only[lend0,hk]
theorem Mh {hp:THp} {hv:Hp} (hh:RH hp hv):∀ {cs:List AC} {vs xs:List SV} {ys:List V},lendCsT hp cs vs=some xs→RC (RV0 hp) vs ys →
  ∃ ys',lendL hv ys=some ys'∧RC (RV0 hp) xs ys'∧ys.flatMap arIds0=vs.flatMap lentV
 | [],[],xs,ys,h,hc=>by
  simp only[lendCsT,Option.some.injEq] at h
  subst h
  cases ys with
  | nil=>exact ⟨[],rfl,trivial,rfl⟩
  | cons a l=>exact hc.elim
 | [],_::_,_,_,h,_=>by cases h
 | _::_,[],_,_,h,_=>by cases h
 | c::cs,v::vs,xs,ys,h,hc=>by
  simp only[lendCsT] at h
  split at h
  ·rename_i x1 hx1
   split at h
   ·rename_i x2 hx2
    cases h
    cases ys with
    | nil=>exact hc.elim
    | cons y ys =>
     obtain ⟨y',h1,h2,h3⟩:=Nv hh hx1 hc.1
     obtain ⟨ys',g1,g2,g3⟩:=Mh hh hx2 hc.2
     exact ⟨y'::ys',by simp only[lendL,h1,g1],⟨h2,g2⟩,by rw[List.flatMap_cons,List.flatMap_cons,h3,g3]⟩
   ·cases h
  ·cases h
theorem Uu {hp:THp} {hv:Hp} {a:AS} {v x:SV} {y:V} (hh:RH hp hv) (h:lendST hp a v=some x) (hv2:RV2 hp v y) :
  ∃ y',lend1 hv y=some y'∧RV2 hp x y'∧arIds1 y=lentV1 v:=by
 have cell:∀ (c:AC),lendCT hp c v=some x→RV0 hp v y→lentV1 v=lentV v→(∀ y',RV0 hp x y'→RV2 hp x y')→lend1 hv y=lend0 hv y→arIds1 y=arIds0 y→∃ y',lend1 hv y=some y'∧RV2 hp x y'∧arIds1 y=lentV1 v:=by
  intro c hc h0 e1 e2 e3 e4
  obtain ⟨y',q1,q2,q3⟩:=Nv hh hc h0
  exact ⟨y',by rw[e3]; exact q1,e2 y' q2,by rw[e4,e1]; exact q3⟩
 cases a with
 | cell c =>
  have h:lendCT hp c v=some x:=by cases v <;> exact h
  have hx:∀ y',RV0 hp x y'→RV2 hp x y':=fun y' h=>h.to1.to2
  cases v with
  | int k n=>have:y=_:=hv2; subst this; exact cell c h rfl rfl hx rfl rfl
  | bool b=>have:y=_:=hv2; subst this; exact cell c h rfl rfl hx rfl rfl
  | str s=>have:y=_:=hv2; subst this; exact cell c h rfl rfl hx rfl rfl
  | em=>have:y=_:=hv2; subst this; exact cell c h rfl rfl hx rfl rfl
  | er e=>have:y=_:=hv2; subst this; exact cell c h rfl rfl hx rfl rfl
  | im t l=>rcases hv2 with ⟨e,rfl⟩ | ⟨r,rfl,e⟩; exact cell c h (.inl ⟨e,rfl⟩) rfl hx rfl rfl; exact cell c h (.inr ⟨r,rfl,e⟩) rfl hx rfl rfl
  | ow id=>obtain ⟨n,rfl,e⟩:=hv2; exact cell c h ⟨n,rfl,e⟩ rfl hx rfl rfl
  | ar a b d=>have:y=_:=hv2; subst this; exact cell c h rfl rfl hx rfl rfl
  | sc a=>cases c <;> simp[lendCT,asLh,asL] at h
  | rf a b d=>cases c <;> simp[lendCT,asLh,asL] at h
  | ir a b d=>cases c <;> simp[lendCT,asLh,asL] at h
  | agg cs=>cases c <;> simp[lendCT,asLh,asL] at h
  | tup cs=>cases c <;> simp[lendCT,asLh,asL] at h
  | cl f cs=>cases c <;> simp[lendCT,asLh,asL] at h
  | any=>cases c <;> simp[lendCT,asLh,asL] at h
 | agg cs =>
  cases v with
  | agg vs =>
   simp only[lendST] at h
   split at h
   ·rename_i l hl
    cases h
    obtain ⟨us,rfl,hc⟩:=Ny hv2
    obtain ⟨ys',q1,q2,q3⟩:=Mh hh hl hc
    exact ⟨.agg ys',by simp only[lend1,q1],⟨ys',rfl,q2⟩,q3⟩
   ·cases h
  | _=>simp[lendST] at h
 | ref j isb =>
  cases isb with
  | true =>
   cases v <;> simp only[lendST,reduceCtorEq] at h
   cases h
   have:y=_:=hv2
   subst this
   exact ⟨_,rfl,rfl,rfl⟩
  | false=>cases v <;> simp[lendST] at h
 | sub j=>cases v <;> simp[lendST] at h
 | clo f =>
  cases v with
  | cl g cs =>
   cases cs with
   | nil =>
    simp only[lendST,Option.some.injEq] at h
    subst h
    obtain ⟨us,rfl,hc⟩:=VD hv2
    cases us with
    | nil=>exact ⟨.cl g [],rfl,⟨[],rfl,trivial⟩,rfl⟩
    | cons a l=>exact hc.elim
   | cons a l=>simp[lendST] at h
  | _=>simp[lendST] at h
 | cap f js=>cases v <;> simp[lendST] at h
theorem Jn {hp:THp} {hv:Hp} (hh:RH hp hv):∀ {l:List AS} {vs xs:List SV} {ys:List V},lendLT hp l vs=some xs→RC (RV2 hp) vs ys →
  ∃ ys',lendA hv (l.map refA) ys=some ys'∧RC (RV2 hp) xs ys'∧lentA (l.map refA) ys=lentLT l vs
 | [],[],xs,ys,h,hc=>by
  simp only[lendLT,Option.some.injEq] at h
  subst h
  cases ys with
  | nil=>exact ⟨[],rfl,trivial,rfl⟩
  | cons a l=>exact hc.elim
 | [],_::_,_,_,h,_=>by cases h
 | _::_,[],_,_,h,_=>by cases h
 | a::l,v::vs,xs,ys,h,hc=>by
  simp only[lendLT] at h
  split at h
  ·rename_i x1 hx1
   split at h
   ·rename_i x2 hx2
    cases h
    cases ys with
    | nil=>exact hc.elim
    | cons y ys =>
     obtain ⟨ys',g1,g2,g3⟩:=Jn hh hx2 hc.2
     cases hra:refA a with
     | true =>
      rw[hra] at hx1
      simp only[cond_true] at hx1
      obtain ⟨hsv,hx1⟩:=Bd hx1
      cases hx1
      obtain ⟨_,_,_,hnt⟩:=Du hsv hc.1
      refine ⟨y::ys',?_,⟨hc.1,g2⟩,?_⟩
      ·simp only[lendA,List.map_cons,List.headD_cons,List.tail_cons,hra,if_true,hnt,g1]
      ·simp only[lentA,lentLT,List.map_cons,List.headD_cons,List.tail_cons,hra,if_true,cond_true,g3]
     | false =>
      rw[hra] at hx1
      simp only[cond_false] at hx1
      obtain ⟨y',h1,h2,h3⟩:=Uu hh hx1 hc.1
      refine ⟨y'::ys',?_,⟨h2,g2⟩,?_⟩
      ·simp only[lendA,List.map_cons,List.headD_cons,List.tail_cons,hra,Bool.false_eq_true,if_false,h1,g1]
      ·simp only[lentA,lentLT,List.map_cons,List.headD_cons,List.tail_cons,hra,Bool.false_eq_true,if_false,cond_false,h3,g3]
   ·cases h
  ·cases h
theorem Nu:∀ (l acc:List Nat),ddN acc l=acc++(l.filter fun i=>!acc.contains i).eraseDups
 | [],acc=>by simp[ddN]
 | id::l,acc=>by
  simp only[ddN]
  rw[JR]
  cases h:acc.contains id with
  | true =>
   simp only[cond_true]
   rw[Nu l acc,List.filter_cons,h]
   rfl
  | false =>
   simp only[cond_false]
   rw[Nu l (acc ++ [id]),List.filter_cons,h]
   simp only[Bool.not_false,if_true]
   rw[List.eraseDups_cons,List.append_assoc,List.singleton_append,List.filter_filter]
   congr 3
   apply List.filter_congr
   intro x _
   simp only[List.contains_append,List.contains_cons,List.contains_nil,Bool.or_false,Bool.not_or]
   rw[Bool.and_comm]
theorem Uy (l:List Nat):ddN [] l=l.eraseDups:=by
 rw[Nu]
 simp only[List.contains_nil,Bool.not_false,List.nil_append]
 rw[List.filter_eq_self.2 (fun _ _=>rfl)]
theorem Xz {hp:THp} {f:Nat→Option Nat} {v:SV} {y:V} (hs:sure0 v=true) (h0:rf0 v = []) (h:RV0 hp v y):ren0 f y=y:=by
 cases v with
 | im t l=>rcases h with ⟨_,rfl⟩ | ⟨_,rfl,_⟩ <;> rfl
 | ow id=>simp[rf0] at h0
 | ar a b c=>simp[rf0] at h0
 | rf a b c=>simp[rf0] at h0
 | ir t a c=>obtain ⟨_,rfl,_⟩:=h; rfl
 | cl f cs=>cases cs with | nil=>have:y=_:=h; subst this; rfl | cons a l=>exact h.elim
 | any=>cases hs
 | agg cs=>exact h.elim
 | tup cs=>exact h.elim
 | _=>have:y=_:=h; subst this; rfl
theorem Lz {hp:THp} {f:Nat→Option Nat}:∀ {vs:List SV} {ys:List V},vs.all sure0=true→vs.flatMap rf0 = []→RC (RV0 hp) vs ys→ys.map (ren0 f)=ys
 | [],[],_,_,_=>rfl
 | v::vs,y::ys,hs,h0,h=>by
  simp only[List.all_cons,Bool.and_eq_true] at hs
  rw[List.flatMap_cons,List.append_eq_nil_iff] at h0
  rw[List.map_cons,Xz hs.1 h0.1 h.1,Lz hs.2 h0.2 h.2]
 | [],_::_,_,_,h=>h.elim
 | _::_,[],_,_,h=>h.elim
theorem Xx {hp:THp} {f:Nat→Option Nat} {v:SV} {y:V} (hs:sure1 v=true) (h0:rf1 v = []) (h:RV1 hp v y):ren1 f y=y:=by
 cases v with
 | agg cs=>obtain ⟨us,rfl,hc⟩:=h; show V.agg _=_; rw[Lz hs h0 hc]
 | cl g cs=>obtain ⟨us,rfl,hc⟩:=h; show V.cl _ _=_; rw[Lz hs h0 hc]
 | im t l=>rcases h with ⟨_,rfl⟩ | ⟨_,rfl,_⟩ <;> rfl
 | ow id=>simp[rf1,rf0] at h0
 | ar a b c=>simp[rf1,rf0] at h0
 | rf a b c=>simp[rf1,rf0] at h0
 | ir t a c=>obtain ⟨_,rfl,_⟩:=h; rfl
 | any=>cases hs
 | tup cs=>exact h.elim
 | _=>have:y=_:=h; subst this; rfl
theorem Qr {hp:THp} {f:Nat→Option Nat}:∀ {vs:List SV} {ys:List V},vs.all sure1=true→vs.flatMap rf1 = []→RC (RV1 hp) vs ys→ys.map (ren1 f)=ys
 | [],[],_,_,_=>rfl
 | v::vs,y::ys,hs,h0,h=>by
  simp only[List.all_cons,Bool.and_eq_true] at hs
  rw[List.flatMap_cons,List.append_eq_nil_iff] at h0
  rw[List.map_cons,Xx hs.1 h0.1 h.1,Qr hs.2 h0.2 h.2]
 | [],_::_,_,_,h=>h.elim
 | _::_,[],_,_,h=>h.elim
theorem WF (c:AC) (x:c.den):sure0 (encC c x)=true:=by cases c <;> rfl
theorem Jg:∀ (cs:List AC) (x:denC cs),(encCs cs x).all sure0=true
 | [],_=>rfl
 | c::cs,x=>by rw[encCs,List.all_cons,WF,Jg cs]; rfl
theorem Un (a:AS) (x:a.den):sure1 (encSV a x)=true:=by
 cases a with
 | cell c=>cases c <;> rfl
 | agg cs=>exact Jg cs x
 | ref j isb=>cases isb <;> rfl
 | sub j=>rfl
 | clo f=>rfl
 | cap f js=>show (js.map fun j=>SV.rf j 0 0).all sure0=true; simp[sure0]
theorem Xl (b:AB) (x:b.den):sureB (encB b x)=true:=by
 cases b with
 | arr ty deep t=>rfl
 | box ty cs=>exact Jg cs x
theorem Iy:∀ (l:List Item) (k:Nat) (d:denI l),((encI k l d).1.map (·.2)).all sure1=true
 | [],_,_=>rfl
 | .blk b::l,k,d=>by simp only[encI]; exact Iy l _ _
 | .slot s a::l,k,d=>by simp only[encI,List.map_cons,List.all_cons,Un,Bool.true_and]; exact Iy l _ _
theorem HF:∀ (l:List Item) (k:Nat) (d:denI l) (i:Nat),i<(encI k l d).2.length→∃ b,(encI k l d).2[i]? = some (k + i,some b)∧sureB b=true
 | [],_,_,i,h=>by simp[encI] at h
 | .blk b::l,k,d,i,h=>by
  simp only[encI,List.length_cons] at h ⊢
  cases i with
  | zero=>exact ⟨_,rfl,Xl _ _⟩
  | succ i =>
   obtain ⟨b',h1,h2⟩:=HF l (k + 1) (tlI _ l d) i (by omega)
   exact ⟨b',by rw[List.getElem?_cons_succ,h1]; congr 2; omega,h2⟩
 | .slot s a::l,k,d,i,h=>by simp only[encI] at h ⊢; exact HF l k _ i h
theorem LT:∀ {l:THp} {k:Nat},(∀ i,i<l.length→∃ b,l[i]? = some (k + i,some b))→∀ i,i<l.length→∃ b,l[i]? = some (k + i,some b)∧getB l (k + i)=some b
 | [],_,_,i,h=>by simp at h
 | a::l,k,hl,i,h=>by
  obtain ⟨b0,h0⟩:=hl 0 (by simp)
  simp at h0
  subst h0
  cases i with
  | zero=>exact ⟨b0,rfl,by rw[Nat.add_zero,Al,if_pos rfl]⟩
  | succ i =>
   obtain ⟨b,h1,h2⟩:=LT (l:=l) (k:=k + 1) (fun j hj=>by
    obtain ⟨b,hb⟩:=hl (j + 1) (by simpa using hj)
    exact ⟨b,by rw[List.getElem?_cons_succ] at hb; rw[hb]; congr 2; omega⟩) i (by simpa using h)
   exact ⟨b,by rw[List.getElem?_cons_succ,h1]; congr 2; omega,by rw[Al,if_neg (by omega),show k + (i + 1)=k + 1 + i by omega]; exact h2⟩
theorem VV {l:List Item} {d:denI l} {i:Nat} (h:i<(encI 0 l d).2.length):∃ b,(encI 0 l d).2[i]? = some (i,some b)∧getB (encI 0 l d).2 i=some b∧sureB b=true:=by
 obtain ⟨b,h1,h2⟩:=LT (l:=(encI 0 l d).2) (k:=0) (fun i hi=>by obtain ⟨b,h1,_⟩:=HF l 0 d i hi; exact ⟨b,h1⟩) i h
 obtain ⟨b',h3,h4⟩:=HF l 0 d i h
 simp only[Nat.zero_add] at h1 h2 h3
 rw[h3] at h1
 cases h1
 exact ⟨b,h3,h2,h4⟩
theorem XN {l:List Item} {d:denI l} {i:Nat} {b:TB} (h:getB (encI 0 l d).2 i=some b):i<(encI 0 l d).2.length:=by
 obtain ⟨j,hj⟩:=List.getElem?_of_mem (QP h)
 have hl:=(List.getElem?_eq_some_iff.1 hj).1
 obtain ⟨b',h1,_⟩:=HF l 0 d j hl
 rw[hj] at h1
 simp only[Nat.zero_add,Option.some.injEq,Prod.mk.injEq] at h1
 rw[h1.1]; exact hl
theorem Wt {hp:THp} {v:SV} {y:V} (hs:sure0 v=true) (h:RV0 hp v y):noIm0 y=noImT0 v:=by
 cases v with
 | im t l=>rcases h with ⟨_,rfl⟩ | ⟨_,rfl,_⟩ <;> rfl
 | ow id=>obtain ⟨_,rfl,_⟩:=h; rfl
 | ir t a c=>obtain ⟨_,rfl,_⟩:=h; rfl
 | cl f cs=>cases cs with | nil=>have:y=_:=h; subst this; rfl | cons a l=>exact h.elim
 | any=>cases hs
 | agg cs=>exact h.elim
 | tup cs=>exact h.elim
 | _=>have:y=_:=h; subst this; rfl
theorem K5 {hp:THp}:∀ {vs:List SV} {ys:List V},vs.all sure0=true→RC (RV0 hp) vs ys→ys.all noIm0=vs.all noImT0
 | [],[],_,_=>rfl
 | v::vs,y::ys,hs,h=>by
  simp only[List.all_cons,Bool.and_eq_true] at hs ⊢
  rw[Wt hs.1 h.1,K5 hs.2 h.2]
 | [],_::_,_,h=>h.elim
 | _::_,[],_,h=>h.elim
def niV:V→Bool
 | .agg cs=>cs.all noIm0
 | x=>noIm0 x
theorem T2 (vs:List V):noIm (.tup vs)=vs.all niV:=by
 show (vs.all fun | .agg cs=>cs.all noIm0 | x=>noIm0 x)=_
 congr 1
theorem Qh {hp:THp} {v:SV} {y:V} (hs:sure1 v=true) (h:RV1 hp v y):niV y=noImT1 v∧noIm y=noImT1 v:=by
 cases v with
 | agg cs=>obtain ⟨us,rfl,hcs⟩:=h; have:=K5 hs hcs; exact ⟨this,this⟩
 | cl f cs =>
  obtain ⟨us,rfl,hcs⟩:=h
  cases cs with
  | nil=>cases us with | nil=>exact ⟨rfl,rfl⟩ | cons a l=>exact hcs.elim
  | cons a l=>cases us with | nil=>exact hcs.elim | cons b m=>exact ⟨rfl,rfl⟩
 | im t l=>rcases h with ⟨_,rfl⟩ | ⟨_,rfl,_⟩ <;> exact ⟨rfl,rfl⟩
 | ow id=>obtain ⟨_,rfl,_⟩:=h; exact ⟨rfl,rfl⟩
 | ir t a c=>obtain ⟨_,rfl,_⟩:=h; exact ⟨rfl,rfl⟩
 | any=>cases hs
 | tup cs=>exact h.elim
 | _=>have:y=_:=h; subst this; exact ⟨rfl,rfl⟩
theorem WG {hp:THp} {b:TB} {k:Blk} (hs:sureB b=true) (h:RB hp b k):noImB k=noImBT b:=by
 cases b with
 | arr ty deep t l=>obtain ⟨h1,h2,h3,_⟩:=h; unfold noImB; rw[h1]; exact h3
 | frz ty deep t l=>obtain ⟨h1,h2,h3,_⟩:=h; unfold noImB; rw[h1]; rfl
 | box ty cs =>
  obtain ⟨h1,h2,row,h3,h4,h5⟩:=h
  unfold noImB
  rw[h1,h3]
  simp only[List.all_cons,List.all_nil,Bool.and_true]
  exact K5 hs h5
end
section
open Go
theorem Q5:∀ (l:List Blk) (hp:Hp) (b i:Nat),inst hp b l i=if b≤i∧i<b + l.length then l[i-b]? else hp i
 | [],hp,b,i=>by rw[if_neg (by simp)]; rfl
 | x::l,hp,b,i=>by
  simp only[inst]
  rw[Q5 l]
  by_cases h:b + 1≤i∧i<b + 1 + l.length
  ·rw[if_pos h,if_pos (by simp only[List.length_cons]; omega)]
   rw[show i-b=(i-(b + 1)) + 1 by omega]
   rfl
  ·rw[if_neg h]
   unfold upd
   by_cases hi:i=b
   ·subst hi
    rw[if_pos rfl,if_pos (by simp)]
    simp
   ·rw[if_neg hi,if_neg (by simp only[List.length_cons]; omega)]
theorem Id:∀ (ids:List Nat) (ks:List Blk) (hp:Hp) (i:Nat),i ∉ ids→setAt hp ids ks i=hp i
 | [],ks,hp,i,_=>by cases ks <;> rfl
 | _::_,[],hp,i,_=>rfl
 | id::ids,k::ks,hp,i,h=>by
  simp only[List.mem_cons,not_or] at h
  simp only[setAt]
  rw[Id ids ks _ i h.2]
  simp[upd,h.1]
theorem Tu:∀ (ids:List Nat) (ks:List Blk) (hp:Hp) (j:Nat) (id:Nat),ids.Nodup→ids[j]? = some id→j<ks.length→setAt hp ids ks id=ks[j]?
 | [],_,_,_,_,_,h,_=>by simp at h
 | _::_,[],_,_,_,_,_,h=>by simp at h
 | i::ids,k::ks,hp,j,id,hn,h,hl=>by
  simp only[List.nodup_cons] at hn
  simp only[setAt]
  cases j with
  | zero =>
   simp at h
   subst h
   rw[Id ids ks _ i hn.1]
   simp[upd]
  | succ j =>
   simp only[List.getElem?_cons_succ] at h ⊢
   exact Tu ids ks _ j id hn.2 h (by simpa using hl)
theorem Hr {l m:THp} {i:Nat}:getB (l++m) i=if i∈l.map (·.1) then getB l i else getB m i:=by
 induction l with
 | nil=>simp
 | cons a l ih =>
  obtain ⟨k,x⟩:=a
  rw[List.cons_append,Al,ih,Al]
  by_cases h:i=k
  ·simp[h]
  ·simp only[List.map_cons,List.mem_cons,h,false_or,if_false]
theorem I1 {α:Type} {hp out:THp}:∀ {l:List Nat} {A:Option α} {z : α},lensC hp out l A=some z→A=some z∧∀ id∈l,∃ b b',getB hp id=some b∧getB out id=some b'∧blen b=blen b'
 | [],A,z,h=>⟨h,fun id hid=>by simp at hid⟩
 | id::l,A,z,h=>by
  simp only[lensC] at h
  split at h
  ·rename_i t1 d1 e1 l1 t2 d2 e2 l2 g1 g2
   obtain ⟨hc,h⟩:=Bd h
   obtain ⟨q1,q2⟩:=I1 h
   refine ⟨q1,fun i hi=>?_⟩
   rcases List.mem_cons.1 hi with rfl | hi
   ·exact ⟨_,_,g2,g1,by simp only[blen]; rw[of_decide_eq_true hc]⟩
   ·exact q2 i hi
  ·rename_i t1 c1 t2 c2 g1 g2
   obtain ⟨q1,q2⟩:=I1 h
   refine ⟨q1,fun i hi=>?_⟩
   rcases List.mem_cons.1 hi with rfl | hi
   ·exact ⟨_,_,g2,g1,rfl⟩
   ·exact q2 i hi
  ·cases h
theorem IW:∀ (l:List Nat) (hp:THp) (i:Nat),getB (killT hp l) i=if i∈l then none else getB hp i
 | [],hp,i=>by simp[killT]
 | id::l,hp,i=>by
  rw[killT,IW l,Al]
  by_cases h1:i∈l
  ·simp[h1]
  ·by_cases h2:i=id
   ·subst h2; simp
   ·simp[h1,h2]
theorem XL (o:List Nat) (e n b:Nat):backF o e n b=back o e n b:=by
 funext j
 unfold backF back
 by_cases h:j<e
 ·have:Nat.blt j e=true:=Nat.ble_eq_true_of_le h
  rw[this,if_pos h]; rfl
 ·have:Nat.blt j e=false:=by cases hb:Nat.blt j e with | false=>rfl | true=>exact absurd (Hg hb) h
  rw[this,if_neg h]
  by_cases h2:j<n
  ·have:Nat.blt j n=true:=Nat.ble_eq_true_of_le h2
   rw[this,if_pos h2]; rfl
  ·have:Nat.blt j n=false:=by cases hb:Nat.blt j n with | false=>rfl | true=>exact absurd (Hg hb) h2
   rw[this,if_neg h2]; rfl
theorem EN {f:Nat→Option Nat}:∀ {L:THp} {i:Nat} {bb:TB},getB (renOut f L) i=some bb→∃ j b0,(j,some b0)∈L∧f j=some i∧bb=renTB f b0
 | [],_,_,h=>by cases h
 | (k,x)::L,i,bb,h=>by
  simp only[renOut] at h
  split at h
  ·rename_i i' hk
   rw[Al] at h
   split at h
   ·rename_i he
    subst he
    cases x with
    | none=>cases h
    | some b0=>cases h; exact ⟨k,b0,by simp,hk,rfl⟩
   ·obtain ⟨j,b0,h1,h2,h3⟩:=EN h
    exact ⟨j,b0,by simp[h1],h2,h3⟩
  ·obtain ⟨j,b0,h1,h2,h3⟩:=EN h
   exact ⟨j,b0,by simp[h1],h2,h3⟩
theorem M9 {f:Nat→Option Nat}:∀ {L:THp} {j i:Nat} {x:Option TB},(j,x)∈L→f j=some i→i∈(renOut f L).map (·.1)
 | (k,x')::L,j,i,x,h,hf=>by
  simp only[renOut]
  rcases List.mem_cons.1 h with h | h
  ·cases h
   rw[hf]
   simp
  ·have:=M9 h hf
   split
   ·simp only[List.map_cons,List.mem_cons]; exact .inr this
   ·exact this
section
variable {hp1:Hp} {o:List Nat} {e b:Nat} {blks:List Blk}
theorem WP {i j:Nat} {k:Blk} (hn:o.Nodup) (hlow:∀ id∈o,id<b) (heo:e≤o.length) (hen:e≤blks.length) (hj:blks[j]? = some k) (hf:back o e blks.length b j=some i) :
  callHp hp1 o e b blks i=some (renB (back o e blks.length b) k):=by
 have hjl:=(List.getElem?_eq_some_iff.1 hj).1
 unfold callHp
 rw[Q5]
 unfold back at hf
 by_cases h:j<e
 ·rw[if_pos h] at hf
  have hlt:=hlow i (List.mem_of_getElem? hf)
  rw[if_neg (by omega)]
  rw[Tu _ _ _ j _ (hn.sublist (List.take_sublist _ _)) (by rw[List.getElem?_take,if_pos h]; exact hf) (by simp; omega)]
  rw[List.getElem?_take,if_pos h,List.getElem?_map,hj]
  rfl
 ·rw[if_neg h,if_pos hjl] at hf
  cases hf
  rw[if_pos (by simp; omega)]
  rw[List.getElem?_drop,List.getElem?_map,show e + (b + (j-e)-b)=j by omega,hj]
  rfl
theorem RM {i:Nat} (h1:i ∉ o) (h2:¬(b≤i∧i<b + (blks.length-e))):callHp hp1 o e b blks i=hp1 i:=by
 unfold callHp
 rw[Q5,if_neg (by simpa using h2),Id _ _ _ _ (fun h=>h1 (List.mem_of_mem_take h)),Fe _ _ _ h1]
end
section
variable {α:Type} {P:Program} {R:Rel} {cf:Cfg} {X:TX} {b:Nat} {tm:TTm} {m:Tm} {hp:THp} {hv:Hp} {K:SV→THp→Cls→Option α} {z : α}
theorem QD {E:Ent} {y:denI E.a.res} {o:List Nat} {r:V} {blks':List Blk} (hres:ResRel E.a.res y r blks') (hn:o.Nodup) (hlow:∀ id∈o,id<b) (heo:E.a.e≤o.length) (hen:E.a.e≤(encI 0 E.a.res y).2.length)
  (hlens:∀ id∈o.take E.a.e,∃ b0 b1,getB hp id=some b0∧getB (renOut (backF o E.a.e (encI 0 E.a.res y).2.length b) (encI 0 E.a.res y).2) id=some b1∧blen b0=blen b1)
  {hp1:THp} {hv1:Hp} (hh1:RH hp1 hv1) (hold:∀ id∈o,getB hp1 id=getB hp id) (hids:∀ i bb,getB hp1 i=some bb→∀ q∈idsB bb,q<b) (hr:RT hp1 tm m) (htm:∀ t,∀ i∈ids2 (getV tm t),i<b) :
  RV2 (renOut (backF o E.a.e (encI 0 E.a.res y).2.length b) (encI 0 E.a.res y).2++killT hp1 (o.drop E.a.e)) (tupT ((encI 0 E.a.res y).1.map fun p=>renS1 (backF o E.a.e (encI 0 E.a.res y).2.length b) p.2)) (ren2 (back o E.a.e blks'.length b) r) ∧
  RH (renOut (backF o E.a.e (encI 0 E.a.res y).2.length b) (encI 0 E.a.res y).2++killT hp1 (o.drop E.a.e)) (callHp hv1 o E.a.e b blks') ∧
  RT (renOut (backF o E.a.e (encI 0 E.a.res y).2.length b) (encI 0 E.a.res y).2++killT hp1 (o.drop E.a.e)) tm m:=by
 have hlen:=hres.len
 have hsure:=Iy E.a.res 0 y
 have hval:=hres.val
 have hblk:=hres.blk
 have hget:=fun i (h:i<(encI 0 E.a.res y).2.length)=>VV h
 have hnone:=fun i bb (h:getB (encI 0 E.a.res y).2 i=some bb)=>XN h
 have hmem:∀ j x,(j,x)∈(encI 0 E.a.res y).2→j<(encI 0 E.a.res y).2.length∧∃ b0,x=some b0∧getB (encI 0 E.a.res y).2 j=some b0:=by
  intro j x h
  obtain ⟨i,hi⟩:=List.getElem?_of_mem h
  have hl:=(List.getElem?_eq_some_iff.1 hi).1
  obtain ⟨b0,h1,h2,_⟩:=hget i hl
  rw[hi] at h1
  simp only[Option.some.injEq,Prod.mk.injEq] at h1
  obtain ⟨rfl,rfl⟩:=h1
  exact ⟨hl,b0,rfl,h2⟩
 rw[hlen]
 generalize hvs:(encI 0 E.a.res y).1=vs0 at *
 generalize (encI 0 E.a.res y).2=L at *
 rw[XL] at *
 generalize hn':L.length=n at *
 have hinj:∀ i j k,i<n→j<n→back o E.a.e n b i=some k→back o E.a.e n b j=some k→i=j:=by
  intro i j k hi hj h1 h2
  unfold back at h1 h2
  by_cases a1:i<E.a.e
  ·rw[if_pos a1] at h1
   by_cases a2:j<E.a.e
   ·rw[if_pos a2] at h2
    have g1:=IH hn h1
    have g2:=IH hn h2
    rw[g1] at g2; exact Option.some.inj g2
   ·rw[if_neg a2,if_pos hj] at h2
    cases h2
    have:=hlow _ (List.mem_of_getElem? h1)
    omega
  ·rw[if_neg a1,if_pos hi] at h1
   cases h1
   by_cases a2:j<E.a.e
   ·rw[if_pos a2] at h2
    have:=hlow _ (List.mem_of_getElem? h2)
    omega
   ·rw[if_neg a2,if_pos hj] at h2
    have:=Option.some.inj h2
    omega
 have hfn:∀ i k,back o E.a.e n b i=some k→i<n:=by
  intro i k h
  unfold back at h
  by_cases a1:i<E.a.e
  ·omega
  ·rw[if_neg a1] at h
   split at h
   ·assumption
   ·cases h
 have hkey:∀ j i,back o E.a.e n b j=some i→i∈(renOut (back o E.a.e n b) L).map (·.1):=by
  intro j i h
  obtain ⟨b0,h1,_⟩:=hget j (by rw[←hn'] at *; exact hfn j i h)
  exact M9 (List.mem_of_getElem? h1) h
 have hlow2:∀ j i,back o E.a.e n b j=some i→i<b→j<E.a.e∧i∈o.take E.a.e:=by
  intro j i h hi
  unfold back at h
  by_cases a1:j<E.a.e
  ·rw[if_pos a1] at h
   exact ⟨a1,List.mem_of_getElem? (i:=j) (by rw[List.getElem?_take,if_pos a1]; exact h)⟩
  ·rw[if_neg a1] at h
   split at h
   ·cases h; omega
   ·cases h
 have hlenT:∀ id j,back o E.a.e n b id=some j→∀ b',getB (renOut (back o E.a.e n b) L++killT hp1 (o.drop E.a.e)) j=some b'→∃ b0,getB L id=some b0∧blen b0=blen b':=by
  intro id j hj b' hb'
  rw[Hr,if_pos (hkey id j hj)] at hb'
  obtain ⟨j',b0,h1,h2,rfl⟩:=EN hb'
  obtain ⟨q1,b1,q2,q3⟩:=hmem j' _ h1
  cases q2
  have:=hinj id j' j (hfn _ _ hj) q1 hj h2
  subst this
  exact ⟨b0,q3,(Sm b0).symm⟩
 have hkn:∀ i,i<b→Keeps hp1 (renOut (back o E.a.e n b) L++killT hp1 (o.drop E.a.e)) i:=by
  intro i hi b' hb'
  rw[Hr] at hb'
  split at hb'
  ·rename_i hm
   obtain ⟨j,b0,h1,h2,rfl⟩:=EN hb'
   obtain ⟨_,hto⟩:=hlow2 j i h2 hi
   obtain ⟨c0,c1,q1,q2,q3⟩:=hlens i hto
   rw[hb'] at q2
   cases q2
   exact ⟨c0,by rw[hold i (List.mem_of_mem_take hto)]; exact q1,q3⟩
  ·rw[IW] at hb'
   split at hb'
   ·cases hb'
   ·exact ⟨b',hb',rfl⟩
 refine ⟨?_,fun i bb hb=>?_,hr.keeps fun t i hi=>hkn i (htm t i hi)⟩
 ·
  have e1:(vs0.map fun p=>renS1 (back o E.a.e n b) p.2)=(vs0.map (·.2)).map (renS1 (back o E.a.e n b)):=by simp
  rw[e1]
  generalize vs0.map (·.2)=vs at hval hsure ⊢
  match vs,hval,hsure with
  | [v],hval,hsure =>
   have hs1:sure1 v=true:=by simpa using hsure
   obtain ⟨q1,_,_,q4⟩:=Du hs1 (show RV2 L v r from hval)
   rw[ren12 q4]
   exact (Ru hlenT q1 hs1).to2
  | [],hval,hsure =>
   obtain ⟨us,rfl,hc⟩:=(show ∃ us,r = .tup us∧RC (RV1 L) [] us from hval)
   cases us with
   | nil=>exact ⟨[],rfl,trivial⟩
   | cons a l=>exact hc.elim
  | v1::v2::vs,hval,hsure =>
   obtain ⟨us,rfl,hc⟩:=(show ∃ us,r = .tup us∧RC (RV1 L) (v1::v2::vs) us from hval)
   exact ⟨us.map (ren1 (back o E.a.e n b)),rfl,RC.ren hlenT hsure hc⟩
 ·rw[Hr] at hb
  split at hb
  ·obtain ⟨j,b0,h1,h2,rfl⟩:=EN hb
   obtain ⟨q1,b1,q2,q3⟩:=hmem j _ h1
   cases q2
   obtain ⟨kj,hkj,hrb⟩:=hblk j b0 q3
   have hkj:blks'[j]? = some kj:=hkj
   refine ⟨renB (back o E.a.e n b) kj,?_,Zb hlenT hrb⟩
   have:=WP (hp1:=hv1) (e:=E.a.e) hn hlow heo (by omega) hkj (by rw[hlen]; exact h2)
   rw[hlen] at this
   exact this
  ·rename_i hm
   rw[IW] at hb
   split at hb
   ·cases hb
   ·rename_i hd
    obtain ⟨k,hk,hrb⟩:=hh1 i bb hb
    refine ⟨k,?_,hrb.keeps fun q hq=>hkn q (hids i bb hb q hq)⟩
    rw[RM ?_ ?_]
    ·exact hk
    ·intro hio
     rw[←List.take_append_drop E.a.e o] at hio
     rcases List.mem_append.1 hio with hio | hio
     ·obtain ⟨j,hj⟩:=List.getElem?_of_mem hio
      rw[List.getElem?_take] at hj
      split at hj
      ·rename_i hje
       exact hm (hkey j i (by unfold back; rw[if_pos hje]; exact hj))
      ·cases hj
     ·exact hd hio
    ·rintro ⟨h1,h2⟩
     rw[hlen] at h2
     exact hm (hkey (E.a.e + (i-b)) i (by unfold back; rw[if_neg (by omega),if_pos (by omega)]; congr 1; omega))
theorem Lj {H:THp}:∀ {vs:List SV} {us:List V},vs.all sure1=true→RC (RV1 H) vs us→us.all niV=vs.all noImT1
 | [],[],_,_=>rfl
 | v::vs,u::us,hs,h=>by
  simp only[List.all_cons,Bool.and_eq_true] at hs ⊢
  rw[(Qh hs.1 h.1).1,Lj hs.2 h.2]
 | [],_::_,_,h=>h.elim
 | _::_,[],_,h=>h.elim
theorem Yb {res:List Item} {y:denI res} {r:V} {blks':List Blk} (hres:ResRel res y r blks'):noImRes ((encI 0 res y).1.map (·.2)) (encI 0 res y).2=(noIm r&&blks'.all noImB):=by
 have hsure:=Iy res 0 y
 have hval:=hres.val
 unfold noImRes
 congr 1
 ·generalize (encI 0 res y).1.map (·.2)=vs at hval hsure
  match vs,hval,hsure with
  | [v],hval,hsure =>
   have hs1:sure1 v=true:=by simpa using hsure
   obtain ⟨q1,_⟩:=Du hs1 (show RV2 _ v r from hval)
   simp only[List.all_cons,List.all_nil,Bool.and_true]
   exact (Qh hs1 q1).2.symm
  | [],hval,hsure =>
   obtain ⟨us,rfl,hc⟩:=(show ∃ us,r = .tup us∧RC (RV1 (encI 0 res y).2) [] us from hval)
   rw[T2,Lj hsure hc]
  | v1::v2::vs,hval,hsure =>
   obtain ⟨us,rfl,hc⟩:=(show ∃ us,r = .tup us∧RC (RV1 (encI 0 res y).2) (v1::v2::vs) us from hval)
   rw[T2,Lj hsure hc]
 ·have h3:(encI 0 res y).2.map noImO=blks'.map noImB:=by
   apply List.ext_getElem?
   intro j
   rw[List.getElem?_map,List.getElem?_map]
   by_cases hj:j<(encI 0 res y).2.length
   ·obtain ⟨b0,h1,h2,h3⟩:=VV hj
    obtain ⟨kj,hkj,hrb⟩:=hres.blk j b0 h2
    have hkj:blks'[j]? = some kj:=hkj
    rw[h1,hkj]
    simp only[Option.map_some,WG h3 hrb,noImO]
   ·rw[List.getElem?_eq_none (by omega),List.getElem?_eq_none (by have:=hres.len; omega)]
    rfl
  have h4:∀ {γ:Type} (l:List γ) (f : γ→Bool),l.all f=(l.map f).all id:=by
   intro γ l f
   induction l with
   | nil=>rfl
   | cons a l ih=>simp only[List.all_cons,List.map_cons,ih]; rfl
  rw[h4 (encI 0 res y).2,h4 blks',h3]
theorem Jt {hp:THp}:∀ (n:Nat) (l acc o:List Nat),closeT hp n l acc=some o→(∀ i∈l,i∈o)∧(∀ i∈acc,i∈o)∧∀ i∈o,i∈acc∨∃ b,getB hp i=some b∧sureB b=true∧∀ j∈rfB b,j∈o
 | 0,_,_,_,h=>by simp[closeT] at h
 | n + 1,[],acc,o,h=>by
  simp only[closeT,Option.some.injEq] at h
  subst h
  exact ⟨fun _ h=>by simp at h,fun _ h=>h,fun _ h=>.inl h⟩
 | n + 1,id::l,acc,o,h=>by
  simp only[closeT] at h
  cases hm:memN id acc with
  | true =>
   rw[hm] at h
   simp only[cond_true] at h
   obtain ⟨h1,h2,h3⟩:=Jt n l acc o h
   refine ⟨fun i hi=>?_,h2,h3⟩
   rcases List.mem_cons.1 hi with rfl | hi
   ·exact h2 _ (by rw[JR] at hm; simpa using hm)
   ·exact h1 i hi
  | false =>
   rw[hm] at h
   simp only[cond_false] at h
   cases hb:getB hp id with
   | none=>rw[hb] at h; cases h
   | some b =>
    rw[hb] at h
    simp only at h
    obtain ⟨hs,h⟩:=Bd h
    obtain ⟨h1,h2,h3⟩:=Jt n _ _ o h
    refine ⟨fun i hi=>?_,fun i hi=>h2 i (by simp[hi]),fun i hi=>?_⟩
    ·rcases List.mem_cons.1 hi with rfl | hi
     ·exact h2 _ (by simp)
     ·exact h1 i (by simp[hi])
    ·rcases h3 i hi with h4 | h4
     ·rcases List.mem_append.1 h4 with h4 | h4
      ·exact .inl h4
      ·simp only[List.mem_singleton] at h4
       subst h4
       exact .inr ⟨b,hb,hs,fun j hj=>h1 j (by simp[hj])⟩
     ·exact .inr h4
theorem JT {l o:List Nat} (hh:RH hp hv) (h:closeT hp 64 l []=some o):reachB hv l o=true:=by
 obtain ⟨h1,_,h3⟩:=Jt 64 l [] o h
 unfold reachB
 simp only[Bool.and_eq_true,List.all_eq_true]
 refine ⟨fun i hi=>by simpa using h1 i hi,fun i hi=>?_⟩
 rcases h3 i hi with h4 | ⟨b,hb,hs,hr⟩
 ·simp at h4
 ·obtain ⟨k,hk,hrb⟩:=hh i b hb
  rw[hk]
  simp only
  refine List.all_eq_true.2 fun j hj=>?_
  rw[VS hs hrb] at hj
  simpa using hr j hj
theorem QB {g:FuncId} {ys ys':List V} {lent:List Nat} {KV:Cont} (h1:lendA hv (cf.byref g) ys=some ys') (h2:closeC hv (ys'.flatMap refs1)=some []) (h3:lentA (cf.byref g) ys=lent) :
  weInv R cf g ys hv b KV=wePure R g ys' lent hv b KV:=by
 unfold weInv
 rw[h1]
 dsimp only
 rw[h2,h3]
theorem Ol {g:FuncId} {ys ys':List V} {lent:List Nat} {KV:Cont} {i:Nat} {l:List Nat} (h1:lendA hv (cf.byref g) ys=some ys') (h2:closeC hv (ys'.flatMap refs1)=some (i::l)) (h3:lentA (cf.byref g) ys=lent) :
  weInv R cf g ys hv b KV=weRef R g ys' lent (ys'.flatMap refs1).eraseDups (i::l) hv b KV:=by
 unfold weInv
 rw[h1]
 dsimp only
 rw[h2,h3]
theorem WW {g:FuncId} {args:List SV} {ys:List V} (hE:∀ g E,findF X.ents g=some E→EntOK R E∧E.a.g=g∧cf.byref g=(slotsA E.a.params).map refA) (hh:RH hp hv) (hr:RT hp tm m) (hargs:RC (RV2 hp) args ys) (h:tCall X g args tm hp b K=some z) :
  ∃ x hp' cls y hv',K x hp' cls=some z∧RV2 hp' x y∧RH hp' hv'∧RT hp' tm m∧∀ KV:Cont,KV y hv' cls→weInv R cf g ys hv b KV:=by
 unfold tCall at h
 split at h
 case h_2=>cases h
 rename_i E hfe
 obtain ⟨hEnt,hEg,hbr⟩:=hE g E hfe
 split at h
 case h_2=>cases h
 rename_i args' hargs'
 split at h
 case h_2=>cases h
 rename_i o ho
 split at h
 case h_2=>cases h
 rename_i x hx
 split at h
 case isFalse=>cases h
 rename_i hc
 simp only[Bool.and_eq_true] at hc
 obtain ⟨⟨⟨⟨⟨⟨⟨⟨s1,s2⟩,d1⟩,d2⟩,d3⟩,o16⟩,bel⟩,sl⟩,oall⟩:=hc
 obtain ⟨y,hFy,h⟩:=AA h
 simp only at h
 split at h
 case isFalse=>cases h
 rename_i hle
 simp only[Bool.and_eq_true] at hle
 have hen:=Nat.le_of_ble_eq_true hle.1
 have hen16:=Nat.le_of_ble_eq_true hle.2
 obtain ⟨h,hlens⟩:=I1 h
 rw[Fb] at h
 have o16:=Nat.le_of_ble_eq_true o16
 obtain ⟨bel1,bel2⟩:=LF bel
 obtain ⟨ys',hV,hargs2,hlent⟩:=Jn hh hargs' hargs
 rw[←hbr] at hV hlent
 generalize lentLT (slotsA E.a.params) args=lent at h oall hlent
 have hnl:∀ id∈o,id ∉ lent:=fun id hid=>by
  have:=List.all_eq_true.1 oall id hid
  simp only[Bool.and_eq_true] at this
  exact Lq this.2
 obtain ⟨a1,a2,a3,a4⟩:=RC.all1 s1 hargs2
 have hlow:∀ id∈o,id<b:=fun id hid=>by
  have:=List.all_eq_true.1 oall id hid
  simp only[Bool.and_eq_true] at this
  exact Hg this.1
 have hclose:close hv 64 (ys'.flatMap refs1) []=some o:=by rw[a2]; exact Dq hh _ _ _ ho
 have hcloseC:closeC hv (ys'.flatMap refs1)=some o:=by
  unfold closeC
  rw[hclose]
  simp only
  rw[if_pos (by rw[a2]; exact JT hh ho)]
 obtain ⟨c1,c2,_,_⟩:=CD hv 64 _ _ _ hclose (by simp) (fun id hid=>by simp at hid)
 have hdir:(ys'.flatMap refs1).eraseDups=o.take E.a.e:=by rw[a2,←Uy]; exact (FV d2).symm
 have hdl:(o.take E.a.e).length=E.a.e:=by rw[FV d2]; exact Nat.eq_of_beq_eq_true d3
 have heo:E.a.e≤o.length:=by rw[List.length_take] at hdl; omega
 obtain ⟨r1,r2⟩:=K2 hh o
 have hf:idxT o=idx o:=funext fun id=>Il o id
 have hren:RC (RV1 (renHp hp (idxT o) 0 o)) (args'.map (renS1 (idxT o))) (ys'.map (ren1 (idx o))):=by
  rw[hf] at r2 ⊢
  exact RC.ren r2 s1 a1
 obtain ⟨_,e2,_,_⟩:=RC.all1 s2 (hren.mono fun _ _ _ h=>h.to2)
 have hed:((ys'.map (ren1 (idx o))).flatMap refs1).eraseDups=List.range E.a.e:=by rw[e2,←Uy]; exact FV d1
 have hids:idsOK (ys'.map (ren1 (idx o))) (blksOf hv o)=true:=by
  unfold idsOK
  simp only[Bool.and_eq_true,decide_eq_true_eq,beq_iff_eq]
  refine ⟨⟨⟨List.all_eq_true.2 fun i hi=>?_,List.all_eq_true.2 fun i hi=>?_⟩,by simpa[blksOf] using o16⟩,by rw[hed,List.length_range]⟩
  ·obtain ⟨u,hu,hi⟩:=List.mem_flatMap.1 hi
   obtain ⟨u0,_,rfl⟩:=List.mem_map.1 hu
   obtain ⟨j,hj,_⟩:=IE hi
   have:=(List.getElem?_eq_some_iff.1 (UT hj)).1
   simp; omega
  ·obtain ⟨k,hk,hi⟩:=List.mem_flatMap.1 hi
   unfold blksOf at hk
   obtain ⟨id,_,rfl⟩:=List.mem_map.1 hk
   obtain ⟨j,hj,_⟩:=QR hi
   have:=(List.getElem?_eq_some_iff.1 (UT hj)).1
   simp; omega
 have hRS:RS { tm:=enumT 0 (args'.map (renS1 (idxT o))),hp:=renHp hp (idxT o) 0 o,c:=1 } (entry (ys'.map (ren1 (idx o))) (blksOf hv o)) :=
  ⟨QO 0 (hren.mono fun _ _ _ h=>h.to2),r1,rfl⟩
 have hno:E.a.e=0→o = []:=by
  intro h0
  have h1:(ddN [] (args'.flatMap rf1)).length=0:=by rw[Nat.eq_of_beq_eq_true d3,h0]
  have h2:args'.flatMap rf1 = []:=by
   cases hl:args'.flatMap rf1 with
   | nil=>rfl
   | cons i l =>
    rw[hl,Uy] at h1
    simp[List.eraseDups_cons] at h1
  rw[h2] at ho
  simpa[closeT] using ho.symm
 obtain ⟨r,blks',hR,hres⟩:=hEnt x y _ _ _ hFy hRS hx hids (by rw[List.length_map,hargs2.length]; exact (Nat.eq_of_beq_eq_true sl).symm) (by rw[hed,List.length_range]) (fun h0=>by rw[hno h0]; rfl)
 rw[hEg] at hR
 have hlenB:=hres.len
 have hlens':∀ id∈o.take E.a.e,∃ b0 b1,getB hp id=some b0∧getB (renOut (backF o E.a.e (encI 0 E.a.res y).2.length b) (encI 0 E.a.res y).2) id=some b1∧blen b0=blen b1:=hlens
 obtain ⟨f1,f2⟩:=OT lent hh
 have hpl:=QD (E:=E) hres c1 hlow heo hen hlens' hh (fun _ _=>rfl) (fun i bb hb=>(bel1 i bb hb).2) hr bel2
 have hfz:=QD (E:=E) hres c1 hlow heo hen hlens' f1 (fun i hi=>Mz _ _ _ (hnl i hi)) (fun i bb hb=>(H8 lent bel1 i bb hb).2) (hr.keeps fun _ i _=>f2 i) bel2
 rw[Yb hres] at h
 have hcallR:∀ F:V→List Blk→Prop,F r blks'→callR R g (ys'.map (ren1 (idx o))) (blksOf hv o) F:=fun F hF=>⟨r,blks',hR,hF⟩
 cases o with
 | nil =>
  have he0:E.a.e=0:=by simpa using heo
  have hno:args'.flatMap rf1 = []:=by
   rw[←a2]
   cases hL:ys'.flatMap refs1 with
   | nil=>rfl
   | cons i l =>
    exfalso
    have:=hdir
    rw[hL,List.eraseDups_cons,he0] at this
    simp at this
  have hsame:ys'.map (ren1 (idx []))=ys':=Qr s1 hno a1
  rw[hsame] at hcallR hids
  rw[he0] at hpl hfz hen16 h
  simp only[List.drop_nil] at hpl hfz
  cases hc:(lent.isEmpty || (noIm r&&blks'.all noImB)) with
  | true =>
   rw[hc] at h
   obtain ⟨m1,m2,m3⟩:=hpl
   refine ⟨_,_,_,_,_,h,m1,m2,m3,fun KV hK=>?_⟩
   rw[QB hV hcloseC hlent]
   refine hcallR _ ⟨by omega,hids,?_⟩
   rw[if_pos hc]
   exact hK
  | false =>
   rw[hc] at h
   obtain ⟨m1,m2,m3⟩:=hfz
   refine ⟨_,_,_,_,_,h,m1,m2,m3,fun KV hK=>?_⟩
   rw[QB hV hcloseC hlent]
   refine hcallR _ ⟨by omega,hids,?_⟩
   rw[if_neg (by rw[hc]; simp)]
   exact hK
 | cons i l =>
  have hall:((i::l).all fun id=>!lent.contains id)=true:=List.all_eq_true.2 fun id hid=>by simpa using hnl id hid
  cases hc:(lent.isEmpty || (noIm r&&blks'.all noImB)) with
  | true =>
   rw[hc] at h
   obtain ⟨m1,m2,m3⟩:=hpl
   refine ⟨_,_,_,_,_,h,m1,m2,m3,fun KV hK=>?_⟩
   rw[Ol hV hcloseC hlent,hdir]
   unfold weRef
   rw[hdl]
   refine ⟨hall,rfl,hids,hcallR _ ⟨by omega,by omega,?_⟩⟩
   rw[if_pos hc]
   exact hK
  | false =>
   rw[hc] at h
   obtain ⟨m1,m2,m3⟩:=hfz
   refine ⟨_,_,_,_,_,h,m1,m2,m3,fun KV hK=>?_⟩
   rw[Ol hV hcloseC hlent,hdir]
   unfold weRef
   rw[hdl]
   refine ⟨hall,rfl,hids,hcallR _ ⟨by omega,by omega,?_⟩⟩
   rw[if_neg (by rw[hc]; simp)]
   exact hK
end
end
end Go.Proofs.YtiijheppiboglaaGreatDoor.Ev
