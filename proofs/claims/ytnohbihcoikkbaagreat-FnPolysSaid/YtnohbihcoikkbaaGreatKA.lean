/- What the theorem of this claim leans on, part 1. -/
import Derived.WalkKit
import Derived.Below
import Derived.Lib.SliceRun
import Derived.Laws.MakeOwn
import Derived.Laws.Cells
import Derived.Laws.BytesString
import Derived.Lib.ConvBytes
import Derived.Laws.CopyRow
import Derived.Laws.AppendOwn
set_option maxHeartbeats 2000000
open Option renaming bind_some → za0, map_eq_some_iff → zb4, map_some → zd1
open List renaming getElem?_eq_getElem → za1, getElem?_eq_some_iff → za3, getD_eq_getElem?_getD → za4, mem_of_getElem? → za5, all_eq_true → za6, mem_flatMap → zb0, flatMap_cons → zb2, eq_nil_of_length_eq_zero → zb3, mem_append → zb5, getElem?_take → zb6, drop_eq_getElem_cons → zb9, take_of_length_le → zc0, all_cons → zc1, map_cons → zc2, length_cons → zc6, length_take → zc7, getElem?_replicate → zc8, mem_cons → zc9, getElem?_drop → zd2, getElem?_map → zd5, getElem?_append_left → zd6, mem_map → ze0, getElem?_append → ze2, getElem?_of_mem → ze3, length_append → ze5, drop_zero → ze7, take_length → zf1
open Bool renaming and_eq_true → za2, false_eq_true → zb8, true_and → ze4, not_eq_true' → zf0
open Nat renaming eq_of_beq_eq_true → za7, le_refl → za8, le_trans → zd0, lt_or_ge → zd3, mul_le_mul_right → zd4, lt_of_lt_of_le → zd8, zero_add → ze6, add_mul → zf2, zero_le → zf5
open Int renaming mul_le_mul_of_nonneg_right → za9, mul_le_mul_of_nonneg_left → zb1, tdiv_eq_ediv_of_nonneg → zc3, toNat_natCast → zc4, tmod_eq_emod_of_nonneg → zc5, mul_add → zd7, le_of_lt → ze1, mul_nonneg → ze8, natAbs_natCast → ze9, mul_comm → zf3, mul_assoc → zf4
open Array renaming getD_eq_getD_getElem? → zb7
open Sum renaming elim_inr → zd9
open Go.IntKind renaming wrap → zj, i64 → zk, u64 → zx
open Option.some renaming inj → zy, injEq → zb
open Sum renaming inl → zc, inr → zd
namespace Go.Proofs
theorem zp{p:Prop}[Decidable p]:p->decide p=true:=decide_eq_true
theorem zq{p:Prop}[Decidable p]:¬p->decide p=false:=decide_eq_false
theorem zw{c:Prop}{h:Decidable c}(hc:c){α:Sort _}{t e:α}:ite c t e=t:=if_pos hc
theorem zi{c:Prop}{h:Decidable c}(hc:¬c){α:Sort _}{t e:α}:ite c t e=e:=if_neg hc
end Go.Proofs
noncomputable section
set_option linter.unusedVariables false
set_option linter.unusedSimpArgs false
set_option linter.unusedSectionVars false
namespace Go.Proofs.YtnohbihcoikkbaaGreat.Ev
section
open Go
inductive V where
 |v (x:Value)
 |em
 |er (b:Bool)
 |im (rows:List (List V))
 |ar (id lo n:Nat)
 |rf (id r c:Nat)
 |ir (row:List V) (c:Nat)
 |agg (cs:List V)
 |tup (vs:List V)
 |cl (f:FuncId) (caps:List V)
 |any
 deriving Inhabited
inductive Kind where
 |box|arr|frz
 deriving DecidableEq,Inhabited
structure Blk where
 kind:Kind
 ty:TypeId
 size:Nat
 deep:Bool
 rows:List (List V)
 deriving Inhabited
abbrev Hp:=Nat->Option Blk
abbrev Tm:=Nat->V
structure St where
 tm:Tm
 hp:Hp
 c:Nat
structure Fld where
 off:Nat
 ty:TypeId
 size:Nat
 agg:Bool
structure TyD where
 size:Nat
 bytes:Nat
 agg:Bool
 zero:List V
 elem:Option TypeId
 str:Bool
 int:Option IntKind
 flds:List Fld
 ifc:Bool
def GD:Value->Bool
 |.bool _|.int _ _|.float _ _|.complex _ _ _|.string _|.nilFunc|.nilIface|.pointer none=>true
 |.iface _ (.string _)|.iface _ (.int _ _)|.iface _ (.bool _)=>true
 |.slice _ 0 _=>true
 |_=>false
def CM:Value->V
 |.slice none 0 0=>.em
 |x=>if GD x then .v x else .any
def Hy:Value->V
 |.agg cs=>.agg (cs.toList.map CM)
 |x=>CM x
def Li:TypeDesc->Bool
 |.struct _|.array _ _=>true
 |_=>false
def ZJ:TypeDesc->Option TypeId
 |.slice e=>some e
 |_=>none
def AN0:TypeDesc->Bool
 |.string=>true
 |_=>false
def AC2:TypeDesc->Option IntKind
 |.int k=>some k
 |_=>none
def AK4:TypeDesc->Bool
 |.interface _=>true
 |_=>false
def Mo(P:Program):List Field->Option (List Fld)
 |[]=>some []
 |f::l=>
  match P.info? f.type,P.underlying f.type,Mo P l with
  |some i,some u,some r=>if i.size=0 then none else some ({off:=f.offset,ty:=f.type,size:=i.size,agg:=Li u}::r)
  |_,_,_=>none
def R9(P:Program):TypeDesc->List Fld
 |.struct fs=>(Mo P fs.toList).getD []
 |_=>[]
def AY(P:Program)(t:TypeId):Option TyD:=
 match P.info? t,P.underlying t with
 |some i,some u=>
  match i.zero with
  |some z=>
   if i.size=0\/z.cells.size≠i.size\/(z.cells.toList.all (·.oneCell'))=false then none
   else some {size:=i.size,bytes:=i.bytes,agg:=Li u,zero:=z.cells.toList.map CM,elem:=ZJ u,str:=AN0 u,int:=AC2 u,flds:=R9 P u,ifc:=AK4 u}
  |none=>none
 |_,_=>none
def Ax(tm:Tm):Operand->V
 |.tmp t=>tm t
 |.const c=>Hy c
 |.global _=>.any
 |.func f=>.cl f []
def flat:V->List V
 |.agg cs=>cs
 |x=>[x]
def mk(g:Bool)(cs:List V):Option V:=
 if g then some (.agg cs)else match cs with|[x]=>some x|_=>none
def Cf:List V->Option (List Value)
 |[]=>some []
 |.v x::l=>match Cf l with|some r=>some (x::r)|none=>none
 |_=>none
def GZ:V->Option Value
 |.v x=>some x
 |.agg cs=>match Cf cs with|some r=>some (.agg r.toArray)|none=>none
 |_=>none
def Uo(x:V)(F:Bool->Prop):Prop:=match x with|.v (.bool t)=>F t|_=>False
def Bl{α:Type}(x:Option α)(F:α->Prop):Prop:=match x with|some y=>F y|none=>False
def Am{α:Type}(P:Program):Sem α->Option α
 |.pure a=>some a
 |.program k=>Am P (k P)
 |_=>none
def Aw(x:Value):Option V:=if GD x then some (.v x)else none
def seg(cs:List V)(off n:Nat):Option (List V):=if off+n<=cs.length then some ((cs.drop off).take n)else none
def FT(cs:List V)(off:Nat)(new:List V):Option (List V):=
 if off+new.length<=cs.length then some (cs.take off++new++cs.drop (off+new.length))else none
def Bk:V->Bool
 |.v _|.em|.im _|.ar .. |.rf .. |.ir .. =>true
 |.cl _ []=>true
 |_=>false
def Hf(flds:List Fld)(ρ:Operand->V)(cs:List V):List (Nat×Operand)->Option (List V)
 |[]=>some cs
 |(k,x)::rest=>
  match flds[k]? with
  |some f=>if(flat (ρ x)).length=f.size&&(flat (ρ x)).all Bk then(FT cs f.off (flat (ρ x))).bind fun cs=>Hf flds ρ cs rest else none
  |none=>none
def bnd(ρ:Operand->V):Option Operand->Nat->Option Nat
 |none,d=>some d
 |some x,_=>match ρ x with|.v (.int _ n)=>if 0<=n then some n.toNat else none|_=>none
def LR:List V->Option UInt8
 |[.v (.int .u8 n)]=>some (UInt8.ofNat n.toNat)
 |_=>none
def BL:List (List V)->Option (List UInt8)
 |[]=>some []
 |r::l=>match LR r,BL l with|some b,some bs=>some (b::bs)|_,_=>none
def Gs(s:ByteArray):List (List V):=s.data.toList.map fun b=>[.v (.int .u8 b.toNat)]
def DH(P:Program)(t:TypeId):Bool:=match AY P t with|some d=>d.str|none=>false
def MI(P:Program)(t:TypeId):Bool:=match AY P t with|some d=>d.elem.isSome|none=>false
def AL2(b:BinOp)(y:Operand):Bool:=
 match b,y with
 |.eql,.const (.slice none _ _)=>true
 |_,_=>false
def Xj(P:Program)(t:TypeId):Bool:=match AY P t with|some d=>d.ifc|none=>false
def Af9(P:Program)(b:BinOp)(t:TypeId)(x:V)(y:Operand):Option V:=
 match b,y,Xj P t,x with
 |.eql,.const .nilIface,true,.er e=>some (.v (.bool !e))
 |.neq,.const .nilIface,true,.er e=>some (.v (.bool e))
 |_,_,_,_=>none
def NN(P:Program)(b:BinOp)(t:TypeId)(x:V)(y:Operand):Option V:=
 match b,y,MI P t with
 |.eql,.const (.slice none _ _),true=>
  match x with
  |.v (.slice a _ _)=>some (.v (.bool a.isNone))
  |.im (_::_)=>some (.v (.bool false))
  |_=>none
 |_,_,_=>Af9 P b t x y
def Aq(P:Program)(op:Op)(ρ:Operand->V):Option V:=
 match op with
 |.move x|.assign x=>some (ρ x)
 |.pick c a b=>match ρ c with|.v (.bool t)=>some (if t then ρ a else ρ b)|_=>none
 |.build t parts=>match AY P t with|some d=>if d.agg&& !d.flds.isEmpty then(Hf d.flds ρ d.zero parts.toList).map .agg else none|none=>none
 |.nilCheck x=>match ρ x with|.rf id r c=>some (.rf id r c)|.ir row c=>some (.ir row c)|.cl f caps=>some (.cl f caps)|_=>none
 |.binOp b t x y _=>
  match GZ (ρ x),GZ (ρ y)with
  |some a,some e=>(Am P (do eqGuard b t x y a e;binOp b t a e)).bind Aw
  |_,_=>NN P b t (ρ x) y
 |.unOp u _ x=>match ρ x with|.v a=>(Am P (Op.unary u a)).bind Aw|_=>none
 |.convert s d x=>match ρ x with|.v a=>(Am P (Go.convert s d a)).bind Aw|_=>none
 |.field t x k=>
  match ρ x,AY P t with
  |.agg cs,some d=>match d.flds[k]? with|some f=>(seg cs f.off f.size).bind (mk f.agg)|none=>none
  |_,_=>none
 |.fieldAddr t x k=>
  match AY P t with
  |some d=>
   match d.flds[k]?,ρ x with
   |some f,.rf id r c=>some (.rf id r (c+f.off))
   |some f,.ir row c=>some (.ir row (c+f.off))
   |_,_=>none
  |none=>none
 |.index t x i=>
  match DH P t,ρ x,ρ i with
  |true,.v (.string s),.v (.int _ n)=>if h:0<=n/\n.toNat<s.size then some (.v (.int .u8 (s[n.toNat]'h.2).toNat))else none
  |_,_,_=>none
 |.indexAddr t x i=>
  match ρ x,ρ i with
  |.im rows,.v (.int _ n)=>
   match (AY P t).bind (·.elem)with
   |some e=>
    match AY P e with
    |some d=>if h:0<=n/\n.toNat<rows.length then if(rows[n.toNat]'h.2).length=d.size then some (.ir (rows[n.toNat]'h.2) 0)else none else none
    |none=>none
   |none=>none
  |_,_=>none
 |.slice t x lo hi none=>
  match DH P t,ρ x with
  |true,.v (.string s)=>
   match bnd ρ lo 0,bnd ρ hi s.size with
   |some l,some h=>if l<=h/\h<=s.size then some (.v (.string (s.extract l h)))else none
   |_,_=>none
  |_,_=>none
 |.slice t x lo (some hi) (some mx)=>
  match ((AY P t).bind (·.elem)).bind (AY P),ρ x with
  |some _,.im rows=>
   match bnd ρ lo 0,bnd ρ (some hi) 0,bnd ρ (some mx) 0 with
   |some l,some h,some m=>if l=h/\h=m/\m<=rows.length then some .em else none
   |_,_,_=>none
  |some _,.em=>
   match bnd ρ lo 0,bnd ρ (some hi) 0,bnd ρ (some mx) 0 with
   |some l,some h,some m=>if l=h/\h=m/\m<=0 then some .em else none
   |_,_,_=>none
  |_,_=>none
 |.extract x k=>match ρ x with|.tup vs=>vs[k]? |_=>none
 |.makeFunc (.func f) first caps=>if first.isEmpty&&(caps.toList.map ρ).all Bk then some (.cl f (caps.toList.map ρ))else none
 |.call {callee:=.builtin .len,args,argTypes}=>
  match args.toList,argTypes.toList with
  |[x],[t]=>
   match MI P t,DH P t,ρ x with
   |true,_,.im rows=>some (.v (.int .i64 rows.length))
   |true,_,.em=>some (.v (.int .i64 0))
   |true,_,.ar _ _ n=>some (.v (.int .i64 n))
   |_,true,.v (.string s)=>some (.v (.int .i64 s.size))
   |_,_,_=>none
  |_,_=>none
 |.call {callee:=.builtin .min,args, .. }=>
  match Cf (args.toList.map ρ)with
  |some xs=>(Am P (Builtin.min_ #[] 0 xs.toArray)).bind Aw
  |none=>none
 |.call {callee:=.builtin .max,args, .. }=>
  match Cf (args.toList.map ρ)with
  |some xs=>(Am P (Builtin.max_ #[] 0 xs.toArray)).bind Aw
  |none=>none
 |_=>none
def isT:Op->Bool
 |.move _|.assign _|.pick .. |.build .. |.nilCheck _|.binOp .. |.unOp .. |.field .. |.fieldAddr .. |.index .. |.extract .. |.makeFunc .. =>true
 |.call {callee:=.builtin .len, .. }|.call {callee:=.builtin .min, .. }|.call {callee:=.builtin .max, .. }=>true
 |_=>false
def DK:V->Bool
 |.v _|.em=>true
 |_=>false
def Qy:V->Bool
 |.v _|.em|.im _=>true
 |_=>false
def Fo:V->Bool
 |.v _|.ar .. |.rf .. =>true
 |.cl _ []=>true
 |_=>false
def Jc:V->Bool
 |.agg cs=>cs.all Fo
 |.tup vs=>vs.all fun|.agg cs=>cs.all Fo|x=>Fo x
 |x=>Fo x
def Dq(b:Blk):Bool:=
 match b.kind with
 |.box=>b.rows.all (·.all Fo)
 |.arr=>b.deep
 |.frz=>false
def upd{α:Type}(f:Nat->α)(d:Nat)(x:α):Nat->α:=fun i=>if i=d then x else f i
def put(tm:Tm)(dst:Option Tmp)(x:V):Tm:=
 match dst with
 |some d=>upd tm d x
 |none=>tm
def inst(hp:Hp)(b:Nat):List Blk->Hp
 |[]=>hp
 |k::l=>inst (upd hp b (some k)) (b+1) l
def K4(t:TypeId)(cs:List V):Blk:={kind:=.box,ty:=t,size:=cs.length,deep:=false,rows:=[cs]}
def AG(e:TypeId)(size:Nat)(deep:Bool)(rows:List (List V)):Blk:={kind:=.arr,ty:=e,size:=size,deep:=deep,rows:=rows}
def Ad:Nat:=140737488351232
def GB(P:Program)(t:TypeId):Bool:=
 match (AY P t).bind (·.elem)with
 |some e=>match AY P e with|some d=>d.int==some .u8|none=>false
 |none=>false
def A4(P:Program)(op:Op)(ρ:Operand->V)(hp:Hp)(b:Nat):Option (V×List Blk):=
 match op with
 |.alloc t=>match AY P t with|some d=>some (.rf b 0 0,[K4 t d.zero])|none=>none
 |.box t x=>match AY P t with|some d=>if(flat (ρ x)).length=d.size&&(flat (ρ x)).all Bk then some (.rf b 0 0,[K4 t (flat (ρ x))])else none|none=>none
 |.load t a=>
  match AY P t with
  |some d=>
   match ρ a with
   |.ir row c=>match (seg row c d.size).bind (mk d.agg)with|some x=>some (x,[])|none=>none
   |.rf id r c=>
    match hp id with
    |some k=>
     match k.rows[r]? with
     |some row=>
      match seg row c d.size with
      |some cs=>if k.kind=.box|| !k.deep||cs.all DK then match mk d.agg cs with|some x=>some (x,[])|none=>none else none
      |none=>none
     |none=>none
    |none=>none
   |_=>none
  |none=>none
 |.indexAddr t x i=>
  match ρ x,ρ i with
  |.ar id lo n,.v (.int _ j)=>
   match (AY P t).bind (·.elem)with
   |some e=>
    match AY P e,hp id with
    |some d,some k=>if k.size=d.size/\0<=j/\j.toNat<n then some (.rf id (lo+j.toNat) 0,[])else none
    |_,_=>none
   |none=>none
  |_,_=>none
 |.makeSlice t l c=>
  match ρ l,ρ c,(AY P t).bind (·.elem)with
  |.v (.int _ n),.v (.int _ m),some e=>
   match AY P e with
   |some d=>if 0<=n/\n<=m/\m.toNat*d.bytes<=Ad/\m.toNat*d.size<=Ad/\d.zero.all DK=true then some (.ar b 0 n.toNat,[AG e d.size true (List.replicate n.toNat d.zero)])else none
   |none=>none
  |_,_,_=>none
 |.convert s d x=>
  match ρ x with
  |.im rows=>if GB P s&&DH P d then match BL rows with|some bs=>some (.v (.string ⟨bs.toArray⟩),[])|none=>none else none
  |.ar id lo n=>
   match hp id with
   |some k=>if k.kind≠ .box/\GB P s&&DH P d then match BL ((k.rows.take (lo+n)).drop lo)with|some bs=>some (.v (.string ⟨bs.toArray⟩),[])|none=>none else none
   |none=>none
  |.v (.string str)=>if DH P s&&GB P d&&decide (str.size<=Ad)then some (.im (Gs str),[])else none
  |.em=>if GB P s&&DH P d then some (.v (.string ⟨#[]⟩),[])else none
  |_=>none
 |_=>none
end
section
open Go
def BR(f:Nat->Option Nat):V->V
 |.ar id lo n=>match f id with|some j=>.ar j lo n|none=>.any
 |.rf id r c=>match f id with|some j=>.rf j r c|none=>.any
 |.cl g []=>.cl g []
 |.cl _ _|.agg _|.tup _=>.any
 |x=>x
def Cp(f:Nat->Option Nat):V->V
 |.agg cs=>.agg (cs.map (BR f))
 |.cl g caps=>.cl g (caps.map (BR f))
 |x=>BR f x
def EQ(f:Nat->Option Nat):V->V
 |.tup vs=>.tup (vs.map (Cp f))
 |x=>Cp f x
def Ee(f:Nat->Option Nat)(k:Blk):Blk:=
 match k.kind with
 |.box=>{k with rows:=k.rows.map (·.map (BR f))}
 |_=>k
def Ae:V->List Nat
 |.ar id _ _=>[id]
 |.rf id _ _=>[id]
 |_=>[]
def Af:V->List Nat
 |.agg cs=>cs.flatMap Ae
 |.cl _ caps=>caps.flatMap Ae
 |x=>Ae x
def Ah:V->List Nat
 |.tup vs=>vs.flatMap Af
 |x=>Af x
def Ck(k:Blk):List Nat:=
 match k.kind with
 |.box=>k.rows.flatMap (·.flatMap Ae)
 |_=>[]
def Ec(hp:Hp):Nat->List Nat->List Nat->Option (List Nat)
 |0,_,_=>none
 |_+1,[],acc=>some acc
 |k+1,id::l,acc=>
  if acc.contains id then Ec hp k l acc
  else match hp id with
   |none=>Ec hp k l acc
   |some b=>Ec hp k (l++Ck b) (acc++[id])
def OY(hp:Hp)(rs order:List Nat):Bool:=
 rs.all (fun i=>order.contains i)&&order.all fun i=>match hp i with|some k=>(Ck k).all fun j=>order.contains j|none=>false
def DA(hp:Hp)(rs:List Nat):Option (List Nat):=
 match Ec hp 64 rs []with
 |some order=>if OY hp rs order=true then some order else none
 |none=>none
theorem PU{hp:Hp}{rs order:List Nat}(h:DA hp rs=some order):Ec hp 64 rs []=some order/\OY hp rs order=true:=by
 unfold DA at h;cases hc:Ec hp 64 rs []with
 |none=>rw[hc]at h;cases h
 |some o=>
  rw[hc]at h;simp only at h
  split at h
  ·rename_i hr;cases h;exact⟨rfl,hr⟩
  ·cases h
def idx(order:List Nat)(id:Nat):Option Nat:=order.idxOf? id
def AF(hp:Hp)(order:List Nat):List Blk:=order.map fun id=>Ee (idx order) ((hp id).getD default)
def lk{α:Type}(d:α):List (Nat×α)->Nat->α
 |[],_=>d
 |(k,x)::l,i=>if i=k then x else lk d l i
def Nw{α:Type}(n:Nat):List α->List (Nat×α)
 |[]=>[]
 |x::l=>(n,x)::Nw (n+1) l
def lkB(l:List Blk):Hp:=fun id=>l[id]?
inductive Ex where
 |normal
 |exit (id:Nat)
 |ret
inductive Cls where
 |T|M|E
def freeze(hp:Hp):List Nat->Hp
 |[]=>hp
 |id::l=>freeze (upd hp id ((hp id).map fun k=>{k with kind:=match k.kind with|.arr=>.frz|x=>x})) l
inductive Md where
 |keep
 |own (ty size:Nat) (deep:Bool)
 |im
inductive Mds where
 |one (m:Md)
 |agg (l:List Md)
 |box (l:List Md)
def Kv(m:Md)(x:V)(hp:Hp)(b:Nat):Option (V×Hp×Nat):=
 match m with
 |.keep=>some (x,hp,0)
 |.own ty size deep=>
  match x with
  |.em=>some (.ar b 0 0,upd hp b (some (AG ty size deep [])),1)
  |.ar id lo n=>
   match hp id with
   |some k=>if k.kind=.arr/\lo=0/\n=k.rows.length/\k.ty=ty/\k.size=size/\k.deep=deep then some (.ar id lo n,hp,0)else none
   |none=>none
  |_=>none
 |.im=>
  match x with
  |.em=>some (.im [],hp,0)
  |.im rows=>some (.im rows,hp,0)
  |.ar id lo n=>
   match hp id with
   |some k=>match k.kind with|.box=>none|_=>some (.im ((k.rows.take (lo+n)).drop lo),freeze hp [id],0)
   |none=>none
  |_=>none
def Kw:List Md->List V->Hp->Nat->Option (List V×Hp×Nat)
 |[],[],hp,_=>some ([],hp,0)
 |m::ms,x::xs,hp,b=>
  match Kv m x hp b with
  |some (y,hp1,n)=>
   match Kw ms xs hp1 (b+n)with
   |some (ys,hp2,k)=>some (y::ys,hp2,n+k)
   |none=>none
  |none=>none
 |_,_,_,_=>none
def Qc(m:Mds)(x:V)(hp:Hp)(b:Nat):Option (V×Hp×Nat):=
 match m with
 |.one m=>Kv m x hp b
 |.agg l=>match x with|.agg cs=>(Kw l cs hp b).map fun z=>(.agg z.1,z.2.1,z.2.2)|_=>none
 |.box l=>
  match x with
  |.rf id r c=>
   match hp id with
   |some k=>
    match k.kind,k.rows with
    |.box,[row]=>
     match Kw l row hp b with
     |some (cs,hp1,n)=>if cs.all Bk then some (.rf id r c,upd hp1 id (some {k with rows:=[cs]}),n)else none
     |none=>none
    |_,_=>none
   |none=>none
  |_=>none
def Mp:List (Nat×Mds)->St->Option St
 |[],st=>some st
 |(s,m)::l,st=>
  match Qc m (st.tm s) st.hp (16*st.c)with
  |some (x,hp,n)=>if n<=16 then Mp l {tm:=upd st.tm s x,hp:=hp,c:=st.c+1}else none
  |none=>none
def HX(e:Nat)(keep:List Nat)(st:St)(K:St->Prop):Prop:=
 match Ec st.hp 64 (List.range e++keep.flatMap fun s=>Ah (st.tm s)) []with
 |some order=>order.length<=16/\order.take e=List.range e/\K {tm:=lk .any (keep.map fun s=>(s,EQ (idx order) (st.tm s))),hp:=lkB (AF st.hp order),c:=1}
 |none=>False
def Ea(e:Nat)(keep:List (Nat×Mds))(st:St)(K:St->Prop):Prop:=
 Bl (Mp keep st) fun st=>HX e (keep.map (·.1)) st K
def VR(e:Nat)(j:Option (List (Nat×Mds)))(st:St)(K:St->Prop):Prop:=
 match j with
 |some keep=>Ea e keep st K
 |none=>K st
def rid:Code->Nat
 |.region id _ _=>id
 |.seq a _=>rid a
 |.block _ a=>rid a
 |.scope a=>rid a
 |.loop a=>rid a
 |_=>0
def JF(hp:Hp):V->Option V
 |.ar id lo n=>
  match hp id with
  |some k=>match k.kind with|.box=>none|_=>some (.im ((k.rows.take (lo+n)).drop lo))
  |none=>none
 |.em=>some (.im [])
 |.tup _|.agg _=>none
 |.cl g []=>some (.cl g [])
 |.cl _ _=>none
 |x=>some x
def JG(hp:Hp):List V->Option (List V)
 |[]=>some []
 |x::l=>match JF hp x,JG hp l with|some y,some r=>some (y::r)|_,_=>none
def F7(hp:Hp):V->Option V
 |.agg cs=>match JG hp cs with|some r=>some (.agg r)|none=>none
 |.cl g caps=>match JG hp caps with|some r=>some (.cl g r)|none=>none
 |x=>JF hp x
def EG:V->Bool
 |.tup _=>false
 |_=>true
def EC(hp:Hp):List Bool->List V->Option (List V)
 |_,[]=>some []
 |fs,x::l=>match (if fs.headD false=true then(if EG x=true then some x else none)else F7 hp x),EC hp fs.tail l with|some y,some r=>some (y::r)|_,_=>none
def C1:V->List Nat
 |.ar id _ _=>[id]
 |_=>[]
def JW:V->List Nat
 |.agg cs=>cs.flatMap C1
 |.cl _ caps=>caps.flatMap C1
 |x=>C1 x
def Dp:List Bool->List V->List Nat
 |_,[]=>[]
 |fs,x::l=>(if fs.headD false=true then []else JW x)++Dp fs.tail l
def kill(hp:Hp):List Nat->Hp
 |[]=>hp
 |id::l=>kill (upd hp id none) l
def Hg(args:List V)(blks:List Blk):Bool:=
 (args.flatMap Af).all (fun i=>decide (i<16))&&(blks.flatMap Ck).all (fun i=>decide (i<16))&&decide (blks.length<=16)&&
 ((args.flatMap Af).eraseDups==List.range (args.flatMap Af).eraseDups.length)
structure Cfg where
 live:FuncId->Nat->List (Nat×Mds)
 out:FuncId->Nat->Ex->List (Nat×Mds)
 join:FuncId->Nat->Option (List (Nat×Mds))
 res:FuncId->List Mds
 par:FuncId->List (Nat×Mds)
 rts:FuncId->List (Nat×Mds)
 byref:FuncId->List Bool
 isExt:FuncId->Bool
abbrev Rel:=FuncId->List V->List Blk->V->List Blk->Prop
def GR(R:Rel)(g:FuncId)(args:List V)(blks:List Blk)(K:V->List Blk->Prop):Prop:=
 ∃r blks',R g args blks r blks'/\K r blks'
abbrev BP:=V->Hp->Cls->Prop
def setAt(hp:Hp):List Nat->List Blk->Hp
 |id::l,k::ks=>setAt (upd hp id (some k)) l ks
 |_,_=>hp
def BA(order:List Nat)(e n b j:Nat):Option Nat:=if j<e then order[j]? else if j<n then some (b+(j-e))else none
def BV(hp1:Hp)(order:List Nat)(e b:Nat)(blks:List Blk):Hp:=
 inst (setAt (kill hp1 order) (order.take e) ((blks.map (Ee (BA order e blks.length b))).take e)) b ((blks.map (Ee (BA order e blks.length b))).drop e)
def Iq(R:Rel)(g:FuncId)(args:List V)(lent:List Nat)(hp:Hp)(b:Nat)(K:BP):Prop:=
 GR R g args [] fun r blks=>
  blks.length<=16/\Hg args []=true/\
  if(lent.isEmpty||(Jc r&&blks.all Dq))=true then K (EQ (BA [] 0 blks.length b) r) (BV hp [] 0 b blks) .M
  else K (EQ (BA [] 0 blks.length b) r) (BV (freeze hp lent) [] 0 b blks) .E
def Ky(R:Rel)(g:FuncId)(args:List V)(lent direct order:List Nat)(hp:Hp)(b:Nat)(K:BP):Prop:=
 (order.all fun id=> !lent.contains id)=true/\order.take direct.length=direct/\Hg (args.map (Cp (idx order))) (AF hp order)=true/\
 GR R g (args.map (Cp (idx order))) (AF hp order) fun r blks=>
  direct.length<=blks.length/\blks.length-direct.length<=16/\
  K (EQ (BA order direct.length blks.length b) r)
   (BV (if(lent.isEmpty||(Jc r&&blks.all Dq))=true then hp else freeze hp lent) order direct.length b blks) .E
def Dr(R:Rel)(cf:Cfg)(g:FuncId)(args:List V)(hp:Hp)(b:Nat)(K:BP):Prop:=
 match EC hp (cf.byref g) args with
 |none=>False
 |some args'=>
  match DA hp (args'.flatMap Af)with
  |none=>False
  |some []=>Iq R g args' (Dp (cf.byref g) args) hp b K
  |some order=>Ky R g args' (Dp (cf.byref g) args) (args'.flatMap Af).eraseDups order hp b K
def AD(hp:Hp):V->Option (V×List Nat×Bool)
 |.v x=>some (.v x,[],true)
 |.em=>some (.em,[],false)
 |.im rows=>some (.im rows,[],false)
 |.ar id lo n=>
  match hp id with
  |some k=>
   match k.kind with
   |.arr=>some (.im ((k.rows.take (lo+n)).drop lo),[id],k.deep)
   |.frz=>some (.im ((k.rows.take (lo+n)).drop lo),[],false)
   |.box=>none
  |none=>none
 |_=>none
def AN(hp:Hp):List V->Option (List V×List Nat×Bool)
 |[]=>some ([],[],true)
 |x::l=>
  match AD hp x,AN hp l with
  |some (y,a,d),some (ys,as,ds)=>some (y::ys,a++as,d&&ds)
  |_,_=>none
def AW(hp:Hp)(ρ:Operand->V)(size:Nat):Nat->List (Nat×Operand)->Option (List (List V)×List Nat×Bool)
 |_,[]=>some ([],[],true)
 |n,(k,x)::l=>
  if k=n/\(flat (ρ x)).length=size then
   match AN hp (flat (ρ x)),AW hp ρ size (n+1) l with
   |some (row,a,d),some (rows,as,ds)=>some (row::rows,a++as,d&&ds)
   |_,_=>none
  else none
def CN(rows:List (List V)):Bool:=rows.all fun r=>r.all DK
def Qt:V->Bool
 |.v _=>true
 |_=>false
def Dc:List Nat->Bool
 |[]=>true
 |x::l=> !l.contains x&&Dc l
def B0(P:Program)(t:TypeId)(a x:V)(hp:Hp)(K:BP):Prop:=
 match AY P t,a with
 |some d,.rf id r c=>
  match hp id with
  |some k=>
   match k.rows[r]? with
   |some row=>
    if(flat x).length=d.size then
     match k.kind with
     |.box=>
      if(flat x).all Bk then
       match FT row c (flat x)with
       |some row'=>K .any (upd hp id (some {k with rows:=k.rows.set r row'})) .E
       |none=>False
      else False
     |.arr=>
      match AN hp (flat x)with
      |some (cs,kills,deep)=>
       if Dc (id::kills)then
        match FT row c cs with
        |some row'=>K .any (upd (kill hp kills) id (some {k with rows:=k.rows.set r row',deep:=k.deep&&deep})) .E
        |none=>False
       else False
      |none=>False
     |.frz=>False
    else False
   |none=>False
  |none=>False
 |_,_=>False
def I2(ρ:Operand->V)(parts:List (Nat×Operand)):Bool:=parts.all fun p=>(flat (ρ p.2)).all Qy
def An7(kills:List Nat)(apart:Bool):Cls:=match kills,apart with|[],true=>.M|_,_=>.E
def Ap(P:Program)(t:TypeId)(len:Nat)(parts:List (Nat×Operand))(ρ:Operand->V)(hp:Hp)(b:Nat)(K:BP):Prop:=
 Bl ((AY P t).bind (·.elem)) fun e=>Bl (AY P e) fun d=>
  match len with
  |0=>parts=[]/\K .em hp .M
  |len+1=>
   Bl (AW hp ρ d.size 0 parts) fun z=>
    z.1.length=len+1/\(len+1)*d.size<=2^24/\Dc z.2.1=true/\
    K (.ar b 0 (len+1)) (upd (kill hp z.2.1) b (some (AG e d.size z.2.2 z.1))) (An7 z.2.1 (I2 ρ parts))
def Bp(d:TyD)(x:V)(hp:Hp)(K:List (List V)->List Nat->Bool->Prop):Prop:=
 match x with
 |.em=>K [] [] (d.zero.all Qt)
 |.im rows=>K rows [] (d.zero.all Qt&&CN rows)
 |.v (.slice _ 0 _)=>K [] [] (d.zero.all Qt)
 |.ar id lo n=>
  match hp id with
  |some k=>
   match k.kind with
   |.box=>False
   |.frz=>K ((k.rows.take (lo+n)).drop lo) [] (d.zero.all Qt&&CN ((k.rows.take (lo+n)).drop lo))
   |.arr=>
    if d.zero.all Qt then CN ((k.rows.take (lo+n)).drop lo)=true/\K ((k.rows.take (lo+n)).drop lo) [] true
    else K ((k.rows.take (lo+n)).drop lo) [id] k.deep
  |none=>False
 |_=>False
def Cb(P:Program)(ts:List TypeId)(s x:V)(hp:Hp)(b:Nat)(K:BP):Prop:=
 match ts with
 |[t,t']=>
  Bl ((AY P t).bind (·.elem)) fun e=>Bl (AY P e) fun d=>
   t'=t/\
   Bp d x hp fun rows kills deep=>
    match s with
    |.em=>
     rows.length*d.bytes<=Ad/\rows.length*d.size<=Ad/\(∀r∈rows,r.length=d.size)/\Dc kills=true/\
     K (.ar b 0 rows.length) (upd (kill hp kills) b (some (AG e d.size deep rows))) (match kills with|[]=>.M|_=>.E)
    |.ar id lo n=>
     Bl (hp id) fun k=>
      k.kind=.arr/\lo=0/\k.ty=e/\k.size=d.size/\Dc (id::kills)=true/\
      (n+rows.length)*d.bytes<=Ad/\(n+rows.length)*d.size<=Ad/\(∀r∈rows,r.length=d.size)/\
      K (.ar b 0 (n+rows.length)) (upd (kill hp (id::kills)) b (some (AG e d.size (k.deep&&deep) (k.rows.take n++rows)))) .E
    |_=>False
 |_=>False
def Bg(P:Program)(t:TypeId)(s:V)(lo hi:Option Operand)(ρ:Operand->V)(hp:Hp)(K:BP):Prop:=
 Bl ((AY P t).bind (·.elem)) fun e=>Bl (AY P e) fun d=>
 match s with
 |.em=>Bl (bnd ρ lo 0) fun l=>Bl (bnd ρ hi 0) fun h=>l=0/\h=0/\K .em hp .M
 |.im rows=>
  Bl (bnd ρ lo 0) fun l=>Bl (bnd ρ hi rows.length) fun h=>
   l<=h/\h<=rows.length/\(∀r∈rows,r.length=d.size)/\K (.im ((rows.take h).drop l)) hp .M
 |.ar id l0 n=>
  Bl (bnd ρ lo 0) fun l=>Bl (bnd ρ hi n) fun h=>Bl (hp id) fun k=>
   l<=h/\h<=n/\k.size=d.size/\K (.ar id (l0+l) (h-l)) hp .M
 |_=>False
def Bi(P:Program)(R:Rel)(cf:Cfg)(op:Op)(b:Nat)(ρ:Operand->V)(hp:Hp)(K:BP):Prop:=
 match op with
 |.store t a x=>B0 P t (ρ a) (ρ x) hp K
 |.buildSlice t len parts=>Ap P t len parts.toList ρ hp b K
 |.slice t x lo hi none=>if DH P t then Bl (Aq P (.slice t x lo hi none) ρ) fun z=>K z hp .M else Bg P t (ρ x) lo hi ρ hp K
 |.call {callee:=.builtin .append,args,argTypes}=>
  match args.toList with
  |[s,x]=>Cb P argTypes.toList (ρ s) (ρ x) hp b K
  |_=>False
 |.call {callee:=.value f,args, .. }=>
  match ρ f with
  |.cl g caps=>Dr R cf g (args.toList.map ρ++caps) hp b K
  |_=>False
 |op=>
  match Aq P op ρ with
  |some x=>K x hp .T
  |none=>
   Bl (A4 P op ρ hp b) fun z=>z.2.length<=16/\K z.1 (inst hp b z.2) .M
def anc:List Oper->List Nat->List Nat
 |[],acc=>acc
 |o::l,acc=>anc l (acc++[o.after.toList.foldr (fun e s=>if Region.binds .any e then s|||2^e.on|||acc.getD e.on 0 else s) 0])
def Iu(ops:List Oper)(i j:Nat):Bool:=((anc ops []).getD i 0).testBit j
def D7(ops:List Oper)(i j:Nat):Bool:=Iu ops i j||Iu ops j i
def eOK(ops:List Oper)(i:Nat):Bool:=
 (List.range ops.length).all fun j=>j==i||(match ops[j]? with|some o=>isT o.op|none=>true)||D7 ops i j
def isR:Op->Bool
 |.load .. |.indexAddr .. |.convert .. |.slice .. =>true
 |_=>false
def P7(ops:List Oper)(o:Oper):List Tmp:=
 (o.op.operands.toList.filterMap fun|.tmp t=>some t|_=>none)++(match o.guard with|some (j,_)=>((ops[j]?).bind (·.dst)).toList|none=>[])
def Ar7(ops:List Oper)(j i:Nat)(o:Oper):Bool:=
 (List.range i).all fun k=>decide (k<j)||(match ops[k]? with|some p=>(match p.dst with|some d=> !(P7 ops o).contains d|none=>true)|none=>true)
def Z6(tm:Tm)(op:Op):List Nat:=op.operands.toList.flatMap fun y=>Ah (Ax tm y)
def Hz(cf:Cfg)(op:Op)(ρ:Operand->V)(hp:Hp):Option (List Nat):=
 match op with
 |.store _ a x=>some (Ah (ρ a)++Ah (ρ x))
 |.call {callee:=.value f,args, .. }=>
  match ρ f with
  |.cl g caps=>
   match EC hp (cf.byref g) (args.toList.map ρ++caps)with
   |some args'=>
    match DA hp (args'.flatMap Af)with
    |some order=>some (order++Dp (cf.byref g) (args.toList.map ρ++caps))
    |none=>none
   |none=>none
  |_=>none
 |.buildSlice _ (_+1) parts=>some (parts.toList.flatMap fun p=>Ah (ρ p.2))
 |_=>none
def VF(ops:List Oper)(i:Nat):Bool:=
 match ops[i]? with
 |some o=>(isT o.op||isR o.op)&&(List.range ops.length).all fun j=> !Iu ops i j||(match ops[j]? with|some x=>isT x.op||isR x.op|none=>true)
 |none=>false
def AK5:Op->Bool
 |.call {callee:=.value _, .. }=>true
 |_=>false
def AG2(ops:List Oper):Bool:=
 (List.range ops.length).any fun i=>(match ops[i]? with|some o=>AK5 o.op|none=>false)&&
  (List.range ops.length).any fun j=>decide (i<j)&&(match ops[j]? with|some o=>isR o.op|none=>false)&& !D7 ops i j&&VF ops j
def Ai3(ops:List Oper):List Nat:=(List.range ops.length).filter (VF ops)++(List.range ops.length).filter fun i=> !VF ops i
def TD(π:List Nat)(o:Oper):Oper:={o with after:=(o.after.toList.map fun e=>{e with on:=π.idxOf e.on}).toArray,guard:=o.guard.map fun g=>(π.idxOf g.1,g.2)}
def Ih(π:List Nat)(ops:List Oper):List Oper:=π.map fun i=>TD π (ops.getD i default)
def TE(ops:List Oper):List Oper:=if AG2 ops then Ih (Ai3 ops) ops else ops
def reo(draw:Bool)(ops:List Oper):List Oper:=match draw with|true=>TE ops|false=>ops
def AO9(ops:List Oper)(i:Nat):Bool:=
 (List.range ops.length).any fun j=>j != i&& !D7 ops i j&&(match ops[j]? with|some o=> !isT o.op&& !isR o.op|none=>false)
def FR(ops:List Oper)(o:Oper):Bool:=
 (match o.op with
 |.alloc .. =>true
 |.buildSlice _ n _=>n != 0&&(List.range ops.length).all fun i=>match ops[i]? with|some x=>(x.dst != o.dst)||(!eOK ops i&&AO9 ops i)|none=>true
 |_=>false)&&o.guard.isNone
def He(cf:Cfg)(ops:List Oper)(tm:Tm)(hp:Hp)(i:Nat):Bool:=
 match ops[i]? with
 |some a=> !FR ops a&&(match Hz cf a.op (Ax tm) hp with
  |some ids=>(List.range ops.length).all fun j=>j==i||D7 ops i j||(match ops[j]? with
   |some o=>isT o.op||(isR o.op&&decide (j<i)&&Ar7 ops j i o&&(Z6 tm o.op).all fun id=> !ids.contains id)
   |none=>true)
  |none=>false)
 |none=>false
def drawn(draw ok:Bool)(cls:Cls)(A:Prop):Prop:=
 match draw,cls with
 |true,.E=>ok=true/\A
 |_,_=>A
def AC7(b:Nat)(hp:Hp):Hp:=fun id=>if id<b then hp id else none
def F4(P:Program)(R:Rel)(cf:Cfg)(draw:Bool)(op:Op)(b:Nat)(ρ:Operand->V)(hp:Hp)(K:BP):Prop:=
 match draw&&isR op with
 |true=>Bi P R cf op b ρ (AC7 b hp) fun x _ cls=>K x hp cls
 |false=>Bi P R cf op b ρ hp K
def OF:V->Bool->Option Bool
 |.v (.bool t),want=>some (t==want)
 |.tup [],_=>some false
 |_,_=>none
def BZ(P:Program)(R:Rel)(cf:Cfg)(all:List Oper)(draw:Bool):List Oper->Nat->St->(St->Prop)->Prop
 |[],_,st,K=>K st
 |o::l,i,st,K=>
  match o.guard with
  |none=>
   F4 P R cf draw o.op (16*(st.c+i)) (Ax st.tm) st.hp fun x hp cls=>
    drawn draw (eOK all i||He cf all st.tm st.hp i) cls (BZ P R cf all draw l (i+1) {tm:=put st.tm o.dst x,hp:=hp,c:=st.c} K)
  |some (j,want)=>
   Bl (((all[j]?).bind (·.dst)).map st.tm) fun y=>Bl (OF y want) fun w=>
    if w=true then
     F4 P R cf draw o.op (16*(st.c+i)) (Ax st.tm) st.hp fun x hp cls=>
      drawn draw (eOK all i||He cf all st.tm st.hp i) cls (BZ P R cf all draw l (i+1) {tm:=put st.tm o.dst x,hp:=hp,c:=st.c} K)
    else BZ P R cf all draw l (i+1) {tm:=put st.tm o.dst (.tup []),hp:=st.hp,c:=st.c} K
abbrev Gk:=Ex->St->Prop
def VM(F:St->Gk->Prop)(e:Nat)(keep:List (Nat×Mds))(out:Ex->List (Nat×Mds)):Nat->St->Gk->Prop
 |0,_,_=>False
 |n+1,st,Q=>Ea e keep st fun st=>F st fun ex s=>match ex with|.normal=>VM F e keep out n s Q|ex=>Ea e (out ex) s (Q ex)
def we(P:Program)(R:Rel)(cf:Cfg)(g:FuncId)(e:Nat):Code->St->Gk->Prop
 |.skip,st,Q=>Q .normal st
 |.region _ ops draw,st,Q=>BZ P R cf (reo draw ops.toList) draw (reo draw ops.toList) 0 st fun s=>Q .normal {s with c:=s.c+ops.size}
 |.seq a b,st,Q=>we P R cf g e a st fun ex s=>match ex with|.normal=>VR e (cf.join g (rid b)) s fun s=>we P R cf g e b s Q|ex=>Q ex s
 |.cond c x y,st,Q=>Uo (Ax st.tm c) fun b=>if b=true then we P R cf g e x st Q else we P R cf g e y st Q
 |.block id c,st,Q=>we P R cf g e c st fun ex s=>match ex with|.exit j=>if j=id then Q .normal s else Q (.exit j) s|ex=>Q ex s
 |.loop c,st,Q=>∃n,VM (we P R cf g e c) e (cf.live g (rid c)) (cf.out g (rid c)) n st Q
 |.exit id,st,Q=>Q (.exit id) st
 |.ret,st,Q=>Q .ret st
 |_,_,_=>False
def Av5(P:Program)(st:St)(r:ResultVar)(K:V->Prop):Prop:=
 match r with
 |.tmp t=>K (st.tm t)
 |.cell a t=>match A4 P (.load t (.tmp a)) (Ax st.tm) st.hp 0 with|some (x,_)=>K x|none=>False
def Kx(P:Program)(st:St):List ResultVar->(List V->Prop)->Prop
 |[],K=>K []
 |r::l,K=>Av5 P st r fun x=>Kx P st l fun xs=>K (x::xs)
def SI(hp:Hp)(e:Nat)(x:V)(r:V)(blks:List Blk):Prop:=
 match Ec hp 64 (List.range e++Ah x) []with
 |some order=>order.take e=List.range e/\r=EQ (idx order) x/\blks=AF hp order
 |none=>False
def Ie:List Mds->List V->Hp->Nat->Option (List V×Hp×Nat)
 |[],[],hp,c=>some ([],hp,c)
 |m::ms,x::xs,hp,c=>
  match Qc m x hp (16*c)with
  |some (y,hp1,n)=>
   if n<=16 then
    match Ie ms xs hp1 (c+1)with
    |some (ys,hp2,c2)=>some (y::ys,hp2,c2)
    |none=>none
   else none
  |none=>none
 |_,_,_,_=>none
def VW(hp:Hp)(e:Nat)(r:V)(blks:List Blk)(xs:List V):Prop:=
 match xs with
 |[x]=>SI hp e x r blks
 |xs=>xs.all EG=true/\SI hp e (.tup xs) r blks
def Cy(rts:List (Nat×Mds)):List V:=rts.map fun p=>.rf p.1 0 0
def FV(rts:List (Nat×Mds))(hp:Hp):Bool:=rts.all fun p=>decide (p.1<16)&&(match hp p.1 with|some k=>decide (k.kind=.box)|none=>false)
def outs(P:Program)(rs:List ResultVar)(rts:List (Nat×Mds))(ms:List Mds)(e:Nat)(r:V)(blks:List Blk):Gk:=fun ex st=>
 match ex with
 |.exit _=>False
 |_=>FV rts st.hp=true/\Kx P st rs fun xs=>Bl (Ie (rts.map (·.2)++ms) (Cy rts++xs) st.hp (st.c+1)) fun z=>VW z.2.1 e r blks (z.1.drop rts.length)
def R6(args:List V)(blks:List Blk):St:={tm:=lk .any (Nw 0 args),hp:=lkB blks,c:=1}
def I5(nt:Nat):Code->Bool
 |.region _ ops _=>ops.toList.all fun o=>match o.dst with|some d=>d<nt|none=>true
 |.seq a b=>I5 nt a&&I5 nt b
 |.cond _ a b=>I5 nt a&&I5 nt b
 |.block _ a|.loop a|.scope a=>I5 nt a
 |.rangeFunc .. =>false
 |_=>true
def J2(ops:List Oper):Bool:=
 (List.range ops.length).all fun i=>(List.range i).all fun j=>
  D7 ops i j||
  match ops[i]?,ops[j]? with
  |some a,some b=>(a.dst.toList.all fun d=> !(P7 ops b).contains d&&b.dst != some d)&&(b.dst.toList.all fun d=> !(P7 ops a).contains d&&a.dst != some d)
  |_,_=>false
def IT(ops:List Oper):Bool:=
 (List.range ops.length).all fun i=>(List.range i).all fun j=>
  D7 ops i j||
  match ops[i]?,ops[j]? with
  |some a,some b=>isT a.op||isR a.op||isT b.op||isR b.op||FR ops a
  |_,_=>false
def K1(ops:List Oper):Bool:=
 (List.range ops.length).all fun i=>match ops[i]? with
  |some o=>(o.after.all fun e=>decide (e.on<i)|| !Region.binds .any e)&&(match o.guard with|some (j,_)=>j<i&&D7 ops i j|none=>true)
  |none=>true
def Gy:Code->Bool
 |.region _ ops true=>J2 (TE ops.toList)&&K1 (TE ops.toList)&&IT (TE ops.toList)
 |.seq a b=>Gy a&&Gy b
 |.cond _ a b=>Gy a&&Gy b
 |.block _ a|.loop a|.scope a=>Gy a
 |_=>true
def NO(fn:Func):Bool:= !(fn.name== "runtime.NumGoroutine")
def Mw(fn:Func)(c:Code)(n:Nat):Bool:=NO fn&&I5 fn.ntmps c&&Gy c&&decide (n<=fn.ntmps)
def SX(P:Program)(cf:Cfg)(ext:Rel):Nat->Rel
 |0=>ext
 |k+1=>fun g args blks r blks'=>
  ext g args blks r blks'\/
  cf.isExt g=false/\∃fn c,P.funcs[g]? =some fn/\fn.body=some c/\Mw fn c args.length=true/\Hg args blks=true/\
   Ea (args.flatMap Af).eraseDups.length (cf.par g) (R6 args blks) fun st=>
    we P (SX P cf ext k) cf g (args.flatMap Af).eraseDups.length c st (outs P fn.results.toList (cf.rts g) (cf.res g) (args.flatMap Af).eraseDups.length r blks')
def GN(P:Program)(cf:Cfg)(ext:Rel):Rel:=fun g args blks r blks'=>∃k,SX P cf ext k g args blks r blks'
end
section
open Go
theorem Qw(t:Bool)(F:Bool->Prop):Uo (.v (.bool t)) F=F t:=(rfl)
theorem As6(P:Program)(b:Nat)(ρ:Operand->V)(hp:Hp)(t:TypeId)(a:Operand)(z:V×List Blk)(h:A4 P (.load t a) ρ hp b=some z):z.2=[]:=by
 simp only[A4]at h
 repeat' (split at h)
 all_goals first|(cases h;rfl)|cases h
@[simp] theorem Aj{α:Type}(y:α)(F:α->Prop):Bl (some y) F=F y:=(rfl)
end
section
open Go
inductive Rep (w:World) (G:Nat->Prop):V->Value->Prop
 |v (x:Value):GD x=true->Rep w G (.v x) x
 |em (a:Option Addr):Rep w G .em (.slice a 0 0)
 |er0:Rep w G (.er false) .nilIface
 |er1 (t:TypeId) (x:Value):Rep w G (.er true) (.iface t x)
 |im0 (a:Option Addr) (cap:Nat):Rep w G (.im []) (.slice a 0 cap)
 |im (b off cap size:Nat) (rows:List (List V)) (f:Nat->Nat->Value):G b->0<size->rows.length<=cap->cap<=maxLen->
   (∀(i:Nat)(row:List V),rows[i]? =some row->row.length=size)->
   (∀(i j:Nat)(row:List V)(x:V),rows[i]? =some row->row[j]? =some x->w.cell? ⟨b,off+i*size+j,none⟩=some (f i j))->
   (∀(i j:Nat)(row:List V)(x:V),rows[i]? =some row->row[j]? =some x->Rep w G x (f i j))->Rep w G (.im rows) (.slice (some ⟨b,off,none⟩) rows.length cap)
def Am4(S:Nat->Prop)(w w':World):Prop:=∀b,S b->w'.heap[b]? =w.heap[b]?
theorem LT{w w':World}{b o:Nat}(h:w'.heap[b]? =w.heap[b]?):w'.cell? ⟨b,o,none⟩=w.cell? ⟨b,o,none⟩:=by
 simp[World.cell?,h]
theorem Rep.same{w w':World}{G G':Nat->Prop}{x:V}{y:Value}(h:Rep w G x y)(hs:Am4 G w w')(hg:∀b,G b->G' b):Rep w' G' x y:=by
 induction h with
 |v x h=>exact .v x h
 |em a=>exact .em a
 |er0=>exact .er0
 |er1 t x=>exact .er1 t x
 |im0 a cap=>exact .im0 a cap
 |im b off cap size rows f hb h0 hr hc hl hcell _ ih=>
  exact .im b off cap size rows f (hg b hb) h0 hr hc hl (fun i j row x h1 h2=>by rw[LT (hs b hb)];exact hcell i j row x h1 h2) (fun i j row x h1 h2=>ih i j row x h1 h2)
theorem Rep.mono{w:World}{G G':Nat->Prop}{x:V}{y:Value}(h:Rep w G x y)(hg:∀b,G b->G' b):Rep w G' x y:=h.same (fun _ _=>rfl) hg
theorem Rep.one{w:World}{G:Nat->Prop}{x:V}{y:Value}(h:Rep w G x y):y.oneCell'=true:=by
 cases h with
 |v x h=>cases y<;>simp_all [GD,Value.oneCell']
 |_=>rfl
structure Env where
 m:Nat->Option Nat
 N:Nat->Nat->Prop
section
variable (w:World) (E:Env) (hp:Hp) (G:Nat->Prop)
def VR0:V->Value->Prop
  |.any,_=>True
  |.ar id lo n,y=>∃a cap,y=.slice a n cap/\∀k,hp id=some k->k.kind≠ .box/\lo+n<=k.rows.length/\
      ((n=0/\cap=0)\/
       ∃b cur ty fz,E.m id=some b/\a=some ⟨b,lo*k.size,none⟩/\n<=cap/\w.heap[b]? =some (.cells cur ty fz)/\cur.size=(lo+cap)*k.size)
  |.rf id r c,y=>∃b o,y=.pointer (some ⟨b,o,none⟩)/\∀k,hp id=some k->E.m id=some b/\o=r*k.size+c
  |.ir row c,y=>∃(b off:Nat)(f:Nat->Value),G b/\y=.pointer (some ⟨b,off+c,none⟩)/\
      ∀(j:Nat)(x:V),row[j]? =some x->w.cell? ⟨b,off+j,none⟩=some (f j)/\Rep w G x (f j)
  |.cl f [],y=>y=.func (.func f) #[] #[]
  |.cl _ (_::_),_=>False
  |.agg _,_=>False
  |.tup _,_=>False
  |.v x,y=>Rep w G (.v x) y
  |.em,y=>Rep w G .em y
  |.er b,y=>Rep w G (.er b) y
  |.im rows,y=>Rep w G (.im rows) y
def VL(R:V->Value->Prop):List V->List Value->Prop
 |[],[]=>True
 |x::xs,y::ys=>R x y/\VL R xs ys
 |_,_=>False
def VR1:V->Value->Prop
 |.agg cs,y=>∃us,y=.agg us/\VL (VR0 w E hp G) cs us.toList
 |.cl f caps,y=>∃us,y=.func (.func f) #[] us/\VL (VR0 w E hp G) caps us.toList
 |x,y=>VR0 w E hp G x y
def VR2:V->Value->Prop
 |.tup vs,y=>∃us,y=.tuple us/\VL (VR1 w E hp G) vs us.toList
 |x,y=>VR1 w E hp G x y
end
theorem VL.length{R:V->Value->Prop}:∀{xs:List V}{ys:List Value},VL R xs ys->ys.length=xs.length
 |[],[],_=>rfl
 |_::xs,_::ys,h=>by simp[VL.length (xs:=xs) (ys:=ys) h.2]
 |[],_::_,h=>h.elim
 |_::_,[],h=>h.elim
theorem VL.mono{R R':V->Value->Prop}:∀{xs:List V}{ys:List Value},VL R xs ys->(∀x∈xs,∀y,R x y->R' x y)->VL R' xs ys
 |[],[],_,_=>trivial
 |x::xs,y::ys,h,hm=>⟨hm x (by simp) y h.1,VL.mono h.2 fun x hx=>hm x (by simp[hx])⟩
 |[],_::_,h,_=>h.elim
 |_::_,[],h,_=>h.elim
theorem VL.get{R:V->Value->Prop}:∀{xs:List V}{ys:List Value},VL R xs ys->∀(j:Nat)(x:V),xs[j]? =some x->∃y,ys[j]? =some y/\R x y
 |[],[],_,j,x,h=>by simp at h
 |a::xs,b::ys,h,0,x,hx=>by simp at hx;subst hx;exact⟨b,by simp,h.1⟩
 |a::xs,b::ys,h,j+1,x,hx=>by simpa using VL.get h.2 j x (by simpa using hx)
 |[],_::_,h,_,_,_=>h.elim
 |_::_,[],h,_,_,_=>h.elim
theorem VL.of_get{R:V->Value->Prop}:∀{xs:List V}{ys:List Value},ys.length=xs.length->(∀(j:Nat)(x:V)(y:Value),xs[j]? =some x->ys[j]? =some y->R x y)->VL R xs ys
 |[],[],_,_=>trivial
 |a::xs,b::ys,hl,h=>⟨h 0 a b (by simp) (by simp),VL.of_get (by simpa using hl) fun j x y h1 h2=>h (j+1) x y (by simpa using h1) (by simpa using h2)⟩
 |[],_::_,hl,_=>by simp at hl
 |_::_,[],hl,_=>by simp at hl
theorem VL.append{R:V->Value->Prop}:∀{xs xs':List V}{ys ys':List Value},VL R xs ys->VL R xs' ys'->VL R (xs++xs') (ys++ys')
 |[],_,[],_,_,h=>h
 |_::xs,_,_::ys,_,h,h'=>⟨h.1,VL.append h.2 h'⟩
 |[],_,_::_,_,h,_=>h.elim
 |_::_,_,[],_,h,_=>h.elim
theorem VL.take{R:V->Value->Prop}:∀{xs:List V}{ys:List Value}(n:Nat),VL R xs ys->VL R (xs.take n) (ys.take n)
 |[],[],n,_=>by simp[VL]
 |a::xs,b::ys,0,_=>by simp[VL]
 |a::xs,b::ys,n+1,h=>⟨h.1,VL.take n h.2⟩
 |[],_::_,_,h=>h.elim
 |_::_,[],_,h=>h.elim
theorem VL.drop{R:V->Value->Prop}:∀{xs:List V}{ys:List Value}(n:Nat),VL R xs ys->VL R (xs.drop n) (ys.drop n)
 |[],[],n,_=>by simp[VL]
 |a::xs,b::ys,0,h=>h
 |a::xs,b::ys,n+1,h=>by simpa using VL.drop n h.2
 |[],_::_,_,h=>h.elim
 |_::_,[],_,h=>h.elim
def AQ(k:Blk):Bool:=match k.kind with|.frz=>false|_=>true
section
variable (E:Env) (hp:Hp)
def Di(id b:Nat):Prop:=E.m id=some b\/E.N id b
def Own(b:Nat):Prop:=∃id k,hp id=some k/\AQ k=true/\Di E id b
end
def AU(w:World)(E:Env)(hp:Hp)(G:Nat->Prop)(id:Nat)(k:Blk):Prop:=
 match k.kind with
 |.box=>∃b row cur,E.m id=some b/\w.heap[b]? =some (.cells cur k.ty (0,0))/\k.rows=[row]/\k.size=row.length/\0<k.size/\
   VL (fun x y=>VR0 w E hp G x y/\y.oneCell'=true) row cur.toList
 |.arr=>(k.rows=[]/\E.m id=none)\/
   ∃b cur cap,E.m id=some b/\w.heap[b]? =some (.cells cur k.ty (0,0))/\0<k.size/\cur.size=cap*k.size/\cap<=maxLen/\k.rows.length<=cap/\
    (∀(i:Nat)(row:List V),k.rows[i]? =some row->row.length=k.size)/\
    ∀(i j:Nat)(row:List V)(x:V),k.rows[i]? =some row->row[j]? =some x->∃u,cur[i*k.size+j]? =some u/\Rep w (if k.deep then E.N id else G) x u
 |.frz=>(k.rows=[]/\E.m id=none)\/
   ∃b cur cap fz,E.m id=some b/\G b/\w.heap[b]? =some (.cells cur k.ty fz)/\0<k.size/\cur.size=cap*k.size/\cap<=maxLen/\k.rows.length<=cap/\
    (∀(i:Nat)(row:List V),k.rows[i]? =some row->row.length=k.size)/\
    ∀(i j:Nat)(row:List V)(x:V),k.rows[i]? =some row->row[j]? =some x->∃u,cur[i*k.size+j]? =some u/\Rep w G x u
structure Fr (U:Nat->Prop) (w w':World):Prop where
 os:w'.os=w.os
 tape:w'.tape=w.tape
 output:w'.output=w.output
 size:w.heap.size<=w'.heap.size
 block:∀b,b<w.heap.size->¬U b->w'.heap[b]? =w.heap[b]?
 shape:∀(b:Nat)(cur:Array Value)(ty:TypeId)(fz:Nat×Nat),w.heap[b]? =some (.cells cur ty fz)->∃cur' fz',w'.heap[b]? =some (.cells cur' ty fz')/\cur'.size=cur.size
theorem Fr.refl(U:Nat->Prop)(w:World):Fr U w w:=⟨rfl,rfl,rfl,za8 _,fun _ _ _=>rfl,fun _ cur _ fz h=>⟨cur,fz,h,rfl⟩⟩
theorem Fr.mk'{U:Nat->Prop}{w w':World}(os:w'.os=w.os)(tape:w'.tape=w.tape)(output:w'.output=w.output)(size:w.heap.size<=w'.heap.size)
  (block:∀b,b<w.heap.size->¬U b->w'.heap[b]? =w.heap[b]?)
  (shape:∀(b:Nat)(cur:Array Value)(ty:TypeId)(fz:Nat×Nat),U b->w.heap[b]? =some (.cells cur ty fz)->∃cur' fz',w'.heap[b]? =some (.cells cur' ty fz')/\cur'.size=cur.size):Fr U w w':=
 ⟨os,tape,output,size,block,fun b cur ty fz h=>by
  by_cases hu:U b
  ·exact shape b cur ty fz hu h
  ·exact⟨cur,fz,by rw[block b (Array.getElem?_eq_some_iff.1 h).1 hu];exact h,rfl⟩⟩
theorem Fr.then{U U':Nat->Prop}{a b c:World}(h:Fr U a b)(k:Fr U' b c)(hu:∀i,U' i->U i\/a.heap.size<=i):Fr U a c:=
 ⟨k.os.trans h.os,k.tape.trans h.tape,k.output.trans h.output,zd0 h.size k.size,fun i hi hn=>(k.block i (zd8 hi h.size) (fun hU=>(hu i hU).elim hn (by omega))).trans (h.block i hi hn),fun b cur ty fz hb=>by
  obtain⟨c1,f1,h1,s1⟩:=h.shape b cur ty fz hb;obtain⟨c2,f2,h2,s2⟩:=k.shape b c1 ty f1 h1;exact⟨c2,f2,h2,s2.trans s1⟩⟩
theorem Fr.trans{U:Nat->Prop}{a b c:World}(h:Fr U a b)(k:Fr U b c):Fr U a c:=h.then k fun _ h=>.inl h
structure HpInv (w0:World) (U A:Nat->Prop) (E:Env) (G:Nat->Prop) (hp:Hp) (w:World):Prop where
 fr:Fr U w0 w
 g1:∀b,G b->b<w.heap.size/\(A b\/U b\/w0.heap.size<=b)
 g2:∀b,G b->¬Own E hp b
 o1:∀b,Own E hp b->b<w.heap.size/\(U b\/w0.heap.size<=b)
 dis:∀id k id' k',hp id=some k->AQ k=true->hp id'=some k'->AQ k'=true->∀b,Di E id b->Di E id' b->id=id'
 self:∀id k b,hp id=some k->AQ k=true->E.m id=some b->¬E.N id b
 blk:∀id k,hp id=some k->AU w E hp G id k
def Dz(B:Nat->Prop)(hp:Hp):Prop:=∀id k,hp id=some k->B id/\∀j∈Ck k,B j
structure Ext (B:Nat->Prop) (E:Env) (G:Nat->Prop) (hp:Hp) (w:World) (E':Env) (G':Nat->Prop) (hp':Hp) (w':World):Prop where
 v0:∀x y,(∀id∈Ae x,B id)->VR0 w E hp G x y->VR0 w' E' hp' G' x y
theorem Ext.refl(B:Nat->Prop)(E:Env)(G:Nat->Prop)(hp:Hp)(w:World):Ext B E G hp w E G hp w:=⟨fun _ _ _ h=>h⟩
theorem Ext.trans{B B':Nat->Prop}{E G hp w E' G' hp' w' E'' G'' hp'' w''}(h:Ext B E G hp w E' G' hp' w')(k:Ext B' E' G' hp' w' E'' G'' hp'' w'')(hb:∀i,B i->B' i):Ext B E G hp w E'' G'' hp'' w'':=
 ⟨fun x y hx h0=>k.v0 x y (fun id hi=>hb id (hx id hi)) (h.v0 x y hx h0)⟩
theorem Ext.v1{B E G hp w E' G' hp' w'}(h:Ext B E G hp w E' G' hp' w')(x:V)(y:Value)(hx:∀id∈Af x,B id)(h1:VR1 w E hp G x y):VR1 w' E' hp' G' x y:=by
 cases x with
 |agg cs=>
  obtain⟨us,rfl,hl⟩:=h1;exact⟨us,rfl,hl.mono fun x hm y=>h.v0 x y fun id hi=>hx id (by simp only[Af,zb0];exact⟨x,hm,hi⟩)⟩
 |cl f caps=>
  obtain⟨us,rfl,hl⟩:=h1;exact⟨us,rfl,hl.mono fun x hm y=>h.v0 x y fun id hi=>hx id (by simp only[Af,zb0];exact⟨x,hm,hi⟩)⟩
 |v a=>exact h.v0 (.v a) y hx h1
 |em  =>exact h.v0 (.em) y hx h1
 |er e=>exact h.v0 (.er e) y hx h1
 |im a=>exact h.v0 (.im a) y hx h1
 |ar a b c=>exact h.v0 (.ar a b c) y hx h1
 |rf a b c=>exact h.v0 (.rf a b c) y hx h1
 |ir a b=>exact h.v0 (.ir a b) y hx h1
 |tup a=>exact h.v0 (.tup a) y hx h1
 |any  =>exact h.v0 (.any) y hx h1
theorem Ext.v2{B E G hp w E' G' hp' w'}(h:Ext B E G hp w E' G' hp' w')(x:V)(y:Value)(hx:∀id∈Ah x,B id)(h1:VR2 w E hp G x y):VR2 w' E' hp' G' x y:=by
 cases x with
 |tup vs=>
  obtain⟨us,rfl,hl⟩:=h1;exact⟨us,rfl,hl.mono fun x hm y=>h.v1 x y fun id hi=>hx id (by simp only[Ah,zb0];exact⟨x,hm,hi⟩)⟩
 |v a=>exact h.v1 (.v a) y hx h1
 |em  =>exact h.v1 (.em) y hx h1
 |er e=>exact h.v1 (.er e) y hx h1
 |im a=>exact h.v1 (.im a) y hx h1
 |ar a b c=>exact h.v1 (.ar a b c) y hx h1
 |rf a b c=>exact h.v1 (.rf a b c) y hx h1
 |ir a b=>exact h.v1 (.ir a b) y hx h1
 |agg a=>exact h.v1 (.agg a) y hx h1
 |cl a b=>exact h.v1 (.cl a b) y hx h1
 |any  =>exact h.v1 (.any) y hx h1
end
section
open Go
variable {P:Program} {w:World} {E:Env} {hp:Hp} {G:Nat->Prop}
theorem Qg{α:Type}:∀(s:Sem α)(a:α),Am P s=some a->∀w,s.run P w=.ok a w
 |.pure b,a,h,w=>by simp[Am]at h;subst h;rfl
 |.program k,a,h,w=>by
  have ih:=Qg (k P) a (by simpa[Am]using h) w;simpa[Sem.run]using ih
 |.load ..,_,h,_=>by simp[Am]at h
 |.store ..,_,h,_=>by simp[Am]at h
 |.new ..,_,h,_=>by simp[Am]at h
 |.shape ..,_,h,_=>by simp[Am]at h
 |.freeze ..,_,h,_=>by simp[Am]at h
 |.frozen ..,_,h,_=>by simp[Am]at h
 |.getObj ..,_,h,_=>by simp[Am]at h
 |.setObj ..,_,h,_=>by simp[Am]at h
 |.choose ..,_,h,_=>by simp[Am]at h
 |.sys ..,_,h,_=>by simp[Am]at h
 |.mark ..,_,h,_=>by simp[Am]at h
 |.halt ..,_,h,_=>by simp[Am]at h
theorem Bx{t:TypeId}{d:TyD}(h:AY P t=some d):∃i u z,P.info? t=some i/\P.underlying t=some u/\i.zero=some z/\i.size≠0/\z.cells.size=i.size/\(∀c∈z.cells.toList,c.oneCell'=true)/\
  d={size:=i.size,bytes:=i.bytes,agg:=Li u,zero:=z.cells.toList.map CM,elem:=ZJ u,str:=AN0 u,int:=AC2 u,flds:=R9 P u,ifc:=AK4 u}:=by
 unfold AY at h
 split at h
 ·rename_i i u hi hu
  split at h
  ·rename_i z hz
   split at h
   ·cases h
   ·rename_i hn;simp only[not_or,ne_eq,Decidable.not_not,Bool.not_eq_false,za6]at hn;exact⟨i,u,z,hi,hu,hz,hn.1,hn.2.1,hn.2.2,(zy h).symm⟩
  ·cases h
 ·cases h
theorem Ip{t:TypeId}{d:TyD}(h:AY P t=some d):0<d.size:=by
 obtain⟨i,u,z,_,_,_,h0,_,_,rfl⟩:=Bx h;exact Nat.pos_of_ne_zero h0
theorem XL(w:World):(program:Sem Program).run P w=.ok P w:=rfl
theorem Lq{t:TypeId}{i:TypeInfo}(h:P.info? t=some i)(w:World):(typeInfo t).run P w=.ok i w:=by
 unfold typeInfo;simp only[Sem.run_bind,XL,Result.andThen_ok,h,Sem.run_pure]
theorem FW{t:TypeId}{d:TyD}(h:AY P t=some d)(w:World):(sizeOf t).run P w=.ok d.size w:=by
 obtain⟨i,u,z,hi,_,_,h0,_,_,rfl⟩:=Bx h;simp only[sizeOf,Sem.run_bind,Lq hi,Result.andThen_ok,Sem.run_pure]
theorem AD8{t:TypeId}{d:TyD}(h:AY P t=some d)(w:World):(isAgg t).run P w=.ok d.agg w:=by
 obtain⟨i,u,z,_,hu,_,h0,_,_,rfl⟩:=Bx h;unfold isAgg;simp only[Sem.run_bind,run_underlying hu,Result.andThen_ok];cases u<;>rfl
theorem Bn{t e:TypeId}(h:(AY P t).bind (·.elem)=some e):P.underlying t=some (.slice e):=by
 cases ht:AY P t with
 |none=>simp[ht]at h
 |some d=>
  obtain⟨i,u,z,_,hu,_,h0,_,_,rfl⟩:=Bx ht;rw[ht]at h;cases u<;>simp[ZJ]at h
  rw[hu,h]
theorem Dy{t:TypeId}(h:DH P t=true):P.underlying t=some .string:=by
 unfold DH at h;cases ht:AY P t with
 |none=>simp[ht]at h
 |some d=>
  obtain⟨i,u,z,_,hu,_,h0,_,_,rfl⟩:=Bx ht;rw[ht]at h;cases u<;>simp[AN0]at h
  exact hu
theorem S3{t:TypeId}(h:MI P t=true):∃e,P.underlying t=some (.slice e):=by
 unfold MI at h;cases ht:AY P t with
 |none=>simp[ht]at h
 |some d=>
  rw[ht]at h;cases he:d.elem with
  |none=>simp[he]at h
  |some e=>exact⟨e,Bn (by simp[ht,he])⟩
theorem Uy:∀{fs:List Field}{l:List Fld},Mo P fs=some l->l.length=fs.length/\∀(k:Nat)(f:Fld),l[k]? =some f->
  ∃g i u,fs[k]? =some g/\g.offset=f.off/\g.type=f.ty/\P.info? f.ty=some i/\i.size=f.size/\f.size≠0/\P.underlying f.ty=some u/\f.agg=Li u
 |[],l,h=>by simp[Mo]at h;subst h;exact⟨rfl,fun k f hk=>by simp at hk⟩
 |g::fs,l,h=>by
  simp only[Mo]at h
  split at h
  ·rename_i i u r hi hu hr
   split at h
   ·cases h
   ·rename_i h0;have hl:=zy h;subst hl;obtain⟨h1,h2⟩:=Uy hr;refine⟨by simp[h1],fun k f hk=> ?_⟩
    cases k with
    |zero=>
     simp at hk;subst hk;exact⟨g,i,u,by simp,rfl,rfl,hi,rfl,h0,hu,rfl⟩
    |succ k=>simpa using h2 k f (by simpa using hk)
  ·cases h
theorem Sa{t:TypeId}{d:TyD}{k:Nat}{f:Fld}(h:AY P t=some d)(hk:d.flds[k]? =some f):
  ∃fs g i u,P.underlying t=some (.struct fs)/\fs[k]? =some g/\g.offset=f.off/\g.type=f.ty/\P.info? f.ty=some i/\i.size=f.size/\f.size≠0/\P.underlying f.ty=some u/\f.agg=Li u:=by
 obtain⟨i,u,z,_,hu,_,h0,_,_,rfl⟩:=Bx h;cases u<;>simp[R9]at hk
 rename_i fs;cases hl:Mo P fs.toList with
 |none=>simp[hl]at hk
 |some l=>
  rw[hl]at hk;obtain⟨g,i',u',h1,h2⟩:=(Uy hl).2 k f (by simpa using hk);exact⟨fs,g,i',u',hu,by simpa using h1,h2⟩
theorem XH{x:Value}{y:Value}(h:Rep w G (.v x) y):y=x/\GD x=true:=by
 cases h with
 |v x h=>exact⟨rfl,h⟩
theorem VR0.to1:∀{x:V}{y:Value},VR0 w E hp G x y->VR1 w E hp G x y
 |.cl f [],y,h=>by subst h;exact⟨#[],rfl,trivial⟩
 |.cl _ (_::_),_,h=>h.elim
 |.agg _,_,h=>h.elim
 |.tup _,_,h=>h
 |.v _,_,h=>h
 |.em,_,h=>h
 |.er _,_,h=>h
 |.im _,_,h=>h
 |.ar _ _ _,_,h=>h
 |.rf _ _ _,_,h=>h
 |.ir _ _,_,h=>h
 |.any,_,h=>h
theorem VR1.to2:∀{x:V}{y:Value},VR1 w E hp G x y->VR2 w E hp G x y
 |.tup _,_,h=>False.elim h
 |.cl _ _,_,h=>h
 |.agg _,_,h=>h
 |.v _,_,h=>h
 |.em,_,h=>h
 |.er _,_,h=>h
 |.im _,_,h=>h
 |.ar _ _ _,_,h=>h
 |.rf _ _ _,_,h=>h
 |.ir _ _,_,h=>h
 |.any,_,h=>h
theorem VR2.to0:∀{x:V}{y:Value},Bk x=true->VR2 w E hp G x y->VR0 w E hp G x y
 |.cl f [],y,_,h=>by
  obtain⟨us,rfl,hl⟩:=h;have:us.toList=[]:=by
   cases hu:us.toList with
   |nil=>rfl
   |cons a l=>rw[hu]at hl;exact hl.elim
  have:us= #[]:=by simpa using this
  subst this;rfl
 |.cl _ (_::_),_,h,_=>by simp[Bk]at h
 |.tup _,_,h,_=>by simp[Bk]at h
 |.agg _,_,h,_=>by simp[Bk]at h
 |.v _,_,_,h=>h
 |.em,_,_,h=>h
 |.im _,_,_,h=>h
 |.ar _ _ _,_,_,h=>h
 |.rf _ _ _,_,_,h=>h
 |.ir _ _,_,_,h=>h
 |.any,_,h,_=>by simp[Bk]at h
theorem Kd(c:Value):VR0 w E hp G (CM c) c:=by
 unfold CM
 split
 ·exact Rep.em none
 ·split
  ·exact Rep.v _ (by assumption)
  ·exact trivial
theorem Qf:∀cs:List Value,VL (VR0 w E hp G) (cs.map CM) cs
 |[]=>trivial
 |c::cs=>⟨Kd c,Qf cs⟩
theorem XB(c:Value):VR2 w E hp G (Hy c) c:=by
 unfold Hy
 split
 ·rename_i cs;exact⟨cs,rfl,Qf cs.toList⟩
 ·exact(Kd c).to1.to2
theorem NP{tm:Tm}{a:Act}(h:∀t,VR2 w E hp G (tm t) (a.tmps.getD t undef))(x:Operand):VR2 w E hp G (Ax tm x) (a.eval x):=by
 cases x with
 |tmp t=>exact h t
 |const c=>exact XB c
 |global g=>exact trivial
 |func f=>exact⟨#[],rfl,trivial⟩
theorem Tb:∀{cs:List V}{us l:List Value},Cf cs=some l->VL (VR0 w E hp G) cs us->us=l
 |[],[],l,h,_=>by simp[Cf]at h;exact h.symm
 |.v x::cs,u::us,l,h,hl=>by
  simp only[Cf]at h
  split at h
  ·rename_i r hr;have h1:u=x:=(XH hl.1).1;have h2:=Tb hr hl.2;rw[<-zy h,h1,h2]
  ·cases h
 |[],_::_,_,_,h=>h.elim
 |_::_,[],_,_,h=>h.elim
 |.em::_,_::_,_,h,_=>by simp[Cf]at h
 |.im _::_,_::_,_,h,_=>by simp[Cf]at h
 |.ar _ _ _::_,_::_,_,h,_=>by simp[Cf]at h
 |.rf _ _ _::_,_::_,_,h,_=>by simp[Cf]at h
 |.ir _ _::_,_::_,_,h,_=>by simp[Cf]at h
 |.agg _::_,_::_,_,h,_=>by simp[Cf]at h
 |.tup _::_,_::_,_,h,_=>by simp[Cf]at h
 |.cl _ _::_,_::_,_,h,_=>by simp[Cf]at h
 |.any::_,_::_,_,h,_=>by simp[Cf]at h
theorem Vd{x:V}{y v:Value}(h:GZ x=some v)(hr:VR2 w E hp G x y):y=v:=by
 cases x with
 |v x=>simp[GZ]at h;subst h;exact(XH hr).1
 |agg cs=>
  obtain⟨us,rfl,hl⟩:=hr;simp only[GZ]at h
  split at h
  ·rename_i r hr;have:=Tb hr hl;rw[<-zy h,<-this]
  ·cases h
 |_=>simp[GZ]at h
theorem VV{x:Value}{z:V}(h:Aw x=some z):VR2 w E hp G z x:=by
 unfold Aw at h
 split at h
 ·rename_i hs;rw[<-zy h];exact Rep.v x hs
 ·cases h
theorem AE8{cs l:List V}{us:List Value}{off n:Nat}(h:seg cs off n=some l)(hl:VL (VR0 w E hp G) cs us):
  VL (VR0 w E hp G) l ((us.drop off).take n)/\l.length=n/\off+n<=us.length:=by
 unfold seg at h
 split at h
 ·rename_i hn;rw[<-zy h];have:=hl.length;refine⟨(hl.drop off).take n,by simp;omega,by omega⟩
 ·cases h
theorem At1{g:Bool}{l:List V}{x:V}{us:List Value}(h:mk g l=some x)(hl:VL (VR0 w E hp G) l us):
  VR2 w E hp G x (if g then .agg us.toArray else us.headD undef)/\(g=false->l=[x]):=by
 unfold mk at h
 split at h
 ·rename_i ha;rw[<-zy h];simp only[ha,if_true];exact⟨⟨us.toArray,rfl,by simpa using hl⟩,by simp⟩
 ·rename_i ha
  split at h
  ·rename_i x';have hx:x'=x:=zy h;subst hx;cases us with
   |nil=>exact hl.elim
   |cons u us=>simp only[ha,List.headD_cons];exact⟨(hl.1).to1.to2,fun _=>trivial⟩
  ·cases h
theorem Av9{t:TypeId}{u:TypeDesc}(hu:P.underlying t=some u)(w:World):(isAgg t).run P w=.ok (Li u) w:=by
 unfold isAgg;simp only[Sem.run_bind,run_underlying hu,Result.andThen_ok];cases u<;>rfl
theorem V9 {t : TypeId} {i : TypeInfo} {u : TypeDesc} (hi : P.info? t = some i) (hu : P.underlying t = some u) {cs l : List V} {us : Array Value} {off : Nat} {x : V} (h1 : seg cs off i.size = some l) (h2 : mk (Li u) l = some x)
    (hl : VL (VR0 w E hp G) cs us.toList) : ∃ y, (part t us off).run P w = .ok y w /\ VR2 w E hp G x y := by
  obtain ⟨hs, hlen, hle⟩ := AE8 h1 hl;obtain ⟨hm, hone⟩ := At1 h2 hs;unfold part;simp only [Sem.run_bind, Av9 hu, Result.andThen_ok];cases ha : Li u with
  | true =>
    simp only [if_true, Sem.run_bind, sizeOf, Lq hi, Result.andThen_ok, Sem.run_pure];rw [ha] at hm;refine ⟨_, rfl, ?_⟩
    have : us.extract off (off + i.size) = ((us.toList.drop off).take i.size).toArray := by
      apply Array.ext'
      simp [List.drop_take, Nat.add_sub_cancel_left]
    rw [this]; exact hm
  | false =>
    have hl1 := hone ha;subst hl1;simp only [zc6, List.length_nil] at hlen
    have hlt : off < us.size := by have : us.toList.length = us.size := by simp
                                   omega
    rw [ha] at hm;have hh : ((us.toList.drop off).take i.size).headD undef = us[off] := by
      rw [<- hlen, zb9 (by simpa using hlt)]; simp
    rw [hh] at hm;refine ⟨us[off], ?_, hm⟩
    simp [Array.getElem?_eq_getElem hlt]
theorem AG7{s:Sem Value}{y:Value}{w w':World}(h:s.run P w=.ok y w'):(do pure (Next.value (<-s)):Sem Next).run P w=.ok (.value y) w':=by
 simp[h]
theorem F0{x:Value}{y:Value}(h:VR2 w E hp G (.v x) y):y=x/\GD x=true:=XH h
theorem VR0.one:∀{x:V}{y:Value},Bk x=true->VR0 w E hp G x y->y.oneCell'=true
 |.cl f [],y,_,h=>by subst h;rfl
 |.cl _ (_::_),_,h,_=>by simp[Bk]at h
 |.tup _,_,h,_=>by simp[Bk]at h
 |.agg _,_,h,_=>by simp[Bk]at h
 |.v _,_,_,h=>Rep.one h
 |.em,_,_,h=>Rep.one h
 |.im _,_,_,h=>Rep.one h
 |.ar _ _ _,_,_,h=>by obtain⟨a,cap,rfl,_⟩:=h;rfl
 |.rf _ _ _,_,_,h=>by obtain⟨b,o,rfl,_⟩:=h;rfl
 |.ir _ _,_,_,h=>by obtain⟨b,off,f,_,rfl,_⟩:=h;rfl
 |.any,_,h,_=>by simp[Bk]at h
theorem H4{x:V}{y:Value}(h:VR2 w E hp G x y)(hk:(flat x).all Bk=true):VL (VR0 w E hp G) (flat x) y.cells.toList:=by
 cases x with
 |agg cs=>obtain⟨us,rfl,hl⟩:=h;exact hl
 |_=>
  have hk':=hk;simp only[flat,zc1,List.all_nil,Bool.and_true]at hk';have h0:=VR2.to0 hk' h;have h1:=VR0.one hk' h0;have:y.cells= #[y]:=by
   cases y with
   |agg cs=>simp[Value.oneCell']at h1
   |_=>rfl
  rw[this];exact⟨h0,trivial⟩
theorem VL.ones:∀{xs:List V}{ys:List Value},xs.all Bk=true->VL (VR0 w E hp G) xs ys->∀u∈ys,u.oneCell'=true
 |[],[],_,_,u,hu=>by simp at hu
 |x::xs,y::ys,hk,h,u,hu=>by
  simp only[zc1,za2]at hk;rcases zc9.1 hu with rfl|hu
  ·exact VR0.one hk.1 h.1
  ·exact VL.ones hk.2 h.2 u hu
 |[],_::_,_,h,_,_=>h.elim
 |_::_,[],_,h,_,_=>h.elim
theorem OD:∀(new:List Value)(k o:Nat)(u:Array Value),o+k+new.length<=u.size->
  ((new.zipIdx k).foldl (fun cs (p:Value×Nat)=>cs.setIfInBounds (o+p.2) p.1) u).toList=u.toList.take (o+k)++new++u.toList.drop (o+k+new.length)
 |[],k,o,u,_=>by simp
 |v::new,k,o,u,h=>by
  simp only[List.zipIdx_cons,List.foldl_cons];have hlt:o+k<u.size:=by simp at h;omega
  rw[OD new (k+1) o (u.setIfInBounds (o+k) v) (by simp at h⊢;omega)];have h1:(u.setIfInBounds (o+k) v).toList=u.toList.set (o+k) v:=by simp
  rw[h1,show o+(k+1)=o+k+1 by omega];have h2:(u.toList.set (o+k) v).take (o+k+1)=u.toList.take (o+k)++[v]:=by
   rw[List.take_succ_eq_append_getElem (by simpa using hlt)];simp[List.take_set_of_le]
  have h3:(u.toList.set (o+k) v).drop (o+k+1+new.length)=u.toList.drop (o+k+1+new.length):=by
   rw[List.drop_set_of_lt (by omega)]
  rw[h2,h3];have h4:o+k+1+new.length=o+k+(v::new).length:=by simp;omega
  rw[h4];simp only[List.append_assoc,List.cons_append,List.nil_append]
theorem W9{flds:List Fld}{ρ:Operand->V}{ρr:Operand->Value}(hρ:∀x,VR2 w E hp G (ρ x) (ρr x))
  (place:Nat->Option (Nat×Nat)) (hpl:∀(k:Nat) f,flds[k]? =some f->place k=some (f.off,f.size)):
  ∀(parts:List (Nat×Operand))(cs cs':List V)(us:Array Value),Hf flds ρ cs parts=some cs'->VL (VR0 w E hp G) cs us.toList->
   ∃us',Instr.fill place us (parts.map fun p=>(p.1,ρr p.2))=some us'/\VL (VR0 w E hp G) cs' us'.toList
 |[],cs,cs',us,h,hl=>by
  simp only[Hf,zb]at h;subst h;exact⟨us,rfl,hl⟩
 |(k,x)::rest,cs,cs',us,h,hl=>by
  simp only[Hf]at h
  split at h
  ·rename_i f hk
   ·split at h
    ·rename_i hlen;simp only[za2,decide_eq_true_eq]at hlen;cases hp2:FT cs f.off (flat (ρ x))with
     |none=>simp[hp2]at h
     |some c2=>
      simp only[hp2,za0]at h;have hcl:=H4 (hρ x) hlen.2;unfold FT at hp2
      split at hp2
      ·rename_i hle;have hc2:=zy hp2;have hsz:(ρr x).cells.size=f.size:=by have:=hcl.length;simp only[Array.length_toList]at this;omega
       have hus:=hl.length;have hus':us.size=cs.length:=by simpa using hus
       have hfl:(ρr x).cells.size=(flat (ρ x)).length:=by have:=hcl.length;simpa using this
       have hset:((ρr x).cells.zipIdx.foldl (fun cs (p:Value×Nat)=>cs.setIfInBounds (f.off+p.2) p.1) us).toList=us.toList.take f.off++(ρr x).cells.toList++us.toList.drop (f.off+(flat (ρ x)).length):=by
        have:=OD (ρr x).cells.toList 0 f.off us (by simp;omega);rw[<-Array.foldl_toList];simp only[Array.toList_zipIdx,Nat.add_zero,Array.length_toList]at this⊢
        rw[this,hfl]
       have hl2:VL (VR0 w E hp G) c2 ((ρr x).cells.zipIdx.foldl (fun cs (p:Value×Nat)=>cs.setIfInBounds (f.off+p.2) p.1) us).toList:=by
        rw[hset,<-hc2];exact((hl.take f.off).append hcl).append (hl.drop _)
       obtain⟨us',hf,hv⟩:=W9 hρ place hpl rest c2 cs' _ h hl2;refine⟨us',?_,hv⟩
       simp only[zc2,Instr.fill,hpl k f hk];rw[zi (by simp only[hsz,ne_eq,not_true_eq_false,decide_false,Bool.false_or,decide_eq_true_eq];omega)];exact hf
      ·cases hp2
    ·cases h
  ·cases h
end
section
open Go
variable {P:Program} {w:World} {E:Env} {hp:Hp} {G:Nat->Prop}
theorem Dx{ρ:Operand->V}{ρr:Operand->Value}(hρ:∀x,VR2 w E hp G (ρ x) (ρr x)){x:Operand}{d l y:Nat}(h:bnd ρ (some x) d=some l)(hl:l<=y)(code:BoundsCode):
  (Instr.sliceBound (ρr x) y code).run P w=.ok l w:=by
 simp only[bnd]at h
 split at h
 ·rename_i k n hx
  split at h
  ·rename_i hn;have hl':=zy h;subst hl';have h1:=hρ x;rw[hx]at h1;rw[(F0 h1).1];unfold Instr.sliceBound;simp only[asIntOf,Sem.run_bind,Sem.run_pure,Result.andThen_ok];rw[zw ⟨hn,by omega⟩];rfl
  ·cases h
 ·cases h
theorem ST{ρ:Operand->V}{ρr:Operand->Value}(hρ:∀x,VR2 w E hp G (ρ x) (ρr x)){lo hi:Option Operand}{l h len cap:Nat}(sl:Bool)(h1:bnd ρ lo 0=some l)(h2:bnd ρ hi len=some h)(hlh:l<=h)(hh:h<=cap):
  (Instr.sliceBounds sl len cap (lo.map ρr) (hi.map ρr) none).run P w=.ok (l,h,cap) w:=by
 unfold Instr.sliceBounds;cases lo with
 |none=>
  simp only[bnd,zb]at h1;subst h1;cases hi with
  |none=>
   simp only[bnd,zb]at h2;subst h2;simp
  |some x=>simp[Dx hρ h2 hh]
 |some y=>
  cases hi with
  |none=>
   simp only[bnd,zb]at h2;subst h2;simp[Dx hρ h1 hlh]
  |some x=>simp[Dx hρ h2 hh,Dx hρ h1 hlh]
theorem Az0{rows:List (List V)}{y:Value}(h:VR2 w E hp G (.im rows) y):∃a cap,y=.slice a rows.length cap/\rows.length<=cap:=by
 have h:Rep w G (.im rows) y:=h;cases h with
 |im0 a cap=>exact⟨a,cap,rfl,by simp⟩
 |im b off cap size rows f hb h0 hr hc hl hcell hrep=>exact⟨_,cap,rfl,hr⟩
theorem O7{y:Value}(h:VR2 w E hp G .em y):∃a,y=.slice a 0 0:=by
 have h:Rep w G .em y:=h;cases h with
 |em a=>exact⟨a,rfl⟩
theorem AN5{id lo n:Nat}{y:Value}(h:VR2 w E hp G (.ar id lo n) y):∃a cap,y=.slice a n cap:=by
 obtain⟨a,cap,h,_⟩:=h;exact⟨a,cap,h⟩
theorem SW{t:TypeId}{fs:Array Field}:∀{l:List Field}{r:List Fld},Mo P l=some r->
  (l.mapM fun f=>(do pure (f.offset,<-sizeOf f.type):Sem (Nat×Nat))).run P w=.ok (r.map fun f=>(f.off,f.size)) w
 |[],r,h=>by simp[Mo]at h;subst h;rfl
 |g::l,r,h=>by
  simp only[Mo]at h
  split at h
  ·rename_i i u r' hi hu hr
   split at h
   ·cases h
   ·rename_i h0;have hl:=zy h;subst hl;have ih:=SW (t:=t) (fs:=fs) hr;simp only[List.mapM_cons,Sem.run_bind,sizeOf,Lq hi,Result.andThen_ok,Sem.run_pure,zc2]at ih⊢
    rw[ih];rfl
  ·cases h
theorem Qe:∀cs:List Value,(∀c∈cs,c.oneCell'=true)->VL (fun x y=>VR0 w E hp G x y/\y.oneCell'=true) (cs.map CM) cs
 |[],_=>trivial
 |c::cs,h=>⟨⟨Kd c,h c (by simp)⟩,Qe cs fun d hd=>h d (by simp[hd])⟩
theorem Tl{t:TypeId}{d:TyD}(h:AY P t=some d):∃z,(zeroValue t).run P w=.ok z w/\VL (fun x y=>VR0 w E hp G x y/\y.oneCell'=true) d.zero z.cells.toList/\z.cells.size=d.size:=by
 obtain⟨i,u,z,hi,hu,hz,h0,hs,h1,rfl⟩:=Bx h;refine⟨z,?_,Qe _ h1,hs⟩
 unfold zeroValue;simp only[Sem.run_bind,Lq hi,Result.andThen_ok,hz,Sem.run_pure]
theorem An3{t:TypeId}{parts:Array (Nat×Operand)}{ρ:Operand->V}{ρr:Operand->Value}{d:TyD}{cs:List V}(hρ:∀x,VR2 w E hp G (ρ x) (ρr x))(hd:AY P t=some d)(hf:d.flds.isEmpty=false)(h:Hf d.flds ρ d.zero parts.toList=some cs):
  ∃y,(Instr.build t (parts.map fun(i,x)=>(i,ρr x))).run P w=.ok y w/\VR2 w E hp G (.agg cs) y:=by
 obtain⟨z,hz,hzl,hzs⟩:=Tl (w:=w) (E:=E) (hp:=hp) (G:=G) hd;obtain⟨i,u,z',hi,hu,hz',h0,hs,_,hdd⟩:=Bx hd;have hflds:d.flds=R9 P u:=by rw[hdd]
 cases u<;>try (simp[hflds,R9]at hf;done)
 rename_i fs;cases hL:Mo P fs.toList with
 |none=>simp[hflds,R9,hL]at hf
 |some r=>
  have hr:d.flds=r:=by simp[hflds,R9,hL]
  have hpl:=SW (t:=t) (fs:=fs) (w:=w) hL;have hm:(fs.mapM fun f=>(do pure (f.offset,<-sizeOf f.type):Sem (Nat×Nat))).run P w=.ok (r.map fun f=>(f.off,f.size)).toArray w:=by
   rw[<-Array.toArray_toList (xs:=fs),List.mapM_toArray];simp only[map_eq_pure_bind,Sem.run_bind,hpl,Result.andThen_ok,Sem.run_pure]
  obtain⟨us',hfill,hvl⟩:=W9 hρ (fun k=>(r.map fun f=>(f.off,f.size)).toArray[k]?) (by
   intro k f hk;rw[hr]at hk;simp[hk]) parts.toList d.zero cs z.cells h (hzl.mono fun _ _ _ h=>h.1)
  refine⟨.agg us',?_,⟨us',rfl,hvl⟩⟩
  unfold Instr.build;simp only[Sem.run_bind,hz,Result.andThen_ok,run_underlying hu,hm,Array.toList_map];have:(parts.toList.map fun x:Nat×Operand=>match x with|(i,x)=>(i,ρr x))=parts.toList.map fun p=>(p.1,ρr p.2):=rfl
  rw[this,hfill];rfl
def TJ(P:Program)(w:World)(E:Env)(hp:Hp)(G:Nat->Prop)(op:Op)(ρr:Operand->Value)(x:V):Prop:=
 ∀o:Oper,o.op=op->∃y,(execOp ρr o).run P w=.ok (.value y) w/\VR2 w E hp G x y
theorem A6{op:Op}{ρr:Operand->Value}{x:V}(h:∃s:Sem Value,(∀o:Oper,o.op=op->execOp ρr o=(do pure (Next.value (<-s))))/\∃y,s.run P w=.ok y w/\VR2 w E hp G x y):TJ P w E hp G op ρr x:=by
 obtain⟨s,hs,y,hy,hv⟩:=h;intro o ho;exact⟨y,by rw[hs o ho];exact AG7 hy,hv⟩
variable {ρ:Operand->V} {ρr:Operand->Value}
theorem GY{s:Sem Value}{x:V}(h:(Am P s).bind Aw=some x):∃y,s.run P w=.ok y w/\VR2 w E hp G x y:=by
 cases hs:Am P s with
 |none=>simp[hs]at h
 |some y=>
  rw[hs,za0]at h;exact⟨y,Qg s y hs w,VV h⟩
theorem Ta{xs:List Operand}{l:List Value}(hρ:∀x,VR2 w E hp G (ρ x) (ρr x))(h:Cf (xs.map ρ)=some l):xs.map ρr=l:=by
 induction xs generalizing l with
 |nil=>simp[Cf]at h;simp[h]
 |cons x xs ih=>
  simp only[zc2]at h⊢
  have hx:=hρ x;generalize hz:ρ x=z at h hx;cases z with
  |v a=>
   simp only[Cf]at h
   split at h
   ·rename_i r hr;rw[<-zy h,ih hr,(F0 hx).1]
   ·cases h
  |_=>simp[Cf]at h
theorem AN4{xs:List Operand}(hρ:∀x,VR2 w E hp G (ρ x) (ρr x))(h:(xs.map ρ).all Bk=true):VL (VR0 w E hp G) (xs.map ρ) (xs.map ρr):=by
 induction xs with
 |nil=>exact trivial
 |cons x xs ih=>
  simp only[zc2,zc1,za2]at h⊢
  exact⟨VR2.to0 h.1 (hρ x),ih h.2⟩
theorem Ap7{t:TypeId}{d:TyD}{k:Nat}{f:Fld}{cs:List V}{z:V}{y:Value}(hd:AY P t=some d)(hk:d.flds[k]? =some f)(hy:VR2 w E hp G (.agg cs) y)(h:(seg cs f.off f.size).bind (mk f.agg)=some z):
  ∃u,(Instr.field t y k).run P w=.ok u w/\VR2 w E hp G z u:=by
 obtain⟨us,rfl,hl⟩:=hy;obtain⟨fs,g,i,u,hu,hg,ho,ht,hi,hs,h0,hu',ha⟩:=Sa hd hk;cases hseg:seg cs f.off f.size with
 |none=>simp[hseg]at h
 |some l=>
  rw[hseg,za0]at h;rw[<-hs]at hseg;rw[ha]at h;obtain⟨v,hv,hr⟩:=V9 (w:=w) hi hu' hseg h hl;refine⟨v,?_,hr⟩
  unfold Instr.field;simp only[Sem.run_bind,run_underlying hu,Result.andThen_ok,hg,asAgg,Sem.run_pure,ho,ht];exact hv
theorem TA{g:Field}{i:TypeInfo}(hi:P.info? g.type=some i)(h0:i.size≠0)(b o:Nat):(fieldPlace ⟨b,o,none⟩ g).run P w=.ok ⟨b,o+g.offset,none⟩ w:=by
 unfold fieldPlace;simp only[Sem.run_bind,sizeOf,Lq hi,Result.andThen_ok,Sem.run_pure,h0,if_false];unfold Addr.add
 split<;>simp_all
theorem R7{t:TypeId}{d:TyD}{k:Nat}{f:Fld}(hd:AY P t=some d)(hk:d.flds[k]? =some f)(b o:Nat):
  (Instr.fieldAt t (.pointer (some ⟨b,o,none⟩)) k).run P w=.ok (.pointer (some ⟨b,o+f.off,none⟩)) w:=by
 obtain⟨fs,g,i,u,hu,hg,ho,ht,hi,hs,h0,hu',ha⟩:=Sa hd hk;unfold Instr.fieldAt;simp only[Sem.run_bind,run_underlying hu,Result.andThen_ok,hg,Instr.sureAddr,Sem.run_pure,TA (w:=w) (by rw[ht];exact hi) (by rw[hs];exact h0) b o,ho]
theorem Ar6{t:TypeId}(h:MI P t=true):∃e,P.underlying t=some (.slice e):=by
 unfold MI at h
 split at h
 ·rename_i d hd;unfold AY at hd
  split at hd
  ·rename_i i u hi hu
   split at hd
   ·rename_i z hz
    split at hd
    ·cases hd
    ·cases hd
     simp only at h;cases u<;>simp[ZJ]at h
     rename_i e;exact⟨e,hu⟩
   ·cases hd
  ·cases hd
 ·cases h
theorem ZV{t:TypeId}(h:Xj P t=true):P.underlying t=some (.interface (P.methodsAt t)):=by
 unfold Xj at h
 split at h
 ·rename_i d hd;obtain⟨i,u,z,_,hu,_,_,_,_,rfl⟩:=Bx hd;simp only at h;cases u<;>simp[AK4]at h
  rw[hu];unfold Program.methodsAt;rw[hu]
 ·cases h
theorem Ap4{b:BinOp}{t yt:TypeId}{a c:Operand}{v x:V}(hc:∀k,ρr (.const k)=k)(ha:VR2 w E hp G v (ρr a))(h:Af9 P b t v c=some x):TJ P w E hp G (.binOp b t a c yt) ρr x:=by
 unfold Af9 at h
 split at h
 ·rename_i e hi;have hu:=ZV hi;have hv:Rep w G (.er e) (ρr a):=ha;refine A6 ⟨_,fun o ho=>by simp only[execOp,ho]<;>rfl,.bool !e,?_,?_⟩
  ·rw[hc];generalize hy:ρr a=y at hv;cases hv with
   |er0=>
    have h1:(eqGuard .eql t a (.const .nilIface) .nilIface .nilIface).run P w=.ok () w:=by simp[eqGuard]
    simp[h1,run_eql_nil_nil w t hu]
   |er1 u z=>
    have h1:(eqGuard .eql t a (.const .nilIface) (.iface u z) .nilIface).run P w=.ok () w:=by simp[eqGuard]
    simp[h1,run_eql_held_nil w t u z hu]
  ·cases h;exact .v _ rfl
 ·rename_i e hi;have hu:=ZV hi;have hv:Rep w G (.er e) (ρr a):=ha;refine A6 ⟨_,fun o ho=>by simp only[execOp,ho]<;>rfl,.bool e,?_,?_⟩
  ·rw[hc];generalize hy:ρr a=y at hv;cases hv with
   |er0=>
    have h1:(eqGuard .neq t a (.const .nilIface) .nilIface .nilIface).run P w=.ok () w:=by simp[eqGuard]
    simp[h1,run_neq_nil_nil w t hu]
   |er1 u z=>
    have h1:(eqGuard .neq t a (.const .nilIface) (.iface u z) .nilIface).run P w=.ok () w:=by simp[eqGuard]
    simp[h1,run_neq_held_nil w t u z hu]
  ·cases h;exact .v _ rfl
 ·cases h
theorem Ah9{b:BinOp}{t yt:TypeId}{a c:Operand}{v x:V}(hc:∀k,ρr (.const k)=k)(ha:VR2 w E hp G v (ρr a))(h:NN P b t v c=some x):TJ P w E hp G (.binOp b t a c yt) ρr x:=by
 unfold NN at h
 split at h
 ·rename_i n k hsl;obtain⟨e,he⟩:=Ar6 hsl;have key:∀(ad:Option Addr)(m cap:Nat),ρr a=.slice ad m cap->x=.v (.bool ad.isNone)->TJ P w E hp G (.binOp .eql t a (.const (.slice none n k)) yt) ρr x:=by
   intro ad m cap hy hx;refine A6 ⟨_,fun o ho=>by simp only[execOp,ho]<;>rfl,.bool ad.isNone,?_,?_⟩
   ·rw[hy,hc];have h1:(eqGuard .eql t a (.const (.slice none n k)) (.slice ad m cap) (.slice none n k)).run P w=.ok () w:=by
     first|rfl|simp[eqGuard]
    have h2:=Lib.run_eql_slice_nil (P:=P) w t e ad m cap n k he;simp[h1,h2]
   ·rw[hx];exact .v _ rfl
  split at h
  ·cases h
   have hv:=(F0 ha).1;exact key _ _ _ hv rfl
  ·cases h
   have hv:Rep w G (.im _) (ρr a):=ha;generalize hy:ρr a=y at hv;cases hv with
   |im bb off cap size rows f hb h0 hr hcc hl hcell hrep=>exact key _ _ _ hy rfl
  ·cases h
 ·exact Ap4 hc ha h
theorem AR8{op:Op}{x:V}(hc:∀k,ρr (.const k)=k)(hρ:∀x,VR2 w E hp G (ρ x) (ρr x))(h:Aq P op ρ=some x):TJ P w E hp G op ρr x:=by
 cases op with
 |move a=>
  have h:=zy h;subst h;intro o ho;exact⟨ρr a,by simp[execOp,ho],hρ a⟩
 |assign a=>
  have h:=zy h;subst h;intro o ho;exact⟨ρr a,by simp[execOp,ho],hρ a⟩
 |pick c a b=>
  simp only[Aq]at h
  split at h
  ·rename_i t hc;have h:=zy h;subst h;intro o ho;have h1:=hρ c;rw[hc]at h1;refine⟨if t then ρr a else ρr b,?_,?_⟩
   ·simp only[execOp,ho,(F0 h1).1,asBool,Sem.run_bind,Sem.run_pure,Result.andThen_ok]
   ·cases t<;>simp[hρ]
  ·cases h
 |build t parts=>
  simp only[Aq]at h
  split at h
  ·rename_i d hd
   split at h
   ·rename_i hc;simp only[za2,zf0]at hc;cases hf:Hf d.flds ρ d.zero parts.toList with
    |none=>simp[hf]at h
    |some cs=>
     rw[hf]at h;have h:=zy h;subst h;exact A6 ⟨_,fun o ho=>by simp only[execOp,ho]<;>rfl,An3 hρ hd hc.2 hf⟩
   ·cases h
  ·cases h
 |nilCheck a=>
  simp only[Aq]at h;have ha:=hρ a
  split at h
  ·rename_i id r c hx;have h:=zy h;subst h;rw[hx]at ha;intro o ho;have ha':=ha;obtain⟨b,off,hy,_⟩:=ha';refine⟨ρr a,?_,ha⟩
   simp only[execOp,ho,hy,Sem.run_pure]
  ·rename_i row c hx;have h:=zy h;subst h;rw[hx]at ha;intro o ho;have ha':=ha;obtain⟨b,off,f,_,hy,_⟩:=ha';refine⟨ρr a,?_,ha⟩
   simp only[execOp,ho,hy,Sem.run_pure]
  ·rename_i f caps hx;have h:=zy h;subst h;rw[hx]at ha;intro o ho;have ha':=ha;obtain⟨us,hy,_⟩:=ha';refine⟨ρr a,?_,ha⟩
   simp only[execOp,ho,hy,Sem.run_pure]
  ·cases h
 |binOp b t a c yt=>
  simp only[Aq]at h
  split at h
  ·rename_i u v hu hv;have h1:=Vd hu (hρ a);have h2:=Vd hv (hρ c);refine A6 ⟨_,fun o ho=>by simp only[execOp,ho]<;>rfl,?_⟩
   rw[h1,h2];exact GY h
  ·exact Ah9 hc (hρ a) h
 |unOp u t a=>
  simp only[Aq]at h
  split at h
  ·rename_i v hv;have h1:=hρ a;rw[hv]at h1;refine A6 ⟨_,fun o ho=>by simp only[execOp,ho]<;>rfl,?_⟩
   rw[(F0 h1).1];exact GY h
  ·cases h
 |convert s d a=>
  simp only[Aq]at h
  split at h
  ·rename_i v hv;have h1:=hρ a;rw[hv]at h1;refine A6 ⟨_,fun o ho=>by simp only[execOp,ho]<;>rfl,?_⟩
   rw[(F0 h1).1];exact GY h
  ·cases h
 |field t a k=>
  simp only[Aq]at h
  split at h
  ·rename_i cs d hx hd
   split at h
   ·rename_i f hk;have h1:=hρ a;rw[hx]at h1;exact A6 ⟨_,fun o ho=>by simp only[execOp,ho]<;>rfl,Ap7 hd hk h1 h⟩
   ·cases h
  ·cases h
 |fieldAddr t a k=>
  simp only[Aq]at h
  split at h
  ·rename_i d hd
   split at h
   ·rename_i f id r c hk hx;have h:=zy h;subst h;have h1:=hρ a;rw[hx]at h1;obtain⟨b,off,hy,hrel⟩:=h1;refine A6 ⟨_,fun o ho=>by simp only[execOp,ho]<;>rfl,?_⟩
    rw[hy];exact⟨_,R7 hd hk b off,b,off+f.off,rfl,fun k hk=>by obtain⟨h1,h2⟩:=hrel k hk;exact⟨h1,by omega⟩⟩
   ·rename_i f row c hk hx;have h:=zy h;subst h;have h1:=hρ a;rw[hx]at h1;obtain⟨b,off,g,hg,hy,hrel⟩:=h1;refine A6 ⟨_,fun o ho=>by simp only[execOp,ho]<;>rfl,?_⟩
    rw[hy];exact⟨_,R7 hd hk b (off+c),b,off,g,hg,by rw[Nat.add_assoc],hrel⟩
   ·cases h
  ·cases h
 |index t a i=>
  simp only[Aq]at h
  split at h
  ·rename_i s k n hs ha hi
   split at h
   ·rename_i hn;have h:=zy h;subst h;have h1:=hρ a;have h2:=hρ i;rw[ha]at h1;rw[hi]at h2;refine A6 ⟨_,fun o ho=>by simp only[execOp,ho]<;>rfl,?_⟩
    rw[(F0 h1).1,(F0 h2).1];refine⟨_,?_,Rep.v _ rfl⟩
    unfold Instr.index;simp only[asIntOf,Sem.run_bind,Sem.run_pure,Result.andThen_ok,run_underlying (Dy hs),zw hn.1];have:s[n.toNat]? =some (s[n.toNat]'hn.2):=getElem?_pos s n.toNat hn.2;rw[this];rfl
   ·cases h
  ·cases h
 |indexAddr t a i=>
  simp only[Aq]at h
  split at h
  ·rename_i rows k n ha hi
   split at h
   ·rename_i e he
    split at h
    ·rename_i d hd
     split at h
     ·rename_i hn
      split at h
      ·rename_i hlen;have h:=zy h;subst h;have h1:=hρ a;have h2:=hρ i;rw[ha]at h1;rw[hi]at h2;refine A6 ⟨_,fun o ho=>by simp only[execOp,ho]<;>rfl,?_⟩
       rw[(F0 h2).1];have h1:Rep w G (.im rows) (ρr a):=h1;generalize hy:ρr a=y at h1;cases h1 with
       |im0 a cap=>simp at hn
       |im b off cap size rows f hb h0 hr hc hl hcell hrep=>
        have hrow:rows[n.toNat]? =some (rows[n.toNat]'hn.2):=getElem?_pos rows n.toNat hn.2;have hsz:size=d.size:=by rw[<-hl _ _ hrow];exact hlen
        refine⟨.pointer (some ⟨b,off+n.toNat*size,none⟩),?_,b,off+n.toNat*size,f n.toNat,hb,rfl,fun j x hx=>⟨hcell _ _ _ _ hrow hx,hrep _ _ _ _ hrow hx⟩⟩
        unfold Instr.indexAt;simp only[asIntOf,Sem.run_bind,Sem.run_pure,Result.andThen_ok,run_underlying (Bn he)];rw[zw ⟨hn.1,by have:=hn.2;omega⟩];simp only[Sem.run_bind,FW hd,Result.andThen_ok,Sem.run_pure];rw[<-hsz];unfold Addr.add
        split<;>simp_all
      ·cases h
     ·cases h
    ·cases h
   ·cases h
  ·cases h
 |slice t a lo hi mx=>
  cases mx with
  |none=>
   simp only[Aq]at h
   split at h
   ·rename_i s hs ha
    split at h
    ·rename_i l r hl hr
     split at h
     ·rename_i hb;have h:=zy h;subst h;have h1:=hρ a;rw[ha]at h1;refine A6 ⟨_,fun o ho=>by simp only[execOp,ho]<;>rfl,?_⟩
      rw[(F0 h1).1];refine⟨_,?_,Rep.v _ rfl⟩
      unfold Instr.sliceAt;simp only[Sem.run_bind,run_underlying (Dy hs),Result.andThen_ok,Option.map_none];unfold Instr.slice;simp only[Sem.run_bind,run_underlying (Dy hs),Result.andThen_ok,Option.isSome_none,zb8,if_false,Sem.run_pure];rw[ST hρ false hl hr hb.1 hb.2];rfl
     ·cases h
    ·cases h
   ·cases h
  |some m=>
   cases hi with
   |none=>simp[Aq]at h
   |some h'=>
   simp only[Aq]at h
   split at h
   ·rename_i d rows hd ha
    split at h
    ·rename_i l r q hl hr hq
     split at h
     ·rename_i hb;have h:=zy h;subst h;obtain⟨hlr,hrq,hqn⟩:=hb;have h1:=hρ a;rw[ha]at h1;obtain⟨ad,cap,hy,hcap⟩:=Az0 h1;refine A6 ⟨_,fun o ho=>by simp only[execOp,ho]<;>rfl,?_⟩
      rw[hy];cases he:(AY P t).bind (·.elem)with
      |none=>rw[he]at hd;cases hd
      |some e=>
       rw[he,za0]at hd;refine⟨.slice ad 0 0,?_,Rep.em ad⟩
       unfold Instr.sliceAt;simp only[Sem.run_bind,run_underlying (Bn he),Result.andThen_ok,zd1];unfold Instr.slice;simp only[Sem.run_bind,run_underlying (Bn he),Result.andThen_ok];have hbd:(Instr.sliceBounds true rows.length cap (lo.map ρr) (some (ρr h')) (some (ρr m))).run P w=.ok (l,r,q) w:=by
        unfold Instr.sliceBounds;simp only[Sem.run_bind,Dx hρ hq (zd0 hqn hcap),Result.andThen_ok,zd1,Dx hρ hr (Nat.le_of_eq hrq)];cases lo with
        |none=>
         simp only[bnd,zb]at hl;subst hl;simp
        |some y=>simp[Dx hρ hl (Nat.le_of_eq hlr)]
       rw[hbd];simp only[Result.andThen_ok,Sem.run_bind,FW hd,Sem.run_pure];rw[zw (by omega)];simp;omega
     ·cases h
    ·cases h
   ·rename_i d hd ha
    split at h
    ·rename_i l r q hl hr hq
     split at h
     ·rename_i hb;have h:=zy h;subst h;obtain⟨hlr,hrq,hqn⟩:=hb;have h1:=hρ a;rw[ha]at h1;obtain⟨ad,hy⟩:=O7 h1;have hcap:(0:Nat)<=0:=za8 0;refine A6 ⟨_,fun o ho=>by simp only[execOp,ho]<;>rfl,?_⟩
      rw[hy];cases he:(AY P t).bind (·.elem)with
      |none=>rw[he]at hd;cases hd
      |some e=>
       rw[he,za0]at hd;refine⟨.slice ad 0 0,?_,Rep.em ad⟩
       unfold Instr.sliceAt;simp only[Sem.run_bind,run_underlying (Bn he),Result.andThen_ok,zd1];unfold Instr.slice;simp only[Sem.run_bind,run_underlying (Bn he),Result.andThen_ok];have hbd:(Instr.sliceBounds true 0 0 (lo.map ρr) (some (ρr h')) (some (ρr m))).run P w=.ok (l,r,q) w:=by
        unfold Instr.sliceBounds;simp only[Sem.run_bind,Dx hρ hq (zd0 hqn hcap),Result.andThen_ok,zd1,Dx hρ hr (Nat.le_of_eq hrq)];cases lo with
        |none=>
         simp only[bnd,zb]at hl;subst hl;simp
        |some y=>simp[Dx hρ hl (Nat.le_of_eq hlr)]
       rw[hbd];simp only[Result.andThen_ok,Sem.run_bind,FW hd,Sem.run_pure];rw[zw (by omega)];simp;omega
     ·cases h
    ·cases h
   ·cases h
 |extract a k=>
  simp only[Aq]at h
  split at h
  ·rename_i vs hx;have h1:=hρ a;rw[hx]at h1;obtain⟨us,hy,hl⟩:=h1;obtain⟨u,hu,hr⟩:=hl.get k x h;refine A6 ⟨_,fun o ho=>by simp only[execOp,ho]<;>rfl,?_⟩
   rw[hy];refine⟨u,?_,hr.to2⟩
   unfold Instr.extract;have:us[k]? =some u:=by simpa using hu
   simp[this]
  ·cases h
 |makeFunc fn first caps=>
  cases fn with
  |func f=>
   simp only[Aq]at h
   split at h
   ·rename_i hc;have h:=zy h;subst h;simp only[za2]at hc;refine A6 ⟨_,fun o ho=>by simp only[execOp,ho]<;>rfl,?_⟩
    have h0:first= #[]:=by simpa using hc.1
    subst h0;refine⟨_,rfl,caps.map ρr,?_,?_⟩
    ·simp
    ·simpa using AN4 hρ hc.2
   ·cases h
  |_=>simp[Aq]at h
 |call c=>
  obtain⟨callee,args,tys⟩:=c;cases callee with
  |value f=>simp[Aq]at h
  |invoke r m=>simp[Aq]at h
  |builtin b=>
   cases b with
   |len=>
    simp only[Aq]at h
    split at h
    ·rename_i a t hargs htys;have ha:args= #[a]:=by apply Array.ext';simpa using hargs
     have ht:tys= #[t]:=by apply Array.ext';simpa using htys
     subst ha;subst ht;have hlen:∀y,(Builtin.len_ #[t] 0 #[ρr a]).run P w=.ok y w->∀o:Oper,o.op=.call {callee:=.builtin .len,args:= #[a],argTypes:= #[t]}->(execOp ρr o).run P w=.ok (.value y) w:=by
      intro y hy o ho;simp only[execOp,ho,resolve,invoke,builtin,Sem.run_bind,Sem.run_pure,Result.andThen_ok,List.map_toArray,zc2,List.map_nil];have:(Builtin.len_ #[t] o.type #[ρr a]).run P w=.ok y w:=hy;rw[this];rfl
     have h1:=hρ a
     split at h
     ·rename_i rows hs hx;have h:=zy h;subst h;rw[hx]at h1;obtain⟨ad,cap,hy,_⟩:=Az0 h1;obtain⟨e,hu⟩:=S3 hs;intro o ho;refine⟨_,hlen (.int .i64 rows.length) ?_ o ho,Rep.v _ rfl⟩
      simp[Builtin.len_,run_underlying hu,hy,goInt]
     ·rename_i hs hx;have h:=zy h;subst h;rw[hx]at h1;obtain⟨ad,hy⟩:=O7 h1;obtain⟨e,hu⟩:=S3 hs;intro o ho;refine⟨_,hlen (.int .i64 0) ?_ o ho,Rep.v _ rfl⟩
      simp[Builtin.len_,run_underlying hu,hy,goInt]
     ·rename_i id lo n hs hx;have h:=zy h;subst h;rw[hx]at h1;obtain⟨ad,cap,hy⟩:=AN5 h1;obtain⟨e,hu⟩:=S3 hs;intro o ho;refine⟨_,hlen (.int .i64 n) ?_ o ho,Rep.v _ rfl⟩
      simp[Builtin.len_,run_underlying hu,hy,goInt]
     ·rename_i s hs hx;have h:=zy h;subst h;rw[hx]at h1;intro o ho;refine⟨_,hlen (.int .i64 s.size) ?_ o ho,Rep.v _ rfl⟩
      simp[Builtin.len_,run_underlying (Dy hs),(F0 h1).1,goInt]
     ·cases h
    ·cases h
   |min=>
    simp only[Aq]at h
    split at h
    ·rename_i xs hxs;have hm:=Ta hρ hxs;obtain⟨y,hy,hv⟩:=GY (w:=w) (E:=E) (hp:=hp) (G:=G) h;intro o ho;refine⟨y,?_,hv⟩
     simp only[execOp,ho,resolve,invoke,builtin,Sem.run_bind,Sem.run_pure,Result.andThen_ok];have:args.map ρr=xs.toArray:=by apply Array.ext';simpa using hm
     rw[this];have:(Builtin.min_ tys o.type xs.toArray).run P w=.ok y w:=hy;rw[this];rfl
    ·cases h
   |max=>
    simp only[Aq]at h
    split at h
    ·rename_i xs hxs;have hm:=Ta hρ hxs;obtain⟨y,hy,hv⟩:=GY (w:=w) (E:=E) (hp:=hp) (G:=G) h;intro o ho;refine⟨y,?_,hv⟩
     simp only[execOp,ho,resolve,invoke,builtin,Sem.run_bind,Sem.run_pure,Result.andThen_ok];have:args.map ρr=xs.toArray:=by apply Array.ext';simpa using hm
     rw[this];have:(Builtin.max_ tys o.type xs.toArray).run P w=.ok y w:=hy;rw[this];rfl
    ·cases h
   |_=>simp[Aq]at h
 |_=>simp[Aq]at h
end
section
open Go
variable {P:Program} {w w' w0:World} {E E':Env} {hp hp':Hp} {G G' U A W:Nat->Prop} {B:Nat->Prop}
abbrev Fr0(w w':World):Prop:=Fr (fun _=>False) w w'
theorem ZR{b:Nat}{o:Obj}(h:w.heap[b]? =some o):b<w.heap.size:=(Array.getElem?_eq_some_iff.1 h).1
theorem Fr.same{S:Nat->Prop}(h:Fr W w w')(hs:∀b,S b->b<w.heap.size/\¬W b):Am4 S w w':=fun b hb=>h.block b (hs b hb).1 (hs b hb).2
theorem Fr.at(h:Fr W w w'){b:Nat}{o:Obj}(hW:¬W b)(hb:w.heap[b]? =some o):w'.heap[b]? =some o:=by
 rw[h.block b (ZR hb) hW];exact hb
theorem Fr0.alloc(w:World)(o:Obj):Fr0 w (w.alloc o):=
 .mk' rfl rfl rfl (by simp) (fun b hb _=>by simp only[World.alloc];rw[Array.getElem?_push];rw[zi (by omega)]) (fun b _ _ _ h _=>h.elim)
theorem Fr0.drew(w:World):Fr0 w w.drew:=.mk' rfl rfl rfl (za8 _) (fun b hb _=>rfl) (fun b _ _ _ h _=>h.elim)
theorem VR0.grow(hf:Fr W w w')(hG:∀b,G b->b<w.heap.size/\¬W b)(hGG:∀b,G b->G' b):∀{x:V}{y:Value},VR0 w E hp G x y->(∀id∈Ae x,hp' id=hp id/\E'.m id=E.m id)->VR0 w' E' hp' G' x y
 |.any,_,_,_=>trivial
 |.cl f [],y,h,_=>h
 |.cl _ (_::_),_,h,_=>h.elim
 |.agg _,_,h,_=>h.elim
 |.tup _,_,h,_=>h.elim
 |.v x,y,h,_=>Rep.same h (hf.same hG) hGG
 |.em,y,h,_=>Rep.same h (hf.same hG) hGG
 |.er _,y,h,_=>Rep.same h (hf.same hG) hGG
 |.im rows,y,h,_=>Rep.same h (hf.same hG) hGG
 |.ar id lo n,y,h,ha=>by
  obtain⟨h1,h2⟩:=ha id (by simp[Ae]);obtain⟨a,cap,hy,hk⟩:=h;refine⟨a,cap,hy,fun k hkk=> ?_⟩
  rw[h1]at hkk;obtain⟨k1,k2,k3⟩:=hk k hkk;refine⟨k1,k2,k3.imp (fun h=>h) ?_⟩
  rintro⟨b,cur,ty,fz,hm,hab,hn,hb,hs⟩;obtain⟨cur',fz',hb',hs'⟩:=hf.shape b cur ty fz hb;exact⟨b,cur',ty,fz',by rw[h2];exact hm,hab,hn,hb',by rw[hs'];exact hs⟩
 |.rf id r c,y,h,ha=>by
  obtain⟨h1,h2⟩:=ha id (by simp[Ae]);obtain⟨b,o,hy,hk⟩:=h;refine⟨b,o,hy,fun k hkk=> ?_⟩
  rw[h1]at hkk;obtain⟨k2,k3⟩:=hk k hkk;exact⟨by rw[h2];exact k2,k3⟩
 |.ir row c,y,h,_=>by
  obtain⟨b,off,f,hg,hy,hc⟩:=h;refine⟨b,off,f,hGG b hg,hy,fun j x hx=> ?_⟩
  obtain⟨h1,h2⟩:=hc j x hx;exact⟨by rw[LT (hf.block b (hG b hg).1 (hG b hg).2)];exact h1,h2.same (hf.same hG) hGG⟩
theorem JI{k:Blk}{row:List V}{x:V}{i:Nat}(hb:k.kind=.box)(hr:row∈k.rows)(hx:x∈row)(hi:i∈Ae x):i∈Ck k:=by
 unfold Ck;rw[hb];exact zb0.2 ⟨row,hr,zb0.2 ⟨x,hx,hi⟩⟩
theorem AU.grow{id:Nat}{k:Blk}(hf:Fr W w w')(hG:∀b,G b->b<w.heap.size/\¬W b)(hN:∀b,E.N id b->(b<w.heap.size/\¬W b)\/k.kind=.frz\/k.deep=false)(hM:∀b,E.m id=some b->¬W b)(hGG:∀b,G b->G' b)
  (hm:E'.m id=E.m id) (hn:∀b,E.N id b->E'.N id b) (ha:∀j∈Ck k,hp' j=hp j/\E'.m j=E.m j) (h:AU w E hp G id k):AU w' E' hp' G' id k:=by
 unfold AU at h⊢
 cases hk:k.kind with
 |box=>
  simp only[hk]at h⊢
  obtain⟨b,row,cur,h1,h2,h3,h4,h5,h6⟩:=h;refine⟨b,row,cur,by rw[hm];exact h1,hf.at (hM b h1) h2,h3,h4,h5,h6.mono fun x hx y hxy=>⟨hxy.1.grow hf hG hGG fun j hj=>ha j (JI hk (by rw[h3];simp) hx hj),hxy.2⟩⟩
 |arr=>
  simp only[hk]at h⊢
  rcases h with⟨h1,h2⟩|⟨b,cur,cap,h1,h2,h3,h4,h5,h6,h7,h8⟩
  ·exact .inl ⟨h1,by rw[hm];exact h2⟩
  ·refine .inr ⟨b,cur,cap,by rw[hm];exact h1,hf.at (hM b h1) h2,h3,h4,h5,h6,h7,fun i j row x hi hj=> ?_⟩
   obtain⟨u,hu,hr⟩:=h8 i j row x hi hj;refine⟨u,hu,?_⟩
   cases hd:k.deep with
   |true=>
    simp only[hd,if_true]at hr⊢
    exact hr.same (hf.same fun b hb=>(hN b hb).elim (fun h=>h) (fun h=>by simp[hk,hd]at h)) hn
   |false=>
    simp only[hd,zb8,if_false]at hr⊢
    exact hr.same (hf.same hG) hGG
 |frz=>
  simp only[hk]at h⊢
  rcases h with⟨h1,h2⟩|⟨b,cur,cap,fz,h1,h1',h2,h3,h4,h5,h6,h7,h8⟩
  ·exact .inl ⟨h1,by rw[hm];exact h2⟩
  ·refine .inr ⟨b,cur,cap,fz,by rw[hm];exact h1,hGG b h1',hf.at (hM b h1) h2,h3,h4,h5,h6,h7,fun i j row x hi hj=> ?_⟩
   obtain⟨u,hu,hr⟩:=h8 i j row x hi hj;exact⟨u,hu,hr.same (hf.same hG) hGG⟩
def GJ(E:Env)(hp:Hp)(G W:Nat->Prop):Prop:=∀b,W b->¬G b/\¬Own E hp b
theorem GJ.none:GJ E hp G (fun _=>False):=fun _ h=>h.elim
theorem HpInv.G_lt(h:HpInv w0 U A E G hp w)(hW:GJ E hp G W):∀b,G b->b<w.heap.size/\¬W b:=fun b hb=>⟨(h.g1 b hb).1,fun hw=>(hW b hw).1 hb⟩
theorem HpInv.N_lt(h:HpInv w0 U A E G hp w)(hW:GJ E hp G W){id:Nat}{k:Blk}(hk:hp id=some k):∀b,E.N id b->(b<w.heap.size/\¬W b)\/k.kind=.frz\/k.deep=false:=by
 intro b hb;cases hl:k.kind with
 |frz=>exact .inr (.inl rfl)
 |_=>
  have ho:Own E hp b:=⟨id,k,hk,by simp[AQ,hl],.inr hb⟩;exact .inl ⟨(h.o1 b ho).1,fun hw=>(hW b hw).2 ho⟩
theorem HpInv.M_nW(h:HpInv w0 U A E G hp w)(hW:GJ E hp G W){id:Nat}{k:Blk}(hk:hp id=some k):∀b,E.m id=some b->¬W b:=by
 intro b hb hw;cases hl:k.kind with
 |frz=>
  have:=h.blk id k hk;unfold AU at this;simp only[hl]at this;rcases this with⟨_,h2⟩|⟨b',_,_,_,h1,h1',_⟩
  ·rw[hb]at h2;cases h2
  ·rw[hb]at h1;cases h1;exact(hW b hw).1 h1'
 |_=>exact(hW b hw).2 ⟨id,k,hk,by simp[AQ,hl],.inl hb⟩
theorem HpInv.fresh(hw:Dz B hp){i:Nat}(hi:¬B i):hp i=none:=by
 cases h:hp i with
 |none=>rfl
 |some k=>exact absurd (hw i k h).1 hi
def KF(w0:World)(U:Nat->Prop)(E:Env)(hp:Hp)(G:Nat->Prop)(w:World)(b:Nat):Prop:=b<w.heap.size/\¬G b/\¬Own E hp b/\(U b\/w0.heap.size<=b)
theorem HpInv.new_free(h:HpInv w0 U A E G hp w)(hf:Fr W w w'){b:Nat}(h1:w.heap.size<=b)(h2:b<w'.heap.size):KF w0 U E hp G w' b:=
 ⟨h2,fun hg=>by have:=(h.g1 b hg).1;omega,fun ho=>by have:=(h.o1 b ho).1;omega,.inr (zd0 h.fr.size h1)⟩
theorem HpInv.grow(h:HpInv w0 U A E G hp w)(hf:Fr W w w')(hW:GJ E hp G W)(hWU:∀b,W b->U b\/w0.heap.size<=b)(hGG:∀b,G b->G' b)(hG':∀b,G' b->G b\/KF w0 U E hp G w' b):
  HpInv w0 U A E G' hp w'/\Ext B E G hp w E G' hp w':=by
 refine⟨⟨h.fr.then hf hWU,?_,?_,?_,h.dis,h.self,?_⟩,⟨fun x y _ hv=>hv.grow hf (h.G_lt hW) hGG fun _ _=>⟨rfl,rfl⟩⟩⟩
 ·intro b hb;rcases hG' b hb with hg|hg
  ·have:=h.g1 b hg;exact⟨zd8 this.1 hf.size,this.2⟩
  ·exact⟨hg.1,.inr hg.2.2.2⟩
 ·intro b hb ho;rcases hG' b hb with hg|hg
  ·exact h.g2 b hg ho
  ·exact hg.2.2.1 ho
 ·intro b hb;have:=h.o1 b hb;exact⟨zd8 this.1 hf.size,this.2⟩
 ·intro id k hk;exact(h.blk id k hk).grow hf (h.G_lt hW) (h.N_lt hW hk) (h.M_nW hW hk) hGG rfl (fun _ h=>h) fun _ _=>⟨rfl,rfl⟩
theorem Lo{i j b:Nat}{mb:Option Nat}{S:Nat->Prop}(h:Di ⟨upd E.m i mb,upd E.N i S⟩ j b)(hji:j≠i):Di E j b:=by
 rcases h with q|q
 ·left;simpa only[upd,zi hji]using q
 ·right;simpa only[upd,zi hji]using q
theorem XD{i b:Nat}{mb:Option Nat}{S:Nat->Prop}(h:Di ⟨upd E.m i mb,upd E.N i S⟩ i b):mb=some b\/S b:=by
 rcases h with q|q
 ·left;simpa only[upd,if_true]using q
 ·right;simpa only[upd,if_true]using q
theorem HpInv.put(h:HpInv w0 U A E G hp w){i:Nat}(hi:hp i=none)(hf:Fr W w w')(hW:GJ E hp G W)(hWU:∀b,W b->U b\/w0.heap.size<=b)(k:Blk)(mb:Option Nat)(S:Nat->Prop)
  (hmb:∀b,mb=some b->AQ k=true->KF w0 U E hp G w' b/\¬S b) (hS:∀b,S b->AQ k=true->KF w0 U E hp G w' b)
  (hB:∀j kj,hp j=some kj->i ∉ Ck kj)
  (hb:AU w' ⟨upd E.m i mb,upd E.N i S⟩ (upd hp i (some k)) G i k):
  HpInv w0 U A ⟨upd E.m i mb,upd E.N i S⟩ G (upd hp i (some k)) w':=by
 have hne:∀j kj,hp j=some kj->j≠i:=fun j kj hj he=>by rw[he,hi]at hj;cases hj
 have hown:∀b,Own ⟨upd E.m i mb,upd E.N i S⟩ (upd hp i (some k)) b->Own E hp b\/KF w0 U E hp G w' b:=by
  rintro b ⟨j,kj,hj,hlj,ho⟩;by_cases hji:j=i
  ·subst hji
   right
   simp only[upd,if_true,zb]at hj;subst hj;rcases XD ho with ho|ho
   ·exact(hmb b ho hlj).1
   ·exact hS b ho hlj
  ·left
   simp only[upd,zi hji]at hj;exact⟨j,kj,hj,hlj,Lo ho hji⟩
 refine⟨h.fr.then hf hWU,?_,?_,?_,?_,?_,?_⟩
 ·intro b hb;have:=h.g1 b hb;exact⟨zd8 this.1 hf.size,this.2⟩
 ·intro b hb ho;rcases hown b ho with ho|ho
  ·exact h.g2 b hb ho
  ·exact ho.2.1 hb
 ·intro b ho;rcases hown b ho with ho|ho
  ·have:=h.o1 b ho;exact⟨zd8 this.1 hf.size,this.2⟩
  ·exact⟨ho.1,ho.2.2.2⟩
 ·intro j kj j' kj' hj hlj hj' hlj' b ho ho';have hnew:AQ k=true->∀q,Di ⟨upd E.m i mb,upd E.N i S⟩ i q->¬Own E hp q:=by
   intro hl q hq;rcases XD hq with hq|hq
   ·exact(hmb q hq hl).1.2.2.1
   ·exact(hS q hq hl).2.2.1
  by_cases hji:j=i
  ·by_cases hji':j'=i
   ·rw[hji,hji']
   ·exfalso
    simp only[upd,zi hji']at hj';subst hji;simp only[upd,if_true,zb]at hj;subst hj;exact hnew hlj b ho ⟨j',kj',hj',hlj',Lo ho' hji'⟩
  ·by_cases hji':j'=i
   ·exfalso
    simp only[upd,zi hji]at hj;subst hji';simp only[upd,if_true,zb]at hj';subst hj';exact hnew hlj' b ho' ⟨j,kj,hj,hlj,Lo ho hji⟩
   ·simp only[upd,zi hji]at hj;simp only[upd,zi hji']at hj';exact h.dis j kj j' kj' hj hlj hj' hlj' b (Lo ho hji) (Lo ho' hji')
 ·intro j kj b hj hlj hm hn;by_cases hji:j=i
  ·subst hji;simp only[upd,if_true,zb]at hj hm hn;subst hj;exact(hmb b hm hlj).2 hn
  ·simp only[upd,zi hji]at hj hm hn;exact h.self j kj b hj hlj hm hn
 ·intro j kj hj;by_cases hji:j=i
  ·subst hji;simp only[upd,if_true,zb]at hj;subst hj;exact hb
  ·simp only[upd,zi hji]at hj;refine(h.blk j kj hj).grow hf (h.G_lt hW) (h.N_lt hW hj) (h.M_nW hW hj) (fun _ h=>h) ?_ ?_ ?_
   ·simp only[upd,zi hji]
   ·intro b hb;simpa only[upd,zi hji]using hb
   ·intro q hq;have:q≠i:=fun he=>hB j kj hj (he▸hq)
    simp only[upd,zi this,and_self]
theorem HpInv.add(h:HpInv w0 U A E G hp w)(hw:Dz B hp){i:Nat}(hi:¬B i)(hf:Fr W w w')(hW:GJ E hp G W)(hWU:∀b,W b->U b\/w0.heap.size<=b)(k:Blk)(mb:Option Nat)(S:Nat->Prop)
  (hmb:∀b,mb=some b->KF w0 U E hp G w' b/\¬S b) (hS:∀b,S b->KF w0 U E hp G w' b)
  (hb:AU w' ⟨upd E.m i mb,upd E.N i S⟩ (upd hp i (some k)) G i k):
  HpInv w0 U A ⟨upd E.m i mb,upd E.N i S⟩ G (upd hp i (some k)) w'/\Ext B E G hp w ⟨upd E.m i mb,upd E.N i S⟩ G (upd hp i (some k)) w':=
 ⟨h.put (HpInv.fresh hw hi) hf hW hWU k mb S (fun b hb _=>hmb b hb) (fun b hb _=>hS b hb) (fun j kj hj hq=>hi ((hw j kj hj).2 i hq)) hb,
  ⟨fun x y hx hv=>hv.grow hf (h.G_lt hW) (fun _ h=>h) fun j hj=>by
   have:j≠i:=fun he=>hi (he▸hx j hj)
   simp only[upd,zi this,and_self]⟩⟩
theorem HpInv.drop(h:HpInv w0 U A E G hp w)(i:Nat):HpInv w0 U A E G (upd hp i none) w/\Ext B E G hp w E G (upd hp i none) w:=by
 have hsub:∀j k,upd hp i none j=some k->j≠i/\hp j=some k:=by
  intro j k hj;by_cases hji:j=i
  ·subst hji;simp[upd]at hj
  ·simp only[upd,zi hji]at hj;exact⟨hji,hj⟩
 have hv:∀x y,VR0 w E hp G x y->VR0 w E (upd hp i none) G x y:=by
  intro x y hv;cases x with
  |ar id lo n=>
   obtain⟨a,cap,hy,hk⟩:=hv;exact⟨a,cap,hy,fun k hkk=>hk k (hsub id k hkk).2⟩
  |rf id r c=>
   obtain⟨b,o,hy,hk⟩:=hv;exact⟨b,o,hy,fun k hkk=>hk k (hsub id k hkk).2⟩
  |cl f caps=>cases caps<;>exact hv
  |_=>exact hv
 have hown:∀b,Own E (upd hp i none) b->Own E hp b:=by
  rintro b ⟨j,k,hj,hl,ho⟩;exact⟨j,k,(hsub j k hj).2,hl,ho⟩
 refine⟨⟨h.fr,h.g1,fun b hg ho=>h.g2 b hg (hown b ho),fun b ho=>h.o1 b (hown b ho),?_,?_,?_⟩,⟨fun x y _=>hv x y⟩⟩
 ·intro j k j' k' hj hl hj' hl' b ho ho';exact h.dis j k j' k' (hsub j k hj).2 hl (hsub j' k' hj').2 hl' b ho ho'
 ·intro j k b hj hl;exact h.self j k b (hsub j k hj).2 hl
 ·intro j k hj;have hb:=h.blk j k (hsub j k hj).2;unfold AU at hb⊢
  cases hk:k.kind with
  |box=>
   simp only[hk]at hb⊢
   obtain⟨b,row,cur,h1,h2,h3,h4,h5,h6⟩:=hb;exact⟨b,row,cur,h1,h2,h3,h4,h5,h6.mono fun x _ y hxy=>⟨hv x y hxy.1,hxy.2⟩⟩
  |arr=>simp only[hk]at hb⊢;exact hb
  |frz=>simp only[hk]at hb⊢;exact hb
end
section
open Go
variable {P:Program} {w w' w0:World} {E E':Env} {hp hp':Hp} {G G' U A:Nat->Prop} {B:Nat->Prop} {ρ:Operand->V} {ρr:Operand->Value}
theorem Rep.vr0{x:V}{y:Value}(h:Rep w G x y):VR0 w E hp G x y:=by
 cases h with
 |v _ h=>exact Rep.v _ h
 |em a=>exact Rep.em a
 |er0=>exact Rep.er0
 |er1 t x=>exact Rep.er1 t x
 |im0 a cap=>exact Rep.im0 a cap
 |im b off cap size rows f h1 h2 h3 h4 h5 h6 h7=>exact Rep.im b off cap size rows f h1 h2 h3 h4 h5 h6 h7
theorem Rep.scalar{x:V}{y:Value}(hx:DK x=true)(h:Rep w G x y):Rep w G' x y:=by
 cases h with
 |v _ h=>exact Rep.v _ h
 |em a=>exact Rep.em a
 |er0=>exact Rep.er0
 |er1 t x=>exact Rep.er1 t x
 |im0 a cap=>simp[DK]at hx
 |im b off cap size rows f h1 h2 h3 h4 h5 h6 h7=>simp[DK]at hx
theorem S1{cs l:List V}{off n:Nat}(h:seg cs off n=some l):l=(cs.drop off).take n/\off+n<=cs.length/\l.length=n:=by
 unfold seg at h
 split at h
 ·rename_i hn;have h:=zy h;subst h;exact⟨rfl,hn,by simp;omega⟩
 ·cases h
theorem LS{b o:Nat}{cur:Array Value}{ty:TypeId}{fz:Nat×Nat}(h:w.heap[b]? =some (.cells cur ty fz)):w.cell? ⟨b,o,none⟩=cur[o]? :=by
 simp[World.cell?,h]
theorem An5(hI:HpInv w0 U A E G hp w){id r c n:Nat}{k:Blk}{row cs:List V}(hk:hp id=some k)(hr:k.rows[r]? =some row)(hs:seg row c n=some cs)
  (hd:k.kind=.box\/k.kind=.frz\/k.deep=false\/cs.all DK=true):
  ∃b us,E.m id=some b/\VL (VR0 w E hp G) cs us/\∀(j:Nat)(v:Value),us[j]? =some v->w.cell? ⟨b,r*k.size+c+j,none⟩=some v:=by
 obtain⟨hcs,hle,hlen⟩:=S1 hs;have hb:=hI.blk id k hk;unfold AU at hb;cases hkk:k.kind with
 |box=>
  simp only[hkk]at hb;obtain⟨b,row0,cur,h1,h2,h3,h4,h5,h6⟩:=hb;rw[h3]at hr;cases r with
  |succ r=>simp at hr
  |zero=>
   simp at hr;subst hr;refine⟨b,(cur.toList.drop c).take n,h1,?_,fun j v hv=> ?_⟩
   ·rw[hcs];exact((h6.mono fun _ _ _ h=>h.1).drop c).take n
   ·rw[zb6]at hv
    split at hv
    ·rw[zd2]at hv;rw[LS h2,Nat.zero_mul,ze6];simpa using hv
    ·cases hv
 |arr=>
  simp only[hkk]at hb;rcases hb with⟨h1,h2⟩|⟨b,cur,cap,h1,h2,h3,h4,h5,h6,h7,h8⟩
  ·rw[h1]at hr;simp at hr
  ·have hrow:=h7 r row hr;have hrl:r<k.rows.length:=(za3.1 hr).1;have hbig:r*k.size+k.size<=cap*k.size:=by
    have:=zd4 k.size (show r+1<=cap by omega)
    rwa[zf2,Nat.one_mul]at this
   have hul:(((cur.toList.drop (r*k.size+c)).take n)).length=cs.length:=by
    simp;omega
   refine⟨b,(cur.toList.drop (r*k.size+c)).take n,h1,VL.of_get hul fun j x y hx hy=> ?_,fun j v hv=> ?_⟩
   ·have hxr:row[c+j]? =some x:=by
     rw[hcs,zb6]at hx
     split at hx
     ·rwa[zd2]at hx
     ·cases hx
    obtain⟨u,hu,hrep⟩:=h8 r (c+j) row x hr hxr;have hyu:y=u:=by
     rw[zb6]at hy
     split at hy
     ·rw[zd2]at hy;have:cur[r*k.size+c+j]? =some y:=by simpa using hy
      rw[Nat.add_assoc,hu]at this;exact(zy this).symm
     ·cases hy
    subst hyu;rcases hd with hd|hd|hd|hd
    ·rw[hkk]at hd;cases hd
    ·rw[hkk]at hd;cases hd
    ·rw[hd]at hrep;exact hrep.vr0
    ·have:DK x=true:=za6.1 hd x (za5 hx);exact(hrep.scalar (G':=G) this).vr0
   ·rw[zb6]at hv
    split at hv
    ·rw[zd2]at hv;rw[LS h2];simpa using hv
    ·cases hv
 |frz=>
  simp only[hkk]at hb;rcases hb with⟨h1,h2⟩|⟨b,cur,cap,fz,h1,h1',h2,h3,h4,h5,h6,h7,h8⟩
  ·rw[h1]at hr;simp at hr
  ·have hrow:=h7 r row hr;have hrl:r<k.rows.length:=(za3.1 hr).1;have hbig:r*k.size+k.size<=cap*k.size:=by
    have:=zd4 k.size (show r+1<=cap by omega)
    rwa[zf2,Nat.one_mul]at this
   have hul:(((cur.toList.drop (r*k.size+c)).take n)).length=cs.length:=by
    simp;omega
   refine⟨b,(cur.toList.drop (r*k.size+c)).take n,h1,VL.of_get hul fun j x y hx hy=> ?_,fun j v hv=> ?_⟩
   ·have hxr:row[c+j]? =some x:=by
     rw[hcs,zb6]at hx
     split at hx
     ·rwa[zd2]at hx
     ·cases hx
    obtain⟨u,hu,hrep⟩:=h8 r (c+j) row x hr hxr;have hyu:y=u:=by
     rw[zb6]at hy
     split at hy
     ·rw[zd2]at hy;have:cur[r*k.size+c+j]? =some y:=by simpa using hy
      rw[Nat.add_assoc,hu]at this;exact(zy this).symm
     ·cases hy
    subst hyu;exact hrep.vr0
   ·rw[zb6]at hv
    split at hv
    ·rw[zd2]at hv;rw[LS h2];simpa using hv
    ·cases hv
theorem TF{a:Addr}{v:Value}(h:w.cell? a=some v):(load a).run P w=.ok v w:=by
 simp[h]
theorem Qk{t:TypeId}{d:TyD}{cs:List V}{us:List Value}{x:V}{b o:Nat}(ht:AY P t=some d)(hlen:cs.length=d.size)(hv:VL (VR0 w E hp G) cs us)
  (hc:∀(j:Nat)(v:Value),us[j]? =some v->w.cell? ⟨b,o+j,none⟩=some v) (hm:mk d.agg cs=some x):
  ∃y,(loadVar t ⟨b,o,none⟩).run P w=.ok y w/\VR2 w E hp G x y:=by
 obtain⟨hr,hone⟩:=At1 hm hv;have hul:=hv.length;unfold loadVar;simp only[Sem.run_bind,AD8 ht,Result.andThen_ok];cases hg:d.agg with
 |true=>
  simp only[if_true,Sem.run_bind,FW ht,Result.andThen_ok,Sem.run_pure];rw[hg]at hr;have hl:=run_loadCells_list (P:=P) w ⟨b,o,none⟩ us (fun j v hj=>by
   have:(⟨b,o,none⟩:Addr).add j=⟨b,o+j,none⟩:=by unfold Addr.add;split<;>simp_all
   rw[this];exact hc j v hj)
  rw[<-hlen,<-hul,hl];exact⟨_,rfl,hr⟩
 |false=>
  have h1:=hone hg;subst h1;rw[hg]at hr;cases us with
  |nil=>exact hv.elim
  |cons u us=>
   refine⟨u,?_,by simpa using hr⟩
   simp only[zb8,if_false];exact TF (by simpa using hc 0 u (by simp))
def B9(P:Program)(w0:World)(U A B:Nat->Prop)(E:Env)(G:Nat->Prop)(hp:Hp)(w:World)(op:Op)(ρr:Operand->Value)(x:V)(hp':Hp):Prop:=
 ∀o:Oper,o.op=op->∃y w' E' G',(execOp ρr o).run P w=.ok (.value y) w'/\HpInv w0 U A E' G' hp' w'/\VR2 w' E' hp' G' x y/\Ext B E G hp w E' G' hp' w'
theorem HJ{op:Op}{x:V}(h:∃s:Sem Value,(∀o:Oper,o.op=op->execOp ρr o=(do pure (Next.value (<-s))))/\
  ∃y w' E' G',s.run P w=.ok y w'/\HpInv w0 U A E' G' hp' w'/\VR2 w' E' hp' G' x y/\Ext B E G hp w E' G' hp' w'):B9 P w0 U A B E G hp w op ρr x hp':=by
 obtain⟨s,hs,y,w',E',G',hy,h1,h2,h3⟩:=h;intro o ho;exact⟨y,w',E',G',by rw[hs o ho];exact AG7 hy,h1,h2,h3⟩
theorem SF(e:TypeId)(c:Array Value)(w:World):(newRow e c).run P w=.ok ⟨w.heap.size,0,none⟩ (w.alloc (.cells c e)):=by
 rfl
theorem HF(w:World)(o:Obj):(w.alloc o).heap[w.heap.size]? =some o:=by
 simp only[World.alloc];rw[Array.getElem?_push];simp
theorem Ry(w:World)(o:Obj):(w.alloc o).heap.size=w.heap.size+1:=by simp only[World.alloc];rw[Array.size_push]
theorem ZB(hI:HpInv w0 U A E G hp w)(hw:Dz B hp){i:Nat}(hi:¬B i){t:TypeId}{cs:List V}{us:Array Value}(h0:0<cs.length)(hB:∀x∈cs,∀j∈Ae x,B j)
  (hl:VL (fun x y=>VR0 w E hp G x y/\y.oneCell'=true) cs us.toList):
  ∃E',HpInv w0 U A E' G (upd hp i (some (K4 t cs))) (w.alloc (.cells us t))/\VR2 (w.alloc (.cells us t)) E' (upd hp i (some (K4 t cs))) G (.rf i 0 0) (.pointer (some ⟨w.heap.size,0,none⟩))/\
   Ext B E G hp w E' G (upd hp i (some (K4 t cs))) (w.alloc (.cells us t)):=by
 have hfr:=Fr0.alloc w (.cells us t);have hne:∀j,B j->j≠i:=fun j hj he=>hi (he▸hj)
 obtain⟨h1,h2⟩:=hI.add hw hi hfr GJ.none (fun _ h=>h.elim) (K4 t cs) (some w.heap.size) (fun _=>False) (by
  intro b hb;have:=zy hb;subst this;exact⟨hI.new_free hfr (za8 _) (by rw[Ry];omega),fun h=>h⟩) (fun b h=>h.elim) (by
  unfold AU K4;refine⟨w.heap.size,cs,us,by simp[upd],HF w _,rfl,rfl,h0,hl.mono fun x hx y hxy=>⟨hxy.1.grow hfr (hI.G_lt GJ.none) (fun _ h=>h) fun j hj=> ?_,hxy.2⟩⟩
  have:=hne j (hB x hx j hj);simp only[upd,zi this,and_self])
 refine⟨_,h1,⟨w.heap.size,0,rfl,fun k hk=>⟨by simp[upd],by simp⟩⟩,h2⟩
theorem Am1{t:TypeId}{a:Operand}{b:Nat}{x:V}{new:List Blk}(hI:HpInv w0 U A E G hp w)(hρ:∀x,VR2 w E hp G (ρ x) (ρr x))(h:A4 P (.load t a) ρ hp b=some (x,new)):
  new=[]/\∃y,(Instr.loadAt t (ρr a)).run P w=.ok y w/\VR2 w E hp G x y:=by
 simp only[A4]at h
 split at h
 ·rename_i d hd;have ha:=hρ a
  split at h
  ·rename_i row c hx
   split at h
   ·rename_i x' hb;have h:=zy h;cases h
    refine⟨rfl,?_⟩
    rw[hx]at ha;obtain⟨bb,off,f,hg,hy,hrel⟩:=ha;cases hseg:seg row c d.size with
    |none=>simp[hseg]at hb
    |some cs=>
     rw[hseg,za0]at hb;obtain⟨hcs,hle,hlen⟩:=S1 hseg;have hv:VL (VR0 w E hp G) cs ((List.range d.size).map fun j=>f (c+j)):=VL.of_get (by simp[hlen]) fun j q r hq hr=>by
      rw[hcs,zb6]at hq
      split at hq
      ·rename_i hj;rw[zd2]at hq;have:r=f (c+j):=by simp[hj]at hr;exact hr.symm
       rw[this];exact(hrel _ _ hq).2.vr0
      ·cases hq
     obtain⟨y,hy1,hy2⟩:=Qk (b:=bb) (o:=off+c) hd hlen hv (fun j v hj=>by
      have hjl:j<d.size:=by have:=(za3.1 hj).1;simpa using this
      have hjv:v=f (c+j):=by simp[hjl]at hj;exact hj.symm
      have hlt:c+j<row.length:=by omega
      rw[Nat.add_assoc,(hrel (c+j) _ (za1 hlt)).1,hjv]) hb
     refine⟨y,?_,hy2⟩
     unfold Instr.loadAt;rw[hy];simp only[Instr.sureAddr,Sem.run_bind,Sem.run_pure,Result.andThen_ok];exact hy1
   ·cases h
  ·rename_i id r c hx
   split at h
   ·rename_i k hk
    split at h
    ·rename_i row hr
     split at h
     ·rename_i cs hseg
      split at h
      ·rename_i hc
       split at h
       ·rename_i x' hm;have h:=zy h;cases h
        refine⟨rfl,?_⟩
        rw[hx]at ha;obtain⟨bb,off,hy,hrel⟩:=ha;obtain⟨h1,h2⟩:=hrel k hk;obtain⟨b',us,hb',hv,hcell⟩:=An5 hI hk hr hseg (by
         simp only[Bool.or_eq_true,zf0,decide_eq_true_eq]at hc;rcases hc with(hc|hc)|hc
         ·exact .inl hc
         ·exact .inr (.inr (.inl hc))
         ·exact .inr (.inr (.inr hc)))
        rw[h1]at hb';cases hb'
        obtain⟨y,hy1,hy2⟩:=Qk (b:=bb) (o:=off) hd (S1 hseg).2.2 hv (fun j v hj=>by rw[h2];exact hcell j v hj) hm;refine⟨y,?_,hy2⟩
        unfold Instr.loadAt;rw[hy];simp only[Instr.sureAddr,Sem.run_bind,Sem.run_pure,Result.andThen_ok];exact hy1
       ·cases h
      ·cases h
     ·cases h
    ·cases h
   ·cases h
  ·cases h
 ·cases h
theorem UZ{x:V}{c:V}{j:Nat}(hc:c∈flat x)(hj:j∈Ae c)(hk:(flat x).all Bk=true):j∈Ah x:=by
 cases x with
 |agg cs=>exact zb0.2 ⟨c,hc,hj⟩
 |tup vs=>simp[flat,Bk]at hk
 |cl f caps=>
  simp only[flat,List.mem_singleton]at hc;subst hc;simp[Ae]at hj
 |_=>
  simp only[flat,List.mem_singleton]at hc;subst hc;exact hj
theorem Mx:∀{rows:List (List V)}{bs:List UInt8},BL rows=some bs->bs.length=rows.length/\∀(i:Nat)(row:List V),rows[i]? =some row->∃n,row=[.v (.int .u8 n)]/\bs[i]? =some (UInt8.ofNat n.toNat)
 |[],bs,h=>by simp[BL]at h;subst h;exact⟨rfl,fun i row hi=>by simp at hi⟩
 |r::l,bs,h=>by
  simp only[BL]at h
  split at h
  ·rename_i b bs' hb hbs;have h:=zy h;subst h;obtain⟨h1,h2⟩:=Mx hbs;refine⟨by simp[h1],fun i row hi=> ?_⟩
   cases i with
   |zero=>
    simp at hi;subst hi;unfold LR at hb
    split at hb
    ·rename_i n;exact⟨n,rfl,by simp;exact(zy hb).symm⟩
    ·cases hb
   |succ i=>simpa using h2 i row (by simpa using hi)
  ·cases h
theorem Sb:∀(ns:List Int)(s:ByteArray),ns.foldl (fun r n=>r.push (UInt8.ofNat n.toNat)) s=⟨(s.data.toList++ns.map fun n=>UInt8.ofNat n.toNat).toArray⟩
 |[],s=>by simp
 |n::ns,s=>by
  simp only[List.foldl_cons,Sb ns,zc2]
  congr 1
  apply Array.ext'
  simp[ByteArray.push]
theorem FX{a:Option Addr}{cap:Nat}{rows:List (List V)}{bs:List UInt8}(hb:BL rows=some bs)
  (hc:rows=[]\/∃b o,a=some ⟨b,o,none⟩/\∀(i:Nat)(n:Int),rows[i]? =some [.v (.int .u8 n)]->w.cell? ⟨b,o+i,none⟩=some (.int .u8 n)):
  (Conv.bytesToString (.slice a rows.length cap)).run P w=.ok (.string ⟨bs.toArray⟩) w:=by
 obtain⟨hlen,hget⟩:=Mx hb;have hns:∃ns:List Int,ns.length=rows.length/\(∀(i:Nat)(n:Int),ns[i]? =some n->rows[i]? =some [.v (.int .u8 n)])/\ns.map (fun n=>UInt8.ofNat n.toNat)=bs:=by
  clear hc
  induction rows generalizing bs with
  |nil=>exact⟨[],rfl,fun i n h=>by simp at h,by simp[BL]at hb;simp[hb]⟩
  |cons r l ih=>
   simp only[BL]at hb
   split at hb
   ·rename_i b bs' hb1 hb2;have h:=zy hb;subst h;obtain⟨h1,h2⟩:=Mx hb2;obtain⟨ns,hn1,hn2,hn3⟩:=ih hb2 h1 h2;unfold LR at hb1
    split at hb1
    ·rename_i n;refine⟨n::ns,by simp[hn1],fun i m hi=> ?_,by simp[hn3];exact zy hb1⟩
     cases i with
     |zero=>simp at hi;subst hi;simp
     |succ i=>simpa using hn2 i m (by simpa using hi)
    ·cases hb1
   ·cases hb
 obtain⟨ns,hn1,hn2,hn3⟩:=hns;rcases hc with h0|⟨b,o,ha,hcell⟩
 ·subst h0;have hb0:bs=[]:=by simp[BL]at hb;exact hb
  subst hb0;cases a with
  |none=>rfl
  |some a=>
   exact run_bytesToString (P:=P) w a 0 cap [] (by rfl)
 ·subst ha;have hl:(loadCells ⟨b,o,none⟩ rows.length).run P w=.ok (ns.map (Value.int .u8)).toArray w:=by
   have:=run_loadCells_list (P:=P) w ⟨b,o,none⟩ (ns.map (Value.int .u8)) (fun j v hj=>by
    have hadd:(⟨b,o,none⟩:Addr).add j=⟨b,o+j,none⟩:=by unfold Addr.add;split<;>simp_all
    rw[hadd];simp only[zd5,zb4]at hj;obtain⟨n,hn,hv⟩:=hj;rw[<-hv];exact hcell j n (hn2 j n hn))
   simpa[hn1]using this
  rw[run_bytesToString (P:=P) w _ _ cap ns hl,Sb,hn3];rfl
theorem O3{t:TypeId}(h:GB P t=true):∃e,P.underlying t=some (.slice e)/\P.underlying e=some (.int .u8):=by
 unfold GB at h
 split at h
 ·rename_i e he
  split at h
  ·rename_i d hd;refine⟨e,Bn he,?_⟩
   obtain⟨i,u,z,_,hu,_,h0,_,_,rfl⟩:=Bx hd;rw[hu];cases u<;>simp[AC2]at h
   rw[h]
  ·cases h
 ·cases h
theorem CJ{s d:TypeId}(hs:GB P s=true)(hd:DH P d=true){a:Option Addr}{n cap:Nat}{y:Value}(h:(Conv.bytesToString (.slice a n cap)).run P w=.ok y w):
  (convert s d (.slice a n cap)).run P w=.ok y w:=by
 obtain⟨e,h1,h2⟩:=O3 hs;unfold convert;simp only[Sem.run_bind,run_underlying h1,run_underlying (Dy hd),Result.andThen_ok];simp only[Sem.run_bind,run_underlying h2,Result.andThen_ok];exact h
theorem V7(hI:HpInv w0 U A E G hp w){id lo n:Nat}{k:Blk}{y:Value}(hy:VR2 w E hp G (.ar id lo n) y)(hk:hp id=some k):
  ∃a cap,y=.slice a n cap/\n<=cap/\lo+n<=k.rows.length/\(n=0\/∃b cur ty fz,a=some ⟨b,lo*k.size,none⟩/\E.m id=some b/\w.heap[b]? =some (.cells cur ty fz)/\cap<=maxLen/\0<k.size/\
   (∀(i:Nat)(row:List V),k.rows[i]? =some row->row.length=k.size)/\
   ∀(i j:Nat)(row:List V)(x:V),k.rows[i]? =some row->row[j]? =some x->∃u,cur[i*k.size+j]? =some u/\Rep w (if k.kind=.arr/\k.deep=true then E.N id else G) x u):=by
 obtain⟨a,cap,hy,hrel⟩:=hy;obtain⟨h1,h2,h3⟩:=hrel k hk;have hb:=hI.blk id k hk;rcases h3 with⟨h3,h4⟩|⟨b,cur,ty,fz,hm,ha,hn,hh,hs⟩
 ·exact⟨a,cap,hy,by omega,h2,.inl h3⟩
 ·refine⟨a,cap,hy,hn,h2,?_⟩
  by_cases h0:n=0
  ·exact .inl h0
  right
  unfold AU at hb;cases hkk:k.kind with
  |box=>exact absurd hkk h1
  |arr=>
   simp only[hkk]at hb;rcases hb with⟨q1,q2⟩|⟨b',cur',cap',q1,q2,q3,q4,q5,q6,q7,q8⟩
   ·rw[q1]at h2;simp at h2;omega
   ·rw[hm]at q1;cases q1
    rw[hh]at q2;cases q2
    refine⟨b,cur,_,_,ha,hm,hh,?_,q3,q7,fun i j row x hi hj=> ?_⟩
    ·have:(lo+cap)*k.size=cap'*k.size:=by rw[<-hs,q4]
     have:=Nat.eq_of_mul_eq_mul_right q3 this;omega
    ·obtain⟨u,hu,hr⟩:=q8 i j row x hi hj;refine⟨u,hu,?_⟩
     cases hd:k.deep<;>simp[hd]at hr⊢ <;>exact hr
  |frz=>
   simp only[hkk]at hb;rcases hb with⟨q1,q2⟩|⟨b',cur',cap',fz',q1,q1',q2,q3,q4,q5,q6,q7,q8⟩
   ·rw[q1]at h2;simp at h2;omega
   ·rw[hm]at q1;cases q1
    rw[hh]at q2;cases q2
    refine⟨b,cur,_,_,ha,hm,hh,?_,q3,q7,fun i j row x hi hj=> ?_⟩
    ·have:(lo+cap)*k.size=cap'*k.size:=by rw[<-hs,q4]
     have:=Nat.eq_of_mul_eq_mul_right q3 this;omega
    ·obtain⟨u,hu,hr⟩:=q8 i j row x hi hj;refine⟨u,hu,?_⟩
     simpa using hr
structure MCtx (P:Program) (w0:World) (U A B:Nat->Prop) (E:Env) (G:Nat->Prop) (hp:Hp) (w:World) (ρ:Operand->V) (ρr:Operand->Value) (b:Nat):Prop where
 inv:HpInv w0 U A E G hp w
 wf:Dz B hp
 rel:∀x,VR2 w E hp G (ρ x) (ρr x)
 ids:∀x,∀id∈Ah (ρ x),B id
 new:∀j,j<16->¬B (b+j)
theorem B9.same{op:Op}{x:V}{b:Nat}(c:MCtx P w0 U A B E G hp w ρ ρr b)(h:TJ P w E hp G op ρr x):B9 P w0 U A B E G hp w op ρr x hp:=by
 intro o ho;obtain⟨y,h1,h2⟩:=h o ho;exact⟨y,w,E,G,h1,c.inv,h2,Ext.refl _ _ _ _ _⟩
theorem Az6{t:TypeId}{x:V}{b:Nat}{new:List Blk}(c:MCtx P w0 U A B E G hp w ρ ρr b)(h:A4 P (.alloc t) ρ hp b=some (x,new)):B9 P w0 U A B E G hp w (.alloc t) ρr x (inst hp b new):=by
 simp only[A4]at h
 split at h
 ·rename_i d hd;have h:=zy h;cases h
  obtain⟨z,hz,hzl,hzs⟩:=Tl (w:=w) (E:=E) (hp:=hp) (G:=G) hd;have hp:=Ip hd;have hlen:d.zero.length=d.size:=by have:=hzl.length;simp at this;omega
  obtain⟨E',h1,h2,h3⟩:=ZB (us:=z.cells) (t:=t) c.inv c.wf (c.new 0 (by omega)) (by omega) (by
   intro x hx j hj
   exfalso
   obtain⟨i,u,z',_,_,_,_,_,_,rfl⟩:=Bx hd;simp only[ze0]at hx;obtain⟨cc,_,hcc⟩:=hx;subst hcc;unfold CM at hj
   split at hj
   ·simp[Ae]at hj
   ·split at hj<;>simp[Ae]at hj) hzl
  refine HJ ⟨_,fun o ho=>by simp only[execOp,ho]<;>rfl,.pointer (some ⟨w.heap.size,0,none⟩),_,E',G,?_,h1,h2,h3⟩
  unfold Instr.alloc;simp only[Sem.run_bind,hz,Result.andThen_ok,newVar,SF,Sem.run_pure]
 ·cases h
theorem AO0{t:TypeId}{a:Operand}{x:V}{b:Nat}{new:List Blk}(c:MCtx P w0 U A B E G hp w ρ ρr b)(h:A4 P (.box t a) ρ hp b=some (x,new)):B9 P w0 U A B E G hp w (.box t a) ρr x (inst hp b new):=by
 simp only[A4]at h
 split at h
 ·rename_i d hd
  split at h
  ·rename_i hc;simp only[za2,decide_eq_true_eq]at hc;have h:=zy h;cases h
   have hl:=H4 (c.rel a) hc.2;have hones:=VL.ones hc.2 hl;obtain⟨E',h1,h2,h3⟩:=ZB (us:=(ρr a).cells) (t:=t) c.inv c.wf (c.new 0 (by omega)) (by have:=Ip hd;omega) (by
    intro x hx j hj;exact c.ids a j (UZ hx hj hc.2)) (VL.of_get hl.length fun j x y hx hy=>by
     obtain⟨y',hy',hr⟩:=hl.get j x hx;rw[hy]at hy';cases hy'
     exact⟨hr,hones y (za5 hy)⟩)
   refine HJ ⟨_,fun o ho=>by simp only[execOp,ho]<;>rfl,.pointer (some ⟨w.heap.size,0,none⟩),_,E',G,?_,h1,h2,h3⟩
   unfold Instr.box;simp only[Sem.run_bind,Result.andThen_ok,newVar,SF,Sem.run_pure]
  ·cases h
 ·cases h
theorem Az7{t:TypeId}{a i:Operand}{x:V}{b:Nat}{new:List Blk}(c:MCtx P w0 U A B E G hp w ρ ρr b)(h:A4 P (.indexAddr t a i) ρ hp b=some (x,new)):B9 P w0 U A B E G hp w (.indexAddr t a i) ρr x (inst hp b new):=by
 simp only[A4]at h
 split at h
 ·rename_i id lo n kk j ha hi
  split at h
  ·rename_i e he
   split at h
   ·rename_i d k hd hk
    split at h
    ·rename_i hc;obtain⟨hsz,hj0,hjn⟩:=hc;have h:=zy h;cases h
     have h1:=c.rel a;have h2:=c.rel i;rw[ha]at h1;rw[hi]at h2;obtain⟨ad,cap,hy,hcap,hle,hor⟩:=V7 c.inv h1 hk;rcases hor with h0|⟨bb,cur,ty,fz,had,hm,hh,hmax,hpos,hrows,hcells⟩
     ·omega
     ·refine B9.same (x:=.rf id (lo+j.toNat) 0) c (A6 ⟨_,fun o ho=>by simp only[execOp,ho]<;>rfl,?_⟩)
      rw[hy,(F0 h2).1,had];refine⟨.pointer (some ⟨bb,lo*k.size+j.toNat*d.size,none⟩),?_,bb,_,rfl,fun k' hk'=> ?_⟩
      ·unfold Instr.indexAt;simp only[asIntOf,Sem.run_bind,Sem.run_pure,Result.andThen_ok,run_underlying (Bn he)];rw[zw ⟨hj0,by omega⟩];simp only[Sem.run_bind,FW hd,Result.andThen_ok,Sem.run_pure];unfold Addr.add
       split<;>simp_all
      ·rw[hk]at hk';cases hk'
       refine⟨hm,?_⟩
       rw[<-hsz,<-zf2];omega
    ·cases h
   ·cases h
  ·cases h
 ·cases h
theorem As8(z:Array Value)(m i j:Nat)(hz:0<z.size)(hj:j<z.size)(hi:i<m):(madeCells z (m*z.size))[i*z.size+j]? =some (z[j]'hj):=by
 have hlt:i*z.size+j<m*z.size:=by
  have:=zd4 z.size (show i+1<=m by omega);rw[zf2,Nat.one_mul]at this;omega
 simp only[madeCells,Array.getElem?_map];rw[Array.getElem?_range];rw[zw hlt];simp only[zd1];have:(i*z.size+j)%z.size=j:=by
  rw[Nat.add_comm,Nat.add_mul_mod_self_right,Nat.mod_eq_of_lt hj]
 rw[this];simp[hj]
theorem AH8{t:TypeId}{l m:Operand}{x:V}{b:Nat}{new:List Blk}(c:MCtx P w0 U A B E G hp w ρ ρr b)(h:A4 P (.makeSlice t l m) ρ hp b=some (x,new)):B9 P w0 U A B E G hp w (.makeSlice t l m) ρr x (inst hp b new):=by
 simp only[A4]at h
 split at h
 ·rename_i k1 n k2 q e hl hm he
  split at h
  ·rename_i d hd
   split at h
   ·rename_i hc;obtain⟨h0,hnm,hb1,hb2,hz⟩:=hc;have h:=zy h;cases h
    have h1:=c.rel l;have h2:=c.rel m;rw[hl]at h1;rw[hm]at h2;obtain⟨i,u,z,hi,hu,hzz,hs0,hzs,hone,hdd⟩:=Bx hd;have hds:d.size=i.size:=by rw[hdd]
    have hdb:d.bytes=i.bytes:=by rw[hdd]
    have hdz:d.zero=z.cells.toList.map CM:=by rw[hdd]
    have hpos:=Ip hd;have hqs:q.toNat<=q.toNat*d.size:=Nat.le_mul_of_pos_right _ hpos;have hq63:q<=9223372036854775807:=by unfold Ad at hb2;omega
    have hby:(i.bytes:Int)*q<=281474976710656:=by
     have:((i.bytes*q.toNat:Nat):Int)<=281474976710656:=by rw[Nat.mul_comm,<-hdb];unfold Ad at hb1;omega
     rw[Int.natCast_mul]at this;have hq:((q.toNat:Nat):Int)=q:=by omega
     rwa[hq]at this
    have hrun:=run_make (P:=P) w t e i z (Bn he) hi hzz k1 k2 n q h0 hnm hby hq63;have hfr:=Fr0.alloc w (.cells (madeCells z.cells (q.toNat*i.size)) e);have hzlen:d.zero.length=d.size:=by rw[hdz];simp;omega
    obtain⟨g1,g2⟩:=c.inv.add c.wf (c.new 0 (by omega)) hfr GJ.none (fun _ h=>h.elim) (AG e d.size true (List.replicate n.toNat d.zero)) (some w.heap.size) (fun _=>False) (by
     intro b hb;have:=zy hb;subst this;exact⟨c.inv.new_free hfr (za8 _) (by rw[Ry];omega),fun h=>h⟩) (fun b h=>h.elim) (by
     unfold AU AG;refine .inr ⟨w.heap.size,madeCells z.cells (q.toNat*i.size),q.toNat,by simp[upd],HF w _,hpos,by rw[size_madeCells,hds],by simp only[maxLen];omega,by simp;omega,?_,?_⟩
     ·intro i' row hrow;rw[zc8]at hrow
      split at hrow
      ·cases hrow;exact hzlen
      ·cases hrow
     ·intro i' j row x hrow hx;rw[zc8]at hrow
      split at hrow
      ·rename_i hi';cases hrow
       have hj:j<z.cells.size:=by have:=(za3.1 hx).1;omega
       refine⟨z.cells[j],?_,?_⟩
       ·have:=As8 z.cells q.toNat i' j (by omega) hj (by omega);rw[hzs]at this;rw[hds];exact this
       ·have hxz:x=CM (z.cells[j]'hj):=by
         rw[hdz]at hx;simp[hj]at hx;exact hx.symm
        have hsx:DK x=true:=za6.1 hz x (za5 hx);have hrel:=Kd (w:=w.alloc (.cells (madeCells z.cells (q.toNat*i.size)) e)) (E:=E) (hp:=hp) (G:=fun _=>False) (z.cells[j]'hj);rw[<-hxz]at hrel;simp only[if_true,upd];cases x with
        |v a=>exact Rep.scalar rfl hrel
        |em=>exact Rep.scalar rfl hrel
        |_=>simp[DK]at hsx
      ·cases hrow)
    refine HJ ⟨_,fun o ho=>by simp only[execOp,ho]<;>rfl,.slice (some ⟨w.heap.size,0,none⟩) n.toNat q.toNat,_,_,G,?_,g1,?_,g2⟩
    ·rw[(F0 h1).1,(F0 h2).1];exact hrun
    ·refine⟨_,_,rfl,fun k hk=> ?_⟩
     simp only[inst,upd,if_true,zb]at hk;subst hk;refine⟨by simp[AG],by simp[AG],.inr ⟨w.heap.size,_,_,_,by simp[upd],by simp,by omega,HF w _,?_⟩⟩
     rw[size_madeCells];simp[AG,hds]
   ·cases h
  ·cases h
 ·cases h
theorem Ac6{s d:TypeId}{a:Operand}{x:V}{b:Nat}{new:List Blk}(c:MCtx P w0 U A B E G hp w ρ ρr b)(h:A4 P (.convert s d a) ρ hp b=some (x,new)):B9 P w0 U A B E G hp w (.convert s d a) ρr x (inst hp b new):=by
 simp only[A4]at h;have h1:=c.rel a
 split at h
 ·rename_i rows ha
  split at h
  ·rename_i hc;simp only[za2]at hc
   split at h
   ·rename_i bs hbs;have h:=zy h;cases h
    rw[ha]at h1;refine B9.same (x:=.v (.string ⟨bs.toArray⟩)) c (A6 ⟨_,fun o ho=>by simp only[execOp,ho]<;>rfl,.string ⟨bs.toArray⟩,?_,Rep.v _ rfl⟩)
    have h1:Rep w G (.im rows) (ρr a):=h1;generalize ρr a=y at h1;cases h1 with
    |im0 ad cap=>exact CJ hc.1 hc.2 (FX (rows:=[]) hbs (.inl rfl))
    |im bb off cap size rows f hb h0 hr hcp hl hcell hrep=>
     refine CJ hc.1 hc.2 (FX hbs (.inr ⟨bb,off,rfl,fun i n hi=> ?_⟩))
     have hsz:size=1:=by have:=hl i _ hi;simpa using this.symm
     have:=hcell i 0 _ (.v (.int .u8 n)) hi (by simp);have hv:=hrep i 0 _ (.v (.int .u8 n)) hi (by simp);rw[(XH hv).1,hsz]at this;simpa using this
   ·cases h
  ·cases h
 ·rename_i id lo n ha
  split at h
  ·rename_i k hk
   split at h
   ·rename_i hc;simp only[za2,decide_eq_true_eq,ne_eq]at hc
    split at h
    ·rename_i bs hbs;have h:=zy h;cases h
     rw[ha]at h1;refine B9.same (x:=.v (.string ⟨bs.toArray⟩)) c (A6 ⟨_,fun o ho=>by simp only[execOp,ho]<;>rfl,.string ⟨bs.toArray⟩,?_,Rep.v _ rfl⟩)
     obtain⟨ad,cap,hy,hcap,hle,hor⟩:=V7 c.inv h1 hk;rw[hy];have hlen:((k.rows.take (lo+n)).drop lo).length=n:=by simp;omega
     rcases hor with h0|⟨bb,cur,ty,fz,had,hm,hh,hmax,hpos,hrows,hcells⟩
     ·subst h0;have:=CJ (w:=w) hc.2.1 hc.2.2 (FX (a:=ad) (cap:=cap) hbs (.inl (by simp)));rw[hlen]at this;exact this
     ·have:=CJ (w:=w) hc.2.1 hc.2.2 (FX (a:=ad) (cap:=cap) hbs (.inr ⟨bb,lo*k.size,had,fun i v hi=>by
       have hi':k.rows[lo+i]? =some [.v (.int .u8 v)]:=by
        rw[zd2,zb6]at hi
        split at hi
        ·exact hi
        ·cases hi
       have hsz:k.size=1:=by have:=hrows _ _ hi';simpa using this.symm
       obtain⟨u,hu,hr⟩:=hcells _ 0 _ (.v (.int .u8 v)) hi' (by simp);rw[LS hh,(XH hr).1.symm];rw[hsz]at hu⊢
       simpa using hu⟩))
      rw[hlen]at this;exact this
    ·cases h
   ·cases h
  ·cases h
 ·rename_i str ha
  split at h
  ·rename_i hc;simp only[za2,decide_eq_true_eq]at hc;have h:=zy h;cases h
   rw[ha]at h1;obtain⟨e,he1,he2⟩:=O3 hc.1.2;have hrun:=Lib.run_convert_string_bytes (P:=P) w s d e str (Dy hc.1.1) he1 he2;have hfr:Fr0 w (Lib.bytesWorld w e str):=.mk' rfl rfl rfl (by rw[Lib.bytesWorld_size];omega) (fun b hb _=>Lib.bytesWorld_at_old w e str b hb) (fun b _ _ _ h _=>h.elim);obtain⟨g1,g2⟩:=c.inv.grow (B:=B) (G':=fun b=>G b\/b=w.heap.size) hfr GJ.none (fun _ h=>h.elim) (fun b hb=>.inl hb) (fun b hb=>hb.imp (fun h=>h) (fun h=>by subst h;exact c.inv.new_free hfr (za8 _) (by rw[Lib.bytesWorld_size];omega)))
   refine HJ ⟨_,fun o ho=>by simp only[execOp,ho]<;>rfl,_,_,E,_,by rw[(F0 h1).1];exact hrun,g1,?_,g2⟩
   have hlen:(Gs str).length=str.size:=by simp[Gs]
   have hcapm:grownCap w str.size 0 e<=maxLen:=by
    have:str.size<=maxLen:=by have:=hc.2;unfold Ad at this;simp only[maxLen];omega
    exact grownCap_le_maxLen w str.size 0 e this
   have hrep:Rep (Lib.bytesWorld w e str) (fun b=>G b\/b=w.heap.size) (.im (Gs str)) (.slice (some ⟨w.heap.size,0,none⟩) (Gs str).length (grownCap w str.size 0 e)):=
    .im w.heap.size 0 _ 1 (Gs str) (fun i _=>.int .u8 (str.data.toList.getD i 0).toNat) (.inr rfl) (by omega) (by rw[hlen];exact grownCap_ge w str.size 0 e) hcapm
     (fun i row hi=>by
      simp only[Gs,zd5,zb4]at hi;obtain⟨q,_,rfl⟩:=hi;rfl)
     (fun i j row x hi hj=>by
      have hil:i<str.size:=by rw[<-hlen];exact(za3.1 hi).1
      simp only[Gs,zd5,zb4]at hi;obtain⟨q,hq,rfl⟩:=hi;have hj0:j=0:=by have:=(za3.1 hj).1;simp at this;exact this
      subst hj0;rw[show 0+i*1+0=i by omega];exact Lib.bytesWorld_cell w e str i hil)
     (fun i j row x hi hj=>by
      simp only[Gs,zd5,zb4]at hi;obtain⟨q,hq,rfl⟩:=hi;have hj0:j=0:=by have:=(za3.1 hj).1;simp at this;exact this
      subst hj0;simp at hj;subst hj;have:str.data.toList.getD i 0=q:=by simp only[List.getD,hq,Option.getD_some]
      rw[this];exact .v _ rfl)
   rw[hlen]at hrep;exact hrep
  ·cases h
 ·rename_i ha
  split at h
  ·rename_i hc;simp only[za2]at hc;have h:=zy h;cases h
   rw[ha]at h1;refine B9.same (x:=.v (.string ⟨#[]⟩)) c (A6 ⟨_,fun o ho=>by simp only[execOp,ho]<;>rfl,.string ⟨#[]⟩,?_,Rep.v _ rfl⟩)
   obtain⟨ad,hy⟩:=O7 h1;rw[hy];exact CJ hc.1 hc.2 (FX (rows:=[]) (bs:=[]) rfl (.inl rfl))
  ·cases h
 ·cases h
theorem AR7{op:Op}{x:V}{b:Nat}{new:List Blk}(c:MCtx P w0 U A B E G hp w ρ ρr b)(h:A4 P op ρ hp b=some (x,new)):B9 P w0 U A B E G hp w op ρr x (inst hp b new):=by
 cases op with
 |alloc t=>exact Az6 c h
 |box t a=>exact AO0 c h
 |load t a=>
  obtain⟨rfl,y,h1,h2⟩:=Am1 c.inv c.rel h;exact B9.same c (A6 ⟨_,fun o ho=>by simp only[execOp,ho]<;>rfl,y,h1,h2⟩)
 |indexAddr t a i=>exact Az7 c h
 |makeSlice t l m=>exact AH8 c h
 |convert s d a=>exact Ac6 c h
 |_=>simp[A4]at h
end
section
open Go
variable {P:Program} {w w' w0:World} {E E':Env} {hp hp':Hp} {G G' U A W:Nat->Prop} {B:Nat->Prop} {ρ:Operand->V} {ρr:Operand->Value}
theorem Fr.setRow{g:Nat}{cur new:Array Value}{ty:TypeId}{fz:Nat×Nat}(h:w.heap[g]? =some (.cells cur ty fz))(hs:new.size=cur.size):Fr (fun b=>b=g) w (w.setRow g new):=
 .mk' rfl rfl rfl (by simp[World.setRow]) (fun b _ hb=>setRow_other w g b new hb) (fun b c t f hb hc=>by
  subst hb;rw[h]at hc;cases hc
  exact⟨new,fz,setRow_heap w b cur new ty fz h,hs⟩)
theorem VR0.write(h:HpInv w0 U A E G hp w){id:Nat}{k k':Blk}{b:Nat}{N':Nat->Nat->Prop}(hk:hp id=some k)(hl:AQ k=true)(hm:E.m id=some b)(hf:Fr (fun x=>x=b) w w')
  (hkind:k'.kind=k.kind) (hsize:k'.size=k.size) (hlen:k'.rows.length=k.rows.length) (hGG:∀x,G x->G' x) (x:V) (y:Value) (hv:VR0 w E hp G x y):VR0 w' ⟨E.m,N'⟩ (upd hp id (some k')) G' x y:=by
 have hob:Own E hp b:=⟨id,k,hk,hl,.inl hm⟩;have hGb:∀x,G x->x<w.heap.size/\¬x=b:=fun x hx=>⟨(h.g1 x hx).1,fun he=>h.g2 x hx (he▸hob)⟩
 have hsub:∀j kj,upd hp id (some k') j=some kj->∃kj',hp j=some kj'/\kj.kind=kj'.kind/\kj.size=kj'.size/\kj.rows.length=kj'.rows.length:=by
  intro j kj hj;by_cases hji:j=id
  ·subst hji;simp only[upd,if_true,zb]at hj;subst hj;exact⟨k,hk,hkind,hsize,hlen⟩
  ·simp only[upd,zi hji]at hj;exact⟨kj,hj,rfl,rfl,rfl⟩
 cases x with
 |ar j lo n=>
  obtain⟨a,cap,hy,hr⟩:=hv;refine⟨a,cap,hy,fun kj hj=> ?_⟩
  obtain⟨kj',h1,h2,h3,h4⟩:=hsub j kj hj;obtain⟨r1,r2,r3⟩:=hr kj' h1;refine⟨by rw[h2];exact r1,by rw[h4];exact r2,r3.imp (fun h=>h) ?_⟩
  rintro⟨b',cur,ty,fz,q1,q2,q3,q4,q5⟩;obtain⟨cur',fz',q6,q7⟩:=hf.shape b' cur ty fz q4;exact⟨b',cur',ty,fz',q1,by rw[h3];exact q2,q3,q6,by rw[h3,q7];exact q5⟩
 |rf j r c=>
  obtain⟨b',o,hy,hr⟩:=hv;refine⟨b',o,hy,fun kj hj=> ?_⟩
  obtain⟨kj',h1,h2,h3,h4⟩:=hsub j kj hj;obtain⟨r2,r3⟩:=hr kj' h1;exact⟨r2,by rw[h3];exact r3⟩
 |ir row c=>
  obtain⟨b',off,f,hg,hy,hc⟩:=hv;refine⟨b',off,f,hGG b' hg,hy,fun j x hx=> ?_⟩
  obtain⟨h1,h2⟩:=hc j x hx;exact⟨by rw[LT (hf.block b' (hGb b' hg).1 (hGb b' hg).2)];exact h1,h2.same (hf.same hGb) hGG⟩
 |v a=>exact Rep.same hv (hf.same hGb) hGG
 |em=>exact Rep.same hv (hf.same hGb) hGG
 |er e=>exact Rep.same hv (hf.same hGb) hGG
 |im rows=>exact Rep.same hv (hf.same hGb) hGG
 |any=>exact trivial
 |agg cs=>exact hv.elim
 |tup vs=>exact hv.elim
 |cl f caps=>cases caps<;>exact hv
theorem HpInv.write(h:HpInv w0 U A E G hp w){id:Nat}{k k':Blk}{b:Nat}(hk:hp id=some k)(hl:AQ k=true)(hm:E.m id=some b)(hf:Fr (fun x=>x=b) w w')
  (hkind:k'.kind=k.kind) (hsize:k'.size=k.size) (hlen:k'.rows.length=k.rows.length) (S:Nat->Prop)
  (hGG:∀x,G x->G' x) (hG':∀x,G' x->G x\/((E.N id x\/KF w0 U E hp G w x)/\¬S x/\x≠b)) (hGS:∀x,G x->¬S x)
  (hS:∀x,S x->(E.N id x\/KF w0 U E hp G w x)/\x≠b)
  (hb:AU w' ⟨E.m,upd E.N id S⟩ (upd hp id (some k')) G' id k'):
  HpInv w0 U A ⟨E.m,upd E.N id S⟩ G' (upd hp id (some k')) w'/\Ext B E G hp w ⟨E.m,upd E.N id S⟩ G' (upd hp id (some k')) w':=by
 have hl':AQ k'=true:=by unfold AQ at hl⊢;rw[hkind];exact hl
 have hob:Own E hp b:=⟨id,k,hk,hl,.inl hm⟩;have hGb:∀x,G x->x<w.heap.size/\¬x=b:=fun x hx=>⟨(h.g1 x hx).1,fun he=>h.g2 x hx (he▸hob)⟩
 have hv:∀x y,VR0 w E hp G x y->VR0 w' ⟨E.m,upd E.N id S⟩ (upd hp id (some k')) G' x y:=VR0.write h hk hl hm hf hkind hsize hlen hGG;have hob':∀j x,Di ⟨E.m,upd E.N id S⟩ j x->(j≠id/\Di E j x)\/(j=id/\(x=b\/S x)):=by
  intro j x ho;by_cases hji:j=id
  ·subst hji
   right
   refine⟨rfl,?_⟩
   rcases ho with ho|ho
   ·left
    have:E.m j=some x:=ho;rw[hm]at this;exact(zy this).symm
   ·right;simpa only[upd,if_true]using ho
  ·left
   refine⟨hji,?_⟩
   rcases ho with ho|ho
   ·exact .inl ho
   ·right;simpa only[upd,zi hji]using ho
 have hNb:∀x,E.N id x->x<w.heap.size/\(U x\/w0.heap.size<=x):=fun x hx=>h.o1 x ⟨id,k,hk,hl,.inr hx⟩
 have hother:∀j kj,upd hp id (some k') j=some kj->j≠id->hp j=some kj:=by
  intro j kj hj hji;simpa only[upd,zi hji]using hj
 refine⟨⟨h.fr.then hf (fun x hx=>by subst hx;exact(h.o1 _ hob).2),?_,?_,?_,?_,?_,?_⟩,⟨fun x y _ hx=>hv x y hx⟩⟩
 ·intro x hx;rcases hG' x hx with hg|⟨hn|hn,_⟩
  ·have:=h.g1 x hg;exact⟨zd8 this.1 hf.size,this.2⟩
  ·exact⟨zd8 (hNb x hn).1 hf.size,.inr (hNb x hn).2⟩
  ·exact⟨zd8 hn.1 hf.size,.inr hn.2.2.2⟩
 ·rintro x hx ⟨j,kj,hj,hlj,ho⟩;rcases hob' j x ho with⟨hji,ho⟩|⟨hji,ho⟩
  ·have hjx:=hother j kj hj hji;rcases hG' x hx with hg|⟨hn|hn,_⟩
   ·exact h.g2 x hg ⟨j,kj,hjx,hlj,ho⟩
   ·exact hji (h.dis j kj id k hjx hlj hk hl x ho (.inr hn))
   ·exact hn.2.2.1 ⟨j,kj,hjx,hlj,ho⟩
  ·rcases hG' x hx with hg|⟨_,hns,hnb⟩
   ·rcases ho with ho|ho
    ·exact(hGb x hg).2 ho
    ·exact hGS x hg ho
   ·exact ho.elim hnb hns
 ·rintro x ⟨j,kj,hj,hlj,ho⟩;rcases hob' j x ho with⟨hji,ho⟩|⟨hji,ho⟩
  ·have:=h.o1 x ⟨j,kj,hother j kj hj hji,hlj,ho⟩;exact⟨zd8 this.1 hf.size,this.2⟩
  ·rcases ho with ho|ho
   ·subst ho;have:=h.o1 _ hob;exact⟨zd8 this.1 hf.size,this.2⟩
   ·rcases(hS x ho).1 with hn|hn
    ·exact⟨zd8 (hNb x hn).1 hf.size,(hNb x hn).2⟩
    ·exact⟨zd8 hn.1 hf.size,hn.2.2.2⟩
 ·have hone:∀j kj x,hp j=some kj->AQ kj=true->j≠id->Di E j x->¬(x=b\/S x):=by
   intro j kj x hj hlj hji ho hx;rcases hx with hx|hx
   ·subst hx;exact hji (h.dis j kj id k hj hlj hk hl _ ho (.inl hm))
   ·rcases(hS x hx).1 with hn|hn
    ·exact hji (h.dis j kj id k hj hlj hk hl x ho (.inr hn))
    ·exact hn.2.2.1 ⟨j,kj,hj,hlj,ho⟩
  intro j kj j' kj' hj hlj hj' hlj' x ho ho';rcases hob' j x ho with⟨hji,ho⟩|⟨hji,ho⟩
  ·rcases hob' j' x ho' with⟨hji',ho'⟩|⟨hji',ho'⟩
   ·exact h.dis j kj j' kj' (hother j kj hj hji) hlj (hother j' kj' hj' hji') hlj' x ho ho'
   ·exact absurd ho' (hone j kj x (hother j kj hj hji) hlj hji ho)
  ·rcases hob' j' x ho' with⟨hji',ho'⟩|⟨hji',ho'⟩
   ·exact absurd ho (hone j' kj' x (hother j' kj' hj' hji') hlj' hji' ho')
   ·rw[hji,hji']
 ·intro j kj x hj hlj hmj hnj;by_cases hji:j=id
  ·subst hji;simp only[upd,if_true]at hnj;have:E.m j=some x:=hmj;rw[hm]at this;exact(hS x hnj).2 (zy this).symm
  ·simp only[upd,zi hji]at hnj;exact h.self j kj x (hother j kj hj hji) hlj hmj hnj
 ·intro j kj hj;by_cases hji:j=id
  ·subst hji;simp only[upd,if_true,zb]at hj;subst hj;exact hb
  ·have hjx:=hother j kj hj hji;have hbj:=h.blk j kj hjx;have hmb:∀x,E.m j=some x->x≠b:=by
    intro x hx he;subst he;cases hlk:kj.kind with
    |frz=>
     unfold AU at hbj;simp only[hlk]at hbj;rcases hbj with⟨_,h2⟩|⟨b',_,_,_,h1,h1',_⟩
     ·rw[hx]at h2;cases h2
     ·rw[hx]at h1;cases h1;exact(hGb _ h1').2 rfl
    |_=>exact hji (h.dis j kj id k hjx (by simp[AQ,hlk]) hk hl x (.inl hx) (.inl hm))
   unfold AU at hbj⊢
   cases hlk:kj.kind with
   |box=>
    simp only[hlk]at hbj⊢
    obtain⟨b',row,cur,h1,h2,h3,h4,h5,h6⟩:=hbj;exact⟨b',row,cur,h1,hf.at (hmb b' h1) h2,h3,h4,h5,h6.mono fun x _ y hxy=>⟨hv x y hxy.1,hxy.2⟩⟩
   |arr=>
    simp only[hlk]at hbj⊢
    rcases hbj with⟨h1,h2⟩|⟨b',cur,cap,h1,h2,h3,h4,h5,h6,h7,h8⟩
    ·exact .inl ⟨h1,h2⟩
    ·refine .inr ⟨b',cur,cap,h1,hf.at (hmb b' h1) h2,h3,h4,h5,h6,h7,fun i q row x hi hq=> ?_⟩
     obtain⟨u,hu,hr⟩:=h8 i q row x hi hq;refine⟨u,hu,?_⟩
     cases hd:kj.deep with
     |true=>
      simp only[hd,if_true,upd,zi hji]at hr⊢
      exact hr.same (hf.same fun x hx=>⟨(h.o1 x ⟨j,kj,hjx,by simp[AQ,hlk],.inr hx⟩).1,fun he=>by
       subst he;exact hji (h.dis j kj id k hjx (by simp[AQ,hlk]) hk hl _ (.inr hx) (.inl hm))⟩) (fun _ h=>h)
     |false=>
      simp only[hd,zb8,if_false]at hr⊢
      exact hr.same (hf.same hGb) hGG
   |frz=>
    simp only[hlk]at hbj⊢
    rcases hbj with⟨h1,h2⟩|⟨b',cur,cap,fz,h1,h1',h2,h3,h4,h5,h6,h7,h8⟩
    ·exact .inl ⟨h1,h2⟩
    ·refine .inr ⟨b',cur,cap,fz,h1,hGG b' h1',hf.at (hmb b' h1) h2,h3,h4,h5,h6,h7,fun i q row x hi hq=> ?_⟩
     obtain⟨u,hu,hr⟩:=h8 i q row x hi hq;exact⟨u,hu,hr.same (hf.same hGb) hGG⟩
end
section
open Go
variable {P:Program} {w w' w0:World} {E E':Env} {hp hp':Hp} {G G' U A W:Nat->Prop} {B:Nat->Prop} {ρ:Operand->V} {ρr:Operand->Value}
theorem HpInv.freeze1(h:HpInv w0 U A E G hp w){id:Nat}{k:Blk}(hk:hp id=some k)(hkind:k.kind=.arr):
  HpInv w0 U A E (fun x=>G x\/Di E id x) (upd hp id (some {k with kind:=.frz})) w/\Ext B E G hp w E (fun x=>G x\/Di E id x) (upd hp id (some {k with kind:=.frz})) w:=by
 have hl:AQ k=true:=by simp[AQ,hkind]
 have hsub:∀j kj,upd hp id (some {k with kind:=.frz}) j=some kj->∃kj',hp j=some kj'/\(kj.kind=.box->kj'.kind=.box)/\(kj'.kind=.box->kj.kind=.box)/\kj.size=kj'.size/\kj.rows=kj'.rows:=by
  intro j kj hj;by_cases hji:j=id
  ·subst hji;simp only[upd,if_true,zb]at hj;subst hj;exact⟨k,hk,by simp,by simp[hkind],rfl,rfl⟩
  ·simp only[upd,zi hji]at hj;exact⟨kj,hj,fun h=>h,fun h=>h,rfl,rfl⟩
 have hv:∀x y,VR0 w E hp G x y->VR0 w E (upd hp id (some {k with kind:=.frz})) (fun x=>G x\/Di E id x) x y:=by
  intro x y hv;cases x with
  |ar j lo n=>
   obtain⟨a,cap,hy,hr⟩:=hv;refine⟨a,cap,hy,fun kj hj=> ?_⟩
   obtain⟨kj',h1,h2,h2',h3,h4⟩:=hsub j kj hj;obtain⟨r1,r2,r3⟩:=hr kj' h1;exact⟨fun hh=>r1 (h2 hh),by rw[h4];exact r2,by rw[h3];exact r3⟩
  |rf j r c=>
   obtain⟨b',o,hy,hr⟩:=hv;refine⟨b',o,hy,fun kj hj=> ?_⟩
   obtain⟨kj',h1,h2,h2',h3,h4⟩:=hsub j kj hj;obtain⟨r2,r3⟩:=hr kj' h1;exact⟨r2,by rw[h3];exact r3⟩
  |ir row c=>
   obtain⟨b',off,f,hg,hy,hc⟩:=hv;exact⟨b',off,f,.inl hg,hy,fun j x hx=>⟨(hc j x hx).1,(hc j x hx).2.mono fun _ h=>.inl h⟩⟩
  |v a=>exact Rep.mono hv fun _ h=>.inl h
  |em=>exact Rep.mono hv fun _ h=>.inl h
  |er e=>exact Rep.mono hv fun _ h=>.inl h
  |im rows=>exact Rep.mono hv fun _ h=>.inl h
  |any=>exact trivial
  |agg cs=>exact hv.elim
  |tup vs=>exact hv.elim
  |cl f caps=>cases caps<;>exact hv
 have hother:∀j kj,upd hp id (some {k with kind:=.frz}) j=some kj->AQ kj=true->j≠id/\hp j=some kj:=by
  intro j kj hj hlj;by_cases hji:j=id
  ·subst hji;simp only[upd,if_true,zb]at hj;subst hj;simp[AQ]at hlj
  ·exact⟨hji,by simpa only[upd,zi hji]using hj⟩
 refine⟨⟨h.fr,?_,?_,?_,?_,?_,?_⟩,⟨fun x y _ hx=>hv x y hx⟩⟩
 ·intro x hx;rcases hx with hg|ho
  ·exact h.g1 x hg
  ·have:=h.o1 x ⟨id,k,hk,hl,ho⟩;exact⟨this.1,.inr this.2⟩
 ·rintro x hx ⟨j,kj,hj,hlj,ho⟩;obtain⟨h1,h2⟩:=hother j kj hj hlj;rcases hx with hg|hoi
  ·exact h.g2 x hg ⟨j,kj,h2,hlj,ho⟩
  ·exact h1 (h.dis j kj id k h2 hlj hk hl x ho hoi)
 ·rintro x ⟨j,kj,hj,hlj,ho⟩;exact h.o1 x ⟨j,kj,(hother j kj hj hlj).2,hlj,ho⟩
 ·intro j kj j' kj' hj hlj hj' hlj' x ho ho';exact h.dis j kj j' kj' (hother j kj hj hlj).2 hlj (hother j' kj' hj' hlj').2 hlj' x ho ho'
 ·intro j kj x hj hlj;exact h.self j kj x (hother j kj hj hlj).2 hlj
 ·intro j kj hj;by_cases hji:j=id
  ·subst hji;simp only[upd,if_true,zb]at hj;subst hj;have hb:=h.blk j k hk;unfold AU at hb⊢
   simp only[hkind]at hb⊢
   rcases hb with⟨h1,h2⟩|⟨b,cur,cap,h1,h2,h3,h4,h5,h6,h7,h8⟩
   ·exact .inl ⟨h1,h2⟩
   ·refine .inr ⟨b,cur,cap,(0,0),h1,.inr (.inl h1),h2,h3,h4,h5,h6,h7,fun i q row x hi hq=> ?_⟩
    obtain⟨u,hu,hr⟩:=h8 i q row x hi hq;refine⟨u,hu,?_⟩
    cases hd:k.deep with
    |true=>simp only[hd,if_true]at hr;exact hr.mono fun _ h=>.inr (.inr h)
    |false=>simp only[hd,zb8,if_false]at hr;exact hr.mono fun _ h=>.inl h
  ·have hjx:hp j=some kj:=by simpa only[upd,zi hji]using hj
   have hbj:=h.blk j kj hjx;unfold AU at hbj⊢
   cases hlk:kj.kind with
   |box=>
    simp only[hlk]at hbj⊢
    obtain⟨b',row,cur,h1,h2,h3,h4,h5,h6⟩:=hbj;exact⟨b',row,cur,h1,h2,h3,h4,h5,h6.mono fun x _ y hxy=>⟨hv x y hxy.1,hxy.2⟩⟩
   |arr=>
    simp only[hlk]at hbj⊢
    rcases hbj with h1|⟨b',cur,cap,h1,h2,h3,h4,h5,h6,h7,h8⟩
    ·exact .inl h1
    ·refine .inr ⟨b',cur,cap,h1,h2,h3,h4,h5,h6,h7,fun i q row x hi hq=> ?_⟩
     obtain⟨u,hu,hr⟩:=h8 i q row x hi hq;refine⟨u,hu,?_⟩
     cases hd:kj.deep with
     |true=>simp only[hd,if_true]at hr⊢;exact hr
     |false=>simp only[hd,zb8,if_false]at hr⊢;exact hr.mono fun _ h=>.inl h
   |frz=>
    simp only[hlk]at hbj⊢
    rcases hbj with h1|⟨b',cur,cap,fz,h1,h1',h2,h3,h4,h5,h6,h7,h8⟩
    ·exact .inl h1
    ·refine .inr ⟨b',cur,cap,fz,h1,.inl h1',h2,h3,h4,h5,h6,h7,fun i q row x hi hq=> ?_⟩
     obtain⟨u,hu,hr⟩:=h8 i q row x hi hq;exact⟨u,hu,hr.mono fun _ h=>.inl h⟩
theorem Od(id:Nat)(hp:Hp):upd hp id (hp id)=hp:=by
 funext j
 unfold upd
 split
 ·rename_i h;rw[h]
 ·rfl
def B8(E:Env)(hp:Hp)(l:List Nat)(x:Nat):Prop:=∃id∈l,∃k,hp id=some k/\AQ k=true/\Di E id x
theorem HpInv.freezeL:∀(l:List Nat){G:Nat->Prop}{hp:Hp},(h:HpInv w0 U A E G hp w)->
  ∃G',HpInv w0 U A E G' (freeze hp l) w/\Ext B E G hp w E G' (freeze hp l) w/\(∀x,G x->G' x)/\(∀id∈l,∀k,hp id=some k->k.kind≠ .box->∀x,Di E id x->AQ k=true->G' x)
 |[],G,hp,h=>⟨G,h,Ext.refl _ _ _ _ _,fun _ h=>h,fun id hid=>by simp at hid⟩
 |i::l,G,hp,h=>by
  simp only[freeze];have step:∃G1,HpInv w0 U A E G1 (upd hp i ((hp i).map fun k=>{k with kind:=match k.kind with|.arr=>.frz|x=>x})) w/\
    Ext B E G hp w E G1 (upd hp i ((hp i).map fun k=>{k with kind:=match k.kind with|.arr=>.frz|x=>x})) w/\(∀x,G x->G1 x)/\(∀k,hp i=some k->k.kind≠ .box->∀x,Di E i x->AQ k=true->G1 x):=by
   cases hk:hp i with
   |none=>
    refine⟨G,?_,?_,fun _ h=>h,fun k hk'=>by cases hk'⟩
    ·have:upd hp i (Option.map (fun k:Blk=>{k with kind:=match k.kind with|.arr=>.frz|x=>x}) none)=hp:=by
      have:=Od i hp;rw[hk]at this;exact this
     rw[this];exact h
    ·have:upd hp i (Option.map (fun k:Blk=>{k with kind:=match k.kind with|.arr=>.frz|x=>x}) none)=hp:=by
      have:=Od i hp;rw[hk]at this;exact this
     rw[this];exact Ext.refl _ _ _ _ _
   |some k=>
    cases hkk:k.kind with
    |arr=>
     obtain⟨h1,h2⟩:=h.freeze1 (B:=B) hk hkk;refine⟨fun x=>G x\/Di E i x,?_,?_,fun _ h=>.inl h,fun k' hk' _ x hx _=>.inr hx⟩
     ·simpa only[zd1,hkk]using h1
     ·simpa only[zd1,hkk]using h2
    |box=>
     have he:upd hp i ((some k).map fun k:Blk=>{k with kind:=match k.kind with|.arr=>.frz|x=>x})=hp:=by
      have:=Od i hp;rw[hk]at this;rw[<-this];simp only[zd1,hkk]
      congr 2
      cases k;simp_all
     rw[he];exact⟨G,h,Ext.refl _ _ _ _ _,fun _ h=>h,fun k' hk' hb=>by cases hk';exact absurd hkk hb⟩
    |frz=>
     have he:upd hp i ((some k).map fun k:Blk=>{k with kind:=match k.kind with|.arr=>.frz|x=>x})=hp:=by
      have:=Od i hp;rw[hk]at this;rw[<-this];simp only[zd1,hkk]
      congr 2
      cases k;simp_all
     rw[he];exact⟨G,h,Ext.refl _ _ _ _ _,fun _ h=>h,fun k' hk' _ x _ hlv=>by cases hk';simp[AQ,hkk]at hlv⟩
  obtain⟨G1,h1,h2,h3,h4⟩:=step;obtain⟨G2,g1,g2,g3,g4⟩:=HpInv.freezeL l h1;refine⟨G2,g1,h2.trans g2 (fun _ h=>h),fun x hx=>g3 x (h3 x hx),fun id hid k hk hb x hx hl=> ?_⟩
  by_cases hii:id=i
  ·subst hii;exact g3 x (h4 k hk hb x hx hl)
  ·rcases zc9.1 hid with h|h
   ·exact absurd h hii
   ·exact g4 id h k (by simpa only[upd,zi hii]using hk) hb x hx hl
theorem JE:∀(l:List Nat)(hp:Hp)(id:Nat)(k:Blk),kill hp l id=some k->hp id=some k/\id ∉ l
 |[],hp,id,k,h=>⟨h,by simp⟩
 |i::l,hp,id,k,h=>by
  simp only[kill]at h;obtain⟨h1,h2⟩:=JE l _ id k h;by_cases hii:id=i
  ·subst hii;simp[upd]at h1
  ·simp only[upd,zi hii]at h1;exact⟨h1,by simp[hii,h2]⟩
theorem Ia:∀(l:List Nat)(hp:Hp)(id:Nat),id ∉ l->kill hp l id=hp id
 |[],hp,id,_=>rfl
 |i::l,hp,id,h=>by
  simp only[zc9,not_or]at h;simp only[kill];rw[Ia l _ id h.2];simp only[upd,zi h.1]
theorem HpInv.dropL:∀(l:List Nat){hp:Hp},(h:HpInv w0 U A E G hp w)->HpInv w0 U A E G (kill hp l) w/\Ext B E G hp w E G (kill hp l) w
 |[],hp,h=>⟨h,Ext.refl _ _ _ _ _⟩
 |i::l,hp,h=>by
  simp only[kill];obtain⟨h1,h2⟩:=h.drop (B:=B) i;obtain⟨g1,g2⟩:=HpInv.dropL l h1;exact⟨g1,h2.trans g2 fun _ h=>h⟩
theorem HpInv.freedL(h:HpInv w0 U A E G hp w){l:List Nat}{x:Nat}(hx:B8 E hp l x):KF w0 U E (kill hp l) G w x:=by
 obtain⟨id,hid,k,hk,hl,ho⟩:=hx;have h1:Own E hp x:=⟨id,k,hk,hl,ho⟩;refine⟨(h.o1 x h1).1,fun hg=>h.g2 x hg h1,?_,(h.o1 x h1).2⟩
 rintro⟨j,kj,hj,hlj,hoj⟩;obtain⟨h2,h3⟩:=JE l hp j kj hj;have:=h.dis j kj id k h2 hlj hk hl x hoj ho;exact h3 (this▸hid)
theorem RD(hI:HpInv w0 U A E G hp w){id lo n:Nat}{k:Blk}{y:Value}(hy:VR0 w E hp G (.ar id lo n) y)(hk:hp id=some k){S:Nat->Prop}
  (hS:∀b,E.m id=some b->S b) (hS2:∀b,(if k.kind=.arr/\k.deep=true then E.N id b else G b)->S b):Rep w S (.im ((k.rows.take (lo+n)).drop lo)) y:=by
 obtain⟨a,cap,rfl,hcap,hle,hor⟩:=V7 (y:=y) hI hy hk;have hlen:((k.rows.take (lo+n)).drop lo).length=n:=by simp;omega
 rcases hor with h0|⟨b,cur,ty,fz,ha,hm,hh,hmax,hpos,hrows,hcells⟩
 ·subst h0;have:(k.rows.take (lo+0)).drop lo=[]:=by apply zb3;exact hlen
  rw[this];exact .im0 a cap
 ·subst ha;have hget:∀i row,((k.rows.take (lo+n)).drop lo)[i]? =some row->k.rows[lo+i]? =some row:=by
   intro i row hi;rw[zd2,zb6]at hi
   split at hi
   ·exact hi
   ·cases hi
  have hr:=Rep.im (w:=w) (G:=S) b (lo*k.size) cap k.size ((k.rows.take (lo+n)).drop lo) (fun i j=>(cur[(lo+i)*k.size+j]?).getD undef) (hS b hm) hpos (by rw[hlen];exact hcap) hmax
   (fun i row hi=>hrows _ row (hget i row hi))
   (fun i j row x hi hj=>by
    obtain⟨u,hu,_⟩:=hcells _ j row x (hget i row hi) hj;rw[LS hh];rw[show lo*k.size+i*k.size+j=(lo+i)*k.size+j by rw[zf2]];rw[hu];rfl)
   (fun i j row x hi hj=>by
    obtain⟨u,hu,hr⟩:=hcells _ j row x (hget i row hi) hj;simp only[hu,Option.getD_some];exact hr.mono fun b hb=>hS2 b (by
     by_cases hc:k.kind=.arr/\k.deep=true
     ·rw[zw hc]at hb⊢;exact hb
     ·rw[zi hc]at hb⊢;exact hb))
  rw[hlen]at hr;exact hr
theorem Tx(hI:HpInv w0 U A E G hp w){x y:V}{u:Value}{kills:List Nat}{deep:Bool}(h:AD hp x=some (y,kills,deep))(hv:VR0 w E hp G x u):
  Rep w (fun b=>(deep=false/\G b)\/B8 E hp kills b) y u/\∀i∈kills,∃k,hp i=some k/\k.kind=.arr/\i∈Ae x:=by
 unfold AD at h
 split at h
 ·cases h;exact⟨Rep.scalar rfl hv,fun i hi=>by simp at hi⟩
 ·cases h;exact⟨Rep.scalar rfl hv,fun i hi=>by simp at hi⟩
 ·cases h;exact⟨Rep.mono hv fun b hb=>.inl ⟨rfl,hb⟩,fun i hi=>by simp at hi⟩
 ·rename_i id lo n
  split at h
  ·rename_i k hk
   split at h
   ·rename_i hkk;cases h
    have hl:AQ k=true:=by simp[AQ,hkk]
    refine⟨RD hI hv hk (fun b hb=>.inr ⟨id,by simp,k,hk,hl,.inl hb⟩) (fun b hb=> ?_),fun i hi=> ?_⟩
    ·cases hd:k.deep with
     |true=>rw[zw ⟨hkk,hd⟩]at hb;exact .inr ⟨id,by simp,k,hk,hl,.inr hb⟩
     |false=>rw[zi (by simp[hd])]at hb;exact .inl ⟨rfl,hb⟩
    ·simp at hi;subst hi;exact⟨k,hk,hkk,by simp[Ae]⟩
   ·rename_i hkk;cases h
    refine⟨RD hI hv hk (fun b hb=> ?_) (fun b hb=> ?_),fun i hi=>by simp at hi⟩
    ·have:=hI.blk id k hk;unfold AU at this;simp only[hkk]at this;rcases this with⟨_,h2⟩|⟨b',_,_,_,h1,h1',_⟩
     ·rw[hb]at h2;cases h2
     ·rw[hb]at h1;cases h1;exact .inl ⟨rfl,h1'⟩
    ·rw[zi (by simp[hkk])]at hb;exact .inl ⟨rfl,hb⟩
   ·cases h
  ·cases h
 ·cases h
theorem HZ(hI:HpInv w0 U A E G hp w):∀{cs ys:List V}{us:List Value}{kills:List Nat}{deep:Bool},AN hp cs=some (ys,kills,deep)->VL (VR0 w E hp G) cs us->
  VL (Rep w (fun b=>(deep=false/\G b)\/B8 E hp kills b)) ys us/\∀i∈kills,∃k,hp i=some k/\k.kind=.arr/\∃c∈cs,i∈Ae c
 |[],ys,us,kills,deep,h,hl=>by
  simp only[AN,zb,Prod.mk.injEq]at h;obtain⟨rfl,rfl,rfl⟩:=h;cases us with
  |nil=>exact⟨trivial,fun i hi=>by simp at hi⟩
  |cons u us=>exact hl.elim
 |c::cs,ys,us,kills,deep,h,hl=>by
  simp only[AN]at h
  split at h
  ·rename_i y a d ys' as ds h1 h2;cases h
   cases us with
   |nil=>exact hl.elim
   |cons u us=>
    obtain⟨r1,r2⟩:=Tx hI h1 hl.1;obtain⟨q1,q2⟩:=HZ hI h2 hl.2;have hm:∀l,(∀i∈l,i∈a++as)->∀b,B8 E hp l b->B8 E hp (a++as) b:=fun l hl b ⟨id,h1,h2⟩=>⟨id,hl id h1,h2⟩
    refine⟨⟨r1.mono fun b hb=> ?_,q1.mono fun _ _ _ h=>h.mono fun b hb=> ?_⟩,fun i hi=> ?_⟩
    ·rcases hb with⟨hd,hg⟩|hh
     ·exact .inl ⟨by simp[hd],hg⟩
     ·exact .inr (hm a (fun i hi=>by simp[hi]) b hh)
    ·rcases hb with⟨hd,hg⟩|hh
     ·exact .inl ⟨by simp[hd],hg⟩
     ·exact .inr (hm as (fun i hi=>by simp[hi]) b hh)
    ·rcases zb5.1 hi with hi|hi
     ·obtain⟨k,k1,k2,k3⟩:=r2 i hi;exact⟨k,k1,k2,c,by simp,k3⟩
     ·obtain⟨k,k1,k2,c',k3,k4⟩:=q2 i hi;exact⟨k,k1,k2,c',by simp[k3],k4⟩
  ·cases h
end
section
open Go
variable {P:Program} {w w' w0:World} {E E':Env} {hp hp':Hp} {G G' U A W:Nat->Prop} {B:Nat->Prop} {ρ:Operand->V} {ρr:Operand->Value}
def CG(P:Program)(w0:World)(U A B:Nat->Prop)(E:Env)(G:Nat->Prop)(hp:Hp)(w:World)(o:Oper)(a:Act)(x:V)(hp':Hp):Prop:=
 ∀(next:Act->World->Prop)(Q:Exit->Act->World->Prop),
  (∀y w' E' G',HpInv w0 U A E' G' hp' w'->VR2 w' E' hp' G' x y->Ext B E G hp w E' G' hp' w'->next (a.put o.dst y) w')->o.wp P a w next Q
def Tp(B:Nat->Prop)(b:Nat)(id:Nat):Prop:=B id\/(b<=id/\id<b+16)
def GP(B:Nat->Prop)(b:Nat)(x:V)(hp':Hp):Prop:=(∀id∈Ah x,Tp B b id)/\Dz (Tp B b) hp'
theorem Dz.more(h:Dz B hp)(b:Nat):Dz (Tp B b) hp:=fun id k hk=>⟨.inl (h id k hk).1,fun j hj=>.inl ((h id k hk).2 j hj)⟩
theorem B9.steps{op:Op}{x:V}{o:Oper}{a:Act}(h:B9 P w0 U A B E G hp w op a.eval x hp')(ho:o.op=op):CG P w0 U A B E G hp w o a x hp':=by
 intro next Q hn;obtain⟨y,w',E',G',h1,h2,h3,h4⟩:=h o ho;unfold Oper.wp;rw[h1];exact hn y w' E' G' h2 h3 h4
theorem S4{o:Oper}{a:Act}{w':World}{E':Env}{G':Nat->Prop}(hr:(execOp a.eval o).run P w=.ok .skip w')(h:HpInv w0 U A E' G' hp' w')(he:Ext B E G hp w E' G' hp' w'):CG P w0 U A B E G hp w o a .any hp':=by
 intro next Q hn;unfold Oper.wp;rw[hr];exact hn undef w' E' G' h trivial he
theorem NX{t:TypeId}{d:TyD}{b o:Nat}{v:Value}{cur:Array Value}{ty:TypeId}(hd:AY P t=some d)(hv:v.cells.size=d.size)(hh:w.heap[b]? =some (.cells cur ty (0,0)))(hb:o+d.size<=cur.size)
  (h1:∀u∈v.cells.toList,u.oneCell'=true):
  (storeVar t ⟨b,o,none⟩ v).run P w=.ok () (w.setRow b (cur.toList.take o++v.cells.toList++cur.toList.drop (o+d.size)).toArray):=by
 unfold storeVar;simp only[Sem.run_bind,FW hd,Result.andThen_ok,hv,ne_eq,not_true_eq_false,if_false];have hst:=run_storeCells_at P b o ty v.cells.toList 0 cur w hh (by simp;omega) h1;simp only[Nat.add_zero,Array.length_toList]at hst;rw[hv]at hst;exact hst
theorem Qh{cs new r:List V}{off:Nat}(h:FT cs off new=some r):off+new.length<=cs.length/\r=cs.take off++new++cs.drop (off+new.length)/\r.length=cs.length:=by
 unfold FT at h
 split at h
 ·rename_i hle;have h:=zy h;subst h;refine⟨hle,rfl,by simp;omega⟩
 ·cases h
theorem V1{hp:Hp}{x y:V}{kills:List Nat}{deep:Bool}(h:AD hp x=some (y,kills,deep)):Ae y=[]:=by
 unfold AD at h
 split at h
 ·cases h;rfl
 ·cases h;rfl
 ·cases h;rfl
 ·split at h
  ·split at h<;>cases h<;>rfl
  ·cases h
 ·cases h
theorem Wj{α:Type}{l:List α}{r i:Nat}{x y:α}(h:(l.set r x)[i]? =some y):(i=r/\y=x)\/(i≠r/\l[i]? =some y):=by
 rw[List.getElem?_set]at h
 split at h
 ·rename_i hri
  split at h
  ·left;exact⟨hri.symm,(zy h).symm⟩
  ·cases h
 ·rename_i hri
  right;exact⟨fun e=>hri e.symm,h⟩
theorem P8{x:Nat}{l:List Nat}(h:Dc (x::l)=true):x ∉ l:=by
 simp only[Dc,za2,zf0,List.contains_eq_mem,decide_eq_false_iff_not]at h;exact h.1
theorem Ae4{x y:V}{kills:List Nat}{deep:Bool}(h:AD hp x=some (y,kills,deep)):Bk x=true:=by
 unfold AD at h
 split at h<;>first|rfl|cases h
theorem Mz:∀{cs ys:List V}{kills:List Nat}{deep:Bool},AN hp cs=some (ys,kills,deep)->cs.all Bk=true/\ys.length=cs.length/\∀y∈ys,Ae y=[]
 |[],ys,kills,deep,h=>by
  simp only[AN,zb,Prod.mk.injEq]at h;obtain⟨rfl,rfl,rfl⟩:=h;simp
 |c::cs,ys,kills,deep,h=>by
  simp only[AN]at h
  split at h
  ·rename_i y a d ys' as ds h1 h2;cases h
   obtain⟨g1,g2,g3⟩:=Mz h2;refine⟨by simp[Ae4 h1,g1],by simp[g2],fun z hz=> ?_⟩
   rcases zc9.1 hz with rfl|hz
   ·exact V1 h1
   ·exact g3 z hz
  ·cases h
theorem AD7{cur:Array Value}{r sz off n:Nat}{cells:List Value}(hn:cells.length=n)(hoff:off+n<=sz)(hle:r*sz+sz<=cur.size){i j:Nat}(hj:j<sz)(hi:i*sz+j<cur.size):
  ((cur.toList.take (r*sz+off)++cells++cur.toList.drop (r*sz+off+n)).toArray)[i*sz+j]? =
   if i=r/\off<=j/\j<off+n then cells[j-off]? else cur[i*sz+j]? :=by
 have hlen:(cur.toList.take (r*sz+off)).length=r*sz+off:=by simp;omega
 simp only[List.getElem?_toArray];rw[ze2,ze2];simp only[ze5,hlen,hn];by_cases hir:i=r
 ·subst hir;by_cases h1:j<off
  ·rw[zw (by omega),zw (by omega),zi (by omega)];rw[zb6,zw (by omega)];simp
  ·by_cases h2:j<off+n
   ·rw[zw (by omega),zi (by omega),zw ⟨rfl,by omega,h2⟩]
    congr 1;omega
   ·rw[zi (by omega),zi (by omega),zd2];have:i*sz+off+n+(i*sz+j-(i*sz+off+n))=i*sz+j:=by omega
    rw[this];simp
 ·rw[zi (show ¬(i=r/\off<=j/\j<off+n)from fun h=>hir h.1)];rcases Nat.lt_or_gt_of_ne hir with hlt|hgt
  ·have:i*sz+sz<=r*sz:=by have:=zd4 sz (show i+1<=r by omega);rwa[zf2,Nat.one_mul]at this
   rw[zw (by omega),zw (by omega),zb6,zw (by omega)];simp
  ·have:r*sz+sz<=i*sz:=by have:=zd4 sz (show r+1<=i by omega);rwa[zf2,Nat.one_mul]at this
   rw[zi (by omega),zd2];have:r*sz+off+n+(i*sz+j-(r*sz+off+n))=i*sz+j:=by omega
   rw[this];simp
theorem Ak5{t:TypeId}{ad x:Operand}{b:Nat}{o:Oper}{a:Act}{K:BP}(c:MCtx P w0 U A B E G hp w ρ a.eval b)(ho:o.op=.store t ad x){d:TyD}{id r cc:Nat}{k:Blk}{row row' cs:List V}{kills:List Nat}{deep:Bool}{bb off:Nat}
  (hd:AY P t=some d) (hx:ρ ad=.rf id r cc) (hk:hp id=some k) (hrow:k.rows[r]? =some row) (hlen:(flat (ρ x)).length=d.size) (hy:a.eval ad=.pointer (some ⟨bb,off,none⟩)) (hm:E.m id=some bb) (hoff:off=r*k.size+cc)
  (hkind:k.kind=.arr) (hclose:AN hp (flat (ρ x))=some (cs,kills,deep)) (hnd:Dc (id::kills)=true) (hput:FT row cc cs=some row')
  (h:K .any (upd (kill hp kills) id (some {k with rows:=k.rows.set r row',deep:=k.deep&&deep})) .E)
  (hrun:∀w1,(storeVar t ⟨bb,off,none⟩ (a.eval x)).run P w=.ok () w1->(execOp a.eval o).run P w=.ok .skip w1):
  ∃hp',K .any hp' .E/\CG P w0 U A B E G hp w o a .any hp'/\GP B b .any hp':=by
 obtain⟨hok,hcl,hnorefs⟩:=Mz hclose;have hcells:=H4 (c.rel x) hok;have hones:=VL.ones hok hcells;obtain⟨hrel,hkills⟩:=HZ c.inv hclose hcells;have hsz:(a.eval x).cells.size=d.size:=by have:=hcells.length;simp at this;omega
 have hlv:AQ k=true:=by simp[AQ,hkind]
 have hidk:id ∉ kills:=P8 hnd;obtain⟨i1,e1⟩:=c.inv.dropL (B:=B) kills;have hk1:kill hp kills id=some k:=by rw[Ia kills hp id hidk];exact hk
 have hblk:=c.inv.blk id k hk;unfold AU at hblk;simp only[hkind]at hblk;rcases hblk with⟨q1,q2⟩|⟨b',cur,cap,q1,q2,q3,q4,q5,q6,q7,q8⟩
 ·rw[q1]at hrow;simp at hrow
 rw[hm]at q1;cases q1
 have hrl:r<k.rows.length:=(za3.1 hrow).1;have hrowl:=q7 r row hrow;obtain⟨hp1,hp2,hp3⟩:=Qh hput;have hbig:r*k.size+k.size<=cur.size:=by
  have:=zd4 k.size (show r+1<=cap by omega);rw[q4];rwa[zf2,Nat.one_mul]at this
 have hst:=NX (P:=P) (o:=off) hd hsz q2 (by omega) hones;have hnl:(cur.toList.take off++(a.eval x).cells.toList++cur.toList.drop (off+d.size)).toArray.size=cur.size:=by simp;omega
 have hfr:=Fr.setRow q2 hnl
 let S:Nat->Prop:=fun y=>(k.deep&&deep)=true/\(E.N id y\/B8 E hp kills y)
 let G':Nat->Prop:=fun y=>G y\/((k.deep&&deep)=false/\(E.N id y\/B8 E hp kills y))
 have hfree:∀y,B8 E hp kills y->KF w0 U E (kill hp kills) G w y:=fun y hy=>c.inv.freedL hy
 have hNfacts:∀y,E.N id y->¬G y/\y≠bb:=fun y hy=>⟨fun hg=>c.inv.g2 y hg ⟨id,k,hk,hlv,.inr hy⟩,fun he=>c.inv.self id k bb hk hlv hm (he▸hy)⟩
 have hHfacts:∀y,B8 E hp kills y->¬G y/\y≠bb:=by
  rintro y ⟨j,hj,kj,hkj,hlj,hoj⟩;refine⟨fun hg=>c.inv.g2 y hg ⟨j,kj,hkj,hlj,hoj⟩,fun he=> ?_⟩
  subst he;have:=c.inv.dis j kj id k hkj hlj hk hlv y hoj (.inl hm);exact hidk (this▸hj)
 have hboth:∀y,(E.N id y\/B8 E hp kills y)->¬G y/\y≠bb:=fun y hy=>hy.elim (hNfacts y) (hHfacts y)
 have hE1:∀y,(E.N id y\/B8 E hp kills y)->E.N id y\/KF w0 U E (kill hp kills) G w y:=fun y hy=>hy.imp (fun h=>h) (hfree y)
 have hrlen:∀(i:Nat)(rw':List V),(k.rows.set r row')[i]? =some rw'->rw'.length=k.size:=by
  intro i rw' hi;rcases Wj hi with⟨_,rfl⟩|⟨_,hi⟩
  ·omega
  ·exact q7 i rw' hi
 obtain⟨g1,g2⟩:=i1.write (B:=B) (k':={k with rows:=k.rows.set r row',deep:=k.deep&&deep}) (G':=G') hk1 hlv hm hfr rfl rfl (by simp) S (fun _ h=>.inl h)
  (fun y hy=>hy.imp (fun h=>h) fun⟨h1,h2⟩=>⟨hE1 y h2,(fun hs:S y=>absurd hs.1 (by rw[h1];simp)),(hboth y h2).2⟩)
  (fun y hg hs=>(hboth y hs.2).1 hg)
  (fun y hs=>⟨hE1 y hs.2,(hboth y hs.2).2⟩) (by
  unfold AU;simp only[hkind];refine .inr ⟨bb,_,cap,hm,setRow_heap w bb cur _ _ _ q2,q3,by rw[hnl];exact q4,q5,by simpa using q6,hrlen,?_⟩
  intro i j rw' p hi hj;have hjs:j<k.size:=by rw[<-hrlen i rw' hi];exact(za3.1 hj).1
  have hil:i<k.rows.length:=by have:=(za3.1 hi).1;simpa using this
  have hic:i*k.size+j<cur.size:=by
   have:=zd4 k.size (show i+1<=cap by omega);rw[q4];rw[zf2,Nat.one_mul]at this;omega
  have hrp:=AD7 (cells:=(a.eval x).cells.toList) (n:=d.size) (by simpa using hsz) (by omega:cc+d.size<=k.size) hbig hjs hic;rw[<-hoff]at hrp;have hsameO:∀(S':Nat->Prop),(∀y,S' y->y<w.heap.size/\y≠bb)->Am4 S' w (w.setRow bb (cur.toList.take off++(a.eval x).cells.toList++cur.toList.drop (off+d.size)).toArray):=fun S' hS' y hy=>setRow_other w bb y _ (hS' y hy).2
  have hNlt:∀y,E.N id y->y<w.heap.size:=fun y hy=>(c.inv.o1 y ⟨id,k,hk,hlv,.inr hy⟩).1
  have hHlt:∀y,B8 E hp kills y->y<w.heap.size:=fun y hy=>(hfree y hy).1
  have hGlt:∀y,G y->y<w.heap.size/\y≠bb:=fun y hg=>⟨(c.inv.g1 y hg).1,fun he=>c.inv.g2 y hg (he▸⟨id,k,hk,hlv,.inl hm⟩)⟩
  have hfin:∀(S':Nat->Prop)(p:V)(u:Value),Rep w S' p u->(∀y,S' y->y<w.heap.size/\y≠bb)->(∀y,S' y->(if(k.deep&&deep)=true then S y else G' y))->
    Rep (w.setRow bb (cur.toList.take off++(a.eval x).cells.toList++cur.toList.drop (off+d.size)).toArray) (if(k.deep&&deep)=true then upd E.N id S id else G') p u:=by
   intro S' p u hr h1 h2;refine hr.same (hsameO S' h1) fun y hy=> ?_
   have:=h2 y hy;by_cases hdd:(k.deep&&deep)=true
   ·rw[zw hdd]at this⊢;simpa only[upd,if_true]using this
   ·rw[zi hdd]at this⊢;exact this
  rw[hrp];by_cases hcase:i=r/\cc<=j/\j<cc+d.size
  ·rw[zw hcase];obtain⟨rfl,hj1,hj2⟩:=hcase;rcases Wj hi with⟨_,rfl⟩|⟨hne,_⟩
   ·have hpc:cs[j-cc]? =some p:=by
     rw[hp2,ze2,ze2]at hj;simp only[ze5,zc7]at hj;rw[zw (by omega),zi (by omega)]at hj;rw[show j-cc=j-min cc row.length by omega];exact hj
    obtain⟨u,hu,hr⟩:=hrel.get _ _ hpc;refine⟨u,hu,hfin _ p u hr (fun y hy=> ?_) (fun y hy=> ?_)⟩
    ·rcases hy with⟨_,hg⟩|hh
     ·exact hGlt y hg
     ·exact⟨hHlt y hh,(hHfacts y hh).2⟩
    ·by_cases hdd:(k.deep&&deep)=true
     ·rw[zw hdd];simp only[za2]at hdd;rcases hy with⟨hf,_⟩|hh
      ·rw[hdd.2]at hf;cases hf
      ·exact⟨by simp[hdd],.inr hh⟩
     ·rw[zi hdd];rcases hy with⟨_,hg⟩|hh
      ·exact .inl hg
      ·exact .inr ⟨by simpa using hdd,.inr hh⟩
   ·exact absurd rfl hne
  ·rw[zi hcase];have hold:∃rw0,k.rows[i]? =some rw0/\rw0[j]? =some p:=by
    rcases Wj hi with⟨rfl,rfl⟩|⟨_,hi'⟩
    ·refine⟨row,hrow,?_⟩
     rw[hp2,ze2,ze2]at hj;simp only[ze5,zc7]at hj;by_cases h1:j<cc
     ·rw[zw (by omega),zw (by omega),zb6,zw h1]at hj;exact hj
     ·rw[zi (by omega),zd2]at hj;rw[<-hj];congr 1;omega
    ·exact⟨rw',hi',hj⟩
   obtain⟨rw0,ho1,ho2⟩:=hold;obtain⟨u,hu,hr⟩:=q8 i j rw0 p ho1 ho2;refine⟨u,hu,?_⟩
   cases hkd:k.deep with
   |true=>
    rw[hkd]at hr;simp only[if_true]at hr;have:=hfin _ p u hr (fun y hy=>⟨hNlt y hy,(hNfacts y hy).2⟩) (fun y hy=>by
     by_cases hdd:(k.deep&&deep)=true
     ·rw[zw hdd];exact⟨hdd,.inl hy⟩
     ·rw[zi hdd];exact .inr ⟨by simpa using hdd,.inl hy⟩)
    rw[hkd]at this;exact this
   |false=>
    rw[hkd]at hr;simp only[zb8,if_false]at hr;have:=hfin _ p u hr hGlt (fun y hy=>by rw[zi (by simp[hkd])];exact .inl hy);rw[hkd]at this;exact this)
 refine⟨_,h,S4 (hrun _ hst) g1 (e1.trans g2 fun _ h=>h),fun id hid=>by simp[Ah,Af,Ae]at hid,?_⟩
 intro j kj hj;by_cases hji:j=id
 ·subst hji;simp only[upd,if_true,zb]at hj;subst hj;exact⟨.inl (c.wf j k hk).1,fun q hq=>by simp[Ck,hkind]at hq⟩
 ·simp only[upd,zi hji]at hj;have hj':=(JE kills hp j kj hj).1;exact⟨.inl (c.wf j kj hj').1,fun q hq=>.inl ((c.wf j kj hj').2 q hq)⟩
theorem XT{t:TypeId}{ad x:Operand}{b:Nat}{o:Oper}{a:Act}{K:BP}(c:MCtx P w0 U A B E G hp w ρ a.eval b)(ho:o.op=.store t ad x)(h:B0 P t (ρ ad) (ρ x) hp K):
  ∃hp',K .any hp' .E/\CG P w0 U A B E G hp w o a .any hp'/\GP B b .any hp':=by
 unfold B0 at h
 split at h
 ·rename_i d id r cc hd hx
  split at h
  ·rename_i k hk
   split at h
   ·rename_i row hrow
    split at h
    ·rename_i hlen;have ha:=c.rel ad;rw[hx]at ha;obtain⟨bb,off,hy,hrel⟩:=ha;obtain⟨hm,hoff⟩:=hrel k hk;have hblk:=c.inv.blk id k hk;have hrun:∀w1,(storeVar t ⟨bb,off,none⟩ (a.eval x)).run P w=.ok () w1->(execOp a.eval o).run P w=.ok .skip w1:=by
      intro w1 h1;simp only[execOp,ho,Instr.storeAt,hy,Instr.sureAddr,Sem.run_bind,Sem.run_pure,Result.andThen_ok,h1]
     split at h
     ·rename_i hkind
      split at h
      ·rename_i hok
       split at h
       ·rename_i row' hput;refine⟨_,h,?_⟩
        obtain⟨hp1,hp2,hp3⟩:=Qh hput;have hcells:=H4 (c.rel x) hok;have hones:=VL.ones hok hcells;have hsz:(a.eval x).cells.size=d.size:=by have:=hcells.length;simp at this;omega
        unfold AU at hblk;simp only[hkind]at hblk;obtain⟨b',row0,cur,q1,q2,q3,q4,q5,q6⟩:=hblk;rw[hm]at q1;cases q1
        rw[q3]at hrow;cases r with
        |succ r=>simp at hrow
        |zero=>
         simp at hrow;subst hrow;simp only[Nat.zero_mul,ze6]at hoff;subst hoff;have hcl:cur.size=row0.length:=by have:=q6.length;simpa using this
         have hlv:AQ k=true:=by simp[AQ,hkind]
         have hst:=NX (P:=P) (o:=off) hd hsz q2 (by omega) hones;have hnl:(cur.toList.take off++(a.eval x).cells.toList++cur.toList.drop (off+d.size)).toArray.size=cur.size:=by simp;omega
         have hfr:=Fr.setRow q2 hnl;have hsame:k.rows.set 0 row'=[row']:=by rw[q3];rfl
         obtain⟨g1,g2⟩:=c.inv.write (B:=B) (k':={k with rows:=k.rows.set 0 row'}) (G':=G) hk (by simp[AQ,hkind]) hm hfr rfl rfl (by simp) (E.N id) (fun _ h=>h) (fun _ h=>.inl h)
          (fun y hg hs=>c.inv.g2 y hg ⟨id,k,hk,by simp[AQ,hkind],.inr hs⟩)
          (fun y hs=>⟨.inl hs,fun he=>c.inv.self id k bb hk (by simp[AQ,hkind]) hm (he▸hs)⟩) (by
          unfold AU;simp only[hkind];refine⟨bb,row',_,hm,setRow_heap w bb cur _ _ _ q2,hsame,by rw[q4,hp3],q5,?_⟩
          have hold:VL (fun x y=>VR0 w E hp G x y/\y.oneCell'=true) row' (cur.toList.take off++(a.eval x).cells.toList++cur.toList.drop (off+d.size)):=by
           rw[hp2];have hfl:(flat (ρ x)).length=d.size:=hlen;rw[hfl];refine((q6.take off).append ?_).append (q6.drop _)
           exact VL.of_get hcells.length fun j p q hp hq=>by
            obtain⟨q',hq',hr⟩:=hcells.get j p hp;rw[hq]at hq';cases hq';exact⟨hr,hones q (za5 hq)⟩
          simp only[List.toList_toArray];exact hold.mono fun p _ q hpq=>⟨VR0.write (k':={kind:=.box,ty:=k.ty,size:=k.size,deep:=k.deep,rows:=k.rows.set 0 row'}) c.inv hk hlv hm hfr hkind.symm rfl (by simp) (fun _ h=>h) p q hpq.1,hpq.2⟩)
         refine⟨S4 (hrun _ hst) g1 g2,fun id hid=>by simp[Ah,Af,Ae]at hid,?_⟩
         intro j kj hj;by_cases hji:j=id
         ·subst hji;simp only[upd,if_true,zb]at hj;subst hj;refine⟨.inl (c.wf j k hk).1,fun q hq=>.inl ?_⟩
          unfold Ck at hq;simp only[hkind,hsame]at hq;simp only[zb2,List.flatMap_nil,List.append_nil,zb0]at hq;obtain⟨p,hp',hq⟩:=hq;rw[hp2]at hp';rcases zb5.1 hp' with hp'|hp'
          ·rcases zb5.1 hp' with hp'|hp'
           ·exact(c.wf j k hk).2 q (JI hkind (by rw[q3];simp) (List.mem_of_mem_take hp') hq)
           ·exact c.ids x q (UZ hp' hq hok)
          ·exact(c.wf j k hk).2 q (JI hkind (by rw[q3];simp) (List.mem_of_mem_drop hp') hq)
         ·simp only[upd,zi hji]at hj;exact⟨.inl (c.wf j kj hj).1,fun q hq=>.inl ((c.wf j kj hj).2 q hq)⟩
       ·exact h.elim
      ·exact h.elim
     ·rename_i hkind
      split at h
      ·rename_i cs kills deep hclose
       split at h
       ·rename_i hnd
        split at h
        ·rename_i row' hput;exact Ak5 c ho hd hx hk hrow hlen hy hm hoff hkind hclose hnd hput h hrun
        ·exact h.elim
       ·exact h.elim
      ·exact h.elim
     ·exact h.elim
    ·exact h.elim
   ·exact h.elim
  ·exact h.elim
 ·exact h.elim
end
section
open Go
variable {P:Program} {w w' w0:World} {E E':Env} {hp hp':Hp} {G G' U A W F:Nat->Prop} {B:Nat->Prop} {ρ:Operand->V} {ρr:Operand->Value}
theorem Dz.kill(h:Dz B hp)(l:List Nat):Dz B (kill hp l):=fun id k hk=>h id k (JE l hp id k hk).1
theorem KF.grow{b:Nat}(h:KF w0 U E hp G w b)(hs:w.heap.size<=w'.heap.size):KF w0 U E hp G w' b:=⟨zd8 h.1 hs,h.2⟩
theorem MQ(hI:HpInv w0 U A E G hp w)(hw:Dz B hp){b:Nat}(hb:¬B b){kills:List Nat}(hf:Fr W w w')(hW:∀y,W y->¬G y/\¬Own E (kill hp kills) y/\(U y\/w0.heap.size<=y))
  {e:TypeId} {size:Nat} {deep:Bool} {rows:List (List V)} {mb:Option Nat} (hsz:0<size) (hrows:∀(i:Nat)(row:List V),rows[i]? =some row->row.length=size)
  (hmb:(mb=none/\rows=[])\/∃nb cur cap,mb=some nb/\w'.heap[nb]? =some (.cells cur e (0,0))/\(w.heap.size<=nb\/B8 E hp kills nb)/\¬F nb/\cur.size=cap*size/\cap<=maxLen/\rows.length<=cap/\
   ∀(i j:Nat)(row:List V)(x:V),rows[i]? =some row->row[j]? =some x->∃u,cur[i*size+j]? =some u/\Rep w F x u)
  (hF:∀y,F y->(deep=false/\G y)\/B8 E hp kills y) (hFW:∀y,F y->¬W y):
  ∃E' G',HpInv w0 U A E' G' (upd (kill hp kills) b (some (AG e size deep rows))) w'/\Ext B E G hp w E' G' (upd (kill hp kills) b (some (AG e size deep rows))) w'/\E'.m b=mb:=by
 obtain⟨i1,e1⟩:=hI.dropL (B:=B) kills;have hw1:=hw.kill kills;have hHlt:∀y,B8 E hp kills y->y<w.heap.size:=fun y hy=>(hI.freedL hy).1
 have hFlt:∀y,F y->y<w.heap.size:=fun y hy=>(hF y hy).elim (fun h=>(hI.g1 y h.2).1) (hHlt y)
 have hFsame:Am4 F w w':=fun y hy=>hf.block y (hFlt y hy) (hFW y hy)
 have hnbfree:∀nb,mb=some nb->KF w0 U E (kill hp kills) G w' nb/\¬F nb:=by
  intro nb hnb;rcases hmb with⟨h1,_⟩|⟨nb',cur,cap,h1,h2,h3,h4,_⟩
  ·rw[hnb]at h1;cases h1
  ·rw[hnb]at h1;cases h1;refine⟨?_,h4⟩
   rcases h3 with h3|h3
   ·exact i1.new_free hf h3 (ZR h2)
   ·exact(hI.freedL h3).grow hf.size
 have hHfree:∀y,B8 E hp kills y->KF w0 U E (kill hp kills) G w y:=fun y hy=>hI.freedL hy
 cases hd:deep with
 |true=>
  subst hd;have hFH:∀y,F y->B8 E hp kills y:=fun y hy=>(hF y hy).elim (fun h=>by cases h.1) (fun h=>h)
  obtain⟨g1,g2⟩:=i1.add hw1 hb hf (fun y hy=>⟨(hW y hy).1,(hW y hy).2.1⟩) (fun y hy=>(hW y hy).2.2) (AG e size true rows) mb F
   (fun nb hnb=>⟨(hnbfree nb hnb).1,(hnbfree nb hnb).2⟩) (fun y hy=>(hHfree y (hFH y hy)).grow hf.size) (by
   unfold AU AG;rcases hmb with⟨h1,h2⟩|⟨nb,cur,cap,h1,h2,h3,h4,h5,h6,h7,h8⟩
   ·exact .inl ⟨h2,by simp[upd,h1]⟩
   ·refine .inr ⟨nb,cur,cap,by simp[upd,h1],h2,hsz,h5,h6,h7,hrows,fun i j row x hi hj=> ?_⟩
    obtain⟨u,hu,hr⟩:=h8 i j row x hi hj;refine⟨u,hu,hr.same hFsame fun y hy=> ?_⟩
    simpa only[if_true,upd]using hy)
  exact⟨_,_,g1,e1.trans g2 fun _ h=>h,by simp[upd]⟩
 |false=>
  subst hd;obtain⟨i2,e2⟩:=i1.grow (B:=B) (G':=fun y=>G y\/F y) (Fr.refl (fun _=>False) w) GJ.none (fun _ h=>h.elim) (fun y hy=>.inl hy) (fun y hy=>by
   rcases hy with hg|hy
   ·exact .inl hg
   ·rcases hF y hy with h|h
    ·exact .inl h.2
    ·exact .inr (hHfree y h))
  obtain⟨g1,g2⟩:=i2.add hw1 hb hf (fun y hy=>⟨fun hg=>hg.elim (hW y hy).1 (fun h=>hFW y h hy),(hW y hy).2.1⟩) (fun y hy=>(hW y hy).2.2) (AG e size false rows) mb (fun _=>False)
   (fun nb hnb=>by
    obtain⟨⟨f1,f2,f3,f4⟩,f5⟩:=hnbfree nb hnb;exact⟨⟨f1,fun hg=>hg.elim f2 f5,f3,f4⟩,fun h=>h⟩) (fun y hy=>hy.elim) (by
   unfold AU AG;rcases hmb with⟨h1,h2⟩|⟨nb,cur,cap,h1,h2,h3,h4,h5,h6,h7,h8⟩
   ·exact .inl ⟨h2,by simp[upd,h1]⟩
   ·refine .inr ⟨nb,cur,cap,by simp[upd,h1],h2,hsz,h5,h6,h7,hrows,fun i j row x hi hj=> ?_⟩
    obtain⟨u,hu,hr⟩:=h8 i j row x hi hj;exact⟨u,hu,hr.same hFsame fun y hy=>.inr hy⟩)
  exact⟨_,_,g1,(e1.trans e2 fun _ h=>h).trans g2 fun _ h=>h,by simp[upd]⟩
theorem OA(hI:HpInv w0 U A E G hp w)(hρ:∀x,VR2 w E hp G (ρ x) (ρr x)){size:Nat}(hs:0<size):∀(parts:List (Nat×Operand))(n:Nat)(rows:List (List V))(kills:List Nat)(deep:Bool)(u:Array Value),
  AW hp ρ size n parts=some (rows,kills,deep)->u.size=(n+parts.length)*size->
  rows.length=parts.length/\(∀(i:Nat)(row:List V),rows[i]? =some row->row.length=size)/\
  ∃u',Instr.fill (fun i=>some (i*size,size)) u (parts.map fun p=>(p.1,ρr p.2))=some u'/\u'.size=u.size/\(∀q,q<n*size->u'[q]? =u[q]?)/\
   ∀(i j:Nat)(row:List V)(x:V),rows[i]? =some row->row[j]? =some x->∃v,u'[(n+i)*size+j]? =some v/\Rep w (fun y=>(deep=false/\G y)\/B8 E hp kills y) x v
 |[],n,rows,kills,deep,u,h,hu=>by
  simp only[AW,zb,Prod.mk.injEq]at h;obtain⟨rfl,rfl,rfl⟩:=h;exact⟨rfl,fun i row h=>by simp at h,u,rfl,rfl,fun _ _=>rfl,fun i j row x h=>by simp at h⟩
 |(k,x)::l,n,rows,kills,deep,u,h,hu=>by
  simp only[AW]at h
  split at h
  ·rename_i hc;obtain⟨hkn,hlen⟩:=hc;subst hkn
   split at h
   ·rename_i row a d rows' as ds h1 h2;cases h
    obtain⟨hok,hcl,_⟩:=Mz h1;have hcells:=H4 (hρ x) hok;obtain⟨hrel,_⟩:=HZ hI h1 hcells;have hsz:(ρr x).cells.size=size:=by have:=hcells.length;simp at this;omega
    simp only[zc6]at hu;have hbig:k*size+size<=u.size:=by
     have:=zd4 size (show k+1<=k+(l.length+1) by omega);rw[hu];rwa[zf2,Nat.one_mul]at this
    have hset:=OD (ρr x).cells.toList 0 (k*size) u (by simp;omega);have hset':((ρr x).cells.zipIdx.foldl (fun cs (p:Value×Nat)=>cs.setIfInBounds (k*size+p.2) p.1) u).toList=u.toList.take (k*size)++(ρr x).cells.toList++u.toList.drop (k*size+size):=by
     rw[<-Array.foldl_toList];simp only[Array.toList_zipIdx,Nat.add_zero,Array.length_toList]at hset⊢
     rw[hset,hsz]
    generalize hu1:(ρr x).cells.zipIdx.foldl (fun cs (p:Value×Nat)=>cs.setIfInBounds (k*size+p.2) p.1) u=u1 at hset';have hu1s:u1.size=u.size:=by
     have:=congrArg List.length hset';simp at this;omega
    obtain⟨r1,r2,u',r3,r4,r5,r6⟩:=OA hI hρ hs l (k+1) rows' as ds u1 h2 (by rw[hu1s,hu];congr 1;omega);refine⟨by simp[r1],?_,u',?_,r4.trans hu1s,?_,?_⟩
    ·intro i rw' hi;cases i with
     |zero=>simp at hi;subst hi;omega
     |succ i=>exact r2 i rw' (by simpa using hi)
    ·simp only[zc2,Instr.fill];rw[zi (by simp only[hsz,ne_eq,not_true_eq_false,decide_false,Bool.false_or,decide_eq_true_eq];omega)];rw[hu1];exact r3
    ·intro q hq;have hq':q<(k+1)*size:=by rw[zf2];omega
     rw[r5 q hq'];have:u1.toList[q]? =u.toList[q]? :=by
      rw[hset',ze2,ze2];simp only[ze5,zc7,Array.length_toList];rw[zw (by omega),zw (by omega),zb6,zw hq]
     simpa using this
    ·intro i j rw' p hi hj;have hm:∀l',(∀q∈l',q∈a++as)->∀y,B8 E hp l' y->B8 E hp (a++as) y:=fun l' hl' y ⟨id,e1,e2⟩=>⟨id,hl' id e1,e2⟩
     cases i with
     |zero=>
      simp at hi;subst hi;obtain⟨v,hv,hr⟩:=hrel.get j p hj;have hjs:j<size:=by
       have:=(za3.1 hj).1;omega
      refine⟨v,?_,hr.mono fun y hy=> ?_⟩
      ·rw[Nat.add_zero,r5 _ (by rw[zf2];omega)];have:u1.toList[k*size+j]? =some v:=by
        rw[hset',ze2,ze2];simp only[ze5,zc7,Array.length_toList];rw[zw (by omega),zi (by omega)];rw[show k*size+j-min (k*size) u.size=j by omega];exact hv
       simpa using this
      ·rcases hy with⟨hd,hg⟩|hh
       ·exact .inl ⟨by simp[hd],hg⟩
       ·exact .inr (hm a (fun q hq=>by simp[hq]) y hh)
     |succ i=>
      obtain⟨v,hv,hr⟩:=r6 i j rw' p (by simpa using hi) hj;refine⟨v,by rw[show k+(i+1)=k+1+i by omega];exact hv,hr.mono fun y hy=> ?_⟩
      rcases hy with⟨hd,hg⟩|hh
      ·exact .inl ⟨by simp[hd],hg⟩
      ·exact .inr (hm as (fun q hq=>by simp[hq]) y hh)
   ·cases h
  ·cases h
theorem O9{b e n size:Nat}{deep:Bool}{rows:List (List V)}{kills:List Nat}{lo:Nat}(hw:Dz B hp):GP B b (.ar b lo n) (upd (kill hp kills) b (some (AG e size deep rows))):=by
 refine⟨fun id hid=> ?_,fun j kj hj=> ?_⟩
 ·simp[Ah,Af,Ae]at hid;subst hid;exact .inr ⟨za8 _,by omega⟩
 ·by_cases hji:j=b
  ·subst hji;simp only[upd,if_true,zb]at hj;subst hj;exact⟨.inr ⟨za8 _,by omega⟩,fun q hq=>by simp[Ck,AG]at hq⟩
  ·simp only[upd,zi hji]at hj;exact⟨.inl ((hw.kill kills) j kj hj).1,fun q hq=>.inl (((hw.kill kills) j kj hj).2 q hq)⟩
theorem Aa{α:Type}{x:Option α}{F:α->Prop}(h:Bl x F):∃y,x=some y/\F y:=by
 cases x with
 |none=>exact h.elim
 |some y=>exact⟨y,rfl,h⟩
theorem WS{t:TypeId}{len:Nat}{parts:Array (Nat×Operand)}{b:Nat}{o:Oper}{a:Act}{K:BP}(c:MCtx P w0 U A B E G hp w ρ a.eval b)(ho:o.op=.buildSlice t len parts)(h:Ap P t len parts.toList ρ hp b K):
  ∃x hp' cls,K x hp' cls/\CG P w0 U A B E G hp w o a x hp'/\GP B b x hp':=by
 unfold Ap at h;obtain⟨e,he,h⟩:=Aa h;obtain⟨d,hd,h⟩:=Aa h;cases len with
 |zero=>
  obtain⟨hp0,hK⟩:=h;obtain⟨g1,g2⟩:=c.inv.grow (B:=B) (G':=G) (Fr0.alloc w (.cells #[] e)) GJ.none (fun _ h=>h.elim) (fun _ h=>h) (fun _ h=>.inl h);refine⟨_,_,_,hK,?_,fun id hid=>by simp[Ah,Af,Ae]at hid,c.wf.more b⟩
  have hpa:parts= #[]:=by apply Array.ext';simpa using hp0
  refine B9.steps (HJ ⟨_,fun o ho=>by simp only[execOp,ho]<;>rfl,.slice (some ⟨w.heap.size,0,none⟩) 0 0,_,E,G,?_,g1,Rep.em _,g2⟩) ho
  subst hpa;unfold Instr.buildSlice;simp only[Sem.run_bind,run_underlying (Bn he),Result.andThen_ok,FW hd,Nat.zero_mul,if_true];rw[zi (by omega)];have hr0:∀z:Array Value,(Array.range 0).map (fun x=>z[x%z.size]!)= #[]:=fun z=>by simp[Array.range]
  simp only[Sem.run_bind,Sem.run_pure,Result.andThen_ok,List.map_toArray,List.map_nil,hr0,Instr.fill];rfl
 |succ len=>
  obtain⟨⟨rows,kills,deep⟩,hz,hlen,hbig,hnd,hK⟩:=Aa h;simp only at hlen hnd hK;have hpos:=Ip hd;obtain⟨z,hzr,hzl,hzs⟩:=Tl (w:=w) (E:=E) (hp:=hp) (G:=G) hd;obtain⟨r1,r2,u',r3,r4,r5,r6⟩:=OA c.inv c.rel hpos parts.toList 0 rows kills deep ((Array.range ((len+1)*d.size)).map fun i=>z.cells[i%z.cells.size]!) hz (by
   simp only[Array.size_map,Array.size_range,ze6];have:parts.toList.length=rows.length:=by
    have:=(OA c.inv c.rel hpos parts.toList 0 rows kills deep ((Array.range (parts.toList.length*d.size)).map fun i=>z.cells[i%z.cells.size]!) hz (by simp)).1;exact this.symm
   rw[this,hlen])
  have hus:u'.size=(len+1)*d.size:=by rw[r4];simp
  have hfr:=Fr0.alloc w (.cells u' e);obtain⟨E',G',g1,g2,g3⟩:=MQ (F:=fun y=>(deep=false/\G y)\/B8 E hp kills y) (mb:=some w.heap.size) (e:=e) (deep:=deep) c.inv c.wf (c.new 0 (by omega)) (kills:=kills) hfr (fun y h=>h.elim) hpos r2
   (.inr ⟨w.heap.size,u',len+1,rfl,HF w _,.inl (za8 _),fun hh=>by
    rcases hh with⟨_,hg⟩|hh
    ·have:=(c.inv.g1 _ hg).1;omega
    ·have:=(c.inv.freedL hh).1;omega,hus,by simp only[maxLen];have:=Nat.le_mul_of_pos_right (len+1) hpos;omega,by omega,fun i j row x hi hj=>by
    have:=r6 i j row x hi hj;simpa using this⟩) (fun y h=>h) (fun y _ h=>h)
  refine⟨_,_,_,hK,?_,O9 c.wf⟩
  refine B9.steps (HJ ⟨_,fun o ho=>by simp only[execOp,ho]<;>rfl,.slice (some ⟨w.heap.size,0,none⟩) (len+1) (len+1),_,E',G',?_,g1,?_,g2⟩) ho
  ·unfold Instr.buildSlice;simp only[Sem.run_bind,run_underlying (Bn he),Result.andThen_ok,FW hd];rw[zi (by omega)];have hne:¬(len+1)*d.size=0:=Nat.ne_of_gt (Nat.mul_pos (Nat.succ_pos len) hpos);simp only[Sem.run_bind,hne,if_false,hzr,Result.andThen_ok,Sem.run_pure];have hpm:(parts.map fun(x:Nat×Operand)=>match x with|(i,x)=>(i,a.eval x)).toList=parts.toList.map fun p=>(p.1,a.eval p.2):=by simp
   rw[hpm,r3];rfl
  ·refine⟨_,_,rfl,fun k hk=> ?_⟩
   simp only[upd,if_true,zb]at hk;subst hk;refine⟨by simp[AG],by simp[AG,hlen],.inr ⟨w.heap.size,u',_,_,g3,by simp,za8 _,HF w _,by simp[AG,hus]⟩⟩
end
section
open Go
variable {P:Program} {w w' w0:World} {E E':Env} {hp hp':Hp} {G G' U A W F S:Nat->Prop} {B:Nat->Prop} {ρ:Operand->V} {ρr:Operand->Value}
theorem Lw{t e:TypeId}{d:TyD}{a:Option Addr}{n cap l h:Nat}{lo hi:Option Operand}(hρ:∀x,VR2 w E hp G (ρ x) (ρr x))(he:(AY P t).bind (·.elem)=some e)(hd:AY P e=some d)
  (h1:bnd ρ lo 0=some l) (h2:bnd ρ hi n=some h) (hlh:l<=h) (hh:h<=cap):
  (Instr.sliceAt t (.slice a n cap) (lo.map ρr) (hi.map ρr) none).run P w=.ok (.slice (if cap=l then a else a.map (·.add (l*d.size))) (h-l) (cap-l)) w:=by
 unfold Instr.sliceAt;simp only[Sem.run_bind,run_underlying (Bn he),Result.andThen_ok];unfold Instr.slice;simp only[Sem.run_bind,run_underlying (Bn he),Result.andThen_ok];rw[ST hρ true h1 h2 hlh hh];simp only[Result.andThen_ok,Sem.run_bind,FW hd,Sem.run_pure]
theorem Nl(b o n:Nat):(⟨b,o,none⟩:Addr).add n=⟨b,o+n,none⟩:=by
 unfold Addr.add;split<;>simp_all
theorem XR{t:TypeId}{s:Operand}{lo hi:Option Operand}{b:Nat}{o:Oper}{a:Act}{K:BP}(c:MCtx P w0 U A B E G hp w ρ a.eval b)(ho:o.op=.slice t s lo hi none)(h:Bg P t (ρ s) lo hi ρ hp K):
  ∃x hp' cls,K x hp' cls/\CG P w0 U A B E G hp w o a x hp'/\GP B b x hp':=by
 unfold Bg at h;obtain⟨e,he,h⟩:=Aa h;obtain⟨d,hd,h⟩:=Aa h;have hs:=c.rel s;have hpos:=Ip hd
 split at h
 ·rename_i hx;obtain⟨l,hl,h⟩:=Aa h;obtain⟨r,hr,h⟩:=Aa h;obtain⟨rfl,rfl,hK⟩:=h;rw[hx]at hs;obtain⟨ad,hy⟩:=O7 hs;refine⟨_,_,_,hK,B9.steps (B9.same c (A6 ⟨_,fun o ho=>by simp only[execOp,ho]<;>rfl,_,by rw[hy];exact Lw c.rel he hd hl hr (za8 _) (za8 _),?_⟩)) ho,fun id hid=>by simp[Ah,Af,Ae]at hid,c.wf.more b⟩
  exact Rep.em _
 ·rename_i rows hx;obtain⟨l,hl,h⟩:=Aa h;obtain⟨r,hr,h⟩:=Aa h;obtain⟨hlr,hrn,hrl,hK⟩:=h;rw[hx]at hs;have hs:Rep w G (.im rows) (a.eval s):=hs;generalize hye:a.eval s=ye at hs;have hfin:∀(aa:Option Addr)(cap:Nat),ye=.slice aa rows.length cap->rows.length<=cap->Rep w G (.im ((rows.take r).drop l)) (.slice (if cap=l then aa else aa.map (·.add (l*d.size))) (r-l) (cap-l))->
    ∃x hp' cls,K x hp' cls/\CG P w0 U A B E G hp w o a x hp'/\GP B b x hp':=by
   intro aa cap h1 h2 h3;exact⟨_,_,_,hK,B9.steps (B9.same c (A6 ⟨_,fun o ho=>by simp only[execOp,ho]<;>rfl,_,by rw[hye,h1];exact Lw c.rel he hd hl hr hlr (zd0 hrn h2),h3⟩)) ho,fun id hid=>by simp[Ah,Af,Ae]at hid,c.wf.more b⟩
  cases hs with
  |im0 aa cap=>
   refine hfin aa cap rfl (by simp) ?_
   have hr0:r-l=0:=by simp at hrn;omega
   rw[hr0];simp only[List.take_nil,List.drop_nil];exact .im0 _ _
  |im bb off cap size _ f hb h0 hrc hc hlen hcell hrep=>
   refine hfin _ cap rfl hrc ?_
   have hlen2:((rows.take r).drop l).length=r-l:=by simp;omega
   by_cases hz:r-l=0
   ·have:(rows.take r).drop l=[]:=zb3 (by omega);rw[this,hz];exact .im0 _ _
   ·have hlt:l<rows.length:=by omega
    have hsz:size=d.size:=by
     have h1:=hlen l _ (za1 hlt);have h2:=hrl _ (List.getElem_mem hlt);omega
    rw[zi (by omega)];simp only[zd1,Nl];rw[<-hlen2];have hget:∀(i:Nat)(row:List V),((rows.take r).drop l)[i]? =some row->rows[l+i]? =some row:=by
     intro i row hi;rw[zd2,zb6]at hi
     split at hi
     ·exact hi
     ·cases hi
    refine .im bb (off+l*d.size) (cap-l) size _ (fun i j=>f (l+i) j) hb h0 (by omega) (by omega) (fun i row hi=>hlen _ row (hget i row hi)) (fun i j row x hi hj=> ?_) (fun i j row x hi hj=>hrep _ j row x (hget i row hi) hj)
    have:=hcell _ j row x (hget i row hi) hj;rw[<-hsz];rw[show off+l*size+i*size+j=off+(l+i)*size+j by rw[zf2];omega];exact this
 ·rename_i id l0 n hx;obtain⟨l,hl,h⟩:=Aa h;obtain⟨r,hr,h⟩:=Aa h;obtain⟨k,hk,h⟩:=Aa h;obtain⟨hlr,hrn,hks,hK⟩:=h;rw[hx]at hs;obtain⟨aa,cap,hy,hrel⟩:=hs;obtain⟨k1,k2,k3⟩:=hrel k hk;have hnc:n<=cap:=by rcases k3 with⟨h1,h2⟩|⟨_,_,_,_,_,_,h3,_⟩<;>omega
  refine⟨_,_,_,hK,B9.steps (B9.same c (A6 ⟨_,fun o ho=>by simp only[execOp,ho]<;>rfl,_,by rw[hy];exact Lw c.rel he hd hl hr hlr (by omega),?_⟩)) ho,fun j hj=>.inl (c.ids s j (by rw[hx];exact hj)),c.wf.more b⟩
  refine⟨_,_,rfl,fun k' hk'=> ?_⟩
  rw[hk]at hk';cases hk'
  refine⟨k1,by omega,?_⟩
  rcases k3 with⟨h1,h2⟩|⟨b',cur,ty,fz,q1,q2,q3,q4,q5⟩
  ·exact .inl (by omega)
  ·by_cases hcl:cap=l
   ·exact .inl (by omega)
   ·refine .inr ⟨b',cur,ty,fz,q1,?_,by omega,q4,?_⟩
    ·rw[zi hcl,q2];simp only[zd1,Nl];rw[<-hks,<-zf2]
    ·rw[q5];congr 1;omega
 ·exact h.elim
theorem AC9{rows:List (List V)}{y:Value}{size:Nat}(h:Rep w S (.im rows) y)(hlen:∀r∈rows,r.length=size):
  ∃xa xc,y=.slice xa rows.length xc/\(rows=[]\/∃(ad:Addr)(news:List Value),xa=some ad/\news.length=rows.length*size/\(∀(j:Nat)(u:Value),news[j]? =some u->w.cell? (ad.add j)=some u)/\(∀u∈news,u.oneCell'=true)/\
   ∀(i j:Nat)(row:List V)(x:V),rows[i]? =some row->row[j]? =some x->∃u,news[i*size+j]? =some u/\Rep w S x u):=by
 cases h with
 |im0 a cap=>exact⟨a,cap,rfl,.inl rfl⟩
 |im b off cap sz _ f hb h0 hrc hc hl hcell hrep=>
  refine⟨_,_,rfl,?_⟩
  by_cases hr:rows=[]
  ·exact .inl hr
  right
  have hsz:sz=size:=by
   cases rows with
   |nil=>exact absurd rfl hr
   |cons r l=>rw[<-hl 0 r (by simp),hlen r (by simp)]
  subst hsz;have hex:∀q,q<rows.length*sz->∃row x,rows[q/sz]? =some row/\row[q%sz]? =some x:=by
   intro q hq;have h1:q/sz<rows.length:=by rw[Nat.div_lt_iff_lt_mul h0];exact hq
   have h2:q%sz<sz:=Nat.mod_lt _ h0;have h3:=hl _ _ (za1 h1);exact⟨_,_,za1 h1,za1 (by rw[h3];exact h2)⟩
  refine⟨⟨b,off,none⟩,(List.range (rows.length*sz)).map fun q=>f (q/sz) (q%sz),rfl,by simp,fun j u hj=> ?_,fun u hu=> ?_,fun i j row x hi hj=> ?_⟩
  ·have hjl:j<rows.length*sz:=by have:=(za3.1 hj).1;simpa using this
   have hu:u=f (j/sz) (j%sz):=by simp[hjl]at hj;exact hj.symm
   obtain⟨row,x,h1,h2⟩:=hex j hjl;have:=hcell _ _ row x h1 h2;rw[Nl,hu,<-this]
   congr 2
   have:=Nat.div_add_mod j sz;rw[Nat.mul_comm]at this;omega
  ·simp only[ze0,List.mem_range]at hu;obtain⟨q,hq,rfl⟩:=hu;obtain⟨row,x,h1,h2⟩:=hex q hq;exact(hrep _ _ row x h1 h2).one
  ·have hjs:j<sz:=by rw[<-hl i row hi];exact(za3.1 hj).1
   have hil:i<rows.length:=(za3.1 hi).1;have hlt:i*sz+j<rows.length*sz:=by
    have:=zd4 sz (show i+1<=rows.length by omega);rw[zf2,Nat.one_mul]at this;omega
   have hd:(i*sz+j)/sz=i:=by rw[Nat.add_comm,Nat.add_mul_div_right _ _ h0,Nat.div_eq_of_lt hjs];omega
   have hm:(i*sz+j)%sz=j:=by rw[Nat.add_comm,Nat.add_mul_mod_self_right,Nat.mod_eq_of_lt hjs]
   refine⟨f i j,?_,hrep i j row x hi hj⟩
   simp[hlt,hd,hm]
theorem XN{rows:List (List V)}(h:CN rows=true){i j:Nat}{row:List V}{x:V}(hi:rows[i]? =some row)(hj:row[j]? =some x):DK x=true:=by
 unfold CN at h;exact za6.1 (za6.1 h row (za5 hi)) x (za5 hj)
structure SrcRel (w:World) (E:Env) (hp:Hp) (G:Nat->Prop) (size:Nat) (rows:List (List V)) (kills:List Nat) (deep:Bool) (y:Value):Prop where
 ids:∀i∈kills,∃k,hp i=some k/\k.kind=.arr
 rel:(∀r∈rows,r.length=size)->∃xa xc,y=.slice xa rows.length xc/\(rows=[]\/∃(ad:Addr)(news:List Value),xa=some ad/\news.length=rows.length*size/\(∀(j:Nat)(u:Value),news[j]? =some u->w.cell? (ad.add j)=some u)/\(∀u∈news,u.oneCell'=true)/\
   ∀(i j:Nat)(row:List V)(x:V),rows[i]? =some row->row[j]? =some x->∃u,news[i*size+j]? =some u/\Rep w (fun z=>(deep=false/\G z)\/B8 E hp kills z) x u)
theorem Ma{size:Nat}{rows:List (List V)}{kills:List Nat}{deep:Bool}{y:Value}(hids:∀i∈kills,∃k,hp i=some k/\k.kind=.arr)(h:Rep w S (.im rows) y)
  (hS:CN rows=true\/∀z,S z->(deep=false/\G z)\/B8 E hp kills z):SrcRel w E hp G size rows kills deep y:=by
 refine⟨hids,fun hlen=> ?_⟩
 obtain⟨xa,xc,h1,h2⟩:=AC9 h hlen;refine⟨xa,xc,h1,h2.imp (fun h=>h) ?_⟩
 rintro⟨ad,news,q1,q2,q3,q4,q5⟩;refine⟨ad,news,q1,q2,q3,q4,fun i j row x hi hj=> ?_⟩
 obtain⟨u,hu,hr⟩:=q5 i j row x hi hj;refine⟨u,hu,?_⟩
 rcases hS with hs|hs
 ·exact hr.scalar (XN hs hi hj)
 ·exact hr.mono hs
theorem Ak4(hI:HpInv w0 U A E G hp w){d:TyD}{x:V}{y:Value}{K:List (List V)->List Nat->Bool->Prop}(hv:VR2 w E hp G x y)(h:Bp d x hp K):
  ∃rows kills deep,K rows kills deep/\SrcRel w E hp G d.size rows kills deep y:=by
 unfold Bp at h
 split at h
 ·obtain⟨a,rfl⟩:=O7 hv;exact⟨_,_,_,h,⟨fun i hi=>by simp at hi,fun _=>⟨a,0,rfl,.inl rfl⟩⟩⟩
 ·rename_i rows;refine⟨_,_,_,h,Ma (fun i hi=>by simp at hi) (S:=G) hv ?_⟩
  cases hs:CN rows with
  |true=>exact .inl rfl
  |false=>exact .inr fun z hz=>.inl ⟨by simp,hz⟩
 ·rename_i a cap;have hy:=(F0 hv).1;exact⟨_,_,_,h,⟨fun i hi=>by simp at hi,fun _=>⟨a,cap,hy,.inl rfl⟩⟩⟩
 ·rename_i id lo n
  split at h
  ·rename_i k hk;have hv0:VR0 w E hp G (.ar id lo n) y:=hv
   split at h
   ·exact h.elim
   ·rename_i hkk;refine⟨_,_,_,h,Ma (fun i hi=>by simp at hi) (S:=G) (RD hI hv0 hk (fun b hb=> ?_) (fun b hb=> ?_)) ?_⟩
    ·have:=hI.blk id k hk;unfold AU at this;simp only[hkk]at this;rcases this with⟨_,h2⟩|⟨b',_,_,_,h1,h1',_⟩
     ·rw[hb]at h2;cases h2
     ·rw[hb]at h1;cases h1;exact h1'
    ·rw[zi (by simp[hkk])]at hb;exact hb
    ·cases hs:CN ((k.rows.take (lo+n)).drop lo)with
     |true=>exact .inl rfl
     |false=>exact .inr fun z hz=>.inl ⟨by simp,hz⟩
   ·rename_i hkk;have hl:AQ k=true:=by simp[AQ,hkk]
    split at h
    ·obtain⟨hs,hK⟩:=h;exact⟨_,_,_,hK,Ma (fun i hi=>by simp at hi) (S:=fun _=>True) (RD hI hv0 hk (fun _ _=>trivial) (fun _ _=>trivial)) (.inl hs)⟩
    ·refine⟨_,_,_,h,Ma (fun i hi=>by simp at hi;subst hi;exact⟨k,hk,hkk⟩) (S:=fun z=>(k.deep=false/\G z)\/B8 E hp [id] z) (RD hI hv0 hk (fun b hb=> ?_) (fun b hb=> ?_)) (.inr fun z hz=>hz)⟩
     ·exact .inr ⟨id,by simp,k,hk,hl,.inl hb⟩
     ·cases hd:k.deep with
      |true=>rw[zw ⟨hkk,hd⟩]at hb;exact .inr ⟨id,by simp,k,hk,hl,.inr hb⟩
      |false=>rw[zi (by simp[hd])]at hb;exact .inl ⟨rfl,hb⟩
  ·exact h.elim
 ·exact h.elim
end
section
open Go
variable {P:Program} {w w' w0:World} {E E':Env} {hp hp':Hp} {G G' U A W F S:Nat->Prop} {B:Nat->Prop} {ρ:Operand->V} {ρr:Operand->Value}
theorem Hb{t ty e:TypeId}{i:TypeInfo}(ht:P.underlying t=some (.slice e))(hi:P.info? e=some i)(a xa:Option Addr)(n cap xc:Nat)(hn:n<=cap):
  (Builtin.append_ #[t,t] ty #[.slice a n cap,.slice xa 0 xc]).run P w=.ok (.slice a n cap) w:=by
 have hf:(Builtin.firstCells i.size 0 (.slice xa 0 xc)).run P w=.ok #[] w:=by
  cases xa with
  |none=>rfl
  |some x=>simp[Builtin.firstCells,loadCells,loadCellsFrom]
 cases a with
 |none=>simp[Builtin.append_,run_underlying ht,sizeOf,typeInfo,hi,Builtin.lenOf,hn,hf]
 |some a=>simp[Builtin.append_,run_underlying ht,sizeOf,typeInfo,hi,Builtin.lenOf,hn,hf,storeCells]
theorem Fl{s x:Operand}{t:TypeId}{o:Oper}{a:Act}{y:Value}(ho:o.op=.call {callee:=.builtin .append,args:= #[s,x],argTypes:= #[t,t]})
  (h:(Builtin.append_ #[t,t] o.type #[a.eval s,a.eval x]).run P w=.ok y w'):(execOp a.eval o).run P w=.ok (.value y) w':=by
 simp only[execOp,ho,resolve,invoke,builtin,Sem.run_bind,Sem.run_pure,Result.andThen_ok,List.map_toArray,zc2,List.map_nil,h]
theorem Fp{o:Oper}{a:Act}{x:V}{y:Value}{w':World}{E':Env}{G':Nat->Prop}(hr:(execOp a.eval o).run P w=.ok (.value y) w')(h:HpInv w0 U A E' G' hp' w')(hv:VR2 w' E' hp' G' x y)(he:Ext B E G hp w E' G' hp' w'):CG P w0 U A B E G hp w o a x hp':=by
 intro next Q hn;unfold Oper.wp;rw[hr];exact hn y w' E' G' h hv he
theorem ZM(w:World)(o:Obj):Fr0 w (w.drew.alloc o):=(Fr0.drew w).trans (Fr0.alloc w.drew o)
theorem NA(w:World)(o:Obj):(w.drew.alloc o).heap[w.heap.size]? =some o:=HF w.drew o
theorem UE{olds news:List Value}{z:Array Value}{m:Nat}{q:Nat}{u:Value}(h:(olds++news)[q]? =some u):(olds.toArray++news.toArray++Builtin.zeroCells z m)[q]? =some u:=by
 have hlt:q<(olds++news).length:=(za3.1 h).1;rw[Array.getElem?_append];rw[zw (by simpa using hlt)];have:olds.toArray++news.toArray=(olds++news).toArray:=by simp
 rw[this];simpa using h
theorem XK{k1 rows:List (List V)}{n size:Nat}(hn:k1.length=n){olds news:List Value}(ho:olds.length=n*size){Q:V->Value->Prop}
  (h1:∀(i j:Nat)(row:List V)(x:V),k1[i]? =some row->row[j]? =some x->∃u,olds[i*size+j]? =some u/\Q x u)
  (h2:∀(i j:Nat)(row:List V)(x:V),rows[i]? =some row->row[j]? =some x->∃u,news[i*size+j]? =some u/\Q x u)
  (hl:∀(i:Nat)(row:List V),(k1++rows)[i]? =some row->row.length=size):
  ∀(i j:Nat)(row:List V)(x:V),(k1++rows)[i]? =some row->row[j]? =some x->∃u,(olds++news)[i*size+j]? =some u/\Q x u:=by
 intro i j row x hi hj;have hjs:j<size:=by rw[<-hl i row hi];exact(za3.1 hj).1
 rw[ze2]at hi
 split at hi
 ·rename_i hlt;obtain⟨u,hu,hq⟩:=h1 i j row x hi hj;refine⟨u,?_,hq⟩
  rw[zd6 (za3.1 hu).1];exact hu
 ·rename_i hge;obtain⟨u,hu,hq⟩:=h2 _ j row x hi hj;refine⟨u,?_,hq⟩
  have hle:n*size<=i*size:=zd4 _ (by omega);rw[List.getElem?_append_right (by omega)];rw[<-hu]
  congr 1
  rw[ho,hn,Nat.sub_mul];omega
theorem AL6(hI:HpInv w0 U A E G hp w){id n:Nat}{k:Blk}{y:Value}(hy:VR2 w E hp G (.ar id 0 n) y)(hk:hp id=some k)(hkk:k.kind=.arr):
  ∃a cap,y=.slice a n cap/\n<=cap/\n<=k.rows.length/\((n=0/\cap=0)\/∃b cur,a=some ⟨b,0,none⟩/\E.m id=some b/\w.heap[b]? =some (.cells cur k.ty (0,0))/\cap<=maxLen/\cur.size=cap*k.size/\
   ∀(i j:Nat)(row:List V)(x:V),(k.rows.take n)[i]? =some row->row[j]? =some x->∃u,cur[i*k.size+j]? =some u/\Rep w (if k.deep=true then E.N id else G) x u)/\
   (∀(i:Nat)(row:List V),k.rows[i]? =some row->row.length=k.size\/E.m id=none):=by
 obtain⟨a,cap,hy,hrel⟩:=hy;obtain⟨h1,h2,h3⟩:=hrel k hk;have hb:=hI.blk id k hk;unfold AU at hb;simp only[hkk]at hb;have hncap:n<=cap:=by rcases h3 with⟨q1,q2⟩|⟨_,_,_,_,_,_,q3,_⟩<;>omega
 rcases hb with⟨q1,q2⟩|⟨b',cur',cap',q1,q2,q3,q4,q5,q6,q7,q8⟩
 ·refine⟨a,cap,hy,hncap,by omega,?_,fun i row hi=>.inr q2⟩
  rcases h3 with h3|⟨b,cur,ty,fz,hm,_⟩
  ·exact .inl h3
  ·rw[q2]at hm;cases hm
 ·refine⟨a,cap,hy,hncap,by omega,?_,fun i row hi=>.inl (q7 i row hi)⟩
  rcases h3 with h3|⟨b,cur,ty,fz,hm,ha,hn,hh,hs⟩
  ·exact .inl h3
  ·rw[hm]at q1;cases q1
   rw[hh]at q2;cases q2
   have hcc:cap'=cap:=by
    have:(0+cap)*k.size=cap'*k.size:=by rw[<-hs,q4]
    have:=Nat.eq_of_mul_eq_mul_right q3 this;omega
   subst hcc;refine .inr ⟨b',cur',by rw[ha];simp,hm,hh,q5,q4,fun i j row x hi hj=> ?_⟩
   have hi':k.rows[i]? =some row:=by
    rw[zb6]at hi
    split at hi
    ·exact hi
    ·cases hi
   obtain⟨u,hu,hr⟩:=q8 i j row x hi' hj;refine⟨u,hu,?_⟩
   cases hd:k.deep<;>simp[hd]at hr⊢ <;>exact hr
theorem RA{s x:Operand}{t e:TypeId}{d:TyD}{b:Nat}{o:Oper}{a:Act}(c:MCtx P w0 U A B E G hp w ρ a.eval b)(ho:o.op=.call {callee:=.builtin .append,args:= #[s,x],argTypes:= #[t,t]})
  (he:(AY P t).bind (·.elem)=some e) (hd:AY P e=some d) {rows:List (List V)} {kills:List Nat} {deep:Bool} (hsrc:SrcRel w E hp G d.size rows kills deep (a.eval x))
  (hb1:rows.length*d.bytes<=Ad) (hb2:rows.length*d.size<=Ad) (hrl:∀r∈rows,r.length=d.size) {sa:Option Addr} (hs:a.eval s=.slice sa 0 0) {extra:List Nat}:
  CG P w0 U A B E G hp w o a (.ar b 0 rows.length) (upd (kill hp (extra++kills)) b (some (AG e d.size deep rows))):=by
 obtain⟨i,u,z,hi,hu,hz,hs0,hzs,hone,hdd⟩:=Bx hd;have hds:d.size=i.size:=by rw[hdd]
 have hdb:d.bytes=i.bytes:=by rw[hdd]
 have hpos:=Ip hd;have ht:=Bn he;obtain⟨xa,xc,hx,hor⟩:=hsrc.rel hrl;have hmono:∀y,((deep=false/\G y)\/B8 E hp kills y)->(deep=false/\G y)\/B8 E hp (extra++kills) y:=fun y hy=>hy.imp (fun h=>h) fun⟨id,h1,h2⟩=>⟨id,by simp[h1],h2⟩
 have hrows:∀(i:Nat)(row:List V),rows[i]? =some row->row.length=d.size:=fun i row hi=>hrl row (za5 hi)
 rcases hor with h0|⟨ad,news,hxa,hnl,hnc,hn1,hnr⟩
 ·subst h0;obtain⟨E',G',g1,g2,g3⟩:=MQ (F:=fun _=>False) (mb:=none) (e:=e) (deep:=deep) (rows:=[]) c.inv c.wf (c.new 0 (by omega)) (kills:=extra++kills) (Fr.refl (fun _=>False) w) (fun y h=>h.elim) hpos (fun i row hi=>by simp at hi)
   (.inl ⟨rfl,rfl⟩) (fun y h=>h.elim) (fun y h=>h.elim)
  refine Fp (Fl ho (by rw[hs,hx];exact Hb ht hi sa xa 0 0 xc (za8 _))) g1 ?_ g2
  refine⟨_,_,rfl,fun k hk=> ?_⟩
  simp only[upd,if_true,zb]at hk;subst hk;exact⟨by simp[AG],by simp[AG],.inl ⟨rfl,rfl⟩⟩
 ·by_cases hm0:rows.length=0
  ·have h0:rows=[]:=zb3 hm0;subst h0;obtain⟨E',G',g1,g2,g3⟩:=MQ (F:=fun _=>False) (mb:=none) (e:=e) (deep:=deep) (rows:=[]) c.inv c.wf (c.new 0 (by omega)) (kills:=extra++kills) (Fr.refl (fun _=>False) w) (fun y h=>h.elim) hpos (fun i row hi=>by simp at hi)
    (.inl ⟨rfl,rfl⟩) (fun y h=>h.elim) (fun y h=>h.elim)
   refine Fp (Fl ho (by rw[hs,hx];exact Hb ht hi sa xa 0 0 xc (za8 _))) g1 ?_ g2
   refine⟨_,_,rfl,fun k hk=> ?_⟩
   simp only[upd,if_true,zb]at hk;subst hk;exact⟨by simp[AG],by simp[AG],.inl ⟨rfl,rfl⟩⟩
  ·have hmle:rows.length<=rows.length*d.size:=Nat.le_mul_of_pos_right _ hpos;have hm63:rows.length<=maxLen:=by unfold Ad at hb2;simp only[maxLen];omega
   have hgc:=grownCap_ge w rows.length 0 e;have hgm:=grownCap_le_maxLen w rows.length 0 e hm63;have hrun:(Builtin.append_ #[t,t] o.type #[.slice sa 0 0,.slice xa rows.length xc]).run P w=
     .ok (.slice (some ⟨w.heap.size,0,none⟩) rows.length (grownCap w rows.length 0 e)) (w.drew.alloc (.cells (([]:List Value).toArray++news.toArray++Builtin.zeroCells z.cells (grownCap w rows.length 0 e-rows.length)) e)):=by
    subst hxa;cases sa with
    |none=>
     have:=run_append_nil (P:=P) w t o.type e i z ht hi hz ad rows.length xc news (by rw[<-hds];exact hnl) hnc (by omega) (by simp only[maxLen]at hm63;omega) (by rw[<-hdb];unfold Ad at hb1;omega);simpa using this
    |some b0=>
     have:=run_append_grow (P:=P) w t o.type e i z ht hi hz b0 0 0 [] (by simp) (fun j v h=>by simp at h) ad rows.length xc news (by rw[<-hds];exact hnl) hnc (by omega) (by simp only[maxLen]at hm63;omega) (growslice_fits (by omega) (by rw[<-hdb,ze6];unfold Ad at hb1;omega));simpa using this
   obtain⟨E',G',g1,g2,g3⟩:=MQ (F:=fun y=>(deep=false/\G y)\/B8 E hp kills y) (mb:=some w.heap.size) (e:=e) (deep:=deep) (rows:=rows) c.inv c.wf (c.new 0 (by omega)) (kills:=extra++kills) (ZM w (.cells (([]:List Value).toArray++news.toArray++Builtin.zeroCells z.cells (grownCap w rows.length 0 e-rows.length)) e)) (fun y h=>h.elim) hpos hrows
    (.inr ⟨w.heap.size,([]:List Value).toArray++news.toArray++Builtin.zeroCells z.cells (grownCap w rows.length 0 e-rows.length),grownCap w rows.length 0 e,rfl,NA w _,.inl (za8 _),fun hh=>by
     rcases hh with⟨_,hg⟩|hh
     ·have:=(c.inv.g1 _ hg).1;omega
     ·have:=(c.inv.freedL hh).1;omega,by
     simp only[Array.size_append,List.size_toArray,List.length_nil,size_zeroCells,hzs,hnl,hds];rw[ze6,<-zf2];congr 1;omega,hgm,hgc,fun i' j row x hi' hj=>by
     obtain⟨u,hu,hr⟩:=hnr i' j row x hi' hj;exact⟨u,UE (by simpa using hu),hr⟩⟩) hmono (fun y _ h=>h)
   refine Fp (Fl ho (by rw[hs,hx];exact hrun)) g1 ?_ g2
   refine⟨_,_,rfl,fun k hk=> ?_⟩
   simp only[upd,if_true,zb]at hk;subst hk;refine⟨by simp[AG],by simp[AG],.inr ⟨w.heap.size,_,_,_,g3,by simp,hgc,NA w _,?_⟩⟩
   simp only[Array.size_append,List.size_toArray,List.length_nil,size_zeroCells,hzs,hnl,hds,AG];rw[ze6,<-zf2];congr 1;omega
end
section
open Go
variable {P:Program} {w w' w0:World} {E E':Env} {hp hp':Hp} {G G' U A W F S:Nat->Prop} {B:Nat->Prop} {ρ:Operand->V} {ρr:Operand->Value}
theorem Yq{s x:Operand}{t:TypeId}{d:TyD}{b:Nat}{o:Oper}{a:Act}(c:MCtx P w0 U A B E G hp w ρ a.eval b)(ho:o.op=.call {callee:=.builtin .append,args:= #[s,x],argTypes:= #[t,t]})
  {id n:Nat} {k:Blk} (hs:ρ s=.ar id 0 n) (hk:hp id=some k) (hkk:k.kind=.arr) (hks:k.size=d.size)
  (he:(AY P t).bind (·.elem)=some k.ty) (hd:AY P k.ty=some d) {rows:List (List V)} {kills:List Nat} {deep:Bool} (hsrc:SrcRel w E hp G d.size rows kills deep (a.eval x))
  (hb1:(n+rows.length)*d.bytes<=Ad) (hb2:(n+rows.length)*d.size<=Ad) (hrl:∀r∈rows,r.length=d.size) (hnd:Dc (id::kills)=true):
  CG P w0 U A B E G hp w o a (.ar b 0 (n+rows.length)) (upd (kill hp (id::kills)) b (some (AG k.ty d.size (k.deep&&deep) (k.rows.take n++rows)))):=by
 obtain⟨i,u,z,hi,hu,hz,hs0,hzs,hone,hdd⟩:=Bx hd;have hds:d.size=i.size:=by rw[hdd]
 have hdb:d.bytes=i.bytes:=by rw[hdd]
 have hpos:=Ip hd;have ht:=Bn he;have hlv:AQ k=true:=by simp[AQ,hkk]
 have hidk:id ∉ kills:=P8 hnd;have hsv:=c.rel s;rw[hs]at hsv;obtain⟨sa,cap,hsy,hncap,hnrows,hown,hlens⟩:=AL6 c.inv hsv hk hkk;rcases hown with⟨hn0,hc0⟩|⟨nb,cur,hsa,hm,hh,hcm,hcs,hcells⟩
 ·
  subst hn0;subst hc0;have hb1':rows.length*d.bytes<=Ad:=by simpa using hb1
  have hb2':rows.length*d.size<=Ad:=by simpa using hb2
  have hsrc':SrcRel w E hp G d.size rows kills (k.deep&&deep) (a.eval x):=⟨hsrc.ids,fun h=>by
   obtain⟨xa,xc,h1,h2⟩:=hsrc.rel h;refine⟨xa,xc,h1,h2.imp (fun h=>h) ?_⟩
   rintro⟨ad,news,q1,q2,q3,q4,q5⟩;refine⟨ad,news,q1,q2,q3,q4,fun i j row x hi hj=> ?_⟩
   obtain⟨u,hu,hr⟩:=q5 i j row x hi hj;exact⟨u,hu,hr.mono fun y hy=>hy.imp (fun h=>⟨by simp[h.1],h.2⟩) (fun h=>h)⟩⟩
  have:=RA (extra:=[id]) c ho he hd hsrc' hb1' hb2' hrl hsy;simpa using this
 ·obtain⟨xa,xc,hx,hor⟩:=hsrc.rel hrl;have hHeld:∀y,B8 E hp kills y->B8 E hp (id::kills) y:=fun y ⟨j,h1,h2⟩=>⟨j,by simp[h1],h2⟩
  have hNheld:∀y,E.N id y->B8 E hp (id::kills) y:=fun y hy=>⟨id,by simp,k,hk,hlv,.inr hy⟩
  have hnbheld:B8 E hp (id::kills) nb:=⟨id,by simp,k,hk,hlv,.inl hm⟩;have hNnb:∀y,E.N id y->y≠nb:=fun y hy he=>c.inv.self id k nb hk hlv hm (he▸hy)
  have hGnb:∀y,G y->y≠nb:=fun y hg he=>c.inv.g2 y hg (he▸⟨id,k,hk,hlv,.inl hm⟩)
  have hHnb:∀y,B8 E hp kills y->y≠nb:=by
   rintro y ⟨j,hj,kj,hkj,hlj,hoj⟩ he;subst he;have:=c.inv.dis j kj id k hkj hlj hk hlv y hoj (.inl hm);exact hidk (this▸hj)
  let F:Nat->Prop:=fun y=>(((k.deep&&deep)=false/\G y)\/B8 E hp (id::kills) y)/\y≠nb
  have hold:∀(i j:Nat)(row:List V)(x:V),(k.rows.take n)[i]? =some row->row[j]? =some x->∃u,cur[i*d.size+j]? =some u/\Rep w F x u:=by
   intro i j row x hi hj;obtain⟨u,hu,hr⟩:=hcells i j row x hi hj;rw[<-hks];refine⟨u,hu,hr.mono fun y hy=> ?_⟩
   cases hkd:k.deep with
   |true=>rw[hkd,zw rfl]at hy;exact⟨.inr (hNheld y hy),hNnb y hy⟩
   |false=>rw[hkd,zi (by simp)]at hy;exact⟨.inl ⟨by simp[hkd],hy⟩,hGnb y hy⟩
  have hsrcF:∀y,((deep=false/\G y)\/B8 E hp kills y)->F y:=by
   intro y hy;rcases hy with⟨h1,h2⟩|h
   ·exact⟨.inl ⟨by simp[h1],h2⟩,hGnb y h2⟩
   ·exact⟨.inr (hHeld y h),hHnb y h⟩
  have hlenall:∀(i:Nat)(row:List V),(k.rows.take n++rows)[i]? =some row->row.length=d.size:=by
   intro i row hi;rw[ze2]at hi
   split at hi
   ·rw[zb6]at hi
    split at hi
    ·rcases hlens i row hi with h|h
     ·omega
     ·rw[hm]at h;cases h
    ·cases hi
   ·exact hrl row (za5 hi)
  have htl:(k.rows.take n).length=n:=by simp;omega
  have hFdef:∀y,F y->(((k.deep&&deep)=false/\G y)\/B8 E hp (id::kills) y):=fun y hy=>hy.1
  have hcap63:n+rows.length<=maxLen:=by
   have:=Nat.le_mul_of_pos_right (n+rows.length) hpos;unfold Ad at hb2;simp only[maxLen];omega
  have hvr:∀(w':World)(E':Env)(G':Nat->Prop)(bb:Nat)(cc:Nat)(cu:Array Value)(ty:TypeId)(fz:Nat×Nat),E'.m b=some bb->n+rows.length<=cc->w'.heap[bb]? =some (.cells cu ty fz)->cu.size=cc*d.size->
    VR2 w' E' (upd (kill hp (id::kills)) b (some (AG k.ty d.size (k.deep&&deep) (k.rows.take n++rows)))) G' (.ar b 0 (n+rows.length)) (.slice (some ⟨bb,0,none⟩) (n+rows.length) cc):=by
   intro w' E' G' bb cc cu ty fz h1 h2 h3 h4;refine⟨_,_,rfl,fun k' hk'=> ?_⟩
   simp only[upd,if_true,zb]at hk';subst hk';refine⟨by simp[AG],by simp[AG,htl],.inr ⟨bb,cu,ty,fz,h1,by simp,h2,h3,by simpa[AG]using h4⟩⟩
  by_cases hm0:rows.length=0
  ·have h0:rows=[]:=zb3 hm0;subst h0;obtain⟨E',G',g1,g2,g3⟩:=MQ (F:=F) (mb:=some nb) (e:=k.ty) (size:=d.size) (deep:=k.deep&&deep) (rows:=k.rows.take n++[]) c.inv c.wf (c.new 0 (by omega)) (kills:=id::kills) (Fr.refl (fun _=>False) w) (fun y h=>h.elim) hpos hlenall
    (.inr ⟨nb,cur,cap,rfl,hh,.inr hnbheld,fun hf=>hf.2 rfl,by rw[hcs,hks],hcm,by simp;omega,fun i j row x hi hj=>hold i j row x (by simpa using hi) hj⟩) hFdef (fun y _ h=>h)
   refine Fp (Fl ho (by rw[hsy,hx];exact Hb ht hi sa xa n cap xc hncap)) g1 ?_ g2
   rw[hsa];exact hvr w E' G' nb cap cur _ _ g3 (by simpa using hncap) hh (by rw[hcs,hks])
  ·rcases hor with h0|⟨ad,news,hxa,hnl,hnc,hn1,hnr⟩
   ·exact absurd (by rw[h0];rfl) hm0
   have hrowsF:∀(i j:Nat)(row:List V)(x:V),rows[i]? =some row->row[j]? =some x->∃u,news[i*d.size+j]? =some u/\Rep w F x u:=by
    intro i j row x hi hj;obtain⟨u,hu,hr⟩:=hnr i j row x hi hj;exact⟨u,hu,hr.mono hsrcF⟩
   have holds:∀(j:Nat)(v:Value),(cur.toList.take (n*d.size))[j]? =some v->w.cell? ((⟨nb,0,none⟩:Addr).add j)=some v:=by
    intro j v hj;rw[Nl,LS hh];rw[zb6]at hj
    split at hj
    ·simpa using hj
    ·cases hj
   have hnsz:n*d.size<=cur.size:=by rw[hcs,hks];exact zd4 _ hncap
   have hol:(cur.toList.take (n*d.size)).length=n*d.size:=by simp;omega
   have holdT:∀(i j:Nat)(row:List V)(x:V),(k.rows.take n)[i]? =some row->row[j]? =some x->∃u,(cur.toList.take (n*d.size))[i*d.size+j]? =some u/\Rep w F x u:=by
    intro i j row x hi hj;obtain⟨u,hu,hr⟩:=hold i j row x hi hj;refine⟨u,?_,hr⟩
    have hil:i<n:=by have:=(za3.1 hi).1;omega
    have hjs:j<d.size:=by
     rw[<-hlenall i row (by rw[zd6 (by omega)];exact hi)];exact(za3.1 hj).1
    have:i*d.size+j<n*d.size:=by
     have:=zd4 d.size (show i+1<=n by omega);rw[zf2,Nat.one_mul]at this;omega
    rw[zb6,zw this];simpa using hu
   have hall:=XK htl hol holdT hrowsF hlenall;subst hxa;by_cases hroom:n+rows.length<=cap
   ·
    have hfit:n*i.size+news.length<=cur.size:=by
     rw[hnl,<-hds,<-zf2,hcs,hks];exact zd4 _ hroom
    have hrun:=run_append_room (P:=P) w t o.type k.ty i ht hi nb n cap cur hh ad rows.length xc news (by rw[<-hds];exact hnl) hnc hn1 hroom hfit;have hsize:(cur.toList.take (n*i.size)++news++cur.toList.drop (n*i.size+news.length)).toArray.size=cur.size:=by
     simp;omega
    have hfr:=Fr.setRow hh hsize;have hcell:∀(i' j:Nat)(row:List V)(x:V),(k.rows.take n++rows)[i']? =some row->row[j]? =some x->∃u,(cur.toList.take (n*i.size)++news++cur.toList.drop (n*i.size+news.length)).toArray[i'*d.size+j]? =some u/\Rep w F x u:=by
     intro i' j row x hi' hj;obtain⟨u,hu,hr⟩:=hall i' j row x hi' hj;refine⟨u,?_,hr⟩
     rw[<-hds];simp only[List.getElem?_toArray];rw[zd6 (za3.1 hu).1];exact hu
    obtain⟨E',G',g1,g2,g3⟩:=MQ (F:=F) (mb:=some nb) (e:=k.ty) (size:=d.size) (deep:=k.deep&&deep) (rows:=k.rows.take n++rows) c.inv c.wf (c.new 0 (by omega)) (kills:=id::kills) hfr
     (fun y hy=>by
      subst hy;have hf:=c.inv.freedL hnbheld;exact⟨hf.2.1,hf.2.2.1,hf.2.2.2⟩) hpos hlenall
     (.inr ⟨nb,_,cap,rfl,setRow_heap w nb cur _ _ _ hh,.inr hnbheld,fun hf=>hf.2 rfl,by rw[hsize,hcs,hks],hcm,by simp;omega,hcell⟩) hFdef (fun y hy=>hy.2)
    refine Fp (Fl ho (by rw[hsy,hx,hsa];exact hrun)) g1 ?_ g2
    exact hvr _ E' G' nb cap _ _ _ g3 hroom (setRow_heap w nb cur _ _ _ hh) (by rw[hsize,hcs,hks])
   ·
    have hgc:=grownCap_ge w (n+rows.length) cap k.ty;have hgm:=grownCap_le_maxLen w (n+rows.length) cap k.ty hcap63;have hrun:=run_append_grow (P:=P) w t o.type k.ty i z ht hi hz ⟨nb,0,none⟩ n cap (cur.toList.take (n*d.size)) (by rw[hol,hds]) holds ad rows.length xc news (by rw[<-hds];exact hnl) hnc (by omega) (by simp only[maxLen]at hcap63;omega) (growslice_fits (by omega) (by rw[<-hdb];unfold Ad at hb1;omega))
    have hsize:((cur.toList.take (n*d.size)).toArray++news.toArray++Builtin.zeroCells z.cells (grownCap w (n+rows.length) cap k.ty-(n+rows.length))).size=grownCap w (n+rows.length) cap k.ty*d.size:=by
     simp only[Array.size_append,List.size_toArray,size_zeroCells,hzs,hnl,hol];rw[<-hds,<-zf2,<-zf2];congr 1;omega
    obtain⟨E',G',g1,g2,g3⟩:=MQ (F:=F) (mb:=some w.heap.size) (e:=k.ty) (size:=d.size) (deep:=k.deep&&deep) (rows:=k.rows.take n++rows) c.inv c.wf (c.new 0 (by omega)) (kills:=id::kills)
     (ZM w (.cells ((cur.toList.take (n*d.size)).toArray++news.toArray++Builtin.zeroCells z.cells (grownCap w (n+rows.length) cap k.ty-(n+rows.length))) k.ty)) (fun y h=>h.elim) hpos hlenall
     (.inr ⟨w.heap.size,_,grownCap w (n+rows.length) cap k.ty,rfl,NA w _,.inl (za8 _),fun hf=>by
      rcases hf.1 with⟨_,hg⟩|hh'
      ·have:=(c.inv.g1 _ hg).1;omega
      ·have:=(c.inv.freedL hh').1;omega,hsize,hgm,by simp;omega,fun i' j row x hi' hj=>by
      obtain⟨u,hu,hr⟩:=hall i' j row x hi' hj;exact⟨u,UE hu,hr⟩⟩) hFdef (fun y _ h=>h)
    refine Fp (Fl ho (by rw[hsy,hx,hsa];exact hrun)) g1 ?_ g2
    exact hvr _ E' G' _ _ _ _ _ g3 hgc (NA w _) hsize
theorem Vw{args:Array Operand}{tys:Array TypeId}{s x:Operand}{b:Nat}{o:Oper}{a:Act}{K:BP}(c:MCtx P w0 U A B E G hp w ρ a.eval b)(ho:o.op=.call {callee:=.builtin .append,args:=args,argTypes:=tys})(hargs:args.toList=[s,x])
  (h:Cb P tys.toList (ρ s) (ρ x) hp b K):∃y hp' cls,K y hp' cls/\CG P w0 U A B E G hp w o a y hp'/\GP B b y hp':=by
 unfold Cb at h
 split at h
 ·rename_i t t' htys;obtain⟨e,he,ha1⟩:=Aa h;obtain⟨d,hd,ha2⟩:=Aa ha1;obtain⟨rfl,ha3⟩:=ha2
  clear h ha1
  have ha:args= #[s,x]:=by apply Array.ext';simpa using hargs
  have ht:tys= #[t',t']:=by apply Array.ext';simpa using htys
  subst ha;subst ht;obtain⟨rows,kills,deep,h,hsrc⟩:=Ak4 c.inv (c.rel x) ha3
  split at h
  ·rename_i hs;obtain⟨hb1,hb2,hrl,hnd,hK⟩:=h;have hsv:=c.rel s;rw[hs]at hsv;obtain⟨sa,hsy⟩:=O7 hsv;exact⟨_,_,_,hK,by simpa using RA (extra:=[]) c ho he hd hsrc hb1 hb2 hrl hsy,O9 c.wf⟩
  ·rename_i id lo n hs;obtain⟨k,hk,hkk,rfl,rfl,hks,hnd,hb1,hb2,hrl,hK⟩:=Aa h;exact⟨_,_,_,hK,Yq c ho hs hk hkk hks he hd hsrc hb1 hb2 hrl hnd,O9 c.wf⟩
  ·exact h.elim
 ·exact h.elim
end
section
open Go
variable {P:Program} {w w' w0:World} {E E':Env} {hp hp':Hp} {G G' U A W F S:Nat->Prop} {B:Nat->Prop} {ρ:Operand->V} {ρr:Operand->Value}
structure Turn (f:Nat->Option Nat) (E:Env) (hp:Hp) (E':Env) (hp':Hp):Prop where
 at':∀id j,f id=some j->∀k',hp' j=some k'->∃k,hp id=some k/\(k'.kind=.box↔k.kind=.box)/\k'.size=k.size/\k'.rows.length=k.rows.length/\E'.m j=E.m id
theorem Turn.vr0{f:Nat->Option Nat}(h:Turn f E hp E' hp')(hG:(∀b,G b->G' b)):∀{x:V}{y:Value},VR0 w E hp G x y->VR0 w E' hp' G' (BR f x) y
 |.any,_,_=>trivial
 |.cl g [],y,h=>h
 |.cl _ (_::_),_,h=>h.elim
 |.agg _,_,h=>h.elim
 |.tup _,_,h=>h.elim
 |.v x,y,h=>Rep.mono h hG
 |.em,y,h=>Rep.mono h hG
 |.er _,y,h=>Rep.mono h hG
 |.im rows,y,h=>Rep.mono h hG
 |.ar id lo n,y,hv=>by
  simp only[BR];cases hf:f id with
  |none=>exact trivial
  |some j=>
   obtain⟨a,cap,hy,hk⟩:=hv;refine⟨a,cap,hy,fun k' hk'=> ?_⟩
   obtain⟨k,h1,h2,h3,h4,h5⟩:=h.at' id j hf k' hk';obtain⟨q1,q2,q3⟩:=hk k h1;refine⟨fun hh=>q1 (h2.1 hh),by rw[h4];exact q2,?_⟩
   rw[h3,h5];exact q3
 |.rf id r c,y,hv=>by
  simp only[BR];cases hf:f id with
  |none=>exact trivial
  |some j=>
   obtain⟨b,o,hy,hk⟩:=hv;refine⟨b,o,hy,fun k' hk'=> ?_⟩
   obtain⟨k,h1,h2,h3,h4,h5⟩:=h.at' id j hf k' hk';obtain⟨q2,q3⟩:=hk k h1;exact⟨by rw[h5];exact q2,by rw[h3];exact q3⟩
 |.ir row c,y,hv=>by
  obtain⟨b,off,f',hg,hy,hc⟩:=hv;exact⟨b,off,f',hG b hg,hy,fun j x hx=>⟨(hc j x hx).1,(hc j x hx).2.mono hG⟩⟩
theorem Turn.vr0'{f:Nat->Option Nat}(h:Turn f E hp E' hp'):∀{x:V}{y:Value},Fo x=true->VR0 w E hp G x y->VR0 w E' hp' G' (BR f x) y
 |.any,_,hn,_=>by simp[Fo]at hn
 |.cl g [],y,_,h=>h
 |.cl _ (_::_),_,hn,h=>h.elim
 |.agg _,_,hn,h=>h.elim
 |.tup _,_,hn,h=>h.elim
 |.v x,y,_,h=>Rep.scalar rfl h
 |.em,y,hn,h=>by simp[Fo]at hn
 |.er _,y,hn,h=>by simp[Fo]at hn
 |.im rows,y,hn,h=>by simp[Fo]at hn
 |.ar id lo n,y,_,hv=>Turn.vr0 (G:=fun _=>False) h (fun b hb=>hb.elim) (x:=.ar id lo n) hv
 |.rf id r c,y,_,hv=>Turn.vr0 (G:=fun _=>False) h (fun b hb=>hb.elim) (x:=.rf id r c) hv
 |.ir row c,y,hn,hv=>by simp[Fo]at hn
theorem VL.map{R R':V->Value->Prop}{f:V->V}:∀{xs:List V}{ys:List Value},VL R xs ys->(∀x∈xs,∀y,R x y->R' (f x) y)->VL R' (xs.map f) ys
 |[],[],_,_=>trivial
 |x::xs,y::ys,h,hm=>⟨hm x (by simp) y h.1,VL.map h.2 fun x hx=>hm x (by simp[hx])⟩
 |[],_::_,h,_=>h.elim
 |_::_,[],h,_=>h.elim
theorem Turn.vr1{f:Nat->Option Nat}(h:Turn f E hp E' hp')(hG:∀b,G b->G' b){x:V}{y:Value}(hv:VR1 w E hp G x y):VR1 w E' hp' G' (Cp f x) y:=by
 cases x with
 |agg cs=>obtain⟨us,rfl,hl⟩:=hv;exact⟨us,rfl,hl.map fun x _ y hx=>h.vr0 hG hx⟩
 |cl g caps=>obtain⟨us,rfl,hl⟩:=hv;exact⟨us,rfl,hl.map fun x _ y hx=>h.vr0 hG hx⟩
 |v a=>exact(h.vr0 hG (x:=.v a) hv).to1
 |em=>exact(h.vr0 hG (x:=.em) hv).to1
 |er e=>exact(h.vr0 hG (x:=.er e) hv).to1
 |im a=>exact(h.vr0 hG (x:=.im a) hv).to1
 |ar a b c=>exact(h.vr0 hG (x:=.ar a b c) hv).to1
 |rf a b c=>exact(h.vr0 hG (x:=.rf a b c) hv).to1
 |ir a b=>exact(h.vr0 hG (x:=.ir a b) hv).to1
 |tup a=>exact hv.elim
 |any=>exact trivial
theorem Turn.vr2{f:Nat->Option Nat}(h:Turn f E hp E' hp')(hG:∀b,G b->G' b){x:V}{y:Value}(hv:VR2 w E hp G x y):VR2 w E' hp' G' (EQ f x) y:=by
 cases x with
 |tup vs=>obtain⟨us,rfl,hl⟩:=hv;exact⟨us,rfl,hl.map fun x _ y hx=>h.vr1 hG hx⟩
 |agg a=>exact(h.vr1 hG (x:=.agg a) hv).to2
 |cl a b=>exact(h.vr1 hG (x:=.cl a b) hv).to2
 |v a=>exact(h.vr1 hG (x:=.v a) hv).to2
 |em=>exact(h.vr1 hG (x:=.em) hv).to2
 |er e=>exact(h.vr1 hG (x:=.er e) hv).to2
 |im a=>exact(h.vr1 hG (x:=.im a) hv).to2
 |ar a b c=>exact(h.vr1 hG (x:=.ar a b c) hv).to2
 |rf a b c=>exact(h.vr1 hG (x:=.rf a b c) hv).to2
 |ir a b=>exact(h.vr1 hG (x:=.ir a b) hv).to2
 |any=>exact trivial
theorem Turn.vr2'{f:Nat->Option Nat}(h:Turn f E hp E' hp'){x:V}{y:Value}(hn:Jc x=true)(hv:VR2 w E hp G x y):VR2 w E' hp' G' (EQ f x) y:=by
 cases x with
 |tup vs=>
  obtain⟨us,rfl,hl⟩:=hv;refine⟨us,rfl,hl.map fun x hx y hv=> ?_⟩
  have hnx:=za6.1 hn x hx;cases x with
  |agg cs=>obtain⟨us,rfl,hl⟩:=hv;exact⟨us,rfl,hl.map fun x hx y hv=>h.vr0' (za6.1 hnx x hx) hv⟩
  |cl g caps=>
   cases caps with
   |nil=>obtain⟨us,h1,hl⟩:=hv;exact⟨us,h1,hl.map (f:=BR f) fun x hx=>by simp at hx⟩
   |cons a l=>simp[Fo]at hnx
  |v a=>exact(h.vr0' (x:=.v a) hnx hv).to1
  |em=>exact(h.vr0' (x:=.em) hnx hv).to1
  |er e=>exact(h.vr0' (x:=.er e) hnx hv).to1
  |im a=>exact(h.vr0' (x:=.im a) hnx hv).to1
  |ar a b c=>exact(h.vr0' (G:=G) (x:=.ar a b c) hnx hv).to1
  |rf a b c=>exact(h.vr0' (G:=G) (x:=.rf a b c) hnx hv).to1
  |ir a b=>exact(h.vr0' (x:=.ir a b) hnx hv).to1
  |tup a=>exact hv.elim
  |any=>exact trivial
 |agg cs=>obtain⟨us,rfl,hl⟩:=hv;exact⟨us,rfl,hl.map fun x hx y hv=>h.vr0' (za6.1 hn x hx) hv⟩
 |cl g caps=>
  cases caps with
  |nil=>obtain⟨us,h1,hl⟩:=hv;exact⟨us,h1,hl.map (f:=BR f) fun x hx=>by simp at hx⟩
  |cons a l=>simp[Jc,Fo]at hn
 |v a=>exact(h.vr0' (x:=.v a) hn hv).to1.to2
 |em=>exact(h.vr0' (x:=.em) hn hv).to1.to2
 |er e=>exact(h.vr0' (x:=.er e) hn hv).to1.to2
 |im a=>exact(h.vr0' (x:=.im a) hn hv).to1.to2
 |ar a b c=>exact(h.vr0' (G:=G) (x:=.ar a b c) hn hv).to1.to2
 |rf a b c=>exact(h.vr0' (G:=G) (x:=.rf a b c) hn hv).to1.to2
 |ir a b=>exact(h.vr0' (x:=.ir a b) hn hv).to1.to2
 |any=>exact trivial
theorem Fn(hI:HpInv w0 U A E G hp w){x x':V}{y:Value}{lent:List Nat}(h:JF hp x=some x')(hl:∀i∈C1 x,i∈lent)(hv:VR0 w E hp G x y):
  VR0 w E hp (fun b=>G b\/B8 E hp lent b) x' y/\(∀i∈Ae x',i∈Ae x)/\Bk x'=Bk x:=by
 have hG:∀b,G b->G b\/B8 E hp lent b:=fun _ h=>.inl h
 cases x with
 |ar id lo n=>
  simp only[JF]at h
  split at h
  ·rename_i k hk;have hin:id∈lent:=hl id (by simp[C1]);have hrep:k.kind≠ .box->VR0 w E hp (fun b=>G b\/B8 E hp lent b) (.im ((k.rows.take (lo+n)).drop lo)) y:=by
    intro hkb;refine(RD hI hv hk (S:=fun b=>G b\/B8 E hp lent b) (fun b hb=> ?_) (fun b hb=> ?_)).vr0
    ·cases hkk:k.kind with
     |box=>exact absurd hkk hkb
     |arr=>exact .inr ⟨id,hin,k,hk,by simp[AQ,hkk],.inl hb⟩
     |frz=>
      have:=hI.blk id k hk;unfold AU at this;simp only[hkk]at this;rcases this with⟨_,h2⟩|⟨b',_,_,_,h1,h1',_⟩
      ·rw[hb]at h2;cases h2
      ·rw[hb]at h1;cases h1;exact .inl h1'
    ·by_cases hc:k.kind=.arr/\k.deep=true
     ·rw[zw hc]at hb;exact .inr ⟨id,hin,k,hk,by simp[AQ,hc.1],.inr hb⟩
     ·rw[zi hc]at hb;exact .inl hb
   split at h
   ·cases h
   ·rename_i hkb;cases h
    exact⟨hrep (by simpa using hkb),by simp[Ae],rfl⟩
  ·cases h
 |em=>
  cases h
  have hv':Rep w G .em y:=hv;cases hv' with
  |em a=>exact⟨Rep.im0 a 0,by simp[Ae],rfl⟩
 |er e=>cases h;exact⟨Rep.mono hv hG,fun _ h=>h,rfl⟩
 |tup vs=>cases h
 |agg cs=>cases h
 |cl g caps=>
  cases caps with
  |nil=>cases h;exact⟨hv,fun _ h=>h,rfl⟩
  |cons a l=>cases h
 |v a=>cases h;exact⟨Rep.mono hv hG,fun _ h=>h,rfl⟩
 |im a=>cases h;exact⟨Rep.mono hv hG,fun _ h=>h,rfl⟩
 |rf a b c=>cases h;exact⟨hv,fun _ h=>h,rfl⟩
 |ir row c=>
  cases h
  obtain⟨b,off,f,hg,hy,hc⟩:=hv;exact⟨⟨b,off,f,.inl hg,hy,fun j x hx=>⟨(hc j x hx).1,(hc j x hx).2.mono hG⟩⟩,fun _ h=>h,rfl⟩
 |any=>cases h;exact⟨trivial,fun _ h=>h,rfl⟩
theorem OP(hI:HpInv w0 U A E G hp w){lent:List Nat}:∀{xs xs':List V}{ys:List Value},JG hp xs=some xs'->(∀i∈xs.flatMap C1,i∈lent)->VL (VR0 w E hp G) xs ys->
  VL (VR0 w E hp (fun b=>G b\/B8 E hp lent b)) xs' ys/\∀i∈xs'.flatMap Ae,i∈xs.flatMap Ae
 |[],xs',ys,h,_,hv=>by
  simp only[JG,zb]at h;subst h;cases ys with
  |nil=>exact⟨trivial,fun _ h=>h⟩
  |cons y ys=>exact hv.elim
 |x::xs,xs',ys,h,hl,hv=>by
  simp only[JG]at h
  split at h
  ·rename_i y r h1 h2;cases h
   cases ys with
   |nil=>exact hv.elim
   |cons u us=>
    obtain⟨q1,q2,_⟩:=Fn hI h1 (lent:=lent) (fun i hi=>hl i (by simp only[zb2,zb5];exact .inl hi)) hv.1;obtain⟨r1,r2⟩:=OP hI h2 (fun i hi=>hl i (by simp only[zb2,zb5];exact .inr hi)) hv.2;refine⟨⟨q1,r1⟩,fun i hi=> ?_⟩
    simp only[zb2,zb5]at hi⊢
    exact hi.imp (q2 i) (r2 i)
  ·cases h
theorem Ah5(hI:HpInv w0 U A E G hp w){x x':V}{y:Value}{lent:List Nat}(h:F7 hp x=some x')(hl:∀i∈JW x,i∈lent)(hv:VR2 w E hp G x y):
  VR1 w E hp (fun b=>G b\/B8 E hp lent b) x' y/\(∀i∈Af x',i∈Ah x):=by
 cases x with
 |agg cs=>
  simp only[F7]at h
  split at h
  ·rename_i r hr;cases h
   obtain⟨us,rfl,hvl⟩:=hv;obtain⟨q1,q2⟩:=OP hI hr hl hvl;exact⟨⟨us,rfl,q1⟩,q2⟩
  ·cases h
 |cl g caps=>
  simp only[F7]at h
  split at h
  ·rename_i r hr;cases h
   obtain⟨us,rfl,hvl⟩:=hv;obtain⟨q1,q2⟩:=OP hI hr hl hvl;exact⟨⟨us,rfl,q1⟩,q2⟩
  ·cases h
 |tup vs=>cases h
 |v a=>obtain⟨q1,q2,_⟩:=Fn hI (x:=.v a) h hl hv;exact⟨q1.to1,fun i hi=>by cases h;exact q2 i hi⟩
 |em=>obtain⟨q1,q2,_⟩:=Fn hI (x:=.em) h hl hv;exact⟨q1.to1,fun i hi=>by cases h;exact q2 i hi⟩
 |er e=>obtain⟨q1,q2,_⟩:=Fn hI (x:=.er e) h hl hv;exact⟨q1.to1,fun i hi=>by cases h;exact q2 i hi⟩
 |im a=>obtain⟨q1,q2,_⟩:=Fn hI (x:=.im a) h hl hv;exact⟨q1.to1,fun i hi=>by cases h;exact q2 i hi⟩
 |ar a b c=>
  obtain⟨q1,q2,_⟩:=Fn hI (x:=.ar a b c) h hl hv;refine⟨q1.to1,fun i hi=> ?_⟩
  simp only[F7,JF]at h
  split at h
  ·split at h
   ·cases h
   ·cases h;exact q2 i hi
  ·cases h
 |rf a b c=>obtain⟨q1,q2,_⟩:=Fn hI (x:=.rf a b c) h hl hv;exact⟨q1.to1,fun i hi=>by cases h;exact q2 i hi⟩
 |ir a b=>obtain⟨q1,q2,_⟩:=Fn hI (x:=.ir a b) h hl hv;exact⟨q1.to1,fun i hi=>by cases h;exact q2 i hi⟩
 |any=>cases h;exact⟨trivial,fun i hi=>hi⟩
end
section
open Go
variable {P:Program} {w w' w0:World} {E E':Env} {hp hp':Hp} {G G' U A W F S:Nat->Prop} {B:Nat->Prop} {ρ:Operand->V} {ρr:Operand->Value}
theorem EZ(hp:Hp):∀(n:Nat)(todo acc order:List Nat),Ec hp n todo acc=some order->acc.Nodup->(∀id∈acc,∃k,hp id=some k)->
  order.Nodup/\(∀id∈order,∃k,hp id=some k)/\(∀id∈acc,id∈order)/\∀id∈todo,id∈order\/hp id=none
 |0,_,_,_,h,_,_=>by simp[Ec]at h
 |n+1,[],acc,order,h,hn,hs=>by
  simp only[Ec,zb]at h;subst h;exact⟨hn,hs,fun _ h=>h,fun id hid=>by simp at hid⟩
 |n+1,i::l,acc,order,h,hn,hs=>by
  simp only[Ec]at h
  split at h
  ·rename_i hc;obtain⟨h1,h2,h3,h4⟩:=EZ hp n l acc order h hn hs;refine⟨h1,h2,h3,fun id hid=> ?_⟩
   rcases zc9.1 hid with rfl|hid
   ·exact .inl (h3 _ (by simpa using hc))
   ·exact h4 id hid
  ·rename_i hc
   split at h
   ·rename_i hnone;obtain⟨h1,h2,h3,h4⟩:=EZ hp n l acc order h hn hs;refine⟨h1,h2,h3,fun id hid=> ?_⟩
    rcases zc9.1 hid with rfl|hid
    ·exact .inr hnone
    ·exact h4 id hid
   ·rename_i k hk;obtain⟨h1,h2,h3,h4⟩:=EZ hp n _ _ order h (by
     rw[List.nodup_append];refine⟨hn,by simp,fun a ha b hb=> ?_⟩
     simp at hb;subst hb;intro he;subst he;exact hc (by simpa using ha)) (by
     intro id hid;rcases zb5.1 hid with hid|hid
     ·exact hs id hid
     ·simp at hid;subst hid;exact⟨k,hk⟩)
    refine⟨h1,h2,fun id hid=>h3 id (by simp[hid]),fun id hid=> ?_⟩
    rcases zc9.1 hid with rfl|hid
    ·exact .inl (h3 _ (by simp))
    ·exact h4 id (by simp[hid])
theorem Xh{order:List Nat}{id j:Nat}(h:idx order id=some j):order[j]? =some id:=by
 unfold idx at h;rw[List.idxOf?_eq_some_iff]at h;obtain⟨hj,h1,_⟩:=h;rw[za1 hj];simpa using h1
theorem L3{order:List Nat}(hn:order.Nodup){id j:Nat}(h:order[j]? =some id):idx order id=some j:=by
 unfold idx;rw[List.idxOf?_eq_some_iff];have hj:=(za3.1 h).1;have he:=(za3.1 h).2;refine⟨hj,by simpa using he,fun i hi hh=> ?_⟩
 have:=(List.getElem_inj (h₀:=by omega) (h₁:=hj) hn).1 (hh.trans he.symm);omega
def CQ(E:Env)(order:List Nat):Env:=⟨fun j=>(order[j]?).bind E.m,fun j x=>∃id,order[j]? =some id/\E.N id x⟩
theorem D9{order:List Nat}{j:Nat}{k':Blk}(h:lkB (AF hp order) j=some k'):∃id,order[j]? =some id/\k'=Ee (idx order) ((hp id).getD default):=by
 unfold lkB AF at h;rw[zd5,zb4]at h;obtain⟨id,h1,h2⟩:=h;exact⟨id,h1,h2.symm⟩
theorem BW(f:Nat->Option Nat)(k:Blk):(Ee f k).kind=k.kind/\(Ee f k).size=k.size/\(Ee f k).ty=k.ty/\(Ee f k).deep=k.deep/\(Ee f k).rows.length=k.rows.length:=by
 unfold Ee
 split<;>simp
theorem U1(f:Nat->Option Nat)(k:Blk)(h:k.kind≠ .box):(Ee f k).rows=k.rows:=by
 unfold Ee
 split
 ·rename_i hk;exact absurd hk h
 ·rfl
theorem N9{order:List Nat}(hs:∀id∈order,∃k,hp id=some k):Turn (idx order) E hp (CQ E order) (lkB (AF hp order)):=by
 refine⟨fun id j hj k' hk'=> ?_⟩
 have h1:=Xh hj;obtain⟨id',h2,h3⟩:=D9 hk';rw[h1]at h2;cases h2
 obtain⟨k,hk⟩:=hs id (za5 h1);obtain⟨r1,r2,r3,r4,r5⟩:=BW (idx order) k;rw[hk,Option.getD_some]at h3;subst h3;exact⟨k,hk,by rw[r1],r2,r5,by simp[CQ,h1]⟩
theorem SJ{order:List Nat}(hs:∀id∈order,∃k,hp id=some k){b:Nat}(h:Own (CQ E order) (lkB (AF hp order)) b):∃id∈order,∃k,hp id=some k/\AQ k=true/\Di E id b:=by
 obtain⟨j,k',hk',hl,ho⟩:=h;obtain⟨id,h1,h2⟩:=D9 hk';obtain⟨k,hk⟩:=hs id (za5 h1);rw[hk,Option.getD_some]at h2;subst h2;refine⟨id,za5 h1,k,hk,by unfold AQ at hl⊢;rw[(BW (idx order) k).1]at hl;exact hl,?_⟩
 rcases ho with ho|⟨id',h3,ho⟩
 ·left;simpa[CQ,h1]using ho
 ·rw[h1]at h3;cases h3;exact .inr ho
theorem AU.turn{f:Nat->Option Nat}{id j:Nat}{k:Blk}(hm:E'.m j=E.m id)(hN:∀x,E.N id x->E'.N j x)(hG:(k.kind=.frz\/(k.kind=.arr/\k.deep=false))->∀b,G b->G' b)
  (hv:k.kind=.box->∀row∈k.rows,∀x∈row,∀y,VR0 w E hp G x y->VR0 w E' hp' G' (BR f x) y) (h:AU w E hp G id k):AU w E' hp' G' j (Ee f k):=by
 obtain⟨r1,r2,r3,r4,r5⟩:=BW f k;unfold AU at h⊢
 rw[r1];cases hk:k.kind with
 |box=>
  simp only[hk]at h⊢
  obtain⟨b,row,cur,h1,h2,h3,h4,h5,h6⟩:=h;have hrows:(Ee f k).rows=[row.map (BR f)]:=by unfold Ee;rw[hk];simp[h3]
  refine⟨b,row.map (BR f),cur,by rw[hm];exact h1,by rw[r3];exact h2,hrows,by rw[r2,h4];simp,by rw[r2];exact h5,?_⟩
  exact h6.map fun x hx y hxy=>⟨hv hk row (by rw[h3];simp) x hx y hxy.1,hxy.2⟩
 |arr=>
  have hrows:=U1 f k (by simp[hk]);simp only[hk]at h⊢
  rw[hrows,r2,r3,r4];rcases h with⟨h1,h2⟩|⟨b,cur,cap,h1,h2,h3,h4,h5,h6,h7,h8⟩
  ·exact .inl ⟨h1,by rw[hm];exact h2⟩
  ·refine .inr ⟨b,cur,cap,by rw[hm];exact h1,h2,h3,h4,h5,h6,h7,fun i q row x hi hq=> ?_⟩
   obtain⟨u,hu,hr⟩:=h8 i q row x hi hq;refine⟨u,hu,?_⟩
   cases hd:k.deep with
   |true=>simp only[hd,if_true]at hr⊢;exact hr.mono hN
   |false=>simp only[hd,zb8,if_false]at hr⊢;exact hr.mono (hG (.inr ⟨hk,hd⟩))
 |frz=>
  have hrows:=U1 f k (by simp[hk]);simp only[hk]at h⊢
  rw[hrows,r2,r3];rcases h with⟨h1,h2⟩|⟨b,cur,cap,fz,h1,h1',h2,h3,h4,h5,h6,h7,h8⟩
  ·exact .inl ⟨h1,by rw[hm];exact h2⟩
  ·refine .inr ⟨b,cur,cap,fz,by rw[hm];exact h1,hG (.inl hk) b h1',h2,h3,h4,h5,h6,h7,fun i q row x hi hq=> ?_⟩
   obtain⟨u,hu,hr⟩:=h8 i q row x hi hq;exact⟨u,hu,hr.mono (hG (.inl hk))⟩
theorem ZC(hI:HpInv w0 U A E G hp w){order lent:List Nat}(hn:order.Nodup)(hs:∀id∈order,∃k,hp id=some k)(hdis:∀id∈order,id ∉ lent):
  HpInv w (Own (CQ E order) (lkB (AF hp order))) (fun b=>G b\/B8 E hp lent b) (CQ E order) (fun b=>G b\/B8 E hp lent b) (lkB (AF hp order)) w:=by
 refine⟨Fr.refl _ w,?_,?_,?_,?_,?_,?_⟩
 ·intro b hb;refine⟨?_,.inl hb⟩
  rcases hb with hb|⟨id,_,k,hk,hl,ho⟩
  ·exact(hI.g1 b hb).1
  ·exact(hI.o1 b ⟨id,k,hk,hl,ho⟩).1
 ·intro b hb ho;obtain⟨id,hid,k,hk,hl,ho⟩:=SJ hs ho;rcases hb with hb|⟨id',hid',k',hk',hl',ho'⟩
  ·exact hI.g2 b hb ⟨id,k,hk,hl,ho⟩
  ·have:=hI.dis id k id' k' hk hl hk' hl' b ho ho';exact hdis id hid (this▸hid')
 ·intro b ho;obtain⟨id,hid,k,hk,hl,ho'⟩:=SJ hs ho;exact⟨(hI.o1 b ⟨id,k,hk,hl,ho'⟩).1,.inl ho⟩
 ·intro j k' j' k'' hj hl hj' hl' b ho ho';obtain⟨id,h1,h2⟩:=D9 hj;obtain⟨id',h1',h2'⟩:=D9 hj';obtain⟨k,hk⟩:=hs id (za5 h1);obtain⟨k1,hk1⟩:=hs id' (za5 h1');rw[hk,Option.getD_some]at h2;rw[hk1,Option.getD_some]at h2';subst h2;subst h2';have hl1:AQ k=true:=by unfold AQ at hl⊢;rw[(BW (idx order) k).1]at hl;exact hl
  have hl2:AQ k1=true:=by unfold AQ at hl'⊢;rw[(BW (idx order) k1).1]at hl';exact hl'
  have e1:Di E id b:=by
   rcases ho with ho|⟨i,h3,ho⟩
   ·left;simpa[CQ,h1]using ho
   ·rw[h1]at h3;cases h3;exact .inr ho
  have e2:Di E id' b:=by
   rcases ho' with ho|⟨i,h3,ho⟩
   ·left;simpa[CQ,h1']using ho
   ·rw[h1']at h3;cases h3;exact .inr ho
  have:=hI.dis id k id' k1 hk hl1 hk1 hl2 b e1 e2;subst this;have q1:=L3 hn h1;have q2:=L3 hn h1';rw[q1]at q2;exact zy q2
 ·intro j k' b hj hl hm hN;obtain⟨id,h1,h2⟩:=D9 hj;obtain⟨k,hk⟩:=hs id (za5 h1);rw[hk,Option.getD_some]at h2;subst h2;have hl1:AQ k=true:=by unfold AQ at hl⊢;rw[(BW (idx order) k).1]at hl;exact hl
  obtain⟨i,h3,hN⟩:=hN;rw[h1]at h3;cases h3
  exact hI.self id k b hk hl1 (by simpa[CQ,h1]using hm) hN
 ·intro j k' hj;obtain⟨id,h1,h2⟩:=D9 hj;obtain⟨k,hk⟩:=hs id (za5 h1);rw[hk,Option.getD_some]at h2;subst h2;exact(hI.blk id k hk).turn (by simp[CQ,h1]) (fun x hx=>⟨id,h1,hx⟩) (fun _ b hb=>.inl hb) (fun _ row _ x _ y hv=>(N9 hs).vr0 (fun b hb=>.inl hb) hv)
end
end Go.Proofs.YtnohbihcoikkbaaGreat.Ev
