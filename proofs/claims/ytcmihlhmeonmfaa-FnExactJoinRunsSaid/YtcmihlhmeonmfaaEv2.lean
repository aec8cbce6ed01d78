/- A pure evaluator over the model's code: the rewrite rules by which it is run on terms. -/
import Derived.Test.YtcmihlhmeonmfaaEv1
namespace Go.Proofs.Ytcmihlhmeonmfaa.Ev
open Go

theorem w64 {z : Int} (h1 : -9223372036854775808 ≤ z) (h2 : z ≤ 9223372036854775807) : IntKind.i64.wrap z = z := by
  exact IntWalk.i64_in z (by omega)

theorem caseB_v (t : Bool) (F : Bool → Prop) : caseB (.v (.bool t)) F = F t := (rfl)
@[simp low] theorem caseB_var (t : Bool) (F : Bool → Prop) : caseB (.v (.bool t)) F = if t = true then F true else F false := by cases t <;> rfl
@[simp] theorem caseB_true' (F : Bool → Prop) : caseB (.v (.bool true)) F = F true := (rfl)
@[simp] theorem caseB_false' (F : Bool → Prop) : caseB (.v (.bool false)) F = F false := (rfl)

@[simp] theorem caseO_some {α : Type} (y : α) (F : α → Prop) : caseO (some y) F = F y := (rfl)
@[congr] theorem caseO_congr {α : Type} {x y : Option α} (F : α → Prop) (h : x = y) : caseO x F = caseO y F := by rw [h]
@[congr] theorem caseB_congr {x y : V} (F : Bool → Prop) (h : x = y) : caseB x F = caseB y F := by rw [h]
/-- A value that is worked out before it is used. -/
def let_ {α : Type} (x : α) (F : α → Prop) : Prop := F x
@[congr] theorem let_congr {α : Type} {x y : α} (F : α → Prop) (h : x = y) : let_ x F = let_ y F := by rw [h]
@[simp] theorem let_eq {α : Type} (x : α) (F : α → Prop) : let_ x F = F x := (rfl)
@[congr] theorem weOps_congr' (P : Program) (R : Rel) (cf : Cfg) (all : List Oper) (draw : Bool) (l : List Oper) (i : Nat) (st : St) (K : St → Prop) : weOps P R cf all draw l i st K = weOps P R cf all draw l i st K := rfl
@[congr] theorem weOp_congr' (P : Program) (R : Rel) (cf : Cfg) (op : Op) (b : Nat) (ρ : Operand → V) (hp : Hp) (K : Cont) : weOp P R cf op b ρ hp K = weOp P R cf op b ρ hp K := rfl
@[congr] theorem we_congr' (P : Program) (R : Rel) (cf : Cfg) (g : FuncId) (e : Nat) (c : Code) (st : St) (Q : Post) : we P R cf g e c st Q = we P R cf g e c st Q := rfl
@[congr] theorem callR_congr' (R : Rel) {g g' : FuncId} {a a' : List V} {b b' : List Blk} (F : V → List Blk → Prop) (hg : g = g') (ha : a = a') (hb : b = b') : callR R g a b F = callR R g' a' b' F := by rw [hg, ha, hb]
theorem caseO_ite {α : Type} (c : Prop) [Decidable c] (a b : Option α) (F : α → Prop) : caseO (if c then a else b) F = if c then caseO a F else caseO b F := by split <;> rfl
@[simp] theorem caseO_none {α : Type} (F : α → Prop) : caseO none F = False := (rfl)

section
variable (P : Program) (R : Rel) (cf : Cfg) (b : Nat) (ρ : Operand → V) (hp : Hp) (K : Cont)

@[simp ↓] theorem weOp_move (x : Operand) : weOp P R cf (.move x) b ρ hp K = let_ (ρ x) fun z => K z hp .T := (rfl)
@[simp ↓] theorem weOp_assign (x : Operand) : weOp P R cf (.assign x) b ρ hp K = let_ (ρ x) fun z => K z hp .T := (rfl)
@[simp ↓] theorem weOp_pick (c x y : Operand) : weOp P R cf (.pick c x y) b ρ hp K = caseB (ρ c) fun t => if t = true then let_ (ρ x) fun z => K z hp .T else let_ (ρ y) fun z => K z hp .T := by
  simp only [weOp, nevT, caseB, nevM, let_]
  generalize ρ c = z
  cases z with
  | v q => cases q with
    | bool t => cases t <;> rfl
    | _ => rfl
  | _ => rfl

def evBin (op : BinOp) (t : TypeId) (x y : Operand) (a c : V) : Option V :=
  match toVal a, toVal c with
  | some a, some e => (pureRun P (do eqGuard op t x y a e; binOp op t a e)).bind ofScalar
  | _, _ => none

theorem weOp_T {op : Op} (hs : ∀ t a x, op ≠ .store t a x) (hb : ∀ t l p, op ≠ .buildSlice t l p) (ha : ∀ args ts, op ≠ .call { callee := .builtin .append, args := args, argTypes := ts }) (hv : ∀ f args ts, op ≠ .call { callee := .value f, args := args, argTypes := ts }) (hsl : ∀ t x l h, op ≠ .slice t x l h none)
    (hM : nevM P op ρ hp b = none) : weOp P R cf op b ρ hp K = caseO (nevT P op ρ) fun x => K x hp .T := by
  unfold weOp
  split
  · exact absurd rfl (hs _ _ _)
  · exact absurd rfl (hb _ _ _)
  · exact absurd rfl (hsl _ _ _ _)
  · exact absurd rfl (ha _ _)
  · exact absurd rfl (hv _ _ _)
  · simp only [hM, caseO]; split <;> simp_all

@[simp ↓] theorem weOp_binOp (op : BinOp) (t yt : TypeId) (x y : Operand) : weOp P R cf (.binOp op t x y yt) b ρ hp K = caseO (evBin P op t x y (ρ x) (ρ y)) fun z => K z hp .T := by
  rw [weOp_T P R cf b ρ hp K (by simp) (by simp) (by simp) (by simp) (by simp) rfl]; rfl

def evUn (u : UnOp) (a : V) : Option V := match a with | .v a => (pureRun P (Op.unary u a)).bind ofScalar | _ => none
@[simp ↓] theorem weOp_unOp (u : UnOp) (t : TypeId) (x : Operand) : weOp P R cf (.unOp u t x) b ρ hp K = caseO (evUn P u (ρ x)) fun z => K z hp .T := by
  rw [weOp_T P R cf b ρ hp K (by simp) (by simp) (by simp) (by simp) (by simp) rfl]; rfl
@[simp] theorem evUn_not (t : Bool) : evUn P .not (.v (.bool t)) = some (.v (.bool !t)) := (rfl)
@[simp] theorem evUn_neg (n : Int) : evUn P .neg (.v (.int .i64 n)) = some (.v (.int .i64 (IntKind.i64.wrap (0 - n)))) := (rfl)

variable (t : TypeId) (x y : Operand) (m n : Int)
@[simp] theorem evBin_add : evBin P .add t x y (.v (.int .i64 m)) (.v (.int .i64 n)) = some (.v (.int .i64 (IntKind.i64.wrap (m + n)))) := (rfl)
@[simp] theorem evBin_sub : evBin P .sub t x y (.v (.int .i64 m)) (.v (.int .i64 n)) = some (.v (.int .i64 (IntKind.i64.wrap (m - n)))) := (rfl)
@[simp] theorem evBin_mul : evBin P .mul t x y (.v (.int .i64 m)) (.v (.int .i64 n)) = some (.v (.int .i64 (IntKind.i64.wrap (m * n)))) := (rfl)
@[simp] theorem evBin_eql : evBin P .eql t x y (.v (.int .i64 m)) (.v (.int .i64 n)) = some (.v (.bool (m == n))) := (rfl)
@[simp] theorem evBin_neq : evBin P .neq t x y (.v (.int .i64 m)) (.v (.int .i64 n)) = some (.v (.bool (m != n))) := (rfl)
@[simp] theorem evBin_lss : evBin P .lss t x y (.v (.int .i64 m)) (.v (.int .i64 n)) = some (.v (.bool (decide (m < n)))) := (rfl)
@[simp] theorem evBin_leq : evBin P .leq t x y (.v (.int .i64 m)) (.v (.int .i64 n)) = some (.v (.bool (decide (m ≤ n)))) := (rfl)
@[simp] theorem evBin_gtr : evBin P .gtr t x y (.v (.int .i64 m)) (.v (.int .i64 n)) = some (.v (.bool (decide (m > n)))) := (rfl)
@[simp] theorem evBin_geq : evBin P .geq t x y (.v (.int .i64 m)) (.v (.int .i64 n)) = some (.v (.bool (decide (m ≥ n)))) := (rfl)

end

@[simp] theorem opnd_tmp (tm : Tm) (t : Nat) : opnd tm (.tmp t) = tm t := (rfl)
@[simp] theorem opnd_int (tm : Tm) (k : IntKind) (n : Int) : opnd tm (.const (.int k n)) = .v (.int k n) := (rfl)
@[simp] theorem opnd_bool (tm : Tm) (t : Bool) : opnd tm (.const (.bool t)) = .v (.bool t) := (rfl)
@[simp] theorem opnd_string (tm : Tm) (s : ByteArray) : opnd tm (.const (.string s)) = .v (.string s) := (rfl)
@[simp] theorem opnd_nil (tm : Tm) : opnd tm (.const (.slice none 0 0)) = .em := (rfl)
@[simp] theorem opnd_func (tm : Tm) (f : FuncId) : opnd tm (.func f) = .cl f [] := (rfl)
@[simp] theorem put_some (tm : Tm) (d : Nat) (x : V) : put tm (some d) x = upd tm d x := (rfl)
@[simp] theorem put_none (tm : Tm) (x : V) : put tm none x = tm := (rfl)
@[simp] theorem upd_apply {α : Type} (f : Nat → α) (d : Nat) (x : α) (i : Nat) : upd f d x i = if i = d then x else f i := (rfl)
@[simp] theorem lk_nil {α : Type} (d : α) (i : Nat) : lk d [] i = d := (rfl)
@[simp] theorem lk_cons {α : Type} (d : α) (k : Nat) (x : α) (l : List (Nat × α)) (i : Nat) : lk d ((k, x) :: l) i = if i = k then x else lk d l i := (rfl)

section
variable (P : Program) (R : Rel) (cf : Cfg) (g : FuncId) (e : Nat) (st : St) (Q : Post)
@[simp ↓] theorem we_skip : we P R cf g e .skip st Q = Q .normal st := (rfl)
@[simp ↓] theorem we_seq (a b : Code) : we P R cf g e (.seq a b) st Q = we P R cf g e a st fun ex s => match ex with | .normal => meet e (cf.join g (rid b)) s fun s => we P R cf g e b s Q | ex => Q ex s := (rfl)
@[simp ↓] theorem meet_none (e : Nat) (st : St) (K : St → Prop) : meet e none st K = K st := (rfl)
@[simp ↓] theorem meet_some (e : Nat) (keep : List (Nat × Mds)) (st : St) (K : St → Prop) : meet e (some keep) st K = canon e keep st K := (rfl)
@[congr] theorem meet_congr {e : Nat} {j j' : Option (List (Nat × Mds))} (st : St) (K : St → Prop) (h : j = j') : meet e j st K = meet e j' st K := by rw [h]
@[simp ↓] theorem we_region (id : Nat) (ops : List Oper) (draw : Bool) : we P R cf g e (.region id ops.toArray draw) st Q = weOps P R cf ops draw ops 0 st fun s => let_ (s.c + ops.length) fun c => Q .normal { tm := s.tm, hp := s.hp, c := c } := by
  simp only [we, let_, List.size_toArray]
@[simp ↓] theorem we_cond (c : Operand) (a b : Code) : we P R cf g e (.cond c a b) st Q = caseB (opnd st.tm c) fun t => if t = true then we P R cf g e a st Q else we P R cf g e b st Q := (rfl)
@[simp ↓] theorem we_block (id : Nat) (c : Code) : we P R cf g e (.block id c) st Q = we P R cf g e c st fun ex s => match ex with | .exit j => if j = id then Q .normal s else Q (.exit j) s | ex => Q ex s := (rfl)
@[simp ↓] theorem we_exit (id : Nat) : we P R cf g e (.exit id) st Q = Q (.exit id) st := (rfl)
@[simp ↓] theorem we_ret : we P R cf g e .ret st Q = Q .ret st := (rfl)
variable (all : List Oper) (draw : Bool) (o : Oper) (l : List Oper) (i : Nat) (K : St → Prop)
@[simp ↓] theorem weOps_nil : weOps P R cf all draw [] i st K = K st := (rfl)
@[simp ↓] theorem weOps_cons (dst : Option Tmp) (op : Op) (type : TypeId) (pos : String) (after : Array Edge) :
    weOps P R cf all draw ({ dst := dst, op := op, type := type, pos := pos, after := after, guard := none } :: l) i st K =
      let_ (16 * (st.c + i)) fun b => opAt P R cf draw op b (opnd st.tm) st.hp fun x hp cls =>
        drawn draw (eOK all i) cls (weOps P R cf all draw l (i + 1) { tm := put st.tm dst x, hp := hp, c := st.c } K) := (rfl)
def gdst (all : List Oper) (j : Nat) : Option Tmp := (all[j]?).bind (·.dst)
@[congr] theorem gdst_congr' (all : List Oper) (j : Nat) : gdst all j = gdst all j := rfl
@[simp ↓] theorem gdst_zero (o : Oper) (l : List Oper) : gdst (o :: l) 0 = o.dst := (rfl)
@[simp ↓] theorem gdst_succ (o : Oper) (l : List Oper) (j : Nat) : gdst (o :: l) (j + 1) = gdst l j := by simp [gdst]
@[simp ↓] theorem outs_ret (rs : List ResultVar) (ms : List Mds) (e : Nat) (r : V) (blks : List Blk) : outs P rs ms e r blks .ret st = resVs P st rs fun xs => caseO (normR ms xs st.hp (st.c + 1)) fun z => outL z.2.1 e r blks z.1 := (rfl)
@[simp ↓] theorem outs_normal (rs : List ResultVar) (ms : List Mds) (e : Nat) (r : V) (blks : List Blk) : outs P rs ms e r blks .normal st = resVs P st rs fun xs => caseO (normR ms xs st.hp (st.c + 1)) fun z => outL z.2.1 e r blks z.1 := (rfl)
@[simp] theorem outL_one (hp : Hp) (e : Nat) (r : V) (blks : List Blk) (x : V) : outL hp e r blks [x] = out1 hp e x r blks := (rfl)
@[simp] theorem outL_nil (hp : Hp) (e : Nat) (r : V) (blks : List Blk) : outL hp e r blks [] = ([].all notTup = true ∧ out1 hp e (.tup []) r blks) := (rfl)
@[simp] theorem outL_two (hp : Hp) (e : Nat) (r : V) (blks : List Blk) (x y : V) (l : List V) : outL hp e r blks (x :: y :: l) = ((x :: y :: l).all notTup = true ∧ out1 hp e (.tup (x :: y :: l)) r blks) := (rfl)
@[simp ↓] theorem resVs_nil (K : List V → Prop) : resVs P st [] K = K [] := (rfl)
@[simp ↓] theorem resVs_tmp (t : Nat) (l : List ResultVar) (K : List V → Prop) : resVs P st (.tmp t :: l) K = let_ (st.tm t) fun x => resVs P st l fun xs => K (x :: xs) := (rfl)
@[congr] theorem resVs_congr' (l : List ResultVar) (K : List V → Prop) : resVs P st l K = resVs P st l K := rfl
end

@[congr] theorem opAt_congr' (P : Program) (R : Rel) (cf : Cfg) (draw : Bool) (op : Op) (b : Nat) (ρ : Operand → V) (hp : Hp) (K : Cont) : opAt P R cf draw op b ρ hp K = opAt P R cf draw op b ρ hp K := rfl
@[simp ↓] theorem opAt_false (P : Program) (R : Rel) (cf : Cfg) (op : Op) (b : Nat) (ρ : Operand → V) (hp : Hp) (K : Cont) : opAt P R cf false op b ρ hp K = weOp P R cf op b ρ hp K := (rfl)
@[simp ↓] theorem opAt_true (P : Program) (R : Rel) (cf : Cfg) (op : Op) (b : Nat) (ρ : Operand → V) (hp : Hp) (K : Cont) : opAt P R cf true op b ρ hp K = if isR op = true then weOp P R cf op b ρ (mask b hp) fun x _ cls => K x hp cls else weOp P R cf op b ρ hp K := by
  unfold opAt
  cases isR op <;> rfl
@[simp] theorem mask_apply (b : Nat) (hp : Hp) (id : Nat) : mask b hp id = if id < b then hp id else none := (rfl)
@[simp ↓] theorem drawn_false (ok : Bool) (cls : Cls) (A : Prop) : drawn false ok cls A = A := (rfl)
@[simp ↓] theorem drawn_T (d ok : Bool) (A : Prop) : drawn d ok .T A = A := by cases d <;> rfl
@[simp ↓] theorem drawn_M (d ok : Bool) (A : Prop) : drawn d ok .M A = A := by cases d <;> rfl
@[simp ↓] theorem drawn_E (ok : Bool) (A : Prop) : drawn true ok .E A = (ok = true ∧ A) := (rfl)

attribute [simp] enum entry out1 isR

/-! ### numbers of blocks -/
section
variable (f : Nat → Option Nat) (a b c : Nat) (x : Value) (rows : List (List V)) (l cs : List V) (g : FuncId)
@[simp] theorem refs0_v : refs0 (.v x) = [] := (rfl)
@[simp] theorem refs0_em : refs0 .em = [] := (rfl)
@[simp] theorem refs0_im : refs0 (.im rows) = [] := (rfl)
@[simp] theorem refs0_ar : refs0 (.ar a b c) = [a] := (rfl)
@[simp] theorem refs0_rf : refs0 (.rf a b c) = [a] := (rfl)
@[simp] theorem refs0_ir : refs0 (.ir l a) = [] := (rfl)
@[simp] theorem refs0_any : refs0 .any = [] := (rfl)
@[simp] theorem refs0_cl : refs0 (.cl g cs) = [] := (rfl)
@[simp] theorem refs1_v : refs1 (.v x) = [] := (rfl)
@[simp] theorem refs1_em : refs1 .em = [] := (rfl)
@[simp] theorem refs1_im : refs1 (.im rows) = [] := (rfl)
@[simp] theorem refs1_ar : refs1 (.ar a b c) = [a] := (rfl)
@[simp] theorem refs1_rf : refs1 (.rf a b c) = [a] := (rfl)
@[simp] theorem refs1_ir : refs1 (.ir l a) = [] := (rfl)
@[simp] theorem refs1_any : refs1 .any = [] := (rfl)
@[simp] theorem refs1_agg : refs1 (.agg cs) = cs.flatMap refs0 := (rfl)
@[simp] theorem refs1_cl : refs1 (.cl g cs) = cs.flatMap refs0 := (rfl)
@[simp] theorem refs2_v : refs2 (.v x) = [] := (rfl)
@[simp] theorem refs2_em : refs2 .em = [] := (rfl)
@[simp] theorem refs2_im : refs2 (.im rows) = [] := (rfl)
@[simp] theorem refs2_ar : refs2 (.ar a b c) = [a] := (rfl)
@[simp] theorem refs2_rf : refs2 (.rf a b c) = [a] := (rfl)
@[simp] theorem refs2_ir : refs2 (.ir l a) = [] := (rfl)
@[simp] theorem refs2_any : refs2 .any = [] := (rfl)
@[simp] theorem refs2_agg : refs2 (.agg cs) = cs.flatMap refs0 := (rfl)
@[simp] theorem refs2_cl : refs2 (.cl g cs) = cs.flatMap refs0 := (rfl)
@[simp] theorem refs2_tup : refs2 (.tup cs) = cs.flatMap refs1 := (rfl)
@[simp] theorem ren0_v : ren0 f (.v x) = .v x := (rfl)
@[simp] theorem ren0_em : ren0 f .em = .em := (rfl)
@[simp] theorem ren0_im : ren0 f (.im rows) = .im rows := (rfl)
@[simp] theorem ren0_ar : ren0 f (.ar a b c) = (match f a with | some j => .ar j b c | none => .any) := (rfl)
@[simp] theorem ren0_rf : ren0 f (.rf a b c) = (match f a with | some j => .rf j b c | none => .any) := (rfl)
@[simp] theorem ren0_ir : ren0 f (.ir l a) = .ir l a := (rfl)
@[simp] theorem ren0_any : ren0 f .any = .any := (rfl)
@[simp] theorem ren0_cl : ren0 f (.cl g []) = .cl g [] := (rfl)
@[simp] theorem ren1_v : ren1 f (.v x) = .v x := (rfl)
@[simp] theorem ren1_em : ren1 f .em = .em := (rfl)
@[simp] theorem ren1_im : ren1 f (.im rows) = .im rows := (rfl)
@[simp] theorem ren1_ar : ren1 f (.ar a b c) = (match f a with | some j => .ar j b c | none => .any) := (rfl)
@[simp] theorem ren1_rf : ren1 f (.rf a b c) = (match f a with | some j => .rf j b c | none => .any) := (rfl)
@[simp] theorem ren1_ir : ren1 f (.ir l a) = .ir l a := (rfl)
@[simp] theorem ren1_any : ren1 f .any = .any := (rfl)
@[simp] theorem ren1_agg : ren1 f (.agg cs) = .agg (cs.map (ren0 f)) := (rfl)
@[simp] theorem ren1_cl : ren1 f (.cl g cs) = .cl g (cs.map (ren0 f)) := (rfl)
@[simp] theorem ren2_v : ren2 f (.v x) = .v x := (rfl)
@[simp] theorem ren2_em : ren2 f .em = .em := (rfl)
@[simp] theorem ren2_im : ren2 f (.im rows) = .im rows := (rfl)
@[simp] theorem ren2_ar : ren2 f (.ar a b c) = (match f a with | some j => .ar j b c | none => .any) := (rfl)
@[simp] theorem ren2_rf : ren2 f (.rf a b c) = (match f a with | some j => .rf j b c | none => .any) := (rfl)
@[simp] theorem ren2_ir : ren2 f (.ir l a) = .ir l a := (rfl)
@[simp] theorem ren2_any : ren2 f .any = .any := (rfl)
@[simp] theorem ren2_agg : ren2 f (.agg cs) = .agg (cs.map (ren0 f)) := (rfl)
@[simp] theorem ren2_cl : ren2 f (.cl g cs) = .cl g (cs.map (ren0 f)) := (rfl)
@[simp] theorem ren2_tup : ren2 f (.tup cs) = .tup (cs.map (ren1 f)) := (rfl)
end

section
variable (hp : Hp) (k id : Nat) (l acc : List Nat)
@[simp] theorem close_nil' : close hp (k + 1) [] acc = some acc := (rfl)
def evCl (hp : Hp) (k : Nat) (id : Nat) (l acc : List Nat) (o : Option Blk) : Option (List Nat) := match o with | none => close hp k l acc | some b => close hp k (l ++ refsB b) (acc ++ [id])
@[congr] theorem evCl_congr {o o' : Option Blk} (h : o = o') : evCl hp k id l acc o = evCl hp k id l acc o' := by rw [h]
@[simp] theorem evCl_none : evCl hp k id l acc none = close hp k l acc := (rfl)
@[simp] theorem evCl_some (b : Blk) : evCl hp k id l acc (some b) = close hp k (l ++ refsB b) (acc ++ [id]) := (rfl)
theorem close_cons' : close hp (k + 1) (id :: l) acc = if acc.contains id then close hp k l acc else evCl hp k id l acc (hp id) := by
  unfold evCl; rfl
@[simp] theorem lkB_nil (i : Nat) : lkB [] i = none := (rfl)
@[simp] theorem lkB_zero (b : Blk) (bs : List Blk) : lkB (b :: bs) 0 = some b := (rfl)
@[simp] theorem lkB_succ (b : Blk) (bs : List Blk) (i : Nat) : lkB (b :: bs) (i + 1) = lkB bs i := (rfl)
@[simp] theorem close64_nil : close hp 64 [] acc = some acc := (rfl)
@[simp] theorem blksOf_nil : blksOf hp [] = [] := (rfl)
@[simp] theorem blksOf_cons (order : List Nat) : blksOf hp order = order.map fun id => renB (idx order) ((hp id).getD default) := (rfl)
end

@[simp] theorem canon_eq' (e : Nat) (keep : List (Nat × Mds)) (st : St) (K : St → Prop) : canon e keep st K = caseO (normS keep st) fun st => canon0 e (keep.map (·.1)) st K := (rfl)
@[simp] theorem canon_eq (e : Nat) (keep : List Nat) (st : St) (K : St → Prop) : canon0 e keep st K = caseO (close st.hp 64 (List.range e ++ keep.flatMap fun s => refs2 (st.tm s)) []) fun order => order.length ≤ 16 ∧ order.take e = List.range e ∧ K { tm := lk .any (keep.map fun s => (s, ren2 (idx order) (st.tm s))), hp := lkB (blksOf st.hp order), c := 1 } := by
  unfold canon0 caseO; split <;> simp_all

attribute [simp] close_cons'

/-! ### operations -/
section
variable (P : Program) (R : Rel) (cf : Cfg) (b : Nat) (ρ : Operand → V) (hp : Hp) (K : Cont)

/-- The size of a slice's elements. -/
def elSize (P : Program) (t : TypeId) : Option Nat := ((tyOf P t).bind (·.elem)).bind fun e => (tyOf P e).map (·.size)

def evIdx (P : Program) (t : TypeId) (a i : V) (hp : Hp) (K : Cont) : Prop :=
  match a, i with
  | .im rows, .v (.int _ n) => caseO (elSize P t) fun s => 0 ≤ n ∧ caseO rows[n.toNat]? fun row => row.length = s ∧ K (.ir row 0) hp .T
  | .ar id lo n, .v (.int _ j) => caseO (elSize P t) fun s => caseO (hp id) fun k => k.size = s ∧ 0 ≤ j ∧ j.toNat < n ∧ K (.rf id (lo + j.toNat) 0) hp .M
  | _, _ => False

@[congr] theorem evIdx_congr (P : Program) (t : TypeId) {a a' i i' : V} (hp : Hp) (K : Cont) (h : a = a') (h' : i = i') : evIdx P t a i hp K = evIdx P t a' i' hp K := by rw [h, h']
@[simp] theorem evIdx_im (P : Program) (t : TypeId) (rows : List (List V)) (k : IntKind) (n : Int) (hp : Hp) (K : Cont) : evIdx P t (.im rows) (.v (.int k n)) hp K = caseO (elSize P t) fun s => 0 ≤ n ∧ caseO rows[n.toNat]? fun row => row.length = s ∧ K (.ir row 0) hp .T := (rfl)
@[simp] theorem evIdx_ar (P : Program) (t : TypeId) (id lo m : Nat) (k : IntKind) (j : Int) (hp : Hp) (K : Cont) : evIdx P t (.ar id lo m) (.v (.int k j)) hp K = caseO (elSize P t) fun s => caseO (hp id) fun k => k.size = s ∧ 0 ≤ j ∧ j.toNat < m ∧ let_ (V.rf id (lo + j.toNat) 0) fun x => K x hp .M := (rfl)

theorem caseO_and {α : Type} {x : Option α} {F G : α → Prop} (h : ∀ y, x = some y → (F y ↔ G y)) : caseO x F ↔ caseO x G := by
  cases x with
  | none => exact Iff.rfl
  | some y => exact h y rfl

@[simp ↓] theorem weOp_indexAddr (t : TypeId) (x i : Operand) : weOp P R cf (.indexAddr t x i) b ρ hp K = evIdx P t (ρ x) (ρ i) hp K := by
  apply propext
  have h0 : weOp P R cf (.indexAddr t x i) b ρ hp K = (match nevT P (.indexAddr t x i) ρ with | some x => K x hp .T | none => caseO (nevM P (.indexAddr t x i) ρ hp b) fun z => z.2.length ≤ 16 ∧ K z.1 (inst hp b z.2) .M) := (rfl)
  rw [h0]
  simp only [nevT, nevM, evIdx, elSize]
  generalize ρ x = a
  generalize ρ i = j
  cases a with
  | im rows =>
    cases j with
    | v q =>
      cases q with
      | int k n =>
        simp only []
        cases he : (tyOf P t).bind (·.elem) with
        | none => simp [caseO]
        | some e =>
          cases hd : tyOf P e with
          | none => simp [caseO, hd]
          | some d =>
            simp only [Option.bind_some, Option.map_some, caseO_some, hd]
            by_cases hn : 0 ≤ n ∧ n.toNat < rows.length
            · have hr : rows[n.toNat]? = some (rows[n.toNat]'hn.2) := List.getElem?_eq_getElem hn.2
              rw [dif_pos hn, hr]
              simp only [caseO_some]
              by_cases hl : (rows[n.toNat]'hn.2).length = d.size
              · rw [if_pos hl]; exact ⟨fun h => ⟨hn.1, hl, h⟩, fun h => h.2.2⟩
              · rw [if_neg hl]; simp [caseO, hl]
            · rw [dif_neg hn]
              simp only [caseO_none, false_iff]
              rintro ⟨h1, h2⟩
              cases hr : rows[n.toNat]? with
              | none => rw [hr] at h2; exact h2
              | some row => exact hn ⟨h1, (List.getElem?_eq_some_iff.1 hr).1⟩
      | _ => simp [caseO]
    | _ => simp [caseO]
  | ar id lo m =>
    cases j with
    | v q =>
      cases q with
      | int k n =>
        simp only []
        cases he : (tyOf P t).bind (·.elem) with
        | none => simp [caseO]
        | some e =>
          cases hd : tyOf P e with
          | none => simp [caseO, hd]
          | some d =>
            cases hk : hp id with
            | none => simp [caseO, hd, hk]
            | some kb =>
              simp only [Option.bind_some, Option.map_some, caseO_some, hd]
              by_cases hc : kb.size = d.size ∧ 0 ≤ n ∧ n.toNat < m
              · rw [if_pos hc]; simp only [caseO_some]
                exact ⟨fun h => ⟨hc.1, hc.2.1, hc.2.2, h.2⟩, fun h => ⟨by simp, h.2.2.2⟩⟩
              · rw [if_neg hc]
                simp only [caseO_none, false_iff]
                exact fun h => hc ⟨h.1, h.2.1, h.2.2.1⟩
      | _ => simp [caseO]
    | _ => simp [caseO]
  | _ => simp [caseO]

@[simp ↓] theorem weOp_index (t : TypeId) (x i : Operand) : weOp P R cf (.index t x i) b ρ hp K = caseO (nevT P (.index t x i) ρ) fun x => K x hp .T := by
  rw [weOp_T P R cf b ρ hp K (by simp) (by simp) (by simp) (by simp) (by simp) rfl]
@[simp ↓] theorem weOp_slice3 (t : TypeId) (x : Operand) (lo : Option Operand) (h m : Operand) : weOp P R cf (.slice t x lo (some h) (some m)) b ρ hp K = caseO (nevT P (.slice t x lo (some h) (some m)) ρ) fun x => K x hp .T := by
  rw [weOp_T P R cf b ρ hp K (by simp) (by simp) (by simp) (by simp) (by simp) rfl]
@[simp ↓] theorem weOp_len (args : Array Operand) (ts : Array TypeId) : weOp P R cf (.call { callee := .builtin .len, args := args, argTypes := ts }) b ρ hp K = caseO (nevT P (.call { callee := .builtin .len, args := args, argTypes := ts }) ρ) fun x => K x hp .T := by
  rw [weOp_T P R cf b ρ hp K (by simp) (by simp) (by simp) (by simp) (by simp) rfl]
@[simp ↓] theorem weOp_min (args : Array Operand) (ts : Array TypeId) : weOp P R cf (.call { callee := .builtin .min, args := args, argTypes := ts }) b ρ hp K = caseO (nevT P (.call { callee := .builtin .min, args := args, argTypes := ts }) ρ) fun x => K x hp .T := by
  rw [weOp_T P R cf b ρ hp K (by simp) (by simp) (by simp) (by simp) (by simp) rfl]
@[simp ↓] theorem weOp_max (args : Array Operand) (ts : Array TypeId) : weOp P R cf (.call { callee := .builtin .max, args := args, argTypes := ts }) b ρ hp K = caseO (nevT P (.call { callee := .builtin .max, args := args, argTypes := ts }) ρ) fun x => K x hp .T := by
  rw [weOp_T P R cf b ρ hp K (by simp) (by simp) (by simp) (by simp) (by simp) rfl]
@[congr] theorem weStore_congr (t : TypeId) {a a' x x' : V} (h : a = a') (h' : x = x') : weStore P t a x hp K = weStore P t a' x' hp K := by rw [h, h']
@[simp ↓] theorem weOp_store (t : TypeId) (a x : Operand) : weOp P R cf (.store t a x) b ρ hp K = weStore P t (ρ a) (ρ x) hp K := (rfl)
def evStore (d : TyD) (k : Blk) (row : List V) (id r c : Nat) (xs : List V) (hp : Hp) (K : Cont) : Prop :=
  match k.kind with
  | .box => xs.all okCell = true ∧ caseO (putSeg row c xs) fun row' => let_ (upd hp id (some { k with rows := k.rows.set r row' })) fun hp => K .any hp .E
  | .arr => caseO (closeCells hp xs) fun z => nodupB (id :: z.2.1) = true ∧ caseO (putSeg row c z.1) fun row' => let_ (upd (kill hp z.2.1) id (some { k with rows := k.rows.set r row', deep := k.deep && z.2.2 })) fun hp => K .any hp .E
  | .frz => False
@[congr] theorem evStore_congr {d d' : TyD} {k k' : Blk} {row row' : List V} {id id' r r' c c' : Nat} {xs xs' : List V} (hd : d = d') (hk : k = k') (hrow : row = row') (hid : id = id') (hr : r = r') (hc : c = c') (hx : xs = xs') : evStore d k row id r c xs hp K = evStore d' k' row' id' r' c' xs' hp K := by subst_vars; rfl
@[simp] theorem weStore_rf (t : TypeId) (id r c : Nat) (x : V) : weStore P t (.rf id r c) x hp K = caseO (tyOf P t) fun d => caseO (hp id) fun k => caseO k.rows[r]? fun row => (flat x).length = d.size ∧ evStore d k row id r c (flat x) hp K := by
  apply propext
  unfold weStore
  cases hd : tyOf P t with
  | none => simp [caseO]
  | some d =>
    cases hk : hp id with
    | none => simp [caseO, hk]
    | some k =>
      cases hr : k.rows[r]? with
      | none => simp [caseO, hk, hr]
      | some row =>
        simp only [caseO_some, hk, hr]
        by_cases hl : (flat x).length = d.size
        · simp only [hl, if_true, true_and]
          unfold evStore
          cases hkk : k.kind with
          | box =>
            simp only [let_]
            by_cases hok : (flat x).all okCell = true
            · simp only [hok, if_true, true_and]
              cases putSeg row c (flat x) <;> simp [caseO]
            · simp [hok]
          | arr =>
            simp only [let_]
            cases hcl : closeCells hp (flat x) with
            | none => simp [caseO]
            | some z =>
              obtain ⟨cs, kills, deep⟩ := z
              simp only [caseO_some]
              by_cases hnd : nodupB (id :: kills) = true
              · simp only [hnd, if_true, true_and]
                cases putSeg row c cs <;> simp [caseO]
              · simp [hnd]
          | frz => simp
        · simp [hl]
@[simp] theorem evStore_box (d : TyD) (ty size : Nat) (deep : Bool) (rows : List (List V)) (row : List V) (id r c : Nat) (xs : List V) : evStore d ⟨.box, ty, size, deep, rows⟩ row id r c xs hp K = (xs.all okCell = true ∧ caseO (putSeg row c xs) fun row' => let_ (upd hp id (some ⟨.box, ty, size, deep, rows.set r row'⟩)) fun hp => K .any hp .E) := (rfl)
@[simp] theorem evStore_arr (d : TyD) (ty size : Nat) (deep : Bool) (rows : List (List V)) (row : List V) (id r c : Nat) (xs : List V) : evStore d ⟨.arr, ty, size, deep, rows⟩ row id r c xs hp K = (caseO (closeCells hp xs) fun z => nodupB (id :: z.2.1) = true ∧ caseO (putSeg row c z.1) fun row' => let_ (upd (kill hp z.2.1) id (some ⟨.arr, ty, size, deep && z.2.2, rows.set r row'⟩)) fun hp => K .any hp .E) := (rfl)
attribute [simp] kill nodupB closeCells
@[simp ↓] theorem weOp_buildSlice (t : TypeId) (n : Nat) (parts : Array (Nat × Operand)) : weOp P R cf (.buildSlice t n parts) b ρ hp K = weBuildSlice P t n parts.toList ρ hp b K := (rfl)
@[simp ↓] theorem weOp_slice (t : TypeId) (x : Operand) (lo hi : Option Operand) : weOp P R cf (.slice t x lo hi none) b ρ hp K = if isStr P t = true then caseO (nevT P (.slice t x lo hi none) ρ) fun z => K z hp .M else weSlice P t (ρ x) lo hi ρ hp K := by
  simp only [weOp]
def evApp (P : Program) (ts : List TypeId) (xs : List V) (hp : Hp) (b : Nat) (K : Cont) : Prop := match xs with | [s, x] => weAppend P ts s x hp b K | _ => False
@[congr] theorem evApp_congr {ts ts' : List TypeId} {xs xs' : List V} (h : ts = ts') (h' : xs = xs') : evApp P ts xs hp b K = evApp P ts' xs' hp b K := by rw [h, h']
@[simp ↓] theorem weOp_append (args : Array Operand) (ts : Array TypeId) : weOp P R cf (.call { callee := .builtin .append, args := args, argTypes := ts }) b ρ hp K = evApp P ts.toList (args.toList.map ρ) hp b K := by
  show (match args.toList with | [s, x] => weAppend P ts.toList (ρ s) (ρ x) hp b K | _ => False) = _
  unfold evApp
  match args.toList with
  | [] => rfl
  | [_] => rfl
  | [_, _] => rfl
  | _ :: _ :: _ :: _ => rfl
@[simp] theorem evApp_two (ts : List TypeId) (s x : V) : evApp P ts [s, x] hp b K = weAppend P ts s x hp b K := (rfl)
def evCall (R : Rel) (cf : Cfg) (f : V) (args : List V) (hp : Hp) (b : Nat) (K : Cont) : Prop := match f with | .cl g caps => weInv R cf g (args ++ caps) hp b K | _ => False
@[simp ↓] theorem weOp_call (f : Operand) (args : Array Operand) (ts : Array TypeId) : weOp P R cf (.call { callee := .value f, args := args, argTypes := ts }) b ρ hp K = evCall R cf (ρ f) (args.toList.map ρ) hp b K := (rfl)
@[congr] theorem evCall_congr {f f' : V} {args args' : List V} (h : f = f') (h' : args = args') : evCall R cf f args hp b K = evCall R cf f' args' hp b K := by rw [h, h']
@[simp] theorem evCall_cl (g : FuncId) (caps args : List V) : evCall R cf (.cl g caps) args hp b K = weInv R cf g (args ++ caps) hp b K := (rfl)
def evLen (P : Program) (ts : List TypeId) (xs : List V) : Option V :=
  match xs, ts with
  | [x], [t] => match isSl P t, isStr P t, x with
      | true, _, .im rows => some (.v (.int .i64 rows.length))
      | true, _, .em => some (.v (.int .i64 0))
      | true, _, .ar _ _ n => some (.v (.int .i64 n))
      | _, true, .v (.string s) => some (.v (.int .i64 s.size))
      | _, _, _ => none
  | _, _ => none
@[simp] theorem nevT_len (args : Array Operand) (ts : Array TypeId) : nevT P (.call { callee := .builtin .len, args := args, argTypes := ts }) ρ = evLen P ts.toList (args.toList.map ρ) := by
  simp only [nevT, evLen]
  match args.toList, ts.toList with
  | [], _ => rfl
  | [_], [] => rfl
  | [_], [_] => rfl
  | [_], _ :: _ :: _ => rfl
  | _ :: _ :: _, _ => rfl
@[simp] theorem evLen_im (t : TypeId) (rows : List (List V)) (h : isSl P t = true) : evLen P [t] [.im rows] = some (.v (.int .i64 rows.length)) := by simp [evLen, h]
@[simp] theorem evLen_em (t : TypeId) (h : isSl P t = true) : evLen P [t] [.em] = some (.v (.int .i64 0)) := by simp [evLen, h]
@[simp] theorem evLen_ar (t : TypeId) (id lo n : Nat) (h : isSl P t = true) : evLen P [t] [.ar id lo n] = some (.v (.int .i64 n)) := by simp [evLen, h]
@[simp] theorem evLen_str (t : TypeId) (s : ByteArray) (h : isSl P t = false) (h' : isStr P t = true) : evLen P [t] [.v (.string s)] = some (.v (.int .i64 s.size)) := by simp [evLen, h, h']
attribute [simp] inst seg putSeg boxOf arrOf
@[simp] theorem flat_v (x : Value) : flat (.v x) = [(.v x)] := (rfl)
@[simp] theorem flat_em  : flat .em = [.em] := (rfl)
@[simp] theorem flat_im (rows : List (List V)) : flat (.im rows) = [(.im rows)] := (rfl)
@[simp] theorem flat_ar (id lo n : Nat) : flat (.ar id lo n) = [(.ar id lo n)] := (rfl)
@[simp] theorem flat_rf (id r c : Nat) : flat (.rf id r c) = [(.rf id r c)] := (rfl)
@[simp] theorem flat_ir (row : List V) (c : Nat) : flat (.ir row c) = [(.ir row c)] := (rfl)
@[simp] theorem flat_agg (cs : List V) : flat (.agg cs) = cs := (rfl)
@[simp] theorem flat_cl (g : FuncId) (caps : List V) : flat (.cl g caps) = [(.cl g caps)] := (rfl)
@[simp] theorem flat_any  : flat .any = [.any] := (rfl)
@[simp] theorem okCell_v (x : Value) : okCell (.v x) = true := (rfl)
@[simp] theorem okCell_em  : okCell .em = true := (rfl)
@[simp] theorem okCell_im (rows : List (List V)) : okCell (.im rows) = true := (rfl)
@[simp] theorem okCell_ar (id lo n : Nat) : okCell (.ar id lo n) = true := (rfl)
@[simp] theorem okCell_rf (id r c : Nat) : okCell (.rf id r c) = true := (rfl)
@[simp] theorem okCell_ir (row : List V) (c : Nat) : okCell (.ir row c) = true := (rfl)
@[simp] theorem okCell_cl0 (g : FuncId) : okCell (.cl g []) = true := (rfl)
@[simp] theorem okCell_agg (cs : List V) : okCell (.agg cs) = false := (rfl)
@[simp] theorem okCell_tup (vs : List V) : okCell (.tup vs) = false := (rfl)
@[simp] theorem okCell_any  : okCell .any = false := (rfl)
@[simp] theorem scalarV_v (x : Value) : scalarV (.v x) = true := (rfl)
@[simp] theorem scalarV_em  : scalarV .em = true := (rfl)
@[simp] theorem scalarV_im (rows : List (List V)) : scalarV (.im rows) = false := (rfl)
@[simp] theorem scalarV_ar (id lo n : Nat) : scalarV (.ar id lo n) = false := (rfl)
@[simp] theorem scalarV_rf (id r c : Nat) : scalarV (.rf id r c) = false := (rfl)
@[simp] theorem scalarV_ir (row : List V) (c : Nat) : scalarV (.ir row c) = false := (rfl)
@[simp] theorem scalarV_agg (cs : List V) : scalarV (.agg cs) = false := (rfl)
@[simp] theorem scalarV_tup (vs : List V) : scalarV (.tup vs) = false := (rfl)
@[simp] theorem scalarV_cl (g : FuncId) (caps : List V) : scalarV (.cl g caps) = false := (rfl)
@[simp] theorem scalarV_any  : scalarV .any = false := (rfl)
@[simp] theorem noIm0_v (x : Value) : noIm0 (.v x) = true := (rfl)
@[simp] theorem noIm0_em  : noIm0 .em = false := (rfl)
@[simp] theorem noIm0_ar (id lo n : Nat) : noIm0 (.ar id lo n) = true := (rfl)
@[simp] theorem noIm0_rf (id r c : Nat) : noIm0 (.rf id r c) = true := (rfl)
@[simp] theorem noIm0_im (rows : List (List V)) : noIm0 (.im rows) = false := (rfl)
@[simp] theorem noIm0_ir (row : List V) (c : Nat) : noIm0 (.ir row c) = false := (rfl)
@[simp] theorem noIm0_cl0 (g : FuncId) : noIm0 (.cl g []) = true := (rfl)
@[simp] theorem noIm0_agg (cs : List V) : noIm0 (.agg cs) = false := (rfl)
@[simp] theorem noIm0_tup (vs : List V) : noIm0 (.tup vs) = false := (rfl)
@[simp] theorem noIm0_any  : noIm0 .any = false := (rfl)
@[simp] theorem noIm_v (x : Value) : noIm (.v x) = true := (rfl)
@[simp] theorem noIm_em  : noIm .em = false := (rfl)
@[simp] theorem noIm_ar (id lo n : Nat) : noIm (.ar id lo n) = true := (rfl)
@[simp] theorem noIm_rf (id r c : Nat) : noIm (.rf id r c) = true := (rfl)
@[simp] theorem noIm_im (rows : List (List V)) : noIm (.im rows) = false := (rfl)
@[simp] theorem noIm_ir (row : List V) (c : Nat) : noIm (.ir row c) = false := (rfl)
@[simp] theorem noIm_cl0 (g : FuncId) : noIm (.cl g []) = true := (rfl)
@[simp] theorem noIm_agg (cs : List V) : noIm (.agg cs) = cs.all noIm0 := (rfl)
@[simp] theorem noIm_any  : noIm .any = false := (rfl)
@[simp] theorem notTup_v (x : Value) : notTup (.v x) = true := (rfl)
@[simp] theorem notTup_em  : notTup .em = true := (rfl)
@[simp] theorem notTup_ar (id lo n : Nat) : notTup (.ar id lo n) = true := (rfl)
@[simp] theorem notTup_rf (id r c : Nat) : notTup (.rf id r c) = true := (rfl)
@[simp] theorem notTup_im (rows : List (List V)) : notTup (.im rows) = true := (rfl)
@[simp] theorem notTup_ir (row : List V) (c : Nat) : notTup (.ir row c) = true := (rfl)
@[simp] theorem notTup_cl (g : FuncId) (caps : List V) : notTup (.cl g caps) = true := (rfl)
@[simp] theorem notTup_agg (cs : List V) : notTup (.agg cs) = true := (rfl)
@[simp] theorem notTup_any  : notTup .any = true := (rfl)
@[simp] theorem notTup_tup (vs : List V) : notTup (.tup vs) = false := (rfl)
@[simp] theorem arIds0_v (x : Value) : arIds0 (.v x) = [] := (rfl)
@[simp] theorem arIds0_em  : arIds0 .em = [] := (rfl)
@[simp] theorem arIds0_ar (id lo n : Nat) : arIds0 (.ar id lo n) = [id] := (rfl)
@[simp] theorem arIds0_rf (id r c : Nat) : arIds0 (.rf id r c) = [] := (rfl)
@[simp] theorem arIds0_im (rows : List (List V)) : arIds0 (.im rows) = [] := (rfl)
@[simp] theorem arIds0_ir (row : List V) (c : Nat) : arIds0 (.ir row c) = [] := (rfl)
@[simp] theorem arIds0_cl (g : FuncId) (caps : List V) : arIds0 (.cl g caps) = [] := (rfl)
@[simp] theorem arIds0_agg (cs : List V) : arIds0 (.agg cs) = [] := (rfl)
@[simp] theorem arIds0_any  : arIds0 .any = [] := (rfl)
@[simp] theorem arIds1_v (x : Value) : arIds1 (.v x) = [] := (rfl)
@[simp] theorem arIds1_em  : arIds1 .em = [] := (rfl)
@[simp] theorem arIds1_ar (id lo n : Nat) : arIds1 (.ar id lo n) = [id] := (rfl)
@[simp] theorem arIds1_rf (id r c : Nat) : arIds1 (.rf id r c) = [] := (rfl)
@[simp] theorem arIds1_im (rows : List (List V)) : arIds1 (.im rows) = [] := (rfl)
@[simp] theorem arIds1_ir (row : List V) (c : Nat) : arIds1 (.ir row c) = [] := (rfl)
@[simp] theorem arIds1_cl (g : FuncId) (caps : List V) : arIds1 (.cl g caps) = caps.flatMap arIds0 := (rfl)
@[simp] theorem arIds1_agg (cs : List V) : arIds1 (.agg cs) = cs.flatMap arIds0 := (rfl)
@[simp] theorem arIds1_any  : arIds1 .any = [] := (rfl)
@[simp] theorem lend0_v (x : Value) : lend0 hp (.v x) = some (.v x) := (rfl)
@[simp] theorem lend0_em  : lend0 hp .em = some (.im []) := (rfl)
@[simp] theorem lend0_im (rows : List (List V)) : lend0 hp (.im rows) = some (.im rows) := (rfl)
@[simp] theorem lend0_rf (id r c : Nat) : lend0 hp (.rf id r c) = some (.rf id r c) := (rfl)
@[simp] theorem lend0_ir (row : List V) (c : Nat) : lend0 hp (.ir row c) = some (.ir row c) := (rfl)
@[simp] theorem lend0_cl0 (g : FuncId) : lend0 hp (.cl g []) = some (.cl g []) := (rfl)
@[simp] theorem lend0_any  : lend0 hp .any = some .any := (rfl)
@[simp] theorem lend0_ar (id lo n : Nat) : lend0 hp (.ar id lo n) = (match hp id with | some k => (match k.kind with | .box => none | _ => some (.im ((k.rows.take (lo + n)).drop lo))) | none => none) := (rfl)
@[simp] theorem lend1_v (x : Value) : lend1 hp (.v x) = some (.v x) := (rfl)
@[simp] theorem lend1_em  : lend1 hp .em = some (.im []) := (rfl)
@[simp] theorem lend1_im (rows : List (List V)) : lend1 hp (.im rows) = some (.im rows) := (rfl)
@[simp] theorem lend1_rf (id r c : Nat) : lend1 hp (.rf id r c) = some (.rf id r c) := (rfl)
@[simp] theorem lend1_ir (row : List V) (c : Nat) : lend1 hp (.ir row c) = some (.ir row c) := (rfl)
@[simp] theorem lend1_any  : lend1 hp .any = some .any := (rfl)
@[simp] theorem lend1_agg (cs : List V) : lend1 hp (.agg cs) = (match lendL hp cs with | some r => some (.agg r) | none => none) := (rfl)
@[simp] theorem lend1_cl (g : FuncId) (caps : List V) : lend1 hp (.cl g caps) = (match lendL hp caps with | some r => some (.cl g r) | none => none) := (rfl)
@[simp] theorem lend1_ar (id lo n : Nat) : lend1 hp (.ar id lo n) = lend0 hp (.ar id lo n) := (rfl)
@[simp] theorem closeCell_v (x : Value) : closeCell hp (.v x) = some (.v x, [], true) := (rfl)
@[simp] theorem closeCell_em  : closeCell hp .em = some (.em, [], false) := (rfl)
@[simp] theorem closeCell_im (rows : List (List V)) : closeCell hp (.im rows) = some (.im rows, [], false) := (rfl)
@[simp] theorem closeCell_ar (id lo n : Nat) : closeCell hp (.ar id lo n) = (match hp id with | some k => (match k.kind with | .arr => some (.im ((k.rows.take (lo + n)).drop lo), [id], k.deep) | .frz => some (.im ((k.rows.take (lo + n)).drop lo), [], false) | .box => none) | none => none) := (rfl)
@[simp] theorem mk_true (cs : List V) : mk true cs = some (.agg cs) := (rfl)
@[simp] theorem mk_false (x : V) : mk false [x] = some x := (rfl)

def evField (P : Program) (t : TypeId) (k : Nat) (v : V) (F : V → Prop) : Prop :=
  match v with
  | .agg cs => caseO (tyOf P t) fun d => caseO d.flds[k]? fun f => caseO (seg cs f.off f.size) fun l => caseO (mk f.agg l) F
  | _ => False
@[congr] theorem evField_congr {t : TypeId} {k : Nat} {v v' : V} {F : V → Prop} (h : v = v') : evField P t k v F = evField P t k v' F := by rw [h]
@[simp] theorem evField_agg (t : TypeId) (k : Nat) (cs : List V) (F : V → Prop) : evField P t k (.agg cs) F = caseO (tyOf P t) fun d => caseO d.flds[k]? fun f => caseO (seg cs f.off f.size) fun l => caseO (mk f.agg l) F := (rfl)
theorem bind_case {α β : Type} (x : Option α) (f : α → Option β) (F : β → Prop) : caseO (x.bind f) F = caseO x fun y => caseO (f y) F := by cases x <;> rfl
@[simp ↓] theorem weOp_field (t : TypeId) (x : Operand) (k : Nat) : weOp P R cf (.field t x k) b ρ hp K = evField P t k (ρ x) fun x => K x hp .T := by
  rw [weOp_T P R cf b ρ hp K (by simp) (by simp) (by simp) (by simp) (by simp) rfl]
  simp only [nevT, evField]
  generalize ρ x = v
  cases v with
  | agg cs =>
    cases tyOf P t with
    | none => rfl
    | some d =>
      simp only [caseO_some]
      cases d.flds[k]? with
      | none => rfl
      | some f => simp only [bind_case, caseO_some]
  | _ => rfl

def evFA (P : Program) (t : TypeId) (k : Nat) (v : V) (F : V → Prop) : Prop :=
  match v with
  | .rf id r c => caseO (tyOf P t) fun d => caseO d.flds[k]? fun f => let_ (V.rf id r (c + f.off)) F
  | .ir row c => caseO (tyOf P t) fun d => caseO d.flds[k]? fun f => let_ (V.ir row (c + f.off)) F
  | _ => False
@[congr] theorem evFA_congr {t : TypeId} {k : Nat} {v v' : V} {F : V → Prop} (h : v = v') : evFA P t k v F = evFA P t k v' F := by rw [h]
@[simp] theorem evFA_rf (t : TypeId) (k : Nat) (id r c : Nat) (F : V → Prop) : evFA P t k (.rf id r c) F = caseO (tyOf P t) fun d => caseO d.flds[k]? fun f => let_ (V.rf id r (c + f.off)) F := (rfl)
@[simp] theorem evFA_ir (t : TypeId) (k : Nat) (row : List V) (c : Nat) (F : V → Prop) : evFA P t k (.ir row c) F = caseO (tyOf P t) fun d => caseO d.flds[k]? fun f => let_ (V.ir row (c + f.off)) F := (rfl)
@[simp ↓] theorem weOp_fieldAddr (t : TypeId) (x : Operand) (k : Nat) : weOp P R cf (.fieldAddr t x k) b ρ hp K = evFA P t k (ρ x) fun x => K x hp .T := by
  rw [weOp_T P R cf b ρ hp K (by simp) (by simp) (by simp) (by simp) (by simp) rfl]
  simp only [nevT, evFA]
  generalize ρ x = v
  cases tyOf P t with
  | none => cases v <;> rfl
  | some d =>
    simp only [caseO_some]
    cases d.flds[k]? with
    | none => cases v <;> rfl
    | some f => cases v <;> rfl

def evLoad (P : Program) (t : TypeId) (v : V) (hp : Hp) (F : V → Prop) : Prop :=
  match v with
  | .ir row c => caseO (tyOf P t) fun d => caseO (seg row c d.size) fun l => caseO (mk d.agg l) F
  | .rf id r c => caseO (tyOf P t) fun d => caseO (hp id) fun k => caseO k.rows[r]? fun row => caseO (seg row c d.size) fun cs => (k.kind = .box || !k.deep || cs.all scalarV) = true ∧ caseO (mk d.agg cs) F
  | _ => False
@[congr] theorem evLoad_congr {t : TypeId} {v v' : V} {hp : Hp} {F : V → Prop} (h : v = v') : evLoad P t v hp F = evLoad P t v' hp F := by rw [h]
@[simp] theorem evLoad_ir (t : TypeId) (row : List V) (c : Nat) (F : V → Prop) : evLoad P t (.ir row c) hp F = caseO (tyOf P t) fun d => caseO (seg row c d.size) fun l => caseO (mk d.agg l) F := (rfl)
@[simp] theorem evLoad_rf (t : TypeId) (id r c : Nat) (F : V → Prop) : evLoad P t (.rf id r c) hp F = caseO (tyOf P t) fun d => caseO (hp id) fun k => caseO k.rows[r]? fun row => caseO (seg row c d.size) fun cs => (k.kind = .box || !k.deep || cs.all scalarV) = true ∧ caseO (mk d.agg cs) F := (rfl)
theorem load_ev (t : TypeId) (a : Operand) (F : V → Prop) : (caseO (nevM P (.load t a) ρ hp b) fun z => F z.1) = evLoad P t (ρ a) hp F := by
  simp only [nevM, evLoad]
  generalize ρ a = v
  cases tyOf P t with
  | none => cases v <;> rfl
  | some d =>
    simp only [caseO_some]
    cases v with
    | ir row c =>
      simp only []
      cases seg row c d.size with
      | none => rfl
      | some l =>
        simp only [Option.bind_some, caseO_some]
        cases mk d.agg l <;> rfl
    | rf id r c =>
      simp only []
      cases hp id with
      | none => rfl
      | some k =>
        simp only [caseO_some]
        cases k.rows[r]? with
        | none => rfl
        | some row =>
          simp only [caseO_some]
          cases seg row c d.size with
          | none => rfl
          | some cs =>
            simp only [caseO_some]
            by_cases hc : (decide (k.kind = .box) || !k.deep || cs.all scalarV) = true
            · simp only [hc, if_true, true_and]
              cases mk d.agg cs <;> rfl
            · simp [hc, caseO]
    | _ => rfl
theorem load_len (t : TypeId) (a : Operand) (z : V × List Blk) (h : nevM P (.load t a) ρ hp b = some z) : z.2 = [] := by
  simp only [nevM] at h
  repeat' (split at h)
  all_goals first | (cases h; rfl) | cases h
@[simp ↓] theorem weOp_load (t : TypeId) (a : Operand) : weOp P R cf (.load t a) b ρ hp K = evLoad P t (ρ a) hp fun x => K x hp .M := by
  rw [← load_ev P b ρ hp t a]
  show (caseO (nevM P (.load t a) ρ hp b) fun z => z.2.length ≤ 16 ∧ K z.1 (inst hp b z.2) .M) = _
  cases h : nevM P (.load t a) ρ hp b with
  | none => rfl
  | some z => simp only [caseO_some, load_len P b ρ hp t a z h, inst]; simp

@[simp ↓] theorem weOp_alloc (t : TypeId) : weOp P R cf (.alloc t) b ρ hp K = caseO (tyOf P t) fun d => let_ (upd hp b (some (boxOf t d.zero))) fun hp => K (.rf b 0 0) hp .M := by
  show (caseO (nevM P (.alloc t) ρ hp b) fun z => z.2.length ≤ 16 ∧ K z.1 (inst hp b z.2) .M) = _
  simp only [nevM]
  cases tyOf P t with
  | none => rfl
  | some d => simp [caseO, inst, let_]

def evBox (P : Program) (t : TypeId) (v : V) (hp : Hp) (b : Nat) (K : Cont) : Prop :=
  caseO (tyOf P t) fun d => (flat v).length = d.size ∧ (flat v).all okCell = true ∧ let_ (upd hp b (some (boxOf t (flat v)))) fun hp => K (.rf b 0 0) hp .M
@[congr] theorem evBox_congr {t : TypeId} {v v' : V} (h : v = v') : evBox P t v hp b K = evBox P t v' hp b K := by rw [h]
@[simp] theorem evBox_eq (t : TypeId) (v : V) : evBox P t v hp b K = caseO (tyOf P t) fun d => (flat v).length = d.size ∧ (flat v).all okCell = true ∧ let_ (upd hp b (some (boxOf t (flat v)))) fun hp => K (.rf b 0 0) hp .M := (rfl)
@[simp ↓] theorem weOp_box (t : TypeId) (x : Operand) : weOp P R cf (.box t x) b ρ hp K = evBox P t (ρ x) hp b K := by
  show (caseO (nevM P (.box t x) ρ hp b) fun z => z.2.length ≤ 16 ∧ K z.1 (inst hp b z.2) .M) = _
  simp only [nevM, evBox]
  cases tyOf P t with
  | none => rfl
  | some d =>
    simp only [caseO_some]
    by_cases hc : (decide ((flat (ρ x)).length = d.size) && (flat (ρ x)).all okCell) = true
    · simp only [hc, if_true, caseO_some, inst, let_]
      simp only [Bool.and_eq_true, decide_eq_true_eq] at hc
      simp [hc.1, hc.2]
    · simp only [if_neg hc, caseO_none]
      simp only [Bool.and_eq_true, decide_eq_true_eq] at hc
      exact (propext ⟨fun h => hc ⟨h.1, h.2.1⟩, fun h => h.elim⟩).symm

def evMk (P : Program) (t : TypeId) (l c : V) (hp : Hp) (b : Nat) (K : Cont) : Prop :=
  match l, c with
  | .v (.int _ n), .v (.int _ m) => caseO ((tyOf P t).bind (·.elem)) fun e => caseO (tyOf P e) fun d =>
      (0 ≤ n ∧ n ≤ m ∧ m.toNat * d.bytes ≤ maxBytes ∧ m.toNat * d.size ≤ maxBytes ∧ d.zero.all scalarV = true) ∧ let_ (upd hp b (some (arrOf e d.size true (List.replicate n.toNat d.zero)))) fun hp => K (.ar b 0 n.toNat) hp .M
  | _, _ => False
@[congr] theorem evMk_congr {t : TypeId} {l l' c c' : V} (h : l = l') (h' : c = c') : evMk P t l c hp b K = evMk P t l' c' hp b K := by rw [h, h']
@[simp] theorem evMk_int (t : TypeId) (k k' : IntKind) (n m : Int) : evMk P t (.v (.int k n)) (.v (.int k' m)) hp b K = caseO ((tyOf P t).bind (·.elem)) fun e => caseO (tyOf P e) fun d =>
      (0 ≤ n ∧ n ≤ m ∧ m.toNat * d.bytes ≤ maxBytes ∧ m.toNat * d.size ≤ maxBytes ∧ d.zero.all scalarV = true) ∧ let_ (upd hp b (some (arrOf e d.size true (List.replicate n.toNat d.zero)))) fun hp => K (.ar b 0 n.toNat) hp .M := (rfl)
@[simp ↓] theorem weOp_makeSlice (t : TypeId) (l c : Operand) : weOp P R cf (.makeSlice t l c) b ρ hp K = evMk P t (ρ l) (ρ c) hp b K := by
  show (caseO (nevM P (.makeSlice t l c) ρ hp b) fun z => z.2.length ≤ 16 ∧ K z.1 (inst hp b z.2) .M) = _
  simp only [nevM, evMk]
  generalize ρ l = x
  generalize ρ c = y
  cases x with
  | v x =>
    cases y with
    | v y =>
      cases x <;> first | rfl | skip
      cases y <;> first | rfl | skip
      rename_i k n k' m
      simp only []
      cases (tyOf P t).bind (·.elem) with
      | none => rfl
      | some e =>
        simp only [caseO_some]
        cases tyOf P e with
        | none => rfl
        | some d =>
          simp only [caseO_some]
          by_cases hc : 0 ≤ n ∧ n ≤ m ∧ m.toNat * d.bytes ≤ maxBytes ∧ m.toNat * d.size ≤ maxBytes ∧ d.zero.all scalarV = true
          · rw [if_pos hc]; simp only [caseO_some, inst, let_]; simp only [hc, List.length_cons, List.length_nil]; simp
          · rw [if_neg hc]; simp only [caseO_none, hc, false_and]
    | _ => cases x <;> rfl
  | _ => rfl

def evNil (v : V) (F : V → Prop) : Prop := match v with | .rf id r c => F (.rf id r c) | .ir row c => F (.ir row c) | .cl f caps => F (.cl f caps) | _ => False
@[congr] theorem evNil_congr {v v' : V} {F : V → Prop} (h : v = v') : evNil v F = evNil v' F := by rw [h]
@[simp] theorem evNil_rf (id r c : Nat) (F : V → Prop) : evNil (.rf id r c) F = F (.rf id r c) := (rfl)
@[simp] theorem evNil_ir (row : List V) (c : Nat) (F : V → Prop) : evNil (.ir row c) F = F (.ir row c) := (rfl)
@[simp] theorem evNil_cl (f : FuncId) (caps : List V) (F : V → Prop) : evNil (.cl f caps) F = F (.cl f caps) := (rfl)
@[simp ↓] theorem weOp_nilCheck (x : Operand) : weOp P R cf (.nilCheck x) b ρ hp K = evNil (ρ x) fun x => K x hp .T := by
  rw [weOp_T P R cf b ρ hp K (by simp) (by simp) (by simp) (by simp) (by simp) rfl]
  simp only [nevT, evNil]
  cases ρ x <;> rfl

def evExt (k : Nat) (v : V) (F : V → Prop) : Prop := match v with | .tup vs => caseO vs[k]? F | _ => False
@[congr] theorem evExt_congr {k : Nat} {v v' : V} {F : V → Prop} (h : v = v') : evExt k v F = evExt k v' F := by rw [h]
@[simp] theorem evExt_tup (k : Nat) (vs : List V) (F : V → Prop) : evExt k (.tup vs) F = caseO vs[k]? F := (rfl)
@[simp ↓] theorem weOp_extract (x : Operand) (k : Nat) : weOp P R cf (.extract x k) b ρ hp K = evExt k (ρ x) fun x => K x hp .T := by
  rw [weOp_T P R cf b ρ hp K (by simp) (by simp) (by simp) (by simp) (by simp) rfl]
  simp only [nevT, evExt]
  cases ρ x <;> rfl

def evFill (flds : List Fld) (ρ : Operand → V) (cs : List V) (parts : List (Nat × Operand)) (F : List V → Prop) : Prop :=
  match parts with
  | [] => F cs
  | (k, x) :: rest => caseO flds[k]? fun f => let_ (ρ x) fun v => (flat v).length = f.size ∧ (flat v).all okCell = true ∧ caseO (putSeg cs f.off (flat v)) fun cs => evFill flds ρ cs rest F
@[congr] theorem evFill_congr' (flds : List Fld) (cs : List V) (parts : List (Nat × Operand)) (F : List V → Prop) : evFill flds ρ cs parts F = evFill flds ρ cs parts F := rfl
@[simp ↓] theorem evFill_nil (flds : List Fld) (cs : List V) (F : List V → Prop) : evFill flds ρ cs [] F = F cs := (rfl)
@[simp ↓] theorem evFill_cons (flds : List Fld) (cs : List V) (k : Nat) (x : Operand) (rest : List (Nat × Operand)) (F : List V → Prop) : evFill flds ρ cs ((k, x) :: rest) F = caseO flds[k]? fun f => let_ (ρ x) fun v => (flat v).length = f.size ∧ (flat v).all okCell = true ∧ caseO (putSeg cs f.off (flat v)) fun cs => evFill flds ρ cs rest F := (rfl)
theorem fill_ev (flds : List Fld) : ∀ (parts : List (Nat × Operand)) (cs : List V) (F : List V → Prop), caseO (fillV flds ρ cs parts) F = evFill flds ρ cs parts F
  | [], cs, F => rfl
  | (k, x) :: rest, cs, F => by
    simp only [fillV, evFill, let_]
    cases flds[k]? with
    | none => rfl
    | some f =>
      simp only [caseO_some]
      by_cases hc : (decide ((flat (ρ x)).length = f.size) && (flat (ρ x)).all okCell) = true
      · simp only [hc, if_true, bind_case]
        simp only [Bool.and_eq_true, decide_eq_true_eq] at hc
        simp only [hc.1, hc.2, true_and]
        cases putSeg cs f.off (flat (ρ x)) with
        | none => rfl
        | some cs' => exact fill_ev flds rest cs' F
      · simp only [if_neg hc, caseO_none]
        simp only [Bool.and_eq_true, decide_eq_true_eq] at hc
        exact (propext ⟨fun h => hc ⟨h.1, h.2.1⟩, fun h => h.elim⟩).symm
@[simp ↓] theorem weOp_build (t : TypeId) (parts : List (Nat × Operand)) : weOp P R cf (.build t parts.toArray) b ρ hp K = caseO (tyOf P t) fun d => (d.agg && !d.flds.isEmpty) = true ∧ evFill d.flds ρ d.zero parts fun cs => K (.agg cs) hp .T := by
  rw [weOp_T P R cf b ρ hp K (by simp) (by simp) (by simp) (by simp) (by simp) rfl]
  simp only [nevT]
  cases tyOf P t with
  | none => rfl
  | some d =>
    simp only [caseO_some]
    by_cases hc : (d.agg && !d.flds.isEmpty) = true
    · simp only [hc, if_true, true_and]
      rw [← fill_ev]
      cases fillV d.flds ρ d.zero parts <;> rfl
    · simp only [if_neg hc, caseO_none]
      simp [hc]

attribute [simp] lendA lendL
@[simp] theorem noImB_box (ty size : Nat) (deep : Bool) (rows : List (List V)) : noImB ⟨.box, ty, size, deep, rows⟩ = rows.all (·.all noIm0) := (rfl)
@[simp] theorem noImB_arr (ty size : Nat) (deep : Bool) (rows : List (List V)) : noImB ⟨.arr, ty, size, deep, rows⟩ = deep := (rfl)
@[simp] theorem noImB_frz (ty size : Nat) (deep : Bool) (rows : List (List V)) : noImB ⟨.frz, ty, size, deep, rows⟩ = false := (rfl)
@[simp] theorem refsB_box (ty size : Nat) (deep : Bool) (rows : List (List V)) : refsB ⟨.box, ty, size, deep, rows⟩ = rows.flatMap (·.flatMap refs0) := (rfl)
@[simp] theorem refsB_arr (ty size : Nat) (deep : Bool) (rows : List (List V)) : refsB ⟨.arr, ty, size, deep, rows⟩ = [] := (rfl)
@[simp] theorem refsB_frz (ty size : Nat) (deep : Bool) (rows : List (List V)) : refsB ⟨.frz, ty, size, deep, rows⟩ = [] := (rfl)
@[simp] theorem renB_box (f : Nat → Option Nat) (ty size : Nat) (deep : Bool) (rows : List (List V)) : renB f ⟨.box, ty, size, deep, rows⟩ = ⟨.box, ty, size, deep, rows.map (·.map (ren0 f))⟩ := (rfl)
@[simp] theorem renB_arr (f : Nat → Option Nat) (ty size : Nat) (deep : Bool) (rows : List (List V)) : renB f ⟨.arr, ty, size, deep, rows⟩ = ⟨.arr, ty, size, deep, rows⟩ := (rfl)
@[simp] theorem renB_frz (f : Nat → Option Nat) (ty size : Nat) (deep : Bool) (rows : List (List V)) : renB f ⟨.frz, ty, size, deep, rows⟩ = ⟨.frz, ty, size, deep, rows⟩ := (rfl)
attribute [simp] back idx

def handed (cf : Cfg) (g : FuncId) (hp : Hp) (args : List V) : Option (List V) := if cf.byref g then (if args.all notTup then some args else none) else lendA hp args
attribute [simp] handed
@[congr] theorem weInv_congr {g g' : FuncId} {args args' : List V} (h : g = g') (h' : args = args') : weInv R cf g args hp b K = weInv R cf g' args' hp b K := by rw [h, h']
def evInv (R : Rel) (cf : Cfg) (g : FuncId) (args args' : List V) (order : List Nat) (hp : Hp) (b : Nat) (K : Cont) : Prop :=
  match order with
  | [] => wePure R g args' (if cf.byref g then [] else args.flatMap arIds1) hp b K
  | order => weRef R g args' (if cf.byref g then [] else args.flatMap arIds1) (args'.flatMap refs1).eraseDups order hp b K
@[congr] theorem evInv_congr {g g' : FuncId} {args a args' a' : List V} {order order' : List Nat} (h : g = g') (h1 : args = a) (h2 : args' = a') (h3 : order = order') : evInv R cf g args args' order hp b K = evInv R cf g' a a' order' hp b K := by subst_vars; rfl
@[simp] theorem weInv_eq (g : FuncId) (args : List V) : weInv R cf g args hp b K = caseO (handed cf g hp args) fun args' => caseO (close hp 64 (args'.flatMap refs1) []) fun order => evInv R cf g args args' order hp b K := by
  unfold weInv handed
  cases (if cf.byref g then (if args.all notTup then some args else none) else lendA hp args) with
  | none => rfl
  | some args' =>
    simp only [caseO_some]
    cases close hp 64 (args'.flatMap refs1) [] with
    | none => rfl
    | some order => cases order <;> rfl
@[simp] theorem evInv_nil (g : FuncId) (args args' : List V) : evInv R cf g args args' [] hp b K = let_ (if cf.byref g then [] else args.flatMap arIds1) fun lent => callR R g args' [] fun r blks =>
    blks.length ≤ 16 ∧ idsOK args' [] = true ∧
    if (lent.isEmpty || (noIm r && blks.all noImB)) = true then let_ (ren2 (back [] 0 blks.length b) r) fun x => let_ (callHp hp [] 0 b blks) fun hp => K x hp .M
    else let_ (ren2 (back [] 0 blks.length b) r) fun x => let_ (callHp (freeze hp lent) [] 0 b blks) fun hp => K x hp .E := (rfl)
@[simp] theorem evInv_cons (g : FuncId) (args args' : List V) (i : Nat) (l : List Nat) : evInv R cf g args args' (i :: l) hp b K = weRef R g args' (if cf.byref g then [] else args.flatMap arIds1) (args'.flatMap refs1).eraseDups (i :: l) hp b K := (rfl)

@[simp] theorem callHp_nil (blks : List Blk) : callHp hp [] 0 b blks = inst hp b (blks.map (renB (back [] 0 blks.length b))) := by
  cases blks <;> rfl

@[simp ↓] theorem resVs_cell (st : St) (a t : Nat) (l : List ResultVar) (F : List V → Prop) : resVs P st (.cell a t :: l) F = evLoad P t (opnd st.tm (.tmp a)) st.hp fun x => resVs P st l fun xs => F (x :: xs) := by
  rw [← load_ev P 0 (opnd st.tm) st.hp t (.tmp a)]
  show resV P st (.cell a t) (fun x => resVs P st l fun xs => F (x :: xs)) = _
  unfold resV caseO
  simp only []
  split <;> simp_all
end

end Go.Proofs.Ytcmihlhmeonmfaa.Ev
