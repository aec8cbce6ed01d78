/- The typed evaluator and the evaluator: structs, indices, slices, loads. -/
import Derived.Test.YtcmihlhmeonmfaaEvX3
namespace Go.Proofs.Ytcmihlhmeonmfaa.Ev
open Go
set_option linter.unusedVariables false
set_option linter.unusedSimpArgs false

section
variable {α : Type} {P : Program} {R : Rel} {cf : Cfg} {X : TX} {b : Nat} {tm : TTm} {m : Tm} {hp hpm : THp} {hv hvm : Hp} {K : SV → THp → Cls → Option α} {z : α}

theorem tfill_rel {β : Type} {flds : List Fld} (hr : RT hp tm m) : ∀ {parts : List (Nat × Operand)} {cs : List SV} {us : List V} {K : List SV → Option β} {z : β}, tFill flds tm cs parts K = some z → RC (RV0 hp) cs us →
    ∃ cs' us', fillV flds (opnd m) us parts = some us' ∧ RC (RV0 hp) cs' us' ∧ K cs' = some z
  | [], cs, us, K, z, h, hc => ⟨cs, us, rfl, hc, h⟩
  | (k, x) :: rest, cs, us, K, z, h, hc => by
    simp only [tFill, force_eq] at h
    split at h
    · rename_i f hf
      split at h
      · rename_i hok
        simp only [Bool.and_eq_true, decide_eq_true_eq] at hok
        split at h
        · rename_i cs1 hp1
          obtain ⟨f1, f2⟩ := flat_rel (op_rel hr x) hok.2
          obtain ⟨us1, h1, h2⟩ := RC.put hp1 hc f1
          obtain ⟨cs2, us2, h3, h4, h5⟩ := tfill_rel hr h h2
          refine ⟨cs2, us2, ?_, h4, h5⟩
          simp only [fillV, hf]
          have hl := f1.length
          have he := of_decide_eq_true (by simpa using hok.1 : decide ((flatT (opT tm x)).length = f.size) = true)
          rw [if_pos (by simp only [Bool.and_eq_true, decide_eq_true_eq]; exact ⟨by omega, f2⟩), h1]
          exact h3
        · cases h
      · cases h
    · cases h

theorem l_build {t : TypeId} {parts : Array (Nat × Operand)} (hX : XOK P X) (hr : RT hp tm m) (h : wtOp X (.build t parts) b tm hpm K = some z) : Looks P R cf (.build t parts) b m hp hpm hvm K z := by
  simp only [wtOp] at h
  split at h
  · rename_i d hd
    split at h
    · rename_i hc
      obtain ⟨cs, us, h1, h2, h3⟩ := tfill_rel hr h (zero_rel d.zero)
      exact looks_T h3 (y := .agg us) ⟨us, rfl, h2⟩ (by simp only [nevT, hX.ty t d hd, hc, if_true, h1, Option.map_some]) fun _ => rfl
    · cases h
  · cases h

theorem l_field {t : TypeId} {x : Operand} {k : Nat} (hX : XOK P X) (hr : RT hp tm m) (h : wtOp X (.field t x k) b tm hpm K = some z) : Looks P R cf (.field t x k) b m hp hpm hvm K z := by
  simp only [wtOp] at h
  have hx := op_rel hr x
  split at h
  · rename_i cs d e1 hd
    rw [e1] at hx
    obtain ⟨us, hx, hc⟩ := rv_agg hx
    split at h
    · rename_i f hf
      obtain ⟨l, v, h1, h2, h3⟩ := tMk_some h
      obtain ⟨vs, h4, h5⟩ := RC.seg h1 hc
      obtain ⟨y, h6, h7⟩ := mkT_rel h2 h5
      exact looks_T h3 h7 (by simp only [nevT, hx, hX.ty t d hd, hf, h4, Option.bind_some, h6]) fun _ => rfl
    · cases h
  · cases h

theorem l_fieldAddr {t : TypeId} {x : Operand} {k : Nat} (hX : XOK P X) (hr : RT hp tm m) (h : wtOp X (.fieldAddr t x k) b tm hpm K = some z) : Looks P R cf (.fieldAddr t x k) b m hp hpm hvm K z := by
  simp only [wtOp] at h
  have hx := op_rel hr x
  split at h
  · rename_i d hd
    split at h
    · rename_i f id r c hf e1
      rw [e1] at hx
      have hx : opnd m x = .rf id r c := hx
      exact looks_T h (y := .rf id r (c + f.off)) rfl (by simp only [nevT, hX.ty t d hd, hf, hx]) fun _ => rfl
    · rename_i f ty a c hf e1
      rw [e1] at hx
      obtain ⟨row, hx, hre⟩ := hx
      exact looks_T h (y := .ir row (c + f.off)) ⟨row, rfl, hre⟩ (by simp only [nevT, hX.ty t d hd, hf, hx]) fun _ => rfl
    · cases h
  · cases h

theorem strX {t : TypeId} (hX : XOK P X) (h : isStrX X t = true) : isStr P t = true := by
  unfold isStrX at h
  split at h
  · rename_i d hd
    simp only [isStr, hX.ty t d hd]; exact h
  · cases h

theorem slX {t : TypeId} (hX : XOK P X) (h : isSlX X t = true) : isSl P t = true := by
  unfold isSlX at h
  split at h
  · rename_i d hd
    simp only [isSl, hX.ty t d hd]; exact h
  · cases h

theorem getI_some {β : Type} {l : List β} {n : Int} {a : β} (h : getI l n = some a) : 0 ≤ n ∧ l[n.toNat]? = some a := by
  unfold getI at h
  split at h
  · rename_i h0; exact ⟨h0, h⟩
  · cases h

theorem idxI_some {n : Int} {len k : Nat} (h : idxI n len = some k) : 0 ≤ n ∧ n.toNat < len ∧ k = n.toNat := by
  unfold idxI at h
  split at h
  · rename_i h0; cases h; exact ⟨h0.1, h0.2, rfl⟩
  · cases h

theorem l_index {t : TypeId} {x i : Operand} (hX : XOK P X) (hr : RT hp tm m) (h : wtOp X (.index t x i) b tm hpm K = some z) : Looks P R cf (.index t x i) b m hp hpm hvm K z := by
  simp only [wtOp] at h
  have hx := op_rel hr x
  have hi := op_rel hr i
  split at h
  · rename_i s k n hs e1 e2
    rw [e1] at hx
    rw [e2] at hi
    have hx := rv_str hx
    have hi := rv_int hi
    obtain ⟨c, h1, h2⟩ := bind_some' h
    obtain ⟨h0, hc⟩ := getI_some h1
    have hlt : n.toNat < s.length := (List.getElem?_eq_some_iff.1 hc).1
    refine looks_T h2 (y := .v (.int .u8 (c.toNat : Int))) rfl ?_ fun _ => rfl
    simp only [nevT, strX hX hs, hx, hi]
    have hsz : n.toNat < (ByteArray.mk s.toArray).size := by simpa [ByteArray.size] using hlt
    rw [dif_pos ⟨h0, hsz⟩]
    have : (ByteArray.mk s.toArray)[n.toNat]'hsz = c := by
      have := (List.getElem?_eq_some_iff.1 hc).2
      rw [← this]; rfl
    rw [this]
  · cases h

/-- A slice type in the tables. -/
structure ElemOK (P : Program) (t e : TypeId) (d : TyD) (c : Ty) : Prop where
  el : (tyOf P t).bind (·.elem) = some e
  ty : tyOf P e = some d
  size : d.size = c.size
  flat : d.zero.all isVB = flatTy c

theorem elem_ok {t e : TypeId} {d : TyD} {c : Ty} (hX : XOK P X) (h : elemX X t = some (e, d, c)) : ElemOK P t e d c := by
  unfold elemX at h
  split at h
  · rename_i d0 hd0
    split at h
    · rename_i e0 he0
      split at h
      · rename_i de c0 hde hc0
        split at h
        · rename_i hb
          simp only [Bool.and_eq_true, beq_iff_eq] at hb
          simp only [Option.some.injEq, Prod.mk.injEq] at h
          obtain ⟨rfl, rfl, rfl⟩ := h
          exact ⟨by rw [hX.ty t d0 hd0]; exact he0, hX.ty _ _ hde, Nat.eq_of_beq_eq_true hb.1, hb.2⟩
        · cases h
      · cases h
    · cases h
  · cases h

theorem l_idx {t : TypeId} {x i : Operand} (hX : XOK P X) (hr : RT hp tm m) (hh : RHm hpm hp hvm) (h : wtOp X (.indexAddr t x i) b tm hpm K = some z) : Looks P R cf (.indexAddr t x i) b m hp hpm hvm K z := by
  simp only [wtOp, tIdx] at h
  have hx := op_rel hr x
  have hi := op_rel hr i
  split at h
  · rename_i e de c he
    have hE := elem_ok hX he
    split at h
    · rename_i ty l k n e1 e2
      rw [e1] at hx
      rw [e2] at hi
      have hi := rv_int hi
      split at h
      · rename_i hsz
        obtain ⟨a, h1, h2⟩ := bind_some' h
        obtain ⟨h0, hc⟩ := getI_some h1
        rcases hx with ⟨rfl, hx⟩ | ⟨rows, hx, hrl⟩
        · simp at hc
        · obtain ⟨row, hrow, hre⟩ := hrl.get hc
          have hlt : n.toNat < rows.length := (List.getElem?_eq_some_iff.1 hrow).1
          refine looks_T h2 (y := .ir row 0) ⟨row, rfl, hre⟩ ?_ fun _ => rfl
          simp only [nevT, hx, hi, hE.el, hE.ty]
          have hg : rows[n.toNat]'hlt = row := (List.getElem?_eq_some_iff.1 hrow).2
          rw [dif_pos ⟨h0, hlt⟩, hg, if_pos (by rw [hre.len]; exact Nat.eq_of_beq_eq_true hsz)]
      · cases h
    · rename_i id k n e1 e2
      rw [e1] at hx
      rw [e2] at hi
      have hi := rv_int hi
      obtain ⟨len, hx, hlen⟩ := hx
      have key : ∀ (ty : Ty) (l : List ty.den) (tb : TB), getB hpm id = some tb → blen tb = some l.length → (∀ kb, RB hp tb kb → kb.size = ty.size) → (Nat.beq ty.size de.size = true) → ((idxI n l.length).bind fun k => K (.rf id k 0) hpm .M) = some z → Looks P R cf (.indexAddr t x i) b m hp hpm hvm K z := by
        intro ty l tb hg hbl hks hsz h
        obtain ⟨hg', kb, hkb, hrb⟩ := hh id tb hg
        have hlen' := hlen tb hg'
        rw [hbl] at hlen'
        cases hlen'
        obtain ⟨kk, h1, h2⟩ := bind_some' h
        obtain ⟨h0, h3, rfl⟩ := idxI_some h1
        refine looks_M h2 (y := .rf id (0 + n.toNat) 0) (by rw [Nat.zero_add]; rfl) (by simp only [nevT, hx, hi]) ?_ fun _ => rfl
        simp only [nevM, hx, hi, hE.el, hE.ty, hkb]
        rw [if_pos ⟨by rw [hks kb hrb]; exact Nat.eq_of_beq_eq_true hsz, h0, h3⟩]
      split at h
      · rename_i a b' ty l hg
        split at h
        · rename_i hsz; exact key ty l _ hg rfl (fun kb hrb => hrb.2.2.2.1) hsz h
        · cases h
      · rename_i a b' ty l hg
        split at h
        · rename_i hsz; exact key ty l _ hg rfl (fun kb hrb => hrb.2.2.2.1) hsz h
        · cases h
      · cases h
    · rename_i id lo len k n e1 e2
      rw [e1] at hx
      rw [e2] at hi
      have hi := rv_int hi
      have hx : opnd m x = .ar id lo len := hx
      have key : ∀ (ty : Ty) (tb : TB), getB hpm id = some tb → (∀ kb, RB hp tb kb → kb.size = ty.size) → (Nat.beq ty.size de.size = true) → ((idxI n len).bind fun k => K (.rf id (lo + k) 0) hpm .M) = some z → Looks P R cf (.indexAddr t x i) b m hp hpm hvm K z := by
        intro ty tb hg hks hsz h
        obtain ⟨hg', kb, hkb, hrb⟩ := hh id tb hg
        obtain ⟨kk, h1, h2⟩ := bind_some' h
        obtain ⟨h0, h3, rfl⟩ := idxI_some h1
        refine looks_M h2 (y := .rf id (lo + n.toNat) 0) rfl (by simp only [nevT, hx, hi]) ?_ fun _ => rfl
        simp only [nevM, hx, hi, hE.el, hE.ty, hkb]
        rw [if_pos ⟨by rw [hks kb hrb]; exact Nat.eq_of_beq_eq_true hsz, h0, h3⟩]
      split at h
      · rename_i a b' ty l hg
        split at h
        · rename_i hsz; exact key ty _ hg (fun kb hrb => hrb.2.2.2.1) hsz h
        · cases h
      · rename_i a b' ty l hg
        split at h
        · rename_i hsz; exact key ty _ hg (fun kb hrb => hrb.2.2.2.1) hsz h
        · cases h
      · cases h
    · cases h
  · cases h

theorem l_extract {x : Operand} {k : Nat} (hr : RT hp tm m) (h : wtOp X (.extract x k) b tm hpm K = some z) : Looks P R cf (.extract x k) b m hp hpm hvm K z := by
  simp only [wtOp, force_eq] at h
  have hx := op_rel hr x
  split at h
  · rename_i vs e1
    rw [e1] at hx
    obtain ⟨us, hx, hc⟩ := hx
    split at h
    · rename_i v hv
      obtain ⟨y, hy, hry⟩ := hc.get hv
      exact looks_T h hry.to2 (by simp only [nevT, hx, hy]) fun _ => rfl
    · cases h
  · cases h

theorem caps_rel (hr : RT hp tm m) : ∀ {l : List Operand}, (l.map (opT tm)).all okT = true → RC (RV0 hp) (l.map (opT tm)) (l.map (opnd m)) ∧ (l.map (opnd m)).all okCell = true
  | [], _ => ⟨trivial, rfl⟩
  | x :: l, h => by
    simp only [List.map_cons, List.all_cons, Bool.and_eq_true] at h
    obtain ⟨h1, h2⟩ := caps_rel hr h.2
    have hx := op_rel hr x
    have hfl : flatT (opT tm x) = [opT tm x] := by
      cases he : opT tm x with
      | agg cs => rw [he] at h; simp [okT] at h
      | _ => rfl
    obtain ⟨f1, f2⟩ := flat_rel hx (by rw [hfl]; simpa using h.1)
    rw [hfl] at f1
    have hfv : flat (opnd m x) = [opnd m x] := by
      cases he : opnd m x with
      | agg cs =>
        exfalso
        rw [he] at hx
        cases ho : opT tm x with
        | agg cs => rw [ho] at h; simp [okT] at h
        | im t l => rw [ho] at hx; rcases hx with ⟨_, hx⟩ | ⟨_, hx, _⟩ <;> cases hx
        | ow id => rw [ho] at hx; obtain ⟨_, hx, _⟩ := hx; cases hx
        | ir t a c => rw [ho] at hx; obtain ⟨_, hx, _⟩ := hx; cases hx
        | cl f cs => rw [ho] at hx; obtain ⟨_, hx, _⟩ := hx; cases hx
        | tup cs => rw [ho] at h; simp [okT] at h
        | any => rw [ho] at h; simp [okT] at h
        | int k n => rw [ho] at hx; cases hx
        | bool k => rw [ho] at hx; cases hx
        | str k => rw [ho] at hx; cases hx
        | sc k => rw [ho] at hx; cases hx
        | em => rw [ho] at hx; cases hx
        | ar a b c => rw [ho] at hx; cases hx
        | rf a b c => rw [ho] at hx; cases hx
      | _ => rfl
    rw [hfv] at f1 f2
    simp only [List.map_cons, List.all_cons, List.all_nil, Bool.and_true, Bool.and_eq_true] at f2 ⊢
    exact ⟨⟨f1.1, h1⟩, f2, h2⟩

theorem l_func {f : FuncId} {first caps : Array Operand} (hr : RT hp tm m) (h : wtOp X (.makeFunc (.func f) first caps) b tm hpm K = some z) : Looks P R cf (.makeFunc (.func f) first caps) b m hp hpm hvm K z := by
  simp only [wtOp] at h
  split at h
  · rename_i hc
    simp only [Bool.and_eq_true] at hc
    obtain ⟨h1, h2⟩ := caps_rel hr hc.2
    exact looks_T h (y := .cl f (caps.toList.map (opnd m))) ⟨_, rfl, h1⟩ (by simp only [nevT, hc.1, h2, Bool.and_self, if_true]) fun _ => rfl
  · cases h

theorem l_len {args : Array Operand} {ts : Array TypeId} (hX : XOK P X) (hr : RT hp tm m) (hh : RHm hpm hp hvm) (h : wtOp X (.call { callee := .builtin .len, args := args, argTypes := ts }) b tm hpm K = some z) :
    Looks P R cf (.call { callee := .builtin .len, args := args, argTypes := ts }) b m hp hpm hvm K z := by
  simp only [wtOp] at h
  split at h
  · rename_i x t hx0 ht0
    have hx := op_rel hr x
    have fin : ∀ n : Int, K (.int .i64 n) hpm .T = some z → nevT P (.call { callee := .builtin .len, args := args, argTypes := ts }) (opnd m) = some (.v (.int .i64 n)) → Looks P R cf (.call { callee := .builtin .len, args := args, argTypes := ts }) b m hp hpm hvm K z :=
      fun n h hn => looks_T h (y := .v (.int .i64 n)) rfl hn fun _ => rfl
    unfold tLen at h
    split at h
    · rename_i s e1
      rw [e1] at hx
      have hx := rv_str hx
      split at h
      · rename_i hc
        simp only [Bool.and_eq_true, Bool.not_eq_true'] at hc
        refine fin _ h ?_
        have h1 := strX hX hc.1
        have h2 : isSl P t = false := by
          cases hs : isSl P t with
          | false => rfl
          | true =>
            have h3 := hc.2
            have h4 := hc.1
            unfold isSlX at h3
            unfold isStrX at h4
            unfold isSl at hs
            split at h4
            · rename_i d hd
              simp only [hd] at h3
              rw [hX.ty t d hd] at hs
              simp only at hs
              rw [h3] at hs
              cases hs
            · cases h4
        simp only [nevT, hx0, ht0, h1, h2, hx]
        simp [ByteArray.size]
      · cases h
    · rename_i hns
      split at h
      · rename_i hc
        have h1 := slX hX hc
        split at h
        · rename_i e1
          rw [e1] at hx
          have hx : opnd m x = .em := hx
          exact fin _ h (by simp only [nevT, hx0, ht0, h1, hx])
        · rename_i ty l e1
          rw [e1] at hx
          rcases hx with ⟨rfl, hx⟩ | ⟨rows, hx, hrl⟩
          · exact fin _ h (by simp only [nevT, hx0, ht0, h1, hx]; rfl)
          · exact fin _ h (by simp only [nevT, hx0, ht0, h1, hx, hrl.1])
        · rename_i id e1
          rw [e1] at hx
          obtain ⟨n, hx, hlen⟩ := hx
          split at h
          · rename_i a b' ty l hg
            have := hlen _ (hh id _ hg).1
            cases this
            exact fin _ h (by simp only [nevT, hx0, ht0, h1, hx])
          · rename_i a b' ty l hg
            have := hlen _ (hh id _ hg).1
            cases this
            exact fin _ h (by simp only [nevT, hx0, ht0, h1, hx])
          · cases h
        · rename_i id lo n e1
          rw [e1] at hx
          have hx : opnd m x = .ar id lo n := hx
          exact fin _ h (by simp only [nevT, hx0, ht0, h1, hx])
        · cases h
      · cases h
  · cases h

theorem allInts_rel : ∀ {xs : List SV} {us : List V} {k : IntKind} {ns : List Int}, allInts xs = some (k, ns) → RC (RV2 hp) xs us → toVals us = some (ns.map fun n => .int k n) ∧ ns ≠ []
  | [], us, k, ns, h, _ => by simp [allInts] at h
  | [x], us, k, ns, h, hc => by
    cases x <;> simp [allInts] at h
    obtain ⟨rfl, rfl⟩ := h
    cases us with
    | nil => exact hc.elim
    | cons u us =>
      cases us with
      | nil => have : u = _ := hc.1; subst this; exact ⟨rfl, by simp⟩
      | cons a l => exact hc.2.elim
  | x :: y :: l, us, k, ns, h, hc => by
    cases x <;> simp [allInts] at h
    split at h
    · rename_i k' ns' hr
      split at h
      · rename_i hk
        simp only [Option.some.injEq, Prod.mk.injEq] at h
        obtain ⟨rfl, rfl⟩ := h
        subst hk
        cases us with
        | nil => exact hc.elim
        | cons u us =>
          have : u = _ := hc.1
          subst this
          obtain ⟨h1, _⟩ := allInts_rel hr hc.2
          exact ⟨by simp [toVals, h1], by simp⟩
      · cases h
    · cases h

theorem map_op_rel (hr : RT hp tm m) : ∀ (l : List Operand), RC (RV2 hp) (l.map (opT tm)) (l.map (opnd m))
  | [] => trivial
  | x :: l => ⟨op_rel hr x, map_op_rel hr l⟩

theorem fold_min {k : IntKind} : ∀ (l : List Int) (x : Int), pureRun P ((l.map fun n => Value.int k n).foldlM Builtin.min2 (.int k x)) = some (.int k (l.foldl (fun a b => if b < a then b else a) x))
  | [], x => rfl
  | y :: l, x => by
    simp only [List.map_cons, List.foldlM_cons, List.foldl_cons]
    exact fold_min l (if y < x then y else x)

theorem fold_max {k : IntKind} : ∀ (l : List Int) (x : Int), pureRun P ((l.map fun n => Value.int k n).foldlM Builtin.max2 (.int k x)) = some (.int k (l.foldl (fun a b => if b > a then b else a) x))
  | [], x => rfl
  | y :: l, x => by
    simp only [List.map_cons, List.foldlM_cons, List.foldl_cons]
    exact fold_max l (if y > x then y else x)

theorem l_min {args : Array Operand} {ts : Array TypeId} (hr : RT hp tm m) (h : wtOp X (.call { callee := .builtin .min, args := args, argTypes := ts }) b tm hpm K = some z) :
    Looks P R cf (.call { callee := .builtin .min, args := args, argTypes := ts }) b m hp hpm hvm K z := by
  simp only [wtOp, tMinMax] at h
  split at h
  · rename_i k ns hi
    obtain ⟨h1, h2⟩ := allInts_rel hi (map_op_rel hr _)
    simp only [Bool.false_eq_true, if_false] at h
    refine looks_T h (y := .v (.int k (minL ns))) rfl ?_ fun _ => rfl
    simp only [nevT, h1]
    cases ns with
    | nil => exact absurd rfl h2
    | cons x l =>
      show ((pureRun P ((l.map fun n => Value.int k n).foldlM Builtin.min2 (.int k x))).bind ofScalar) = _
      rw [fold_min]; rfl
  · cases h

theorem l_max {args : Array Operand} {ts : Array TypeId} (hr : RT hp tm m) (h : wtOp X (.call { callee := .builtin .max, args := args, argTypes := ts }) b tm hpm K = some z) :
    Looks P R cf (.call { callee := .builtin .max, args := args, argTypes := ts }) b m hp hpm hvm K z := by
  simp only [wtOp, tMinMax] at h
  split at h
  · rename_i k ns hi
    obtain ⟨h1, h2⟩ := allInts_rel hi (map_op_rel hr _)
    simp only [if_true] at h
    refine looks_T h (y := .v (.int k (maxL ns))) rfl ?_ fun _ => rfl
    simp only [nevT, h1]
    cases ns with
    | nil => exact absurd rfl h2
    | cons x l =>
      show ((pureRun P ((l.map fun n => Value.int k n).foldlM Builtin.max2 (.int k x))).bind ofScalar) = _
      rw [fold_max]; rfl
  · cases h

theorem flat_scalar : ∀ {t : Ty} {a : t.den} {row : List V}, flatTy t = true → RE t a row → row.all scalarV = true
  | .int _, _, _, _, h => by simp only [RE] at h; subst h; rfl
  | .bool, _, _, _, h => by simp only [RE] at h; subst h; rfl
  | .str, _, _, _, h => by simp only [RE] at h; subst h; rfl
  | .pair a b, x, _, hf, h => by
    obtain ⟨r1, r2, rfl, h1, h2⟩ := h
    simp only [flatTy, Bool.and_eq_true] at hf
    simp [List.all_append, flat_scalar hf.1 h1, flat_scalar hf.2 h2]
  | .sl e, l, _, hf, _ => by cases hf

theorem seg_all {p : V → Bool} {cs l : List V} {off n : Nat} (h : seg cs off n = some l) (ha : cs.all p = true) : l.all p = true := by
  unfold seg at h
  split at h
  · cases h
    exact List.all_eq_true.2 fun x hx => List.all_eq_true.1 ha x (List.mem_of_mem_drop (List.mem_of_mem_take hx))
  · cases h

/-- What is loaded. -/
theorem load_rel {β : Type} {t : TypeId} {v : SV} {y : V} {KS : SV → Option β} {z : β} (hX : XOK P X) (hv : RV2 hp v y) (hh : RHm hpm hp hvm) (h : tLoad X t v hpm KS = some z) :
    ∃ x u, KS x = some z ∧ RV2 hp x u ∧ ∀ (ρ : Operand → V) (a : Operand) (b : Nat), ρ a = y → nevM P (.load t a) ρ hvm b = some (u, []) := by
  unfold tLoad at h
  split at h
  · rename_i d ty a c hd
    obtain ⟨row, rfl, hre⟩ := hv
    obtain ⟨l, x, h1, h2, h3⟩ := tMk_some h
    obtain ⟨vs, h4, h5⟩ := RC.seg (hp := hp) h1 hre.cells
    obtain ⟨u, h6, h7⟩ := mkT_rel h2 h5
    exact ⟨x, u, h3, h7, fun ρ a b he => by simp only [nevM, hX.ty t d hd, he, h4, Option.bind_some, h6]⟩
  · rename_i d id r c hd
    have hy : y = .rf id r c := hv
    subst hy
    have arr : ∀ (ty : Ty) (l : List ty.den) (tb : TB), getB hpm id = some tb → (∀ kb, RB hp tb kb → RLx (RE ty) l kb.rows ∧ (flatTy ty = true ∨ kb.deep = false)) → ((l[r]?).bind fun a => tMk d.agg (segT (encT ty a) c d.size) KS) = some z →
        ∃ x u, KS x = some z ∧ RV2 hp x u ∧ ∀ (ρ : Operand → V) (a : Operand) (b : Nat), ρ a = .rf id r c → nevM P (.load t a) ρ hvm b = some (u, []) := by
      intro ty l tb hg hks h
      obtain ⟨hg', kb, hkb, hrb⟩ := hh id tb hg
      obtain ⟨q1, q2⟩ := hks kb hrb
      obtain ⟨a, h0, h⟩ := bind_some' h
      obtain ⟨row, hrow, hre⟩ := q1.get h0
      obtain ⟨l', x, h1, h2, h3⟩ := tMk_some h
      obtain ⟨vs, h4, h5⟩ := RC.seg (hp := hp) h1 hre.cells
      obtain ⟨u, h6, h7⟩ := mkT_rel h2 h5
      have hcond : (decide (kb.kind = .box) || !kb.deep || vs.all scalarV) = true := by
        rcases q2 with hf | hd
        · simp [seg_all h4 (flat_scalar hf hre)]
        · simp [hd]
      exact ⟨x, u, h3, h7, fun ρ a b he => by simp only [nevM, hX.ty t d hd, he, hkb, hrow, h4, hcond, if_true, h6]⟩
    split at h
    · rename_i ty cs hg
      split at h
      · rename_i hr0
        obtain ⟨hg', kb, hkb, hrb⟩ := hh id _ hg
        obtain ⟨hk1, hk2, row, hk3, hk4, hk5⟩ := hrb
        obtain ⟨l, x, h1, h2, h3⟩ := tMk_some h
        obtain ⟨vs, h4, h5⟩ := RC.seg h1 hk5
        obtain ⟨u, h6, h7⟩ := mkT_rel h2 h5
        refine ⟨x, u, h3, h7, fun ρ a b he => ?_⟩
        simp only [nevM, hX.ty t d hd, he, hkb, hk3, List.getElem?_cons_zero, h4, hk1, decide_true, Bool.true_or, if_true, h6]
      · cases h
    · rename_i ty deep ty' l hg
      split at h
      · rename_i hc
        refine arr ty' l _ hg (fun kb hrb => ⟨hrb.2.2.2.2, ?_⟩) h
        simp only [Bool.or_eq_true, Bool.not_eq_true'] at hc
        rcases hc with hc | hc
        · right; rw [hrb.2.2.1]; exact hc
        · left; exact hc
      · cases h
    · rename_i ty deep ty' l hg
      split at h
      · rename_i hc
        exact arr ty' l _ hg (fun kb hrb => ⟨hrb.2.2.2.2, .inl hc⟩) h
      · cases h
    · cases h
  · cases h

theorem l_load {t : TypeId} {a : Operand} (hX : XOK P X) (hr : RT hp tm m) (hh : RHm hpm hp hvm) (h : wtOp X (.load t a) b tm hpm K = some z) : Looks P R cf (.load t a) b m hp hpm hvm K z := by
  simp only [wtOp] at h
  obtain ⟨x, u, h1, h2, h3⟩ := load_rel hX (op_rel hr a) hh h
  exact looks_M h1 h2 rfl (h3 _ _ _ rfl) fun _ => rfl

end
end Go.Proofs.Ytcmihlhmeonmfaa.Ev
