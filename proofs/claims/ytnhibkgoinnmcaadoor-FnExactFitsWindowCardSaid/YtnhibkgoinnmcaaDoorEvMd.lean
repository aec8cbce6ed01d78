/- The evaluator, part 4: EvEq EvX4 EvX5 EvX6 EvX7 EvX8 EvX9 EvXa EvXb EvXd EvXe EvXf EvXg EvXh. -/
import Derived.Test.YtnhibkgoinnmcaaDoorEvMc
import Derived.Laws.StructEq
import Derived.Test.YtnhibkgoinnmcaaDoorEvMb
import Derived.WalkKit
import Derived.SizedLaws

/-! #### EvEq -/
section
/- Structs of numbers may be compared. -/
namespace Go.Proofs.YtnhibkgoinnmcaaDoor.Ev
open Go
set_option linter.unusedVariables false
set_option linter.unusedSimpArgs false
variable {P : Program}

/-- Fields of one cell, one behind the other: numbers. -/
def eqFlds (P : Program) : Nat → List Field → Bool
  | _, [] => true
  | i, f :: l => (f.name != "_") && Nat.beq f.offset i && (match P.underlying f.type with | some (.int _) => true | _ => false) && eqFlds P (i + 1) l

theorem pure_part {t : TypeId} {td : TypeDesc} {cs : Array Value} {off : Nat} {v : Value} (hu : P.underlying t = some td) (ha : isAggD td = false) (hv : cs[off]? = some v) : pureRun P (part t cs off) = some v := by
  unfold part
  have : pureRun P (isAgg t) = some false := by
    unfold isAgg
    rw [pure_under hu]
    cases td <;> first | rfl | cases ha
  rw [pureRun_bind _ _ _ this]
  simp only [Bool.false_eq_true, if_false, hv]
  rfl

theorem pure_eq_int {d : Nat} {t : TypeId} {k k0 : IntKind} {a b : Int} (hu : P.underlying t = some (.int k0)) : pureRun P (Op.equalIn (d + 1) t (.int k a) (.int k b)) = some (a == b) := by
  unfold Op.equalIn
  rw [pure_under hu]
  simp
  rfl

theorem eq_step {c d : SV} {cs ds : List SV} {r : Bool} (h : eqCells (c :: cs) (d :: ds) = some r) : ∃ k a b r', c = .int k a ∧ d = .int k b ∧ eqCells cs ds = some r' ∧ r = ((a == b) && r') := by
  cases c <;> cases d <;> first | (simp [eqCells] at h; done) | skip
  rename_i k a k' b
  cases cs with
  | nil =>
    cases ds with
    | nil =>
      simp only [eqCells] at h
      split at h
      · rename_i hk
        subst hk
        cases h
        exact ⟨_, _, _, true, rfl, rfl, rfl, (Bool.and_true _).symm⟩
      · cases h
    | cons e l => simp only [eqCells] at h; split at h <;> cases h
  | cons e l =>
    simp only [eqCells] at h
    split at h
    · rename_i hk
      subst hk
      split at h
      · rename_i r' hr
        cases h
        exact ⟨_, _, _, r', rfl, rfl, hr, rfl⟩
      · cases h
    · cases h

theorem eq_loop {dp : Nat} {xs ys : Array Value} : ∀ (fs : List Field) (i : Nat) (cs ds : List SV) (us vs : List Value) (r : Bool), eqFlds P i fs = true → fs.length = us.length → RC EqR cs (us.map .v) → RC EqR ds (vs.map .v) → eqCells cs ds = some r →
    (∀ j v, us[j]? = some v → xs[i + j]? = some v) → (∀ j v, vs[j]? = some v → ys[i + j]? = some v) → pureRun P (Op.eqFields (dp + 1) xs ys fs) = some r
  | [], i, cs, ds, us, vs, r, _, hl, h1, h2, he, _, _ => by
    have hus : us = [] := List.eq_nil_of_length_eq_zero hl.symm
    subst hus
    have hcs : cs = [] := List.eq_nil_of_length_eq_zero (by have := RC.length h1; simpa using this.symm)
    subst hcs
    cases ds with
    | nil => simp [eqCells] at he; subst he; rfl
    | cons a l => simp [eqCells] at he
  | f :: fs, i, cs, ds, us, vs, r, hf, hl, h1, h2, he, hx, hy => by
    cases us with
    | nil => simp at hl
    | cons u us =>
      cases cs with
      | nil => exact h1.elim
      | cons c cs =>
        cases ds with
        | nil => cases c <;> simp [eqCells] at he
        | cons d ds =>
          cases vs with
          | nil => exact h2.elim
          | cons v vs =>
            simp only [eqFlds, Bool.and_eq_true] at hf
            obtain ⟨⟨⟨f1, f2⟩, f3⟩, f4⟩ := hf
            have ho : f.offset = i := Nat.eq_of_beq_eq_true f2
            obtain ⟨k, a, b, r', rfl, rfl, e1, e2⟩ := eq_step he
            have ih := eq_loop (dp := dp) fs (i + 1) cs ds us vs r' f4 (by simpa using hl) h1.2 h2.2 e1 (fun j w hj => by rw [show i + 1 + j = i + (j + 1) by omega]; exact hx (j + 1) w (by simpa using hj)) (fun j w hj => by rw [show i + 1 + j = i + (j + 1) by omega]; exact hy (j + 1) w (by simpa using hj))
            have hxi : xs[f.offset]? = some u := by rw [ho]; exact hx 0 u rfl
            have hyi : ys[f.offset]? = some v := by rw [ho]; exact hy 0 v rfl
            have hname : f.name ≠ "_" := by simpa using f1
            obtain ⟨_, _, q1, q2⟩ := h1.1
            obtain ⟨_, _, q3, q4⟩ := h2.1
            cases q1
            cases q3
            cases q2
            cases q4
            split at f3
            · rename_i k0 hk0
              rw [Op.eqFields, if_pos hname, pureRun_bind _ _ _ (pure_part hk0 rfl hxi), pureRun_bind _ _ _ (pure_part hk0 rfl hyi), pureRun_bind _ _ _ (pure_eq_int hk0)]
              cases hab : a == b with
              | true => subst e2; rw [hab]; simpa using ih
              | false => subst e2; rw [hab]; rfl
            · cases f3

theorem pure_bind' {α β : Type} (f : α → Sem β) (s : Sem α) : pureRun P (s >>= f) = (pureRun P s).bind fun a => pureRun P (f a) := by
  induction s with
  | pure b => rfl
  | program k ih => exact ih P
  | _ => rfl

theorem pure_struct {d : Nat} {t : TypeId} {fs : Array Field} {xs ys : Array Value} (ht : P.underlying t = some (.struct fs)) (hp : P.stoodInHeld t = false) :
    pureRun P (Op.equalIn (d + 1) t (.agg xs) (.agg ys)) = pureRun P (Op.eqFields d xs ys fs.toList) := by
  have hprog : pureRun P (program : Sem Program) = some P := rfl
  unfold Op.equalIn
  rw [pure_under ht]
  simp only [pure_bind', hprog, Option.bind_some, hp, Bool.false_eq_true, if_false]
  rw [← Array.forIn_toList]
  generalize fs.toList = l
  induction l with
  | nil => rfl
  | cons f l ih =>
    simp only [List.forIn_cons, Op.eqFields, pure_bind']
    split
    · simp only [pure_bind']
      cases pureRun P (part f.type xs f.offset) with
      | none => rfl
      | some a =>
        simp only [Option.bind_some, pure_bind']
        cases pureRun P (part f.type ys f.offset) with
        | none => rfl
        | some b =>
          simp only [Option.bind_some, pure_bind']
          cases pureRun P (Op.equalIn d f.type a b) with
          | none => rfl
          | some r =>
            cases r with
            | false => rfl
            | true => exact ih
    · exact ih

theorem eq_ok {t : TypeId} {fs : Array Field} (ht : P.underlying t = some (.struct fs)) (hp : P.stoodInHeld t = false) (hg : P.eqGuardType P.depth t = false) (hf : eqFlds P 0 fs.toList = true) (hn : (tyOf P t).map TyD.size = some fs.size) : EqOK P t := by
  intro d hd x y cs ds us vs r hl h1 h2 he
  have hsz : d.size = fs.size := by rw [hd] at hn; simpa using hn
  have hprog : pureRun P (program : Sem Program) = some P := rfl
  have key : pureRun P (Op.equal t (.agg us.toArray) (.agg vs.toArray)) = some r := by
    show pureRun P (Op.equalIn (9999 + 1) t _ _) = _
    rw [pure_struct ht hp]
    exact eq_loop (dp := 9998) fs.toList 0 cs ds us vs r hf (by simp; omega) h1 h2 he (fun j v hj => by simpa using hj) (fun j v hj => by simpa using hj)
  have hgd : ∀ op : BinOp, pureRun P (eqGuard op t x y (.agg us.toArray) (.agg vs.toArray)) = some () := by
    intro op
    unfold eqGuard
    cases op <;> simp [pure_bind', hprog, hg] <;> rfl
  constructor
  · rw [pure_bind', hgd]
    show pureRun P (do let q ← Op.equal t (.agg us.toArray) (.agg vs.toArray); pure (Value.bool q)) = _
    rw [pure_bind', key]; rfl
  · rw [pure_bind', hgd]
    show pureRun P (do let q ← Op.equal t (.agg us.toArray) (.agg vs.toArray); pure (Value.bool !q)) = _
    rw [pure_bind', key]; rfl
end Go.Proofs.YtnhibkgoinnmcaaDoor.Ev
end

/-! #### EvX4 -/
section
/- The typed evaluator and the evaluator: structs, indices, slices, loads. -/
namespace Go.Proofs.YtnhibkgoinnmcaaDoor.Ev
open Go
set_option linter.unusedVariables false
set_option linter.unusedSimpArgs false

section
variable {α : Type} {P : Program} {R : Rel} {cf : Cfg} {X : TX} {b : Nat} {tm : TTm} {m : Tm} {hp hpm : THp} {hv hvm : Hp} {K : SV → THp → Cls → Option α} {z : α}

theorem tfill_rel {β : Type} {flds : List Fld} (hr : RT hp tm m) : ∀ {parts : List (Nat × Operand)} {cs : List SV} {us : List V} {K : List SV → Option β} {z : β}, tFill flds tm cs parts K = some z → RC (RV0 hp) cs us →
    ∃ cs' us', fillV flds (opnd m) us parts = some us' ∧ RC (RV0 hp) cs' us' ∧ K cs' = some z
  | [], cs, us, K, z, h, hc => ⟨cs, us, rfl, hc, h⟩
  | (k, x) :: rest, cs, us, K, z, h, hc => by
    simp only [tFill, force_eq] at h
    split at h
    · rename_i f hf
      split at h
      · rename_i hok
        simp only [Bool.and_eq_true, decide_eq_true_eq] at hok
        split at h
        · rename_i cs1 hp1
          obtain ⟨f1, f2⟩ := flat_rel (op_rel hr x) hok.2
          obtain ⟨us1, h1, h2⟩ := RC.put hp1 hc f1
          obtain ⟨cs2, us2, h3, h4, h5⟩ := tfill_rel hr h h2
          refine ⟨cs2, us2, ?_, h4, h5⟩
          simp only [fillV, hf]
          have hl := f1.length
          have he := of_decide_eq_true (by simpa using hok.1 : decide ((flatT (opT tm x)).length = f.size) = true)
          rw [if_pos (by simp only [Bool.and_eq_true, decide_eq_true_eq]; exact ⟨by omega, f2⟩), h1]
          exact h3
        · cases h
      · cases h
    · cases h

theorem l_build {t : TypeId} {parts : Array (Nat × Operand)} (hX : XOK P X) (hr : RT hp tm m) (h : wtOp X (.build t parts) b tm hpm K = some z) : Looks P R cf (.build t parts) b m hp hpm hvm K z := by
  simp only [wtOp] at h
  split at h
  · rename_i d hd
    split at h
    · rename_i hc
      obtain ⟨cs, us, h1, h2, h3⟩ := tfill_rel hr h (zero_rel d.zero)
      exact looks_T h3 (y := .agg us) ⟨us, rfl, h2⟩ (by simp only [nevT, hX.ty t d hd, hc, if_true, h1, Option.map_some]) fun _ => rfl
    · cases h
  · cases h

theorem l_field {t : TypeId} {x : Operand} {k : Nat} (hX : XOK P X) (hr : RT hp tm m) (h : wtOp X (.field t x k) b tm hpm K = some z) : Looks P R cf (.field t x k) b m hp hpm hvm K z := by
  simp only [wtOp] at h
  have hx := op_rel hr x
  split at h
  · rename_i cs d e1 hd
    rw [e1] at hx
    obtain ⟨us, hx, hc⟩ := rv_agg hx
    split at h
    · rename_i f hf
      obtain ⟨l, v, h1, h2, h3⟩ := tMk_some h
      obtain ⟨vs, h4, h5⟩ := RC.seg h1 hc
      obtain ⟨y, h6, h7⟩ := mkT_rel h2 h5
      exact looks_T h3 h7 (by simp only [nevT, hx, hX.ty t d hd, hf, h4, Option.bind_some, h6]) fun _ => rfl
    · cases h
  · cases h

theorem l_fieldAddr {t : TypeId} {x : Operand} {k : Nat} (hX : XOK P X) (hr : RT hp tm m) (h : wtOp X (.fieldAddr t x k) b tm hpm K = some z) : Looks P R cf (.fieldAddr t x k) b m hp hpm hvm K z := by
  simp only [wtOp] at h
  have hx := op_rel hr x
  split at h
  · rename_i d hd
    split at h
    · rename_i f id r c hf e1
      rw [e1] at hx
      have hx : opnd m x = .rf id r c := hx
      exact looks_T h (y := .rf id r (c + f.off)) rfl (by simp only [nevT, hX.ty t d hd, hf, hx]) fun _ => rfl
    · rename_i f ty a c hf e1
      rw [e1] at hx
      obtain ⟨row, hx, hre⟩ := hx
      exact looks_T h (y := .ir row (c + f.off)) ⟨row, rfl, hre⟩ (by simp only [nevT, hX.ty t d hd, hf, hx]) fun _ => rfl
    · cases h
  · cases h

theorem strX {t : TypeId} (hX : XOK P X) (h : isStrX X t = true) : isStr P t = true := by
  unfold isStrX at h
  split at h
  · rename_i d hd
    simp only [isStr, hX.ty t d hd]; exact h
  · cases h

theorem slX {t : TypeId} (hX : XOK P X) (h : isSlX X t = true) : isSl P t = true := by
  unfold isSlX at h
  split at h
  · rename_i d hd
    simp only [isSl, hX.ty t d hd]; exact h
  · cases h

theorem getI_some {β : Type} {l : List β} {n : Int} {a : β} (h : getI l n = some a) : 0 ≤ n ∧ l[n.toNat]? = some a := by
  unfold getI at h
  split at h
  · rename_i h0; exact ⟨h0, h⟩
  · cases h

theorem idxI_some {n : Int} {len k : Nat} (h : idxI n len = some k) : 0 ≤ n ∧ n.toNat < len ∧ k = n.toNat := by
  unfold idxI at h
  split at h
  · rename_i h0; cases h; exact ⟨h0.1, h0.2, rfl⟩
  · cases h

theorem l_index {t : TypeId} {x i : Operand} (hX : XOK P X) (hr : RT hp tm m) (h : wtOp X (.index t x i) b tm hpm K = some z) : Looks P R cf (.index t x i) b m hp hpm hvm K z := by
  simp only [wtOp] at h
  have hx := op_rel hr x
  have hi := op_rel hr i
  split at h
  · rename_i s k n hs e1 e2
    rw [e1] at hx
    rw [e2] at hi
    have hx := rv_str hx
    have hi := rv_int hi
    obtain ⟨c, h1, h2⟩ := bind_some' h
    obtain ⟨h0, hc⟩ := getI_some h1
    have hlt : n.toNat < s.length := (List.getElem?_eq_some_iff.1 hc).1
    refine looks_T h2 (y := .v (.int .u8 (c.toNat : Int))) rfl ?_ fun _ => rfl
    simp only [nevT, strX hX hs, hx, hi]
    have hsz : n.toNat < (ByteArray.mk s.toArray).size := by simpa [ByteArray.size] using hlt
    rw [dif_pos ⟨h0, hsz⟩]
    have : (ByteArray.mk s.toArray)[n.toNat]'hsz = c := by
      have := (List.getElem?_eq_some_iff.1 hc).2
      rw [← this]; rfl
    rw [this]
  · cases h

/-- A slice type in the tables. -/
structure ElemOK (P : Program) (t e : TypeId) (d : TyD) (c : Ty) : Prop where
  el : (tyOf P t).bind (·.elem) = some e
  ty : tyOf P e = some d
  size : d.size = c.size
  flat : d.zero.all isVB = flatTy c

theorem elem_ok {t e : TypeId} {d : TyD} {c : Ty} (hX : XOK P X) (h : elemX X t = some (e, d, c)) : ElemOK P t e d c := by
  unfold elemX at h
  split at h
  · rename_i d0 hd0
    split at h
    · rename_i e0 he0
      split at h
      · rename_i de c0 hde hc0
        split at h
        · rename_i hb
          simp only [Bool.and_eq_true, beq_iff_eq] at hb
          simp only [Option.some.injEq, Prod.mk.injEq] at h
          obtain ⟨rfl, rfl, rfl⟩ := h
          exact ⟨by rw [hX.ty t d0 hd0]; exact he0, hX.ty _ _ hde, Nat.eq_of_beq_eq_true hb.1, hb.2⟩
        · cases h
      · cases h
    · cases h
  · cases h

theorem l_idx {t : TypeId} {x i : Operand} (hX : XOK P X) (hr : RT hp tm m) (hh : RHm hpm hp hvm) (h : wtOp X (.indexAddr t x i) b tm hpm K = some z) : Looks P R cf (.indexAddr t x i) b m hp hpm hvm K z := by
  simp only [wtOp, tIdx] at h
  have hx := op_rel hr x
  have hi := op_rel hr i
  split at h
  · rename_i e de c he
    have hE := elem_ok hX he
    split at h
    · rename_i ty l k n e1 e2
      rw [e1] at hx
      rw [e2] at hi
      have hi := rv_int hi
      split at h
      · rename_i hsz
        obtain ⟨a, h1, h2⟩ := bind_some' h
        obtain ⟨h0, hc⟩ := getI_some h1
        rcases hx with ⟨rfl, hx⟩ | ⟨rows, hx, hrl⟩
        · simp at hc
        · obtain ⟨row, hrow, hre⟩ := hrl.get hc
          have hlt : n.toNat < rows.length := (List.getElem?_eq_some_iff.1 hrow).1
          refine looks_T h2 (y := .ir row 0) ⟨row, rfl, hre⟩ ?_ fun _ => rfl
          simp only [nevT, hx, hi, hE.el, hE.ty]
          have hg : rows[n.toNat]'hlt = row := (List.getElem?_eq_some_iff.1 hrow).2
          rw [dif_pos ⟨h0, hlt⟩, hg, if_pos (by rw [hre.len]; exact Nat.eq_of_beq_eq_true hsz)]
      · cases h
    · rename_i id k n e1 e2
      rw [e1] at hx
      rw [e2] at hi
      have hi := rv_int hi
      obtain ⟨len, hx, hlen⟩ := hx
      have key : ∀ (ty : Ty) (l : List ty.den) (tb : TB), getB hpm id = some tb → blen tb = some l.length → (∀ kb, RB hp tb kb → kb.size = ty.size) → (Nat.beq ty.size de.size = true) → ((idxI n l.length).bind fun k => K (.rf id k 0) hpm .M) = some z → Looks P R cf (.indexAddr t x i) b m hp hpm hvm K z := by
        intro ty l tb hg hbl hks hsz h
        obtain ⟨hg', kb, hkb, hrb⟩ := hh id tb hg
        have hlen' := hlen tb hg'
        rw [hbl] at hlen'
        cases hlen'
        obtain ⟨kk, h1, h2⟩ := bind_some' h
        obtain ⟨h0, h3, rfl⟩ := idxI_some h1
        refine looks_M h2 (y := .rf id (0 + n.toNat) 0) (by rw [Nat.zero_add]; rfl) (by simp only [nevT, hx, hi]) ?_ fun _ => rfl
        simp only [nevM, hx, hi, hE.el, hE.ty, hkb]
        rw [if_pos ⟨by rw [hks kb hrb]; exact Nat.eq_of_beq_eq_true hsz, h0, h3⟩]
      split at h
      · rename_i a b' ty l hg
        split at h
        · rename_i hsz; exact key ty l _ hg rfl (fun kb hrb => hrb.2.2.2.1) hsz h
        · cases h
      · rename_i a b' ty l hg
        split at h
        · rename_i hsz; exact key ty l _ hg rfl (fun kb hrb => hrb.2.2.2.1) hsz h
        · cases h
      · cases h
    · rename_i id lo len k n e1 e2
      rw [e1] at hx
      rw [e2] at hi
      have hi := rv_int hi
      have hx : opnd m x = .ar id lo len := hx
      have key : ∀ (ty : Ty) (tb : TB), getB hpm id = some tb → (∀ kb, RB hp tb kb → kb.size = ty.size) → (Nat.beq ty.size de.size = true) → ((idxI n len).bind fun k => K (.rf id (lo + k) 0) hpm .M) = some z → Looks P R cf (.indexAddr t x i) b m hp hpm hvm K z := by
        intro ty tb hg hks hsz h
        obtain ⟨hg', kb, hkb, hrb⟩ := hh id tb hg
        obtain ⟨kk, h1, h2⟩ := bind_some' h
        obtain ⟨h0, h3, rfl⟩ := idxI_some h1
        refine looks_M h2 (y := .rf id (lo + n.toNat) 0) rfl (by simp only [nevT, hx, hi]) ?_ fun _ => rfl
        simp only [nevM, hx, hi, hE.el, hE.ty, hkb]
        rw [if_pos ⟨by rw [hks kb hrb]; exact Nat.eq_of_beq_eq_true hsz, h0, h3⟩]
      split at h
      · rename_i a b' ty l hg
        split at h
        · rename_i hsz; exact key ty _ hg (fun kb hrb => hrb.2.2.2.1) hsz h
        · cases h
      · rename_i a b' ty l hg
        split at h
        · rename_i hsz; exact key ty _ hg (fun kb hrb => hrb.2.2.2.1) hsz h
        · cases h
      · cases h
    · cases h
  · cases h

theorem l_extract {x : Operand} {k : Nat} (hr : RT hp tm m) (h : wtOp X (.extract x k) b tm hpm K = some z) : Looks P R cf (.extract x k) b m hp hpm hvm K z := by
  simp only [wtOp, force_eq] at h
  have hx := op_rel hr x
  split at h
  · rename_i vs e1
    rw [e1] at hx
    obtain ⟨us, hx, hc⟩ := hx
    split at h
    · rename_i v hv
      obtain ⟨y, hy, hry⟩ := hc.get hv
      exact looks_T h hry.to2 (by simp only [nevT, hx, hy]) fun _ => rfl
    · cases h
  · cases h

theorem caps_rel (hr : RT hp tm m) : ∀ {l : List Operand}, (l.map (opT tm)).all okT = true → RC (RV0 hp) (l.map (opT tm)) (l.map (opnd m)) ∧ (l.map (opnd m)).all okCell = true
  | [], _ => ⟨trivial, rfl⟩
  | x :: l, h => by
    simp only [List.map_cons, List.all_cons, Bool.and_eq_true] at h
    obtain ⟨h1, h2⟩ := caps_rel hr h.2
    have hx := op_rel hr x
    have hfl : flatT (opT tm x) = [opT tm x] := by
      cases he : opT tm x with
      | agg cs => rw [he] at h; simp [okT] at h
      | _ => rfl
    obtain ⟨f1, f2⟩ := flat_rel hx (by rw [hfl]; simpa using h.1)
    rw [hfl] at f1
    have hfv : flat (opnd m x) = [opnd m x] := by
      cases he : opnd m x with
      | agg cs =>
        exfalso
        rw [he] at hx
        cases ho : opT tm x with
        | agg cs => rw [ho] at h; simp [okT] at h
        | im t l => rw [ho] at hx; rcases hx with ⟨_, hx⟩ | ⟨_, hx, _⟩ <;> cases hx
        | ow id => rw [ho] at hx; obtain ⟨_, hx, _⟩ := hx; cases hx
        | ir t a c => rw [ho] at hx; obtain ⟨_, hx, _⟩ := hx; cases hx
        | cl f cs => rw [ho] at hx; obtain ⟨_, hx, _⟩ := hx; cases hx
        | tup cs => rw [ho] at h; simp [okT] at h
        | any => rw [ho] at h; simp [okT] at h
        | int k n => rw [ho] at hx; cases hx
        | bool k => rw [ho] at hx; cases hx
        | str k => rw [ho] at hx; cases hx
        | sc k => rw [ho] at hx; cases hx
        | em => rw [ho] at hx; cases hx
        | er e => rw [ho] at hx; cases hx
        | ar a b c => rw [ho] at hx; cases hx
        | rf a b c => rw [ho] at hx; cases hx
      | _ => rfl
    rw [hfv] at f1 f2
    simp only [List.map_cons, List.all_cons, List.all_nil, Bool.and_true, Bool.and_eq_true] at f2 ⊢
    exact ⟨⟨f1.1, h1⟩, f2, h2⟩

theorem l_func {f : FuncId} {first caps : Array Operand} (hr : RT hp tm m) (h : wtOp X (.makeFunc (.func f) first caps) b tm hpm K = some z) : Looks P R cf (.makeFunc (.func f) first caps) b m hp hpm hvm K z := by
  simp only [wtOp] at h
  split at h
  · rename_i hc
    simp only [Bool.and_eq_true] at hc
    obtain ⟨h1, h2⟩ := caps_rel hr hc.2
    exact looks_T h (y := .cl f (caps.toList.map (opnd m))) ⟨_, rfl, h1⟩ (by simp only [nevT, hc.1, h2, Bool.and_self, if_true]) fun _ => rfl
  · cases h

theorem l_len {args : Array Operand} {ts : Array TypeId} (hX : XOK P X) (hr : RT hp tm m) (hh : RHm hpm hp hvm) (h : wtOp X (.call { callee := .builtin .len, args := args, argTypes := ts }) b tm hpm K = some z) :
    Looks P R cf (.call { callee := .builtin .len, args := args, argTypes := ts }) b m hp hpm hvm K z := by
  simp only [wtOp] at h
  split at h
  · rename_i x t hx0 ht0
    have hx := op_rel hr x
    have fin : ∀ n : Int, K (.int .i64 n) hpm .T = some z → nevT P (.call { callee := .builtin .len, args := args, argTypes := ts }) (opnd m) = some (.v (.int .i64 n)) → Looks P R cf (.call { callee := .builtin .len, args := args, argTypes := ts }) b m hp hpm hvm K z :=
      fun n h hn => looks_T h (y := .v (.int .i64 n)) rfl hn fun _ => rfl
    unfold tLen at h
    split at h
    · rename_i s e1
      rw [e1] at hx
      have hx := rv_str hx
      split at h
      · rename_i hc
        simp only [Bool.and_eq_true, Bool.not_eq_true'] at hc
        refine fin _ h ?_
        have h1 := strX hX hc.1
        have h2 : isSl P t = false := by
          cases hs : isSl P t with
          | false => rfl
          | true =>
            have h3 := hc.2
            have h4 := hc.1
            unfold isSlX at h3
            unfold isStrX at h4
            unfold isSl at hs
            split at h4
            · rename_i d hd
              simp only [hd] at h3
              rw [hX.ty t d hd] at hs
              simp only at hs
              rw [h3] at hs
              cases hs
            · cases h4
        simp only [nevT, hx0, ht0, h1, h2, hx]
        simp [ByteArray.size]
      · cases h
    · rename_i hns
      split at h
      · rename_i hc
        have h1 := slX hX hc
        split at h
        · rename_i e1
          rw [e1] at hx
          have hx : opnd m x = .em := hx
          exact fin _ h (by simp only [nevT, hx0, ht0, h1, hx])
        · rename_i ty l e1
          rw [e1] at hx
          rcases hx with ⟨rfl, hx⟩ | ⟨rows, hx, hrl⟩
          · exact fin _ h (by simp only [nevT, hx0, ht0, h1, hx]; rfl)
          · exact fin _ h (by simp only [nevT, hx0, ht0, h1, hx, hrl.1])
        · rename_i id e1
          rw [e1] at hx
          obtain ⟨n, hx, hlen⟩ := hx
          split at h
          · rename_i a b' ty l hg
            have := hlen _ (hh id _ hg).1
            cases this
            exact fin _ h (by simp only [nevT, hx0, ht0, h1, hx])
          · rename_i a b' ty l hg
            have := hlen _ (hh id _ hg).1
            cases this
            exact fin _ h (by simp only [nevT, hx0, ht0, h1, hx])
          · cases h
        · rename_i id lo n e1
          rw [e1] at hx
          have hx : opnd m x = .ar id lo n := hx
          exact fin _ h (by simp only [nevT, hx0, ht0, h1, hx])
        · cases h
      · cases h
  · cases h

theorem allInts_rel : ∀ {xs : List SV} {us : List V} {k : IntKind} {ns : List Int}, allInts xs = some (k, ns) → RC (RV2 hp) xs us → toVals us = some (ns.map fun n => .int k n) ∧ ns ≠ []
  | [], us, k, ns, h, _ => by simp [allInts] at h
  | [x], us, k, ns, h, hc => by
    cases x <;> simp [allInts] at h
    obtain ⟨rfl, rfl⟩ := h
    cases us with
    | nil => exact hc.elim
    | cons u us =>
      cases us with
      | nil => have : u = _ := hc.1; subst this; exact ⟨rfl, by simp⟩
      | cons a l => exact hc.2.elim
  | x :: y :: l, us, k, ns, h, hc => by
    cases x <;> simp [allInts] at h
    split at h
    · rename_i k' ns' hr
      split at h
      · rename_i hk
        simp only [Option.some.injEq, Prod.mk.injEq] at h
        obtain ⟨rfl, rfl⟩ := h
        subst hk
        cases us with
        | nil => exact hc.elim
        | cons u us =>
          have : u = _ := hc.1
          subst this
          obtain ⟨h1, _⟩ := allInts_rel hr hc.2
          exact ⟨by simp [toVals, h1], by simp⟩
      · cases h
    · cases h

theorem map_op_rel (hr : RT hp tm m) : ∀ (l : List Operand), RC (RV2 hp) (l.map (opT tm)) (l.map (opnd m))
  | [] => trivial
  | x :: l => ⟨op_rel hr x, map_op_rel hr l⟩

theorem fold_min {k : IntKind} : ∀ (l : List Int) (x : Int), pureRun P ((l.map fun n => Value.int k n).foldlM Builtin.min2 (.int k x)) = some (.int k (l.foldl (fun a b => if b < a then b else a) x))
  | [], x => rfl
  | y :: l, x => by
    simp only [List.map_cons, List.foldlM_cons, List.foldl_cons]
    exact fold_min l (if y < x then y else x)

theorem fold_max {k : IntKind} : ∀ (l : List Int) (x : Int), pureRun P ((l.map fun n => Value.int k n).foldlM Builtin.max2 (.int k x)) = some (.int k (l.foldl (fun a b => if b > a then b else a) x))
  | [], x => rfl
  | y :: l, x => by
    simp only [List.map_cons, List.foldlM_cons, List.foldl_cons]
    exact fold_max l (if y > x then y else x)

theorem l_min {args : Array Operand} {ts : Array TypeId} (hr : RT hp tm m) (h : wtOp X (.call { callee := .builtin .min, args := args, argTypes := ts }) b tm hpm K = some z) :
    Looks P R cf (.call { callee := .builtin .min, args := args, argTypes := ts }) b m hp hpm hvm K z := by
  simp only [wtOp, tMinMax] at h
  split at h
  · rename_i k ns hi
    obtain ⟨h1, h2⟩ := allInts_rel hi (map_op_rel hr _)
    simp only [Bool.false_eq_true, if_false] at h
    refine looks_T h (y := .v (.int k (minL ns))) rfl ?_ fun _ => rfl
    simp only [nevT, h1]
    cases ns with
    | nil => exact absurd rfl h2
    | cons x l =>
      show ((pureRun P ((l.map fun n => Value.int k n).foldlM Builtin.min2 (.int k x))).bind ofScalar) = _
      rw [fold_min]; rfl
  · cases h

theorem l_max {args : Array Operand} {ts : Array TypeId} (hr : RT hp tm m) (h : wtOp X (.call { callee := .builtin .max, args := args, argTypes := ts }) b tm hpm K = some z) :
    Looks P R cf (.call { callee := .builtin .max, args := args, argTypes := ts }) b m hp hpm hvm K z := by
  simp only [wtOp, tMinMax] at h
  split at h
  · rename_i k ns hi
    obtain ⟨h1, h2⟩ := allInts_rel hi (map_op_rel hr _)
    simp only [if_true] at h
    refine looks_T h (y := .v (.int k (maxL ns))) rfl ?_ fun _ => rfl
    simp only [nevT, h1]
    cases ns with
    | nil => exact absurd rfl h2
    | cons x l =>
      show ((pureRun P ((l.map fun n => Value.int k n).foldlM Builtin.max2 (.int k x))).bind ofScalar) = _
      rw [fold_max]; rfl
  · cases h

theorem flat_scalar : ∀ {t : Ty} {a : t.den} {row : List V}, flatTy t = true → RE t a row → row.all scalarV = true
  | .int _, _, _, _, h => by simp only [RE] at h; subst h; rfl
  | .bool, _, _, _, h => by simp only [RE] at h; subst h; rfl
  | .str, _, _, _, h => by simp only [RE] at h; subst h; rfl
  | .pair a b, x, _, hf, h => by
    obtain ⟨r1, r2, rfl, h1, h2⟩ := h
    simp only [flatTy, Bool.and_eq_true] at hf
    simp [List.all_append, flat_scalar hf.1 h1, flat_scalar hf.2 h2]
  | .sl e, l, _, hf, _ => by cases hf

theorem seg_all {p : V → Bool} {cs l : List V} {off n : Nat} (h : seg cs off n = some l) (ha : cs.all p = true) : l.all p = true := by
  unfold seg at h
  split at h
  · cases h
    exact List.all_eq_true.2 fun x hx => List.all_eq_true.1 ha x (List.mem_of_mem_drop (List.mem_of_mem_take hx))
  · cases h

/-- What is loaded. -/
theorem load_rel {β : Type} {t : TypeId} {v : SV} {y : V} {KS : SV → Option β} {z : β} (hX : XOK P X) (hv : RV2 hp v y) (hh : RHm hpm hp hvm) (h : tLoad X t v hpm KS = some z) :
    ∃ x u, KS x = some z ∧ RV2 hp x u ∧ ∀ (ρ : Operand → V) (a : Operand) (b : Nat), ρ a = y → nevM P (.load t a) ρ hvm b = some (u, []) := by
  unfold tLoad at h
  split at h
  · rename_i d ty a c hd
    obtain ⟨row, rfl, hre⟩ := hv
    obtain ⟨l, x, h1, h2, h3⟩ := tMk_some h
    obtain ⟨vs, h4, h5⟩ := RC.seg (hp := hp) h1 hre.cells
    obtain ⟨u, h6, h7⟩ := mkT_rel h2 h5
    exact ⟨x, u, h3, h7, fun ρ a b he => by simp only [nevM, hX.ty t d hd, he, h4, Option.bind_some, h6]⟩
  · rename_i d id r c hd
    have hy : y = .rf id r c := hv
    subst hy
    have arr : ∀ (ty : Ty) (l : List ty.den) (tb : TB), getB hpm id = some tb → (∀ kb, RB hp tb kb → RLx (RE ty) l kb.rows ∧ (flatTy ty = true ∨ kb.deep = false)) → ((l[r]?).bind fun a => tMk d.agg (segT (encT ty a) c d.size) KS) = some z →
        ∃ x u, KS x = some z ∧ RV2 hp x u ∧ ∀ (ρ : Operand → V) (a : Operand) (b : Nat), ρ a = .rf id r c → nevM P (.load t a) ρ hvm b = some (u, []) := by
      intro ty l tb hg hks h
      obtain ⟨hg', kb, hkb, hrb⟩ := hh id tb hg
      obtain ⟨q1, q2⟩ := hks kb hrb
      obtain ⟨a, h0, h⟩ := bind_some' h
      obtain ⟨row, hrow, hre⟩ := q1.get h0
      obtain ⟨l', x, h1, h2, h3⟩ := tMk_some h
      obtain ⟨vs, h4, h5⟩ := RC.seg (hp := hp) h1 hre.cells
      obtain ⟨u, h6, h7⟩ := mkT_rel h2 h5
      have hcond : (decide (kb.kind = .box) || !kb.deep || vs.all scalarV) = true := by
        rcases q2 with hf | hd
        · simp [seg_all h4 (flat_scalar hf hre)]
        · simp [hd]
      exact ⟨x, u, h3, h7, fun ρ a b he => by simp only [nevM, hX.ty t d hd, he, hkb, hrow, h4, hcond, if_true, h6]⟩
    split at h
    · rename_i ty cs hg
      split at h
      · rename_i hr0
        obtain ⟨hg', kb, hkb, hrb⟩ := hh id _ hg
        obtain ⟨hk1, hk2, row, hk3, hk4, hk5⟩ := hrb
        obtain ⟨l, x, h1, h2, h3⟩ := tMk_some h
        obtain ⟨vs, h4, h5⟩ := RC.seg h1 hk5
        obtain ⟨u, h6, h7⟩ := mkT_rel h2 h5
        refine ⟨x, u, h3, h7, fun ρ a b he => ?_⟩
        simp only [nevM, hX.ty t d hd, he, hkb, hk3, List.getElem?_cons_zero, h4, hk1, decide_true, Bool.true_or, if_true, h6]
      · cases h
    · rename_i ty deep ty' l hg
      split at h
      · rename_i hc
        refine arr ty' l _ hg (fun kb hrb => ⟨hrb.2.2.2.2, ?_⟩) h
        simp only [Bool.or_eq_true, Bool.not_eq_true'] at hc
        rcases hc with hc | hc
        · right; rw [hrb.2.2.1]; exact hc
        · left; exact hc
      · cases h
    · rename_i ty deep ty' l hg
      split at h
      · rename_i hc
        exact arr ty' l _ hg (fun kb hrb => ⟨hrb.2.2.2.2, .inl hc⟩) h
      · cases h
    · cases h
  · cases h

theorem l_load {t : TypeId} {a : Operand} (hX : XOK P X) (hr : RT hp tm m) (hh : RHm hpm hp hvm) (h : wtOp X (.load t a) b tm hpm K = some z) : Looks P R cf (.load t a) b m hp hpm hvm K z := by
  simp only [wtOp] at h
  obtain ⟨x, u, h1, h2, h3⟩ := load_rel hX (op_rel hr a) hh h
  exact looks_M h1 h2 rfl (h3 _ _ _ rfl) fun _ => rfl

end
end Go.Proofs.YtnhibkgoinnmcaaDoor.Ev
end

/-! #### EvX5 -/
section
/- The typed evaluator and the evaluator: parts of slices, conversions. -/
namespace Go.Proofs.YtnhibkgoinnmcaaDoor.Ev
open Go
set_option linter.unusedVariables false
set_option linter.unusedSimpArgs false

section
variable {α : Type} {P : Program} {R : Rel} {cf : Cfg} {X : TX} {b : Nat} {tm : TTm} {m : Tm} {hp hpm : THp} {hv hvm : Hp} {K : SV → THp → Cls → Option α} {z : α}

theorem bnd_rel (hr : RT hp tm m) {x : Option Operand} {d : Nat} {n : Int} (h : tBnd tm x (d : Int) = some n) (h0 : 0 ≤ n) : bnd (opnd m) x d = some n.toNat := by
  cases x with
  | none => simp only [tBnd, Option.some.injEq] at h; subst h; simp [bnd]
  | some x =>
    simp only [tBnd] at h
    have hx := op_rel hr x
    unfold intOf' at h
    split at h
    · rename_i k n' e1
      cases h
      rw [e1] at hx
      have hx := rv_int hx
      simp only [bnd, hx, if_pos h0]
    · cases h

theorem sub_rel {β : Type} {lo hi : Option Operand} {len : Nat} {KS : Nat → Nat → Option β} {z : β} (hr : RT hp tm m) (h : tSub tm lo hi len KS = some z) :
    ∃ l r, KS l r = some z ∧ bnd (opnd m) lo 0 = some l ∧ bnd (opnd m) hi len = some r ∧ l ≤ r ∧ r ≤ len := by
  have main : (match tBnd tm lo 0, tBnd tm hi (len : Int) with | some l, some h => (subI l h len).bind fun p => KS p.1 p.2 | _, _ => none) = some z → ∃ l r, KS l r = some z ∧ bnd (opnd m) lo 0 = some l ∧ bnd (opnd m) hi len = some r ∧ l ≤ r ∧ r ≤ len := by
    intro h
    split at h
    · rename_i l r e1 e2
      obtain ⟨p, h1, h2⟩ := bind_some' h
      unfold subI at h1
      split at h1
      · rename_i hc
        cases h1
        exact ⟨l.toNat, r.toNat, h2, bnd_rel hr (d := 0) e1 hc.1, bnd_rel hr e2 (by omega), by omega, by omega⟩
      · cases h1
    · cases h
  unfold tSub at h
  cases lo with
  | none =>
    cases hi with
    | none => exact ⟨0, len, h, rfl, rfl, Nat.zero_le _, Nat.le_refl _⟩
    | some y => exact main h
  | some x => exact main h

theorem el_str {t e : TypeId} (h : (tyOf P t).bind (·.elem) = some e) : isStr P t = false := by
  cases hs : isStr P t with
  | false => rfl
  | true =>
    have h1 := elem_under h
    have h2 := str_under hs
    rw [h1] at h2
    cases h2

theorem l_slice {t : TypeId} {x : Operand} {lo hi : Option Operand} (hX : XOK P X) (hr : RT hp tm m) (hh : RHm hpm hp hvm) (h : wtOp X (.slice t x lo hi none) b tm hpm K = some z) :
    Looks P R cf (.slice t x lo hi none) b m hp hpm hvm K z := by
  simp only [wtOp, tSlice] at h
  have hx := op_rel hr x
  split at h
  · rename_i s e1
    rw [e1] at hx
    have hx := rv_str hx
    split at h
    · rename_i hs
      have hs' : isStr P t = true := strX hX hs
      obtain ⟨l, r, h1, h2, h3, h4, h5⟩ := sub_rel hr h
      have hsz : (ByteArray.mk s.toArray).size = s.length := by simp [ByteArray.size]
      refine ⟨_, .v (.string ⟨((s.take r).drop l).toArray⟩), .M, h1, rfl, fun KV hk => ?_⟩
      show (if isStr P t then caseO (nevT P (.slice t x lo hi none) (opnd m)) fun z => KV z hvm .M else _)
      rw [if_pos hs']
      have : nevT P (.slice t x lo hi none) (opnd m) = some (.v (.string ⟨((s.take r).drop l).toArray⟩)) := by
        simp only [nevT, hs', hx, h2, hsz, h3]
        rw [if_pos ⟨h4, h5⟩]
        congr 3
        apply ByteArray.ext
        simp [List.drop_take]
      rw [this]
      exact hk
    · cases h
  · rename_i hns
    split at h
    · rename_i e de c he
      have hE := elem_ok hX he
      have hs' := el_str hE.el
      have fin : ∀ (v : SV) (y : V), K v hpm .M = some z → RV2 hp v y → (∀ KV : Cont, KV y hvm .M → weSlice P t (opnd m x) lo hi (opnd m) hvm KV) → Looks P R cf (.slice t x lo hi none) b m hp hpm hvm K z := by
        intro v y h hv hw
        refine ⟨v, y, .M, h, hv, fun KV hk => ?_⟩
        show (if isStr P t then _ else weSlice P t (opnd m x) lo hi (opnd m) hvm KV)
        rw [if_neg (by rw [hs']; simp)]
        exact hw KV hk
      split at h
      · rename_i e1
        rw [e1] at hx
        have hx : opnd m x = .em := hx
        obtain ⟨l, r, h1, h2, h3, h4, h5⟩ := sub_rel hr h
        refine fin _ .em h1 rfl fun KV hk => ?_
        simp only [weSlice, hE.el, hE.ty, caseO_some, hx, h2, h3]
        exact ⟨by omega, by omega, hk⟩
      · rename_i ty l0 e1
        rw [e1] at hx
        split at h
        · rename_i hsz
          have hsz := Nat.eq_of_beq_eq_true hsz
          obtain ⟨l, r, h1, h2, h3, h4, h5⟩ := sub_rel hr h
          rcases hx with ⟨rfl, hx⟩ | ⟨rows, hx, hrl⟩
          · refine fin _ .em h1 (.inl ⟨by simp, rfl⟩) fun KV hk => ?_
            simp only [List.length_nil] at h3 h5
            simp only [weSlice, hE.el, hE.ty, caseO_some, hx, h2, h3]
            exact ⟨by omega, by omega, hk⟩
          · refine fin _ (.im ((rows.take r).drop l)) h1 (.inr ⟨_, rfl, (hrl.take r).drop l⟩) fun KV hk => ?_
            simp only [weSlice, hE.el, hE.ty, caseO_some, hx, h2, hrl.1, h3]
            refine ⟨h4, h5, fun row hrow => ?_, hk⟩
            obtain ⟨i, hi⟩ := List.getElem?_of_mem hrow
            obtain ⟨a, _, hre⟩ := hrl.get' hi
            rw [hre.len]; exact hsz
        · cases h
      · rename_i id e1
        rw [e1] at hx
        obtain ⟨len, hx, hlen⟩ := hx
        have key : ∀ (ty : Ty) (l0 : List ty.den) (tb : TB), getB hpm id = some tb → blen tb = some l0.length → (∀ kb, RB hp tb kb → kb.size = ty.size) → (Nat.beq ty.size de.size = true) →
            tSubW tm lo hi l0.length (K (.ow id) hpm .M) (fun l h => K (.ar id l (h - l)) hpm .M) = some z → Looks P R cf (.slice t x lo hi none) b m hp hpm hvm K z := by
          intro ty l0 tb hg hbl hks hsz h
          obtain ⟨hg', kb, hkb, hrb⟩ := hh id tb hg
          have hl := hlen tb hg'
          rw [hbl] at hl
          cases hl
          have hsz : kb.size = de.size := by rw [hks kb hrb]; exact Nat.eq_of_beq_eq_true hsz
          have gen : (tSub tm lo hi l0.length fun l h => K (.ar id l (h - l)) hpm .M) = some z → Looks P R cf (.slice t x lo hi none) b m hp hpm hvm K z := by
            intro h
            obtain ⟨l, r, h1, h2, h3, h4, h5⟩ := sub_rel hr h
            refine fin _ (.ar id (0 + l) (r - l)) h1 (by rw [Nat.zero_add]; rfl) fun KV hk => ?_
            simp only [weSlice, hE.el, hE.ty, caseO_some, hx, h2, h3, hkb]
            exact ⟨h4, h5, hsz, hk⟩
          cases lo with
          | none =>
            cases hi with
            | none =>
              refine fin _ (.ar id (0 + 0) (l0.length - 0)) h ⟨l0.length, by simp, hlen⟩ fun KV hk => ?_
              simp only [weSlice, hE.el, hE.ty, caseO_some, hx, bnd, hkb]
              exact ⟨Nat.zero_le _, Nat.le_refl _, hsz, hk⟩
            | some y => exact gen h
          | some y => exact gen h
        split at h
        · rename_i a b' ty l hg
          split at h
          · rename_i hsz; exact key ty l _ hg rfl (fun kb hrb => hrb.2.2.2.1) hsz h
          · cases h
        · rename_i a b' ty l hg
          split at h
          · rename_i hsz; exact key ty l _ hg rfl (fun kb hrb => hrb.2.2.2.1) hsz h
          · cases h
        · cases h
      · rename_i id l1 n e1
        rw [e1] at hx
        have hx : opnd m x = .ar id l1 n := hx
        have key : ∀ (ty : Ty) (tb : TB), getB hpm id = some tb → (∀ kb, RB hp tb kb → kb.size = ty.size) → (Nat.beq ty.size de.size = true) →
            (tSub tm lo hi n fun l h => K (.ar id (l1 + l) (h - l)) hpm .M) = some z → Looks P R cf (.slice t x lo hi none) b m hp hpm hvm K z := by
          intro ty tb hg hks hsz h
          obtain ⟨hg', kb, hkb, hrb⟩ := hh id tb hg
          have hsz : kb.size = de.size := by rw [hks kb hrb]; exact Nat.eq_of_beq_eq_true hsz
          obtain ⟨l, r, h1, h2, h3, h4, h5⟩ := sub_rel hr h
          refine fin _ (.ar id (l1 + l) (r - l)) h1 rfl fun KV hk => ?_
          simp only [weSlice, hE.el, hE.ty, caseO_some, hx, h2, h3, hkb]
          exact ⟨h4, h5, hsz, hk⟩
        split at h
        · rename_i a b' ty l hg
          split at h
          · rename_i hsz; exact key ty _ hg (fun kb hrb => hrb.2.2.2.1) hsz h
          · cases h
        · rename_i a b' ty l hg
          split at h
          · rename_i hsz; exact key ty _ hg (fun kb hrb => hrb.2.2.2.1) hsz h
          · cases h
        · cases h
      · cases h
    · cases h

theorem l_slice3 {t : TypeId} {x hi mx : Operand} {lo : Option Operand} (hX : XOK P X) (hr : RT hp tm m) (h : wtOp X (.slice t x lo (some hi) (some mx)) b tm hpm K = some z) :
    Looks P R cf (.slice t x lo (some hi) (some mx)) b m hp hpm hvm K z := by
  simp only [wtOp] at h
  have hx := op_rel hr x
  split at h
  · rename_i e de c ty l he e1
    rw [e1] at hx
    have hE := elem_ok hX he
    split at h
    · rename_i l0 h0 m0 q1 q2 q3
      obtain ⟨hc, h⟩ := cond_none' h
      have hc := of_decide_eq_true hc
      obtain ⟨rfl, rfl, rfl⟩ := hc
      have b1 := bnd_rel hr (d := 0) q1 (by omega)
      have b2 := bnd_rel hr (d := 0) q2 (by omega)
      have b3 := bnd_rel hr (d := 0) q3 (by omega)
      have hel : ((tyOf P t).bind (·.elem)).bind (tyOf P) = some de := by rw [hE.el]; exact hE.ty
      refine looks_T h (y := .em) rfl ?_ fun _ => rfl
      rcases hx with ⟨rfl, hx⟩ | ⟨rows, hx, hrl⟩
      · simp only [nevT, hel, hx, b1, b2, b3]; rfl
      · simp only [nevT, hel, hx, b1, b2, b3]
        rw [if_pos (by simp)]
    · cases h
  · cases h

theorem bytesX {t : TypeId} (hX : XOK P X) (h : isBytesX X t = true) : isBytes P t = true := by
  unfold isBytesX at h
  split at h
  · rename_i d hd
    split at h
    · rename_i e he
      split at h
      · rename_i de hde
        have : (tyOf P t).bind (·.elem) = some e := by rw [hX.ty t d hd]; exact he
        simp only [isBytes, this, hX.ty e de hde]; exact h
      · cases h
    · cases h
  · cases h

theorem bytes_of : ∀ {l : List Int} {rows : List (List V)}, RLx (RE (.int .u8)) l rows → bytesOfRows rows = some (strOf l)
  | [], rows, h => by rw [h.of_nil]; rfl
  | n :: l, rows, h => by
    cases rows with
    | nil => have := h.1; simp at this
    | cons r rows =>
      have hr : RE (.int .u8) n r := h.2 0 n r rfl rfl
      have hrest : RLx (RE (.int .u8)) l rows := ⟨by have := h.1; simpa using this, fun i a q h1 h2 => h.2 (i + 1) a q (by simpa using h1) (by simpa using h2)⟩
      simp only [RE] at hr
      subst hr
      simp only [bytesOfRows, byteOfRow, bytes_of hrest, strOf, List.map_cons]

theorem u8_rows (s : Str) : RLx (RE (.int .u8)) (numsOf s) (u8rows ⟨s.toArray⟩) := by
  refine ⟨by simp [u8rows, numsOf], fun i a r h1 h2 => ?_⟩
  simp only [u8rows, numsOf, List.getElem?_map, Option.map_eq_some_iff] at h1 h2
  obtain ⟨c, hc, rfl⟩ := h1
  obtain ⟨c', hc', rfl⟩ := h2
  have : c' = c := by
    have h3 : s[i]? = some c' := by simpa using hc'
    rw [hc] at h3
    exact (Option.some.inj h3).symm
  subst this
  rfl

theorem conv_int {s d : TypeId} {ds dd : TyD} {k k0 : IntKind} {n : Int} (h1 : tyOf P s = some ds) (h2 : tyOf P d = some dd) (h3 : dd.int = some k) : (pureRun P (Go.convert s d (.int k0 n))).bind ofScalar = some (.v (.int k (k.wrap n))) := by
  obtain ⟨i, u, z, hi, hu, _⟩ := tyOf_some h1
  obtain ⟨i', u', z', hi', hu', _, _, _, _, rfl⟩ := tyOf_some h2
  have hud : u' = .int k := by cases u' <;> simp [intD] at h3; rw [h3]
  subst hud
  unfold Go.convert
  rw [pure_under hu, pure_under hu']
  cases u <;> rfl

theorem conv_str {s d : TypeId} {x : ByteArray} (h1 : isStr P s = true) (h2 : isStr P d = true) : (pureRun P (Go.convert s d (.string x))).bind ofScalar = some (.v (.string x)) := by
  unfold Go.convert
  rw [pure_under (str_under h1), pure_under (str_under h2)]
  rfl

theorem conv_bytes {s d : TypeId} {x : ByteArray} (h1 : isStr P s = true) (h2 : isBytes P d = true) : (pureRun P (Go.convert s d (.string x))).bind ofScalar = none := by
  obtain ⟨e, h3, h4⟩ := str_bytes h2
  unfold Go.convert
  rw [pure_under (str_under h1), pure_under h3]
  show (pureRun P (underlying e >>= _)).bind ofScalar = none
  rw [pure_under h4]
  rfl

theorem asLh_rel {e : Ty} {x : SV} {l : List e.den} {y : V} (h : asLh hpm e x = some l) (hv : RV0 hp x y) (hh : RHm hpm hp hvm) :
    (l = [] ∧ y = .em) ∨ (∃ rows, y = .im rows ∧ RLx (RE e) l rows) ∨ ∃ id lo n kb, y = .ar id lo n ∧ hvm id = some kb ∧ kb.kind ≠ .box ∧ RLx (RE e) l ((kb.rows.take (lo + n)).drop lo) := by
  unfold asLh at h
  split at h
  · rename_i id
    obtain ⟨n, rfl, hlen⟩ := hv
    have key : ∀ (t : Ty) (l0 : List t.den) (tb : TB), getB hpm id = some tb → blen tb = some l0.length → (∀ kb, RB hp tb kb → kb.kind ≠ .box ∧ RLx (RE t) l0 kb.rows) → (if h : t = e then some (castL h l0) else none) = some l →
        (l = [] ∧ V.ar id 0 n = .em) ∨ (∃ rows, V.ar id 0 n = .im rows ∧ RLx (RE e) l rows) ∨ ∃ id' lo n' kb, V.ar id 0 n = .ar id' lo n' ∧ hvm id' = some kb ∧ kb.kind ≠ .box ∧ RLx (RE e) l ((kb.rows.take (lo + n')).drop lo) := by
      intro t l0 tb hg hbl hks h
      obtain ⟨hg', kb, hkb, hrb⟩ := hh id tb hg
      have hl := hlen tb hg'
      rw [hbl] at hl
      cases hl
      obtain ⟨q1, q2⟩ := hks kb hrb
      split at h
      · rename_i he
        cases h
        refine .inr (.inr ⟨id, 0, l0.length, kb, rfl, hkb, q1, ?_⟩)
        have : (kb.rows.take (0 + l0.length)).drop 0 = kb.rows := by rw [Nat.zero_add, ← q2.1]; simp
        rw [this]
        exact castL_rel he q2
      · cases h
    split at h
    · rename_i a b' t l0 hg; exact key t l0 _ hg rfl (fun kb hrb => ⟨by rw [hrb.1]; simp, hrb.2.2.2.2⟩) h
    · rename_i a b' t l0 hg; exact key t l0 _ hg rfl (fun kb hrb => ⟨by rw [hrb.1]; simp, hrb.2.2.2.2⟩) h
    · cases h
  · rename_i id lo n
    have hv : y = .ar id lo n := hv
    subst hv
    have key : ∀ (t : Ty) (l0 : List t.den) (tb : TB), getB hpm id = some tb → (∀ kb, RB hp tb kb → kb.kind ≠ .box ∧ RLx (RE t) l0 kb.rows) → (if h : t = e then some (((castL h l0).take (lo + n)).drop lo) else none) = some l →
        (l = [] ∧ V.ar id lo n = .em) ∨ (∃ rows, V.ar id lo n = .im rows ∧ RLx (RE e) l rows) ∨ ∃ id' lo' n' kb, V.ar id lo n = .ar id' lo' n' ∧ hvm id' = some kb ∧ kb.kind ≠ .box ∧ RLx (RE e) l ((kb.rows.take (lo' + n')).drop lo') := by
      intro t l0 tb hg hks h
      obtain ⟨hg', kb, hkb, hrb⟩ := hh id tb hg
      obtain ⟨q1, q2⟩ := hks kb hrb
      split at h
      · rename_i he
        cases h
        exact .inr (.inr ⟨id, lo, n, kb, rfl, hkb, q1, ((castL_rel he q2).take _).drop _⟩)
      · cases h
    split at h
    · rename_i a b' t l0 hg; exact key t l0 _ hg (fun kb hrb => ⟨by rw [hrb.1]; simp, hrb.2.2.2.2⟩) h
    · rename_i a b' t l0 hg; exact key t l0 _ hg (fun kb hrb => ⟨by rw [hrb.1]; simp, hrb.2.2.2.2⟩) h
    · cases h
  · rcases asL_rel h hv with h1 | h1
    · exact .inl h1
    · exact .inr (.inl h1)

theorem asLh_cell {e : Ty} {x : SV} {l : List e.den} {y : V} (h : asLh hpm e x = some l) (hv : RV2 hp x y) : RV0 hp x y := by
  cases x with
  | agg cs => simp [asLh, asL] at h
  | tup cs => simp [asLh, asL] at h
  | cl f cs => simp [asLh, asL] at h
  | _ => exact hv

theorem l_conv {s d : TypeId} {x : Operand} (hX : XOK P X) (hr : RT hp tm m) (hh : RHm hpm hp hvm) (h : wtOp X (.convert s d x) b tm hpm K = some z) : Looks P R cf (.convert s d x) b m hp hpm hvm K z := by
  simp only [wtOp, tConv] at h
  have hx := op_rel hr x
  split at h
  · rename_i k n e1
    rw [e1] at hx
    have hx := rv_int hx
    split at h
    · rename_i ds dd h1 h2
      split at h
      · rename_i k' h3
        exact looks_T h (y := .v (.int k' (k'.wrap n))) rfl (by simp only [nevT, hx]; exact conv_int (hX.ty _ _ h1) (hX.ty _ _ h2) h3) fun _ => rfl
      · cases h
    · cases h
  · rename_i v e1
    rw [e1] at hx
    have hx := rv_str hx
    split at h
    · rename_i hs
      have hs := strX hX hs
      split at h
      · rename_i hd
        have hd := bytesX hX hd
        obtain ⟨hc, h⟩ := cond_none' h
        have hc := of_decide_eq_true hc
        refine looks_M h (y := .im (u8rows ⟨v.toArray⟩)) (.inr ⟨_, rfl, u8_rows v⟩) (by simp only [nevT, hx]; exact conv_bytes hs hd) ?_ fun _ => rfl
        simp only [nevM, hx, hs, hd, Bool.true_and]
        have : (ByteArray.mk v.toArray).size ≤ maxBytes := by simpa [ByteArray.size] using hc
        rw [if_pos (by simpa using this)]
      · split at h
        · rename_i hd
          have hd := strX hX hd
          exact looks_T h (y := .v (.string ⟨v.toArray⟩)) rfl (by simp only [nevT, hx]; exact conv_str hs hd) fun _ => rfl
        · cases h
    · cases h
  · rename_i hn1 hn2
    split at h
    · rename_i hc
      simp only [Bool.and_eq_true] at hc
      have h1 := bytesX hX hc.1
      have h2 := strX hX hc.2
      split at h
      · rename_i l hl
        have hx0 := asLh_cell hl hx
        have hrel := asLh_rel hl hx0 hh
        · rcases hrel with ⟨rfl, hy⟩ | ⟨rows, hy, hrl⟩ | ⟨id, lo, n, kb, hy, hkb, hkk, hrl⟩
          · refine looks_M h (y := .v (.string ⟨(strOf []).toArray⟩)) rfl (by simp only [nevT, hy]) ?_ fun _ => rfl
            simp only [nevM, hy, h1, h2, Bool.and_self, if_true]
            rfl
          · refine looks_M h (y := .v (.string ⟨(strOf l).toArray⟩)) rfl (by simp only [nevT, hy]) ?_ fun _ => rfl
            simp only [nevM, hy, h1, h2, Bool.and_self, if_true, bytes_of hrl]
          · refine looks_M h (y := .v (.string ⟨(strOf l).toArray⟩)) rfl (by simp only [nevT, hy]) ?_ fun _ => rfl
            simp only [nevM, hy, hkb, h1, h2, Bool.and_self, bytes_of hrl]
            rw [if_pos (by simpa using hkk)]
      · cases h
    · cases h
end
end Go.Proofs.YtnhibkgoinnmcaaDoor.Ev
end

/-! #### EvX6 -/
section
/- The typed evaluator and the evaluator: operations that lay or write blocks. -/
namespace Go.Proofs.YtnhibkgoinnmcaaDoor.Ev
open Go
set_option linter.unusedVariables false
set_option linter.unusedSimpArgs false

section
variable {α : Type} {P : Program} {R : Rel} {cf : Cfg} {X : TX} {b : Nat} {tm : TTm} {m : Tm} {hp hpm : THp} {hv hvm : Hp} {K : SV → THp → Cls → Option α} {z : α}

/-- What an operation comes to. -/
def Done (P : Program) (R : Rel) (cf : Cfg) (op : Op) (b : Nat) (tm : TTm) (m : Tm) (hv : Hp) (K : SV → THp → Cls → Option α) (z : α) : Prop :=
  ∃ x hp' cls y hv', K x hp' cls = some z ∧ RV2 hp' x y ∧ RH hp' hv' ∧ RT hp' tm m ∧ ∀ KV : Cont, KV y hv' cls → weOp P R cf op b (opnd m) hv KV

theorem Looks.done {op : Op} (h : Looks P R cf op b m hp hp hv K z) (hh : RH hp hv) (hr : RT hp tm m) : Done P R cf op b tm m hv K z := by
  obtain ⟨x, y, cls, h1, h2, h3⟩ := h
  exact ⟨x, hp, cls, y, hv, h1, h2, hh, hr, h3⟩

/-- A new block. -/
theorem add_ok {x : TB} {k : Blk} (hh : RH hp hv) (hr : RT hp tm m) (hf : ∀ t, b ∉ ids2 (getV tm t)) (hb : ∀ id y, getB hp id = some y → b ∉ idsB y) (hx : b ∉ idsB x) (hk : RB hp x k) :
    RH ((b, some x) :: hp) (upd hv b (some k)) ∧ RT ((b, some x) :: hp) tm m :=
  ⟨hh.put (fun id hid => keeps_put fun he => hx (he ▸ hid)) (fun id y _ hy i hi => keeps_put fun he => hb id y hy (he ▸ hi)) hk, hr.keeps fun t id hid => keeps_put fun he => hf t (he ▸ hid)⟩

theorem fresh_kill {l : List Nat} (h : freshT tm hp b = true) {id : Nat} {k : TB} (hk : getB (killT hp l) id = some k) : b ∉ idsB k := fresh_hp h (kill_get l hp id k hk).1

theorem zero_ids : ∀ (l : List V), (l.map zeroT).flatMap ids0 = []
  | [] => rfl
  | x :: l => by
    rw [List.map_cons, List.flatMap_cons, zero_ids l]
    unfold zeroT
    split <;> rfl

theorem d_alloc {t : TypeId} (hX : XOK P X) (hh : RH hp hv) (hr : RT hp tm m) (h : wtOp X (.alloc t) b tm hp K = some z) : Done P R cf (.alloc t) b tm m hv K z := by
  simp only [wtOp] at h
  split at h
  · rename_i d hd
    split at h
    · rename_i hf
      obtain ⟨h1, h2⟩ := add_ok (x := .box t (d.zero.map zeroT)) (k := boxOf t d.zero) hh hr (fresh_tm hf) (fun id y hy => fresh_hp hf hy) (by simp only [idsB]; rw [zero_ids]; simp) ⟨rfl, rfl, d.zero, rfl, rfl, zero_rel d.zero⟩
      refine ⟨_, _, _, .rf b 0 0, _, h, rfl, h1, h2, fun KV hk => ?_⟩
      show caseO (nevM P (.alloc t) (opnd m) hv b) (fun z => z.2.length ≤ 16 ∧ KV z.1 (inst hv b z.2) .M)
      simp only [nevM, hX.ty t d hd, caseO_some]
      exact ⟨by simp, hk⟩
    · cases h
  · cases h

theorem flat_ids {x : SV} : ∀ id ∈ (flatT x).flatMap ids0, id ∈ ids2 x := by
  intro id hid
  cases x with
  | agg cs => exact hid
  | tup cs => simp [flatT, ids0] at hid
  | cl f cs => simp [flatT, ids0] at hid
  | ow id' => simpa [flatT, ids0, ids1, ids2] using hid
  | _ => simp [flatT, ids0] at hid

theorem const_ids (c : Value) : ids2 (constT c) = [] := by
  have h0 : ∀ c, ids0 (cellT c) = [] ∧ ids2 (cellT c) = [] := by
    intro c
    unfold cellT
    split <;> first | exact ⟨rfl, rfl⟩ | (split <;> exact ⟨rfl, rfl⟩)
  unfold constT
  split
  · rename_i cs
    show (cs.toList.map cellT).flatMap ids0 = []
    rw [List.flatMap_eq_nil_iff]
    intro x hx
    obtain ⟨c, _, rfl⟩ := List.mem_map.1 hx
    exact (h0 c).1
  · exact (h0 c).2

theorem fresh_op (h : freshT tm hp b = true) (x : Operand) : b ∉ ids2 (opT tm x) := by
  cases x with
  | tmp t => exact fresh_tm h t
  | const c => simp only [opT, const_ids]; simp
  | global g => simp [opT, ids2, ids1, ids0]
  | func f => simp [opT, ids2, ids1, ids0]

theorem d_box {t : TypeId} {x : Operand} (hX : XOK P X) (hh : RH hp hv) (hr : RT hp tm m) (h : wtOp X (.box t x) b tm hp K = some z) : Done P R cf (.box t x) b tm m hv K z := by
  simp only [wtOp] at h
  split at h
  · rename_i d hd
    split at h
    · rename_i hc
      simp only [Bool.and_eq_true] at hc
      obtain ⟨⟨c1, c2⟩, hf⟩ := hc
      obtain ⟨f1, f2⟩ := flat_rel (op_rel hr x) c2
      obtain ⟨h1, h2⟩ := add_ok (x := .box t (flatT (opT tm x))) (k := boxOf t (flat (opnd m x))) hh hr (fresh_tm hf) (fun id y hy => fresh_hp hf hy) (fun hi => fresh_op hf x (flat_ids b hi)) ⟨rfl, rfl, _, rfl, rfl, f1⟩
      refine ⟨_, _, _, .rf b 0 0, _, h, rfl, h1, h2, fun KV hk => ?_⟩
      show caseO (nevM P (.box t x) (opnd m) hv b) (fun z => z.2.length ≤ 16 ∧ KV z.1 (inst hv b z.2) .M)
      simp only [nevM, hX.ty t d hd]
      have hl : (flat (opnd m x)).length = d.size := by have := f1.length; have := Nat.eq_of_beq_eq_true c1; omega
      rw [if_pos (by simp [hl, f2])]
      exact ⟨by simp, hk⟩
    · cases h
  · cases h

theorem lenI_some {n : Int} {bytes size k : Nat} (h : lenI n bytes size = some k) : 0 ≤ n ∧ n.toNat * bytes ≤ maxBytes ∧ n.toNat * size ≤ maxBytes ∧ k = n.toNat := by
  unfold lenI at h
  split at h
  · rename_i hc; cases h; exact ⟨hc.1, hc.2.1, hc.2.2, rfl⟩
  · cases h

theorem d_make {t : TypeId} {l c : Operand} (hX : XOK P X) (hh : RH hp hv) (hr : RT hp tm m) (h : wtOp X (.makeSlice t l c) b tm hp K = some z) : Done P R cf (.makeSlice t l c) b tm m hv K z := by
  simp only [wtOp, tMake] at h
  have hl := op_rel hr l
  have hc := op_rel hr c
  split at h
  · rename_i e de ty k1 n k2 n2 he e1 e2
    rw [e1] at hl
    rw [e2] at hc
    have hl := rv_int hl
    have hc := rv_int hc
    have hE := elem_ok hX he
    split at h
    · rename_i zz hz
      split at h
      · rename_i hq
        simp only [Bool.and_eq_true] at hq
        obtain ⟨hf, hsc⟩ := hq
        have hre : RE ty zz de.zero := decR_rel (hp := hp) hz (zero_rel de.zero)
        have fin : ∀ (kk : Nat), kk = n.toNat → 0 ≤ n → n ≤ n2 → n2.toNat * de.bytes ≤ maxBytes → n2.toNat * de.size ≤ maxBytes → K (.ow b) ((b, some (.arr e true ty (List.replicate kk zz))) :: hp) .M = some z → Done P R cf (.makeSlice t l c) b tm m hv K z := by
          intro kk hkk h0 h1 h2 h3 hK
          obtain ⟨g1, g2⟩ := add_ok (x := .arr e true ty (List.replicate kk zz)) (k := arrOf e de.size true (List.replicate n.toNat de.zero)) hh hr (fresh_tm hf) (fun id y hy => fresh_hp hf hy) (by simp [idsB]) ⟨rfl, rfl, rfl, hE.size, by rw [hkk]; exact RLx.replicate hre _⟩
          refine ⟨_, _, _, .ar b 0 n.toNat, _, hK, ⟨n.toNat, rfl, fun bb hb => ?_⟩, g1, g2, fun KV hk => ?_⟩
          · rw [getB_cons, if_pos rfl] at hb
            cases hb
            simp [blen, hkk]
          · show caseO (nevM P (.makeSlice t l c) (opnd m) hv b) (fun z => z.2.length ≤ 16 ∧ KV z.1 (inst hv b z.2) .M)
            simp only [nevM, hl, hc, hE.el, hE.ty]
            rw [if_pos ⟨h0, h1, h2, h3, hsc⟩]
            exact ⟨by simp, hk⟩
        cases hs : sameOp l c with
        | true =>
          rw [hs] at h
          obtain ⟨kk, h1, h2⟩ := bind_some' (show ((lenI n2 de.bytes de.size).bind fun k => K (.ow b) ((b, some (.arr e true ty (List.replicate k zz))) :: hp) .M) = some z from h)
          obtain ⟨q1, q2, q3, q4⟩ := lenI_some h1
          have hn : n = n2 := by
            have : l = c := by
              unfold sameOp at hs
              split at hs
              · rw [Nat.eq_of_beq_eq_true hs]
              · cases hs
            subst this
            rw [e1] at e2
            cases e2
            rfl
          subst hn
          exact fin kk q4 q1 (Int.le_refl _) q2 q3 h2
        | false =>
          rw [hs] at h
          obtain ⟨kk, h1, h2⟩ := bind_some' (show ((lenI n2 de.bytes de.size).bind fun _ => cond (decide (0 ≤ n) && decide (n ≤ n2)) (K (.ow b) ((b, some (.arr e true ty (List.replicate n.toNat zz))) :: hp) .M) none) = some z from h)
          obtain ⟨q1, q2, q3, q4⟩ := lenI_some h1
          obtain ⟨c1, h2⟩ := cond_none' h2
          simp only [Bool.and_eq_true, decide_eq_true_eq] at c1
          exact fin n.toNat rfl c1.1 c1.2 q2 q3 h2
      · cases h
    · cases h
  · cases h

theorem closeCT_rel {x x' : SV} {y : V} {kills : List Nat} {deep : Bool} (hh : RH hp hv) (h : closeCT hp x = some (x', kills, deep)) (hx : RV0 hp x y) :
    ∃ y', closeCell hv y = some (y', kills, deep) ∧ RV0 hp x' y' ∧ ids0 x' = [] := by
  unfold closeCT at h
  split at h
  · cases h; have : y = _ := hx; subst this; exact ⟨_, rfl, rfl, rfl⟩
  · cases h; have : y = _ := hx; subst this; exact ⟨_, rfl, rfl, rfl⟩
  · cases h; have : y = _ := hx; subst this; exact ⟨_, rfl, rfl, rfl⟩
  · cases h; have : y = _ := hx; subst this; exact ⟨_, rfl, rfl, rfl⟩
  · cases h; have : y = _ := hx; subst this; exact ⟨_, rfl, rfl, rfl⟩
  · cases h
    rcases hx with ⟨rfl, rfl⟩ | ⟨rows, rfl, hr⟩
    · exact ⟨.em, rfl, .inl ⟨rfl, rfl⟩, rfl⟩
    · exact ⟨.im rows, rfl, .inr ⟨rows, rfl, hr⟩, rfl⟩
  · rename_i id
    obtain ⟨n, rfl, hlen⟩ := hx
    split at h
    · rename_i a dd t l hg
      cases h
      obtain ⟨k, hk, hrb⟩ := hh id _ hg
      have := hlen _ hg
      cases this
      have hrows : (k.rows.take (0 + l.length)).drop 0 = k.rows := by rw [Nat.zero_add, ← hrb.2.2.2.2.1]; simp
      refine ⟨.im k.rows, ?_, .inr ⟨_, rfl, hrb.2.2.2.2⟩, rfl⟩
      simp only [closeCell, hk, hrb.1, hrows, hrb.2.2.1]
    · rename_i a dd t l hg
      cases h
      obtain ⟨k, hk, hrb⟩ := hh id _ hg
      have := hlen _ hg
      cases this
      have hrows : (k.rows.take (0 + l.length)).drop 0 = k.rows := by rw [Nat.zero_add, ← hrb.2.2.2.2.1]; simp
      refine ⟨.im k.rows, ?_, .inr ⟨_, rfl, hrb.2.2.2.2⟩, rfl⟩
      simp only [closeCell, hk, hrb.1, hrows]
    · cases h
  · rename_i id lo n
    have : y = _ := hx
    subst this
    split at h
    · rename_i a dd t l hg
      cases h
      obtain ⟨k, hk, hrb⟩ := hh id _ hg
      refine ⟨.im ((k.rows.take (lo + n)).drop lo), ?_, .inr ⟨_, rfl, (hrb.2.2.2.2.take _).drop _⟩, rfl⟩
      simp only [closeCell, hk, hrb.1, hrb.2.2.1]
    · rename_i a dd t l hg
      cases h
      obtain ⟨k, hk, hrb⟩ := hh id _ hg
      refine ⟨.im ((k.rows.take (lo + n)).drop lo), ?_, .inr ⟨_, rfl, (hrb.2.2.2.2.take _).drop _⟩, rfl⟩
      simp only [closeCell, hk, hrb.1]
    · cases h
  · cases h

theorem closeLT_rel (hh : RH hp hv) : ∀ {xs xs' : List SV} {ys : List V} {kills : List Nat} {deep : Bool}, closeLT hp xs = some (xs', kills, deep) → RC (RV0 hp) xs ys →
    ∃ ys', closeCells hv ys = some (ys', kills, deep) ∧ RC (RV0 hp) xs' ys' ∧ xs'.flatMap ids0 = []
  | [], xs', ys, kills, deep, h, hc => by
    simp only [closeLT, Option.some.injEq, Prod.mk.injEq] at h
    obtain ⟨rfl, rfl, rfl⟩ := h
    cases ys with
    | nil => exact ⟨[], rfl, trivial, rfl⟩
    | cons a l => exact hc.elim
  | x :: xs, xs', ys, kills, deep, h, hc => by
    simp only [closeLT] at h
    split at h
    · rename_i x1 a d xs1 as ds h1 h2
      simp only [Option.some.injEq, Prod.mk.injEq] at h
      obtain ⟨rfl, rfl, rfl⟩ := h
      cases ys with
      | nil => exact hc.elim
      | cons y ys =>
        obtain ⟨y', q1, q2, q3⟩ := closeCT_rel hh h1 hc.1
        obtain ⟨ys', q4, q5, q6⟩ := closeLT_rel hh h2 hc.2
        exact ⟨y' :: ys', by simp only [closeCells, q1, q4], ⟨q2, q5⟩, by rw [List.flatMap_cons, q3, q6]; rfl⟩
    · cases h

theorem closeLT_ok : ∀ {xs xs' : List SV} {kills : List Nat} {deep : Bool}, closeLT hp xs = some (xs', kills, deep) → xs.all okT = true
  | [], _, _, _, _ => rfl
  | x :: xs, xs', kills, deep, h => by
    simp only [closeLT] at h
    split at h
    · rename_i x1 a d xs1 as ds h1 h2
      have : okT x = true := by
        cases x <;> first | rfl | (simp [closeCT] at h1; done) | skip
      simp only [List.all_cons, this, closeLT_ok h2, Bool.and_self]
    · cases h

theorem d_store {t : TypeId} {a x : Operand} (hX : XOK P X) (hh : RH hp hv) (hr : RT hp tm m) (h : wtOp X (.store t a x) b tm hp K = some z) : Done P R cf (.store t a x) b tm m hv K z := by
  simp only [wtOp, tStore] at h
  have ha := op_rel hr a
  have hx := op_rel hr x
  split at h
  · rename_i d id r c hd e1
    rw [e1] at ha
    have ha : opnd m a = .rf id r c := ha
    split at h
    · rename_i hlen
      have hlen := Nat.eq_of_beq_eq_true hlen
      split at h
      · rename_i ty cs hg
        split at h
        · split at h
          · rename_i hok
            split at h
            · rename_i cs' hput
              obtain ⟨kb, hkb, hk1, hk2, row, hk3, hk4, hk5⟩ := hh id _ hg
              obtain ⟨f1, f2⟩ := flat_rel hx hok
              obtain ⟨row', p1, p2⟩ := RC.put hput hk5 f1
              have hkeep : ∀ i, Keeps hp ((id, some (.box ty cs')) :: hp) i := fun i => keeps_same (y := .box ty cs') hg rfl i
              have hrl : row'.length = row.length := by
                have q1 := p2.length
                have q2 := hk5.length
                have q3 : cs'.length = cs.length := by
                  unfold putT at hput
                  split at hput
                  · cases hput; simp; omega
                  · cases hput
                omega
              refine ⟨_, _, _, .any, upd hv id (some { kb with rows := kb.rows.set 0 row' }), h, trivial, ?_, hr.keeps fun t i _ => hkeep i, fun KV hk => ?_⟩
              · exact hh.put (fun i _ => hkeep i) (fun _ _ _ _ i _ => hkeep i) ⟨hk1, hk2, row', by rw [hk3]; rfl, by show kb.size = _; rw [hk4, hrl], p2⟩
              · show weStore P t (opnd m a) (opnd m x) hv KV
                have hl : (flat (opnd m x)).length = d.size := by have := f1.length; omega
                simp only [weStore, hX.ty t d hd, ha, hkb, hk3, List.getElem?_cons_zero, hl, if_true, hk1, f2, p1]
                rw [hk3, hk1] at hk
                exact hk
            · cases h
          · cases h
        · cases h
      · rename_i ty deep e l hg
        obtain ⟨y, h1, h⟩ := bind_some' h
        split at h
        · rename_i cs kills deep' hcl
          split at h
          · rename_i hnd
            split at h
            · rename_i cs' hput
              split at h
              · rename_i zz hz
                obtain ⟨kb, hkb, hk1, hk2, hk3, hk4, hk5⟩ := hh id _ hg
                obtain ⟨f1, f2⟩ := flat_rel hx (closeLT_ok hcl)
                obtain ⟨ys, q1, q2, q3⟩ := closeLT_rel hh hcl f1
                obtain ⟨row, hrow, hre⟩ := hk5.get h1
                obtain ⟨row', p1, p2⟩ := RC.put hput hre.cells q2
                have hrz := decR_rel hz p2
                have hidk : id ∉ kills := by
                  simp only [nodupB, Bool.and_eq_true, Bool.not_eq_true', List.contains_eq_mem, decide_eq_false_iff_not] at hnd
                  exact hnd.1
                have hkeep : ∀ i, Keeps hp ((id, some (.arr ty (deep && deep') e (l.set r zz))) :: killT hp kills) i := by
                  intro i bb hbb
                  rw [getB_cons] at hbb
                  split at hbb
                  · rename_i hi; subst hi; cases hbb; exact ⟨_, hg, by simp [blen]⟩
                  · exact keeps_kill kills hp i bb hbb
                have hkeep' : ∀ i, Keeps (killT hp kills) ((id, some (.arr ty (deep && deep') e (l.set r zz))) :: killT hp kills) i := by
                  intro i bb hbb
                  rw [getB_cons] at hbb
                  split at hbb
                  · rename_i hi
                    subst hi
                    cases hbb
                    cases hgk : getB (killT hp kills) i with
                    | none =>
                      exfalso
                      have : ∀ (ks : List Nat) (hp : THp), i ∉ ks → getB (killT hp ks) i = getB hp i := by
                        intro ks
                        induction ks with
                        | nil => intro hp _; rfl
                        | cons q ks ih =>
                          intro hp hq
                          simp only [List.mem_cons, not_or] at hq
                          rw [killT, ih _ hq.2, getB_cons, if_neg hq.1]
                      rw [this kills hp hidk, hg] at hgk
                      cases hgk
                    | some b0 =>
                      have := (kill_get kills hp i b0 hgk).1
                      rw [hg] at this
                      cases this
                      exact ⟨_, rfl, by simp [blen]⟩
                  · exact ⟨bb, hbb, rfl⟩
                refine ⟨_, _, _, .any, upd (kill hv kills) id (some { kb with rows := kb.rows.set r row', deep := kb.deep && deep' }), h, trivial, ?_, hr.keeps fun t i _ => hkeep i, fun KV hk => ?_⟩
                · exact (hh.kill kills).put (fun i _ => hkeep' i) (fun _ _ _ _ i _ => hkeep' i) ⟨hk1, hk2, by show (kb.deep && deep') = _; rw [hk3], hk4, hk5.set r hrz⟩
                · show weStore P t (opnd m a) (opnd m x) hv KV
                  have hl : (flat (opnd m x)).length = d.size := by have := f1.length; omega
                  simp only [weStore, hX.ty t d hd, ha, hkb, hrow, hl, if_true, hk1, q1, hnd, p1]
                  rw [hk1] at hk
                  exact hk
              · cases h
            · cases h
          · cases h
        · cases h
      · cases h
    · cases h
  · cases h

theorem closePT_rel {e : Ty} {size : Nat} (hr : RT hp tm m) (hh : RH hp hv) (hs : size = e.size) : ∀ {parts : List (Nat × Operand)} {n : Nat} {l : List e.den} {kills : List Nat} {deep : Bool}, closePT hp tm e n parts = some (l, kills, deep) →
    ∃ rows, closeParts hv (opnd m) size n parts = some (rows, kills, deep) ∧ RLx (RE e) l rows
  | [], n, l, kills, deep, h => by
    simp only [closePT, Option.some.injEq, Prod.mk.injEq] at h
    obtain ⟨rfl, rfl, rfl⟩ := h
    exact ⟨[], rfl, RLx.nil⟩
  | (k, x) :: parts, n, l, kills, deep, h => by
    simp only [closePT] at h
    split at h
    · rename_i hc
      simp only [Bool.and_eq_true] at hc
      have h1 := Nat.eq_of_beq_eq_true hc.1
      have h2 := Nat.eq_of_beq_eq_true hc.2
      split at h
      · rename_i cs a d ys as ds g1 g2
        split at h
        · rename_i y hy
          simp only [Option.some.injEq, Prod.mk.injEq] at h
          obtain ⟨rfl, rfl, rfl⟩ := h
          obtain ⟨f1, f2⟩ := flat_rel (op_rel hr x) (closeLT_ok g1)
          obtain ⟨us, q1, q2, q3⟩ := closeLT_rel hh g1 f1
          obtain ⟨rows, q4, q5⟩ := closePT_rel hr hh hs g2
          refine ⟨us :: rows, ?_, RLx.cons (decR_rel hy q2) q5⟩
          simp only [closeParts, q1, q4]
          rw [if_pos ⟨h1, by have := f1.length; omega⟩]
        · cases h
      · cases h
    · cases h

theorem apart_cells {cs : List SV} : ∀ {us : List V}, RC (RV0 hp) cs us → cs.all okT = true → cs.all closedTT = us.all closedB := by
  induction cs with
  | nil =>
    intro us h _
    cases us with
    | nil => rfl
    | cons a l => exact h.elim
  | cons c cs ih =>
    intro us h hok
    cases us with
    | nil => exact h.elim
    | cons u us =>
      simp only [List.all_cons, Bool.and_eq_true] at hok
      simp only [List.all_cons, ih h.2 hok.2]
      have h1 : closedTT c = closedB u := by
        have h0 := h.1
        cases c with
        | int k n => have : u = _ := h0; subst this; rfl
        | bool b => have : u = _ := h0; subst this; rfl
        | str s => have : u = _ := h0; subst this; rfl
        | sc x => have : u = _ := h0; subst this; rfl
        | em => have : u = _ := h0; subst this; rfl
        | im t l => rcases h0 with ⟨_, rfl⟩ | ⟨rows, rfl, _⟩ <;> rfl
        | ow id => obtain ⟨n, rfl, _⟩ := h0; rfl
        | ar a b c => have : u = _ := h0; subst this; rfl
        | rf a b c => have : u = _ := h0; subst this; rfl
        | ir a b c => obtain ⟨row, rfl, _⟩ := h0; rfl
        | cl f caps =>
          cases caps with
          | nil => have : u = _ := h0; subst this; rfl
          | cons a l => simp [okT] at hok
        | er b => simp [okT] at hok
        | agg l => simp [okT] at hok
        | tup l => simp [okT] at hok
        | any => simp [okT] at hok
      rw [h1]

theorem apart_rel {e : Ty} (hr : RT hp tm m) : ∀ {parts : List (Nat × Operand)} {n : Nat} {l : List e.den} {kills : List Nat} {deep : Bool}, closePT hp tm e n parts = some (l, kills, deep) → apartT tm parts = apartB (opnd m) parts
  | [], n, l, kills, deep, h => rfl
  | (k, x) :: parts, n, l, kills, deep, h => by
    simp only [closePT] at h
    split at h
    · split at h
      · rename_i cs a d ys as ds g1 g2
        obtain ⟨f1, f2⟩ := flat_rel (op_rel hr x) (closeLT_ok g1)
        have h1 := apart_cells f1 (closeLT_ok g1)
        have h2 := apart_rel hr g2
        unfold apartT apartB at h2 ⊢
        simp only [List.all_cons, h1, h2]
      · cases h
    · cases h

theorem d_build {t : TypeId} {len : Nat} {parts : Array (Nat × Operand)} (hX : XOK P X) (hh : RH hp hv) (hr : RT hp tm m) (h : wtOp X (.buildSlice t len parts) b tm hp K = some z) :
    Done P R cf (.buildSlice t len parts) b tm m hv K z := by
  simp only [wtOp, tBuildSl] at h
  split at h
  · rename_i e de c he
    have hE := elem_ok hX he
    generalize hps : parts.toList = ps at h
    cases len with
    | zero =>
      cases ps with
      | nil =>
        refine ⟨_, _, _, .em, hv, h, rfl, hh, hr, fun KV hk => ?_⟩
        show weBuildSlice P t 0 parts.toList (opnd m) hv b KV
        rw [hps]
        simp only [weBuildSlice, hE.el, hE.ty, caseO_some, true_and]
        exact hk
      | cons a l => cases h
    | succ len =>
      simp only at h
      split at h
      · rename_i l kills deep hcl
        split at h
        · rename_i hc
          simp only [Bool.and_eq_true] at hc
          obtain ⟨⟨⟨c1, c2⟩, c3⟩, hf⟩ := hc
          have c1 := Nat.eq_of_beq_eq_true c1
          have c2 := Nat.le_of_ble_eq_true c2
          obtain ⟨rows, q1, q2⟩ := closePT_rel hr hh hE.size hcl
          obtain ⟨g1, g2⟩ := add_ok (x := .arr e deep c l) (k := arrOf e de.size deep rows) (hh.kill kills) (hr.keeps fun t i _ => keeps_kill kills hp i) (fresh_tm hf) (fun id y hy => fresh_kill hf hy) (by simp [idsB]) ⟨rfl, rfl, rfl, hE.size, q2⟩
          refine ⟨_, _, _, .ar b 0 (len + 1), _, h, ⟨len + 1, rfl, fun bb hb => ?_⟩, g1, g2, fun KV hk => ?_⟩
          · rw [getB_cons, if_pos rfl] at hb
            cases hb
            simp [blen, c1]
          · show weBuildSlice P t (len + 1) parts.toList (opnd m) hv b KV
            rw [hps]
            simp only [weBuildSlice, hE.el, hE.ty, caseO_some, q1]
            rw [apart_rel hr hcl] at hk
            exact ⟨by rw [q2.1]; exact c1, by simpa using c2, c3, hk⟩
        · cases h
      · cases h
  · cases h

theorem src_rel {c : Ty} {d : TyD} {x : SV} {y : V} {l : List c.den} {kills : List Nat} {deep : Bool} (hh : RH hp hv) (hf : d.zero.all isVB = flatTy c) (h : srcT c x hp = some (l, kills, deep)) (hx : RV2 hp x y) :
    ∃ rows, RLx (RE c) l rows ∧ ∀ KV : List (List V) → List Nat → Bool → Prop, KV rows kills deep → srcRows d y hv KV := by
  have hsc : ∀ rows, flatTy c = true → RLx (RE c) l rows → scalarRows rows = true := by
    intro rows hfl hr
    refine List.all_eq_true.2 fun row hrow => ?_
    obtain ⟨i, hi⟩ := List.getElem?_of_mem hrow
    obtain ⟨a, _, hre⟩ := hr.get' hi
    exact flat_scalar hfl hre
  have im : ∀ rows, RLx (RE c) l rows → (d.zero.all isVB && scalarRows rows) = flatTy c := by
    intro rows hr
    rw [hf]
    cases hfl : flatTy c with
    | false => rfl
    | true => rw [hsc rows hfl hr]; rfl
  unfold srcT at h
  split at h
  · rename_i id
    obtain ⟨n, rfl, hlen⟩ := hx
    split at h
    · rename_i a dd t l0 hg
      obtain ⟨k, hk, hk1, hk2, hk3, hk4, hk5⟩ := hh id _ hg
      have := hlen _ hg
      cases this
      have hrows : (k.rows.take (0 + l0.length)).drop 0 = k.rows := by rw [Nat.zero_add, ← hk5.1]; simp
      split at h
      · rename_i he
        split at h
        · rename_i hfl
          simp only [Option.some.injEq, Prod.mk.injEq] at h
          obtain ⟨rfl, rfl, rfl⟩ := h
          have hr := castL_rel he hk5
          refine ⟨k.rows, hr, fun KV hK => ?_⟩
          simp only [srcRows, hk, hk1, hrows]
          rw [if_pos (by rw [hf]; exact hfl)]
          exact ⟨hsc _ hfl hr, hK⟩
        · rename_i hfl
          simp only [Option.some.injEq, Prod.mk.injEq] at h
          obtain ⟨rfl, rfl, rfl⟩ := h
          have hr := castL_rel he hk5
          refine ⟨k.rows, hr, fun KV hK => ?_⟩
          simp only [srcRows, hk, hk1, hrows]
          rw [if_neg (by rw [hf]; exact hfl), hk3]
          exact hK
      · cases h
    · rename_i a dd t l0 hg
      obtain ⟨k, hk, hk1, hk2, hk3, hk4, hk5⟩ := hh id _ hg
      have := hlen _ hg
      cases this
      have hrows : (k.rows.take (0 + l0.length)).drop 0 = k.rows := by rw [Nat.zero_add, ← hk5.1]; simp
      split at h
      · rename_i he
        simp only [Option.some.injEq, Prod.mk.injEq] at h
        obtain ⟨rfl, rfl, rfl⟩ := h
        have hr := castL_rel he hk5
        refine ⟨k.rows, hr, fun KV hK => ?_⟩
        simp only [srcRows, hk, hk1, hrows, im _ hr]
        exact hK
      · cases h
    · cases h
  · rename_i id lo n
    have hx : y = .ar id lo n := hx
    subst hx
    split at h
    · rename_i a dd t l0 hg
      obtain ⟨k, hk, hk1, hk2, hk3, hk4, hk5⟩ := hh id _ hg
      split at h
      · rename_i he
        split at h
        · rename_i hfl
          simp only [Option.some.injEq, Prod.mk.injEq] at h
          obtain ⟨rfl, rfl, rfl⟩ := h
          have hr := ((castL_rel he hk5).take (lo + n)).drop lo
          refine ⟨_, hr, fun KV hK => ?_⟩
          simp only [srcRows, hk, hk1]
          rw [if_pos (by rw [hf]; exact hfl)]
          exact ⟨hsc _ hfl hr, hK⟩
        · rename_i hfl
          simp only [Option.some.injEq, Prod.mk.injEq] at h
          obtain ⟨rfl, rfl, rfl⟩ := h
          have hr := ((castL_rel he hk5).take (lo + n)).drop lo
          refine ⟨_, hr, fun KV hK => ?_⟩
          simp only [srcRows, hk, hk1]
          rw [if_neg (by rw [hf]; exact hfl), hk3]
          exact hK
      · cases h
    · rename_i a dd t l0 hg
      obtain ⟨k, hk, hk1, hk2, hk3, hk4, hk5⟩ := hh id _ hg
      split at h
      · rename_i he
        simp only [Option.some.injEq, Prod.mk.injEq] at h
        obtain ⟨rfl, rfl, rfl⟩ := h
        have hr := ((castL_rel he hk5).take (lo + n)).drop lo
        refine ⟨_, hr, fun KV hK => ?_⟩
        simp only [srcRows, hk, hk1, im _ hr]
        exact hK
      · cases h
    · cases h
  · split at h
    · rename_i hl
      simp only [Option.some.injEq, Prod.mk.injEq] at h
      obtain ⟨rfl, rfl, rfl⟩ := h
      rename_i l'
      have hx0 : RV0 hp x y := asLh_cell (hpm := hp) (e := c) (l := l') (by unfold asLh; split <;> simp_all [asL]) hx
      rcases asL_rel hl hx0 with ⟨rfl, rfl⟩ | ⟨rows, rfl, hr⟩
      · exact ⟨[], RLx.nil, fun KV hK => by simp only [srcRows]; rw [hf]; exact hK⟩
      · exact ⟨rows, hr, fun KV hK => by simp only [srcRows]; rw [im _ hr]; exact hK⟩
    · cases h

theorem appL_some {β : Type} {bytes size : Nat} {l m r : List β} (h : appL bytes size l m = some r) : r = l ++ m ∧ (l.length + m.length) * bytes ≤ maxBytes ∧ (l.length + m.length) * size ≤ maxBytes := by
  unfold appL at h
  split at h
  · rename_i hc; cases h; exact ⟨rfl, hc⟩
  · cases h

theorem d_append {args : Array Operand} {ts : Array TypeId} (hX : XOK P X) (hh : RH hp hv) (hr : RT hp tm m) (h : wtOp X (.call { callee := .builtin .append, args := args, argTypes := ts }) b tm hp K = some z) :
    Done P R cf (.call { callee := .builtin .append, args := args, argTypes := ts }) b tm m hv K z := by
  simp only [wtOp] at h
  split at h
  · rename_i s x hargs
    unfold tAppend at h
    split at h
    · rename_i t t' hts
      split at h
      · rename_i htt
        have htt := Nat.eq_of_beq_eq_true htt
        split at h
        · rename_i e de c he
          have hE := elem_ok hX he
          split at h
          · rename_i mm kills deep hsrc
            obtain ⟨rows, r1, r2⟩ := src_rel (d := de) hh hE.flat hsrc (op_rel hr x)
            have hs := op_rel hr s
            have hrl : ∀ r ∈ rows, r.length = de.size := fun row hrow => by
              obtain ⟨i, hi⟩ := List.getElem?_of_mem hrow
              obtain ⟨a, _, hre⟩ := r1.get' hi
              rw [hre.len, hE.size]
            have step : ∀ KV : Cont, (∀ s', opnd m s = s' → srcRows de (opnd m x) hv fun rows kills deep =>
                match s' with
                | .em =>
                  rows.length * de.bytes ≤ maxBytes ∧ rows.length * de.size ≤ maxBytes ∧ (∀ r ∈ rows, r.length = de.size) ∧ nodupB kills = true ∧
                  KV (.ar b 0 rows.length) (upd (kill hv kills) b (some (arrOf e de.size deep rows))) (match kills with | [] => .M | _ => .E)
                | .ar id lo n =>
                  caseO (hv id) fun k =>
                    k.kind = .arr ∧ lo = 0 ∧ k.ty = e ∧ k.size = de.size ∧ nodupB (id :: kills) = true ∧
                    (n + rows.length) * de.bytes ≤ maxBytes ∧ (n + rows.length) * de.size ≤ maxBytes ∧ (∀ r ∈ rows, r.length = de.size) ∧
                    KV (.ar b 0 (n + rows.length)) (upd (kill hv (id :: kills)) b (some (arrOf e de.size (k.deep && deep) (k.rows.take n ++ rows)))) .E
                | _ => False) → weOp P R cf (.call { callee := .builtin .append, args := args, argTypes := ts }) b (opnd m) hv KV := by
              intro KV hK
              show (match args.toList with | [s, x] => weAppend P ts.toList (opnd m s) (opnd m x) hv b KV | _ => False)
              rw [hargs, hts]
              simp only [weAppend, hE.el, hE.ty, caseO_some]
              exact ⟨htt, hK _ rfl⟩
            have own : ∀ (id n ty : Nat) (d0 : Bool) (l : List c.den) (k : Blk), opnd m s = .ar id 0 n → hv id = some k → k.kind = .arr → k.ty = ty → k.deep = d0 → k.size = c.size → RLx (RE c) l (k.rows.take n) → l.length = n →
                (Nat.beq ty e && nodupB (id :: kills) && freshT tm hp b) = true → ((appL de.bytes de.size l mm).bind fun r => K (.ow b) ((b, some (.arr e (d0 && deep) c r)) :: killT hp (id :: kills)) .E) = some z →
                Done P R cf (.call { callee := .builtin .append, args := args, argTypes := ts }) b tm m hv K z := by
              intro id n ty d0 l k hs hk k1 k2 k3 k4 hl hln hc h
              simp only [Bool.and_eq_true] at hc
              obtain ⟨⟨c1, c2⟩, hf⟩ := hc
              have c1 := Nat.eq_of_beq_eq_true c1
              obtain ⟨r, a1, a2⟩ := bind_some' h
              obtain ⟨rfl, a3, a4⟩ := appL_some a1
              obtain ⟨g1, g2⟩ := add_ok (x := .arr e (d0 && deep) c (l ++ mm)) (k := arrOf e de.size (k.deep && deep) (k.rows.take n ++ rows)) (hh.kill (id :: kills)) (hr.keeps fun t i _ => keeps_kill (id :: kills) hp i) (fresh_tm hf) (fun id y hy => fresh_kill hf hy) (by simp [idsB])
                ⟨rfl, rfl, by show (k.deep && deep) = _; rw [k3], hE.size, hl.append r1⟩
              refine ⟨_, _, _, .ar b 0 (n + rows.length), _, a2, ⟨n + rows.length, rfl, fun bb hb => ?_⟩, g1, g2, fun KV hk' => step KV fun s' hs' => ?_⟩
              · rw [getB_cons, if_pos rfl] at hb
                cases hb
                simp [blen, hln, r1.1]
              · rw [hs] at hs'
                subst hs'
                refine r2 _ ?_
                simp only [hk, caseO_some]
                exact ⟨k1, trivial, by rw [k2, c1], by rw [k4, hE.size], c2, by rw [r1.1, ← hln]; exact a3, by rw [r1.1, ← hln]; exact a4, hrl, hk'⟩
            split at h
            · rename_i e1
              rw [e1] at hs
              have hs : opnd m s = .em := hs
              split at h
              · rename_i hc
                simp only [Bool.and_eq_true] at hc
                obtain ⟨c1, hf⟩ := hc
                obtain ⟨hroom, h⟩ := cond_none' h
                simp only [roomI, Bool.and_eq_true, decide_eq_true_eq] at hroom
                obtain ⟨g1, g2⟩ := add_ok (x := .arr e deep c mm) (k := arrOf e de.size deep rows) (hh.kill kills) (hr.keeps fun t i _ => keeps_kill kills hp i) (fresh_tm hf) (fun id y hy => fresh_kill hf hy) (by simp [idsB]) ⟨rfl, rfl, rfl, hE.size, r1⟩
                refine ⟨_, _, _, .ar b 0 rows.length, _, h, ⟨rows.length, rfl, fun bb hb => ?_⟩, g1, g2, fun KV hk => step KV fun s' hs' => ?_⟩
                · rw [getB_cons, if_pos rfl] at hb
                  cases hb
                  simp [blen, r1.1]
                · rw [hs] at hs'
                  subst hs'
                  refine r2 _ ?_
                  exact ⟨by rw [r1.1]; exact hroom.1, by rw [r1.1]; exact hroom.2, hrl, c1, hk⟩
              · cases h
            · rename_i id e1
              rw [e1] at hs
              obtain ⟨n, hs, hlen⟩ := hs
              split at h
              · rename_i ty d0 t0 l hg
                split at h
                · rename_i ht0
                  split at h
                  · rename_i hc
                    obtain ⟨k, hk, k1, k2, k3, k4, k5⟩ := hh id _ hg
                    have := hlen _ hg
                    cases this
                    subst ht0
                    exact own id l.length ty d0 l k hs hk k1 k2 k3 k4 (by have : k.rows.take l.length = k.rows := by rw [← k5.1]; simp
                                                                          rw [this]; exact k5) rfl hc h
                  · cases h
                · cases h
              · cases h
            · rename_i id n e1
              rw [e1] at hs
              have hs : opnd m s = .ar id 0 n := hs
              split at h
              · rename_i ty d0 t0 l hg
                split at h
                · rename_i ht0
                  split at h
                  · rename_i hc
                    obtain ⟨k, hk, k1, k2, k3, k4, k5⟩ := hh id _ hg
                    subst ht0
                    obtain ⟨hle, h⟩ := cond_none' h
                    have hle := of_decide_eq_true hle
                    exact own id n ty d0 (l.take n) k hs hk k1 k2 k3 k4 (k5.take n) (by simp; omega) hc h
                  · cases h
                · cases h
              · cases h
            · cases h
          · cases h
        · cases h
      · cases h
    · cases h
  · cases h
end
end Go.Proofs.YtnhibkgoinnmcaaDoor.Ev
end

/-! #### EvX7 -/
section
/- The typed evaluator and the evaluator: forms. -/
namespace Go.Proofs.YtnhibkgoinnmcaaDoor.Ev
open Go
set_option linter.unusedVariables false
set_option linter.unusedSimpArgs false

section
variable {tm : TTm} {m : Tm} {hp hp' : THp} {hv hv' : Hp}

theorem freeze_T1 {id : Nat} (hh : RH hp hv) : RH ((id, (getB hp id).map frzB) :: hp) (upd hv id ((hv id).map fun k => { k with kind := match k.kind with | .arr => .frz | x => x })) ∧ ∀ i, Keeps hp ((id, (getB hp id).map frzB) :: hp) i := by
  have hk : ∀ i, Keeps hp ((id, (getB hp id).map frzB) :: hp) i := by
    intro i b hb
    rw [getB_cons] at hb
    split at hb
    · rename_i hi
      subst hi
      simp only [Option.map_eq_some_iff] at hb
      obtain ⟨b0, h0, rfl⟩ := hb
      exact ⟨b0, h0, by cases b0 <;> rfl⟩
    · exact ⟨b, hb, rfl⟩
  refine ⟨fun i b hb => ?_, hk⟩
  rw [getB_cons] at hb
  split at hb
  · rename_i hi
    subst hi
    simp only [Option.map_eq_some_iff] at hb
    obtain ⟨b0, h0, rfl⟩ := hb
    obtain ⟨k, hk1, hrb⟩ := hh i b0 h0
    refine ⟨_, by simp only [upd, if_true, hk1, Option.map_some]; rfl, RB.keeps (hp := hp) ?_ fun j _ => hk j⟩
    cases b0 with
    | box ty cs => obtain ⟨h1, h2, h3⟩ := hrb; exact ⟨by simp [h1], h2, h3⟩
    | arr ty deep t l => obtain ⟨h1, h2, h3⟩ := hrb; exact ⟨by simp [h1], h2, h3⟩
    | frz ty deep t l => obtain ⟨h1, h2, h3⟩ := hrb; exact ⟨by simp [h1], h2, h3⟩
  · rename_i hi
    obtain ⟨k, hk1, hrb⟩ := hh i b hb
    exact ⟨k, by simp only [upd, if_neg hi]; exact hk1, hrb.keeps fun j _ => hk j⟩

theorem freeze_T : ∀ (l : List Nat) {hp : THp} {hv : Hp}, RH hp hv → RH (freezeT hp l) (freeze hv l) ∧ ∀ i, Keeps hp (freezeT hp l) i
  | [], hp, hv, h => ⟨h, fun i => Keeps.refl hp i⟩
  | id :: l, hp, hv, h => by
    obtain ⟨h1, h2⟩ := freeze_T1 (id := id) h
    obtain ⟨h3, h4⟩ := freeze_T l h1
    exact ⟨h3, fun i => (h2 i).trans (h4 i)⟩

theorem freezeT_get : ∀ (l : List Nat) (hp : THp) (id : Nat), id ∉ l → getB (freezeT hp l) id = getB hp id
  | [], _, _, _ => rfl
  | x :: l, hp, id, h => by
    simp only [List.mem_cons, not_or] at h
    rw [freezeT, freezeT_get l _ id h.2, getB_cons, if_neg h.1]

theorem freezeT_box : ∀ (l : List Nat) (hp : THp) (id : Nat) (ty : TypeId) (cs : List SV), getB hp id = some (.box ty cs) → getB (freezeT hp l) id = some (.box ty cs)
  | [], _, _, _, _, h => h
  | x :: l, hp, id, ty, cs, h => by
    rw [freezeT]
    refine freezeT_box l _ id ty cs ?_
    rw [getB_cons]
    split
    · rename_i he; subst he; rw [h]; rfl
    · exact h

theorem asLh_one {e : Ty} {v : SV} {x : Nat} : asLh ((x, (getB hp x).map frzB) :: hp) e v = asLh hp e v := by
  have hg : ∀ id, getB ((x, (getB hp x).map frzB) :: hp) id = if id = x then (getB hp x).map frzB else getB hp id := fun id => getB_cons _ _ _ _
  cases v with
  | ow id =>
    simp only [asLh, hg]
    by_cases he : id = x
    · subst he
      rw [if_pos rfl]
      cases hgk : getB hp id with
      | none => rfl
      | some b => cases b <;> rfl
    · rw [if_neg he]
  | ar id lo n =>
    simp only [asLh, hg]
    by_cases he : id = x
    · subst he
      rw [if_pos rfl]
      cases hgk : getB hp id with
      | none => rfl
      | some b => cases b <;> rfl
    · rw [if_neg he]
  | _ => rfl

theorem asLh_frz {e : Ty} {v : SV} : ∀ (l : List Nat) (hp : THp), asLh (freezeT hp l) e v = asLh hp e v
  | [], _ => rfl
  | x :: l, hp => by rw [freezeT, asLh_frz l, asLh_one]

theorem getB_mem' {hp : THp} {id : Nat} {b : TB} (h : getB hp id = some b) : (id, some b) ∈ hp := by
  induction hp with
  | nil => cases h
  | cons a l ih =>
    obtain ⟨k, x⟩ := a
    rw [getB_cons] at h
    split at h
    · rename_i he; subst he; subst h; simp
    · exact List.mem_cons_of_mem _ (ih h)

theorem blt_lt {a b : Nat} (h : Nat.blt a b = true) : a < b := Nat.lt_of_succ_le (Nat.le_of_ble_eq_true h)

/-- Blocks and what they lean on have small numbers. -/
def Bel (b : Nat) (hp : THp) : Prop := ∀ id k, getB hp id = some k → id < b ∧ ∀ i ∈ idsB k, i < b

theorem Bel.mono {b b' : Nat} {hp : THp} (h : Bel b hp) (hb : b ≤ b') : Bel b' hp := fun id k hk => ⟨Nat.lt_of_lt_of_le (h id k hk).1 hb, fun i hi => Nat.lt_of_lt_of_le ((h id k hk).2 i hi) hb⟩

theorem below_bel {tm : TTm} {hp : THp} {b : Nat} (h : belowT tm hp b = true) : Bel b hp ∧ ∀ t, ∀ i ∈ ids2 (getV tm t), i < b := by
  simp only [belowT, Bool.and_eq_true] at h
  refine ⟨fun id k hk => ?_, fun t i hi => ?_⟩
  · have := List.all_eq_true.1 h.2 _ (getB_mem' hk)
    simp only [Bool.and_eq_true] at this
    exact ⟨blt_lt this.1, fun i hi => blt_lt (List.all_eq_true.1 this.2 i hi)⟩
  · rcases getV_mem (tm := tm) (t := t) with h' | ⟨x, hx, h'⟩
    · rw [h'] at hi; simp [ids2, ids1, ids0] at hi
    · rw [← h'] at hi
      exact blt_lt (List.all_eq_true.1 (List.all_eq_true.1 h.1 x hx) i hi)

theorem frzB_ids {b : TB} {i : Nat} (h : i ∈ idsB (frzB b)) : i ∈ idsB b := by
  cases b with
  | arr _ _ _ _ => simp [frzB, idsB] at h
  | _ => exact h

theorem freezeT_bel : ∀ (l : List Nat) {hp : THp} {b : Nat}, Bel b hp → Bel b (freezeT hp l)
  | [], _, _, h => h
  | x :: l, hp, b, h => by
    rw [freezeT]
    refine freezeT_bel l fun id k hk => ?_
    rw [getB_cons] at hk
    split at hk
    · rename_i he
      subst he
      simp only [Option.map_eq_some_iff] at hk
      obtain ⟨k0, h0, rfl⟩ := hk
      exact ⟨(h id k0 h0).1, fun i hi => (h id k0 h0).2 i (frzB_ids hi)⟩
    · exact h id k hk

theorem okCell_rv {hp : THp} {x : SV} {y : V} (h : RV0 hp x y) (hx : okT x = true) : okCell y = true := by
  cases x with
  | im t l => rcases h with ⟨_, rfl⟩ | ⟨_, rfl, _⟩ <;> rfl
  | ow id => obtain ⟨_, rfl, _⟩ := h; rfl
  | ir t a c => obtain ⟨_, rfl, _⟩ := h; rfl
  | cl f cs => cases cs with | nil => have : y = _ := h; subst this; rfl | cons a l => exact h.elim
  | any => simp [okT] at hx
  | agg cs => exact h.elim
  | tup cs => exact h.elim
  | int k n => have : y = _ := h; subst this; rfl
  | bool k => have : y = _ := h; subst this; rfl
  | str k => have : y = _ := h; subst this; rfl
  | sc k => have : y = _ := h; subst this; rfl
  | em => have : y = _ := h; subst this; rfl
  | er e => simp [okT] at hx
  | ar a b c => have : y = _ := h; subst this; rfl
  | rf a b c => have : y = _ := h; subst this; rfl

/-- What a turn of forms leaves. -/
structure NV (b n : Nat) (hp : THp) (hp' : THp) (hv' : Hp) : Prop where
  rh : RH hp' hv'
  bel : Bel (b + n) hp'
  keep : ∀ i, i < b → Keeps hp hp' i

structure NT (b n : Nat) (hp : THp) (hp' : THp) (hv' : Hp) : Prop extends NV b n hp hp' hv' where
  box : ∀ i ty cs, i < b → getB hp i = some (.box ty cs) → getB hp' i = some (.box ty cs)

theorem NT.refl (hh : RH hp hv) {b : Nat} (hb : Bel b hp) : NT b 0 hp hp hv := ⟨⟨hh, hb, fun i _ => Keeps.refl hp i⟩, fun _ _ _ _ h => h⟩
theorem NT.trans {b n k : Nat} {hp1 hp2 : THp} {hv1 hv2 : Hp} (h : NT b n hp hp1 hv1) (g : NT (b + n) k hp1 hp2 hv2) : NT b (n + k) hp hp2 hv2 :=
  ⟨⟨g.rh, by have := g.bel; rwa [Nat.add_assoc] at this, fun i hi => (h.keep i hi).trans (g.keep i (by omega))⟩, fun i ty cs hi hg => g.box i ty cs (by omega) (h.box i ty cs hi hg)⟩

theorem tnC_rel {m : TM} {v v' : SV} {y : V} {b n : Nat} (hh : RH hp hv) (hb : Bel b hp) (hi : ∀ i ∈ ids0 v, i < b) (hv0 : RV0 hp v y) (h : tnC m v hp b = some (v', hp', n)) :
    ∃ y' hv', normC m.md y hv b = some (y', hv', n) ∧ NT b n hp hp' hv' ∧ RV0 hp' v' y' ∧ ∀ i ∈ ids0 v', i < b + n := by
  cases m with
  | keep =>
    simp only [tnC, Option.some.injEq, Prod.mk.injEq] at h
    obtain ⟨rfl, rfl, rfl⟩ := h
    exact ⟨y, hv, rfl, NT.refl hh hb, hv0, hi⟩
  | own ty deep t =>
    cases v with
    | em =>
      simp only [tnC, Option.some.injEq, Prod.mk.injEq] at h
      obtain ⟨rfl, rfl, rfl⟩ := h
      have : y = .em := hv0
      subst this
      refine ⟨.ar b 0 0, upd hv b (some (arrOf ty t.size deep [])), rfl, ⟨⟨?_, fun id k hk => ?_, fun i hi => keeps_put (by omega)⟩, fun i ty' cs hi hg => by rw [getB_cons, if_neg (by omega)]; exact hg⟩, ⟨0, rfl, fun k hk => ?_⟩, fun i hi => by simp [ids0] at hi; omega⟩
      · exact hh.put (fun i hi => by simp [idsB] at hi) (fun id z _ hz i hi => keeps_put fun he => by have := (hb id z hz).2 i hi; omega) ⟨rfl, rfl, rfl, rfl, RLx.nil⟩
      · rw [getB_cons] at hk
        split at hk
        · cases hk; exact ⟨by omega, fun i hi => by simp [idsB] at hi⟩
        · exact (hb.mono (by omega)) id k hk
      · rw [getB_cons, if_pos rfl] at hk
        cases hk; rfl
    | ow id =>
      simp only [tnC] at h
      split at h
      · rename_i ty' deep' t' l hg
        split at h
        · rename_i he
          split at h
          · rename_i hc
            simp only [Bool.and_eq_true, beq_iff_eq] at hc
            simp only [Option.some.injEq, Prod.mk.injEq] at h
            obtain ⟨rfl, rfl, rfl⟩ := h
            subst he
            have e1 := Nat.eq_of_beq_eq_true hc.1
            have e2 := hc.2
            subst e1
            subst e2
            obtain ⟨k, hk, k1, k2, k3, k4, k5⟩ := hh id _ hg
            obtain ⟨n', rfl, hlen⟩ := hv0
            have hn' := hlen _ hg
            cases hn'
            refine ⟨.ar id 0 l.length, hv, ?_, NT.refl hh hb, ⟨_, rfl, hlen⟩, hi⟩
            show (match hv id with | some k => if k.kind = Kind.arr ∧ 0 = 0 ∧ l.length = k.rows.length ∧ k.ty = ty' ∧ k.size = t'.size ∧ k.deep = deep' then some (V.ar id 0 l.length, hv, 0) else none | none => none) = _
            rw [hk]
            simp only
            rw [if_pos ⟨k1, trivial, k5.1.symm, k2, k4, k3⟩]
          · cases h
        · cases h
      · cases h
    | _ => simp [tnC] at h
  | im t =>
    simp only [tnC] at h
    split at h
    · rename_i l hl
      simp only [Option.some.injEq, Prod.mk.injEq] at h
      obtain ⟨rfl, rfl, rfl⟩ := h
      obtain ⟨g1, g2⟩ := freeze_T (frV v) hh
      have nt : NT b 0 hp (freezeT hp (frV v)) (freeze hv (frV v)) := ⟨⟨g1, freezeT_bel _ hb, fun i _ => g2 i⟩, fun i ty cs _ hg => freezeT_box _ _ _ _ _ hg⟩
      rcases asLh_rel hl hv0 hh.toM with ⟨rfl, rfl⟩ | ⟨rows, rfl, hr⟩ | ⟨id, lo, n, kb, rfl, hk, hkk, hr⟩
      · have hf : frV v = [] := by
          cases v <;> first | rfl | (obtain ⟨n, hy, _⟩ := hv0; cases hy) | (have : V.em = _ := hv0; cases this)
        exact ⟨.im [], _, by rw [hf]; rfl, nt, .inr ⟨[], rfl, RLx.nil⟩, fun i hi => by simp [ids0] at hi⟩
      · have hf : frV v = [] := by
          cases v <;> first | rfl | (obtain ⟨n, hy, _⟩ := hv0; cases hy) | (have : V.im rows = _ := hv0; cases this)
        exact ⟨.im rows, _, by rw [hf]; rfl, nt, .inr ⟨rows, rfl, hr⟩, fun i hi => by simp [ids0] at hi⟩
      · have hf : frV v = [id] := by
          cases v with
          | ow id' => obtain ⟨n', hy, _⟩ := hv0; cases hy; rfl
          | ar a b c => have : V.ar id lo n = _ := hv0; cases this; rfl
          | em => have : V.ar id lo n = _ := hv0; cases this
          | er e => have : V.ar id lo n = _ := hv0; cases this
          | im t' l' => rcases hv0 with ⟨_, hy⟩ | ⟨_, hy, _⟩ <;> cases hy
          | _ => simp [asLh, asL] at hl
        refine ⟨.im ((kb.rows.take (lo + n)).drop lo), _, ?_, nt, .inr ⟨_, rfl, hr⟩, fun i hi => by simp [ids0] at hi⟩
        rw [hf]
        show (match hv id with | some k => (match k.kind with | .box => none | _ => some (V.im ((k.rows.take (lo + n)).drop lo), freeze hv [id], 0)) | none => none) = _
        rw [hk]
        simp only
    · cases h
  | sub =>
    cases v with
    | ow id =>
      simp only [tnC] at h
      split at h
      · rename_i ty' deep' t' l hg
        simp only [Option.some.injEq, Prod.mk.injEq] at h
        obtain ⟨rfl, rfl, rfl⟩ := h
        obtain ⟨n', rfl, hlen⟩ := hv0
        have hn' := hlen _ hg
        cases hn'
        exact ⟨_, hv, rfl, NT.refl hh hb, rfl, fun i hi => by simp [ids0] at hi⟩
      · cases h
    | ar id lo n' =>
      simp only [tnC, Option.some.injEq, Prod.mk.injEq] at h
      obtain ⟨rfl, rfl, rfl⟩ := h
      exact ⟨y, hv, rfl, NT.refl hh hb, hv0, hi⟩
    | _ => simp [tnC] at h

theorem tnL_rel : ∀ {ms : List TM} {vs vs' : List SV} {ys : List V} {hp hp' : THp} {hv : Hp} {b n : Nat}, RH hp hv → Bel b hp → (∀ i ∈ vs.flatMap ids0, i < b) → RC (RV0 hp) vs ys → tnL ms vs hp b = some (vs', hp', n) →
    ∃ ys' hv', normL (ms.map TM.md) ys hv b = some (ys', hv', n) ∧ NT b n hp hp' hv' ∧ RC (RV0 hp') vs' ys' ∧ ∀ i ∈ vs'.flatMap ids0, i < b + n
  | [], [], vs', ys, hp, hp', hv, b, n, hh, hb, hi, hc, h => by
    simp only [tnL, Option.some.injEq, Prod.mk.injEq] at h
    obtain ⟨rfl, rfl, rfl⟩ := h
    cases ys with
    | nil => exact ⟨[], hv, rfl, NT.refl hh hb, trivial, fun i hi => by simp at hi⟩
    | cons a l => exact hc.elim
  | m :: ms, v :: vs, vs', ys, hp, hp', hv, b, n, hh, hb, hi, hc, h => by
    cases ys with
    | nil => exact hc.elim
    | cons y ys =>
      simp only [tnL] at h
      split at h
      · rename_i z hp1 n1 h1
        split at h
        · rename_i zs hp2 k h2
          simp only [Option.some.injEq, Prod.mk.injEq] at h
          obtain ⟨rfl, rfl, rfl⟩ := h
          obtain ⟨y', hv1, e1, q1, r1, s1⟩ := tnC_rel hh hb (fun i hi' => hi i (by simp [hi'])) hc.1 h1
          obtain ⟨ys', hv2, e2, q2, r2, s2⟩ := tnL_rel q1.rh q1.bel (fun i hi' => by have := hi i (by simp only [List.flatMap_cons, List.mem_append]; exact .inr hi'); omega) (hc.2.mono fun x hx y hxy => hxy.keeps fun i hi' => q1.keep i (hi i (by simp only [List.flatMap_cons, List.mem_append]; exact .inr (List.mem_flatMap.2 ⟨x, hx, hi'⟩)))) h2
          refine ⟨y' :: ys', hv2, by simp only [List.map_cons, normL, e1, e2], q1.trans q2, ⟨r1.keeps fun i hi' => q2.keep i (s1 i hi'), r2⟩, fun i hi' => ?_⟩
          rcases List.mem_append.1 (by simpa only [List.flatMap_cons] using hi') with hi' | hi'
          · have := s1 i hi'; omega
          · have := s2 i hi'; omega
        · cases h
      · cases h
  | [], _ :: _, _, _, _, _, _, _, _, _, _, _, _, h => by simp [tnL] at h
  | _ :: _, [], _, _, _, _, _, _, _, _, _, _, _, h => by simp [tnL] at h

theorem tnV_rel {m : TMs} {v v' : SV} {y : V} {b n : Nat} (hh : RH hp hv) (hb : Bel b hp) (hi : ∀ i ∈ ids2 v, i < b) (hv2 : RV2 hp v y) (h : tnV m v hp b = some (v', hp', n)) :
    ∃ y' hv', normV m.mds y hv b = some (y', hv', n) ∧ NV b n hp hp' hv' ∧ RV2 hp' v' y' ∧ ∀ i ∈ ids2 v', i < b + n := by
  cases m with
  | one m =>
    have h : tnC m v hp b = some (v', hp', n) := h
    have cell : (∃ y0, RV0 hp v y0 ∧ y0 = y) → ids2 v = ids0 v → ids2 v' = ids0 v' → (∀ y', RV0 hp' v' y' → RV2 hp' v' y') → ∃ y' hv', normV (TMs.one m).mds y hv b = some (y', hv', n) ∧ NV b n hp hp' hv' ∧ RV2 hp' v' y' ∧ ∀ i ∈ ids2 v', i < b + n := by
      rintro ⟨_, h0, rfl⟩ e1 e2 h2
      obtain ⟨y', hv', q1, q2, q3, q4⟩ := tnC_rel hh hb (by rw [← e1]; exact hi) h0 h
      exact ⟨y', hv', q1, q2.toNV, h2 y' q3, by rw [e2]; exact q4⟩
    cases m with
    | keep =>
      simp only [tnC, Option.some.injEq, Prod.mk.injEq] at h
      obtain ⟨rfl, rfl, rfl⟩ := h
      exact ⟨y, hv, rfl, (NT.refl hh hb).toNV, hv2, hi⟩
    | own ty deep t =>
      have hw : ∃ i, v' = .ow i := by
        cases v <;> simp only [tnC, reduceCtorEq] at h
        · simp only [Option.some.injEq, Prod.mk.injEq] at h; exact ⟨_, h.1.symm⟩
        · repeat' (split at h)
          all_goals first | (simp only [Option.some.injEq, Prod.mk.injEq] at h; exact ⟨_, h.1.symm⟩) | cases h
      obtain ⟨i', rfl⟩ := hw
      cases v <;> simp only [tnC, reduceCtorEq] at h
      · exact cell ⟨y, hv2, rfl⟩ rfl rfl fun y' h => h
      · exact cell ⟨y, hv2, rfl⟩ rfl rfl fun y' h => h
    | im t =>
      have hw : ∃ l, v' = .im t l := by
        simp only [tnC] at h
        split at h
        · simp only [Option.some.injEq, Prod.mk.injEq] at h; exact ⟨_, h.1.symm⟩
        · cases h
      obtain ⟨l', rfl⟩ := hw
      cases v <;> first | exact cell ⟨y, hv2, rfl⟩ rfl rfl fun y' h => h | (simp [tnC, asLh, asL] at h; done)
    | sub =>
      have hw : ∃ i lo k, v' = .ar i lo k := by
        cases v <;> simp only [tnC, reduceCtorEq] at h
        · split at h
          · simp only [Option.some.injEq, Prod.mk.injEq] at h; exact ⟨_, _, _, h.1.symm⟩
          · cases h
        · simp only [Option.some.injEq, Prod.mk.injEq] at h; exact ⟨_, _, _, h.1.symm⟩
      obtain ⟨i', lo', k', rfl⟩ := hw
      cases v <;> first | exact cell ⟨y, hv2, rfl⟩ rfl rfl fun y' h => h | (simp [tnC] at h; done)
  | agg l =>
    cases v with
    | agg cs =>
      simp only [tnV] at h
      split at h
      · rename_i cs' hp1 n1 h1
        simp only [Option.some.injEq, Prod.mk.injEq] at h
        obtain ⟨rfl, rfl, rfl⟩ := h
        obtain ⟨us, rfl, hc⟩ := rv_agg hv2
        obtain ⟨ys', hv', q1, q2, q3, q4⟩ := tnL_rel hh hb hi hc h1
        refine ⟨.agg ys', hv', ?_, q2.toNV, ⟨ys', rfl, q3⟩, q4⟩
        show (normL (l.map TM.md) us hv b).map _ = _
        rw [q1]; rfl
      · cases h
    | _ => simp [tnV] at h
  | box l =>
    cases v with
    | rf id r c =>
      simp only [tnV] at h
      split at h
      · rename_i ty cs hg
        split at h
        · rename_i cs' hp1 n1 h1
          split at h
          · rename_i hok
            simp only [Option.some.injEq, Prod.mk.injEq] at h
            obtain ⟨rfl, rfl, rfl⟩ := h
            have : y = .rf id r c := hv2
            subst this
            obtain ⟨k, hk, k1, k2, row, k3, k4, k5⟩ := hh id _ hg
            obtain ⟨ys', hv', q1, q2, q3, q4⟩ := tnL_rel hh hb (hb id _ hg).2 k5 h1
            have hlt := (hb id _ hg).1
            have hbx := q2.box id ty cs hlt hg
            have hkp : ∀ i, Keeps hp1 ((id, some (.box ty cs')) :: hp1) i := fun i => keeps_same (y := .box ty cs') hbx rfl i
            have hoc : ys'.all okCell = true := by
              have key : ∀ {xs : List SV} {us : List V}, RC (RV0 hp1) xs us → xs.all okT = true → us.all okCell = true := by
                intro xs
                induction xs with
                | nil => intro us h _; cases us with | nil => rfl | cons a l => exact h.elim
                | cons x xs ih =>
                  intro us h ho
                  cases us with
                  | nil => exact h.elim
                  | cons u us =>
                    simp only [List.all_cons, Bool.and_eq_true] at ho ⊢
                    exact ⟨okCell_rv h.1 ho.1, ih h.2 ho.2⟩
              exact key q3 hok
            have hlen : cs'.length = cs.length := by
              have : ∀ {ms : List TM} {vs vs' : List SV} {hp hp' : THp} {b n : Nat}, tnL ms vs hp b = some (vs', hp', n) → vs'.length = vs.length := by
                intro ms
                induction ms with
                | nil => intro vs vs' hp hp' b n h; cases vs with | nil => simp [tnL] at h; simp [h] | cons _ _ => simp [tnL] at h
                | cons m ms ih =>
                  intro vs vs' hp hp' b n h
                  cases vs with
                  | nil => simp [tnL] at h
                  | cons v vs =>
                    simp only [tnL] at h
                    split at h
                    · split at h
                      · rename_i h2
                        simp only [Option.some.injEq, Prod.mk.injEq] at h
                        obtain ⟨rfl, _, _⟩ := h
                        simp [ih h2]
                      · cases h
                    · cases h
              exact this h1
            refine ⟨.rf id r c, upd hv' id (some { k with rows := [ys'] }), ?_, ⟨?_, fun i z hz => ?_, fun i hi => (q2.keep i hi).trans (hkp i)⟩, rfl, fun i hi => by simp [ids2, ids1, ids0] at hi⟩
            · show (match hv id with | some k => (match k.kind, k.rows with | Kind.box, [row] => (match normL (l.map TM.md) row hv b with | some (cs', hp1, n) => if cs'.all okCell then some (V.rf id r c, upd hp1 id (some { k with rows := [cs'] }), n) else none | none => none) | _, _ => none) | none => none) = _
              rw [hk]
              simp only [k1, k3, q1, hoc, if_true]
            · refine q2.rh.put (fun i _ => hkp i) (fun _ _ _ _ i _ => hkp i) ⟨k1, k2, ys', rfl, ?_, q3⟩
              show k.size = ys'.length
              rw [k4, k5.length, q3.length, hlen]
            · rw [getB_cons] at hz
              split at hz
              · cases hz; rename_i he; subst he; exact ⟨by omega, q4⟩
              · exact q2.bel i z hz
          · cases h
        · cases h
      · cases h
    | _ => simp [tnV] at h

theorem tnS_rel : ∀ {l : List (Nat × TMs)} {st st' : TSt} {s : St}, RS st s → Bel (16 * st.c) st.hp → (∀ t, ∀ i ∈ ids2 (getV st.tm t), i < 16 * st.c) → tnS l st = some st' →
    ∃ s', normS (mdsL l) s = some s' ∧ RS st' s' ∧ Bel (16 * st'.c) st'.hp ∧ ∀ t, ∀ i ∈ ids2 (getV st'.tm t), i < 16 * st'.c
  | [], st, st', s, hs, hb, hi, h => by
    simp only [tnS, Option.some.injEq] at h
    subst h
    exact ⟨s, rfl, hs, hb, hi⟩
  | (k, m) :: l, st, st', s, hs, hb, hi, h => by
    simp only [tnS] at h
    split at h
    · rename_i x hp1 n h1
      split at h
      · rename_i hn
        have hn := Nat.le_of_ble_eq_true hn
        obtain ⟨y', hv1, q1, q2, q3, q4⟩ := tnV_rel hs.hp hb (hi k) (hs.tm k) h1
        obtain ⟨s', e1, e2, e3, e4⟩ := tnS_rel (s := { tm := upd s.tm k y', hp := hv1, c := s.c + 1 }) (st := { tm := (k, x) :: st.tm, hp := hp1, c := st.c + 1 }) ⟨fun t => by
            show RV2 hp1 (getV ((k, x) :: st.tm) t) (upd s.tm k y' t)
            rw [getV_cons]
            unfold upd
            split
            · exact q3
            · exact (hs.tm t).keeps fun i hi' => q2.keep i (hi t i hi'), q2.rh, by show s.c + 1 = st.c + 1; rw [hs.c]⟩ (q2.bel.mono (by show _ ≤ 16 * (st.c + 1); omega)) (fun t i hi' => by
            have hi' : i ∈ ids2 (getV ((k, x) :: st.tm) t) := hi'
            show i < 16 * (st.c + 1)
            rw [getV_cons] at hi'
            split at hi'
            · have := q4 i hi'; omega
            · have := hi t i hi'; omega) h
        refine ⟨s', ?_, e2, e3, e4⟩
        show normS ((k, m.mds) :: mdsL l) s = _
        simp only [normS]
        rw [hs.c, q1]
        simp only
        rw [if_pos hn]
        rw [← hs.c]
        exact e1
      · cases h
    · cases h

theorem tnR_rel : ∀ {ms : List TMs} {xs xs' : List SV} {ys : List V} {hp hp' : THp} {hv : Hp} {c : Nat}, RH hp hv → Bel (16 * c) hp → (∀ i ∈ xs.flatMap ids2, i < 16 * c) → RC (RV2 hp) xs ys → tnR ms xs hp c = some (xs', hp') →
    ∃ ys' hv' c', normR (ms.map TMs.mds) ys hv c = some (ys', hv', c') ∧ RH hp' hv' ∧ RC (RV2 hp') xs' ys' ∧ (∀ i, i < 16 * c → Keeps hp hp' i)
  | [], [], xs', ys, hp, hp', hv, c, hh, hb, hi, hc, h => by
    simp only [tnR, Option.some.injEq, Prod.mk.injEq] at h
    obtain ⟨rfl, rfl⟩ := h
    cases ys with
    | nil => exact ⟨[], hv, c, rfl, hh, trivial, fun i _ => Keeps.refl hp i⟩
    | cons a l => exact hc.elim
  | m :: ms, x :: xs, xs', ys, hp, hp', hv, c, hh, hb, hi, hc, h => by
    cases ys with
    | nil => exact hc.elim
    | cons y ys =>
      simp only [tnR] at h
      split at h
      · rename_i z hp1 n h1
        split at h
        · rename_i hn
          have hn := Nat.le_of_ble_eq_true hn
          split at h
          · rename_i zs hp2 h2
            simp only [Option.some.injEq, Prod.mk.injEq] at h
            obtain ⟨rfl, rfl⟩ := h
            obtain ⟨y', hv1, q1, q2, q3, q4⟩ := tnV_rel hh hb (fun i hi' => hi i (by simp [hi'])) hc.1 h1
            obtain ⟨ys', hv2, c', e1, e2, e3, e4⟩ := tnR_rel q2.rh (q2.bel.mono (show _ ≤ 16 * (c + 1) by omega)) (fun i hi' => by have := hi i (by simp only [List.flatMap_cons, List.mem_append]; exact .inr hi'); omega) (hc.2.mono fun x hx y hxy => hxy.keeps fun i hi' => q2.keep i (hi i (by simp only [List.flatMap_cons, List.mem_append]; exact .inr (List.mem_flatMap.2 ⟨x, hx, hi'⟩)))) h2
            refine ⟨y' :: ys', hv2, c', ?_, e2, ⟨q3.keeps fun i hi' => e4 i (by have := q4 i hi'; omega), e3⟩, fun i hi' => (q2.keep i hi').trans (e4 i (by omega))⟩
            simp only [List.map_cons, normR, q1, if_pos hn, e1]
          · cases h
        · cases h
      · cases h
  | [], _ :: _, _, _, _, _, _, _, _, _, _, _, h => by simp [tnR] at h
  | _ :: _, [], _, _, _, _, _, _, _, _, _, _, h => by simp [tnR] at h
end
end Go.Proofs.YtnhibkgoinnmcaaDoor.Ev
end

/-! #### EvX8 -/
section
/- The typed evaluator and the evaluator: blocks numbered anew. -/
namespace Go.Proofs.YtnhibkgoinnmcaaDoor.Ev
open Go
set_option linter.unusedVariables false
set_option linter.unusedSimpArgs false

section
variable {hp hp' H : THp} {hv hv' : Hp}

theorem memN_iff {i : Nat} : ∀ {l : List Nat}, memN i l = l.contains i
  | [] => rfl
  | x :: l => by
    simp only [memN, List.contains_cons]
    rw [memN_iff]
    cases h : Nat.beq x i with
    | true => have := Nat.eq_of_beq_eq_true h; subst this; simp
    | false =>
      have : x ≠ i := fun he => by subst he; rw [Nat.beq_refl] at h; cases h
      have h2 : (i == x) = false := by simpa using fun he : i = x => this he.symm
      rw [h2]; rfl

theorem eqNs_iff : ∀ {l m : List Nat}, eqNs l m = true → l = m
  | [], [], _ => rfl
  | x :: l, y :: m, h => by
    simp only [eqNs, Bool.and_eq_true] at h
    rw [Nat.eq_of_beq_eq_true h.1, eqNs_iff h.2]
  | [], _ :: _, h => by cases h
  | _ :: _, [], h => by cases h

theorem rf0_rel {v : SV} {y : V} (hs : sure0 v = true) (h : RV0 hp v y) : refs0 y = rf0 v := by
  cases v with
  | im t l => rcases h with ⟨_, rfl⟩ | ⟨_, rfl, _⟩ <;> rfl
  | ow id => obtain ⟨_, rfl, _⟩ := h; rfl
  | ir t a c => obtain ⟨_, rfl, _⟩ := h; rfl
  | cl f cs => cases cs with | nil => have : y = _ := h; subst this; rfl | cons a l => exact h.elim
  | any => cases hs
  | agg cs => exact h.elim
  | tup cs => exact h.elim
  | _ => have : y = _ := h; subst this; rfl

theorem rfs_rel : ∀ {vs : List SV} {ys : List V}, vs.all sure0 = true → RC (RV0 hp) vs ys → ys.flatMap refs0 = vs.flatMap rf0
  | [], [], _, _ => rfl
  | v :: vs, y :: ys, hs, h => by
    simp only [List.all_cons, Bool.and_eq_true] at hs
    rw [List.flatMap_cons, List.flatMap_cons, rf0_rel hs.1 h.1, rfs_rel hs.2 h.2]
  | [], _ :: _, _, h => h.elim
  | _ :: _, [], _, h => h.elim

/-- A value that is known: no tuple. -/
theorem rf1_rel {v : SV} {y : V} (hs : sure1 v = true) (h : RV2 hp v y) : RV1 hp v y ∧ refs1 y = rf1 v ∧ refs2 y = rf1 v ∧ notTup y = true := by
  have cell : ∀ {v : SV} {y : V}, sure0 v = true → RV0 hp v y → RV1 hp v y ∧ refs1 y = rf0 v ∧ refs2 y = rf0 v ∧ notTup y = true := by
    intro v y hs h
    refine ⟨h.to1, ?_⟩
    cases v with
    | im t l => rcases h with ⟨_, rfl⟩ | ⟨_, rfl, _⟩ <;> exact ⟨rfl, rfl, rfl⟩
    | ow id => obtain ⟨_, rfl, _⟩ := h; exact ⟨rfl, rfl, rfl⟩
    | ir t a c => obtain ⟨_, rfl, _⟩ := h; exact ⟨rfl, rfl, rfl⟩
    | cl f cs => cases cs with | nil => have : y = _ := h; subst this; exact ⟨rfl, rfl, rfl⟩ | cons a l => exact h.elim
    | any => cases hs
    | agg cs => exact h.elim
    | tup cs => exact h.elim
    | _ => have : y = _ := h; subst this; exact ⟨rfl, rfl, rfl⟩
  cases v with
  | agg cs =>
    obtain ⟨us, rfl, hc⟩ := h
    have := rfs_rel hs hc
    exact ⟨⟨us, rfl, hc⟩, this, this, rfl⟩
  | cl f cs =>
    obtain ⟨us, rfl, hc⟩ := h
    have := rfs_rel hs hc
    exact ⟨⟨us, rfl, hc⟩, this, this, rfl⟩
  | tup vs => cases hs
  | any => cases hs
  | int k n => exact cell (v := .int k n) hs h
  | bool b => exact cell (v := .bool b) hs h
  | str s => exact cell (v := .str s) hs h
  | sc x => exact cell (v := .sc x) hs h
  | em => exact cell (v := .em) hs h
  | er e => exact cell (v := .er e) hs h
  | im t l => exact cell (v := .im t l) hs h
  | ow id => exact cell (v := .ow id) hs h
  | ar a b c => exact cell (v := .ar a b c) hs h
  | rf a b c => exact cell (v := .rf a b c) hs h
  | ir a b c => exact cell (v := .ir a b c) hs h

theorem rfB_rel {b : TB} {k : Blk} (hs : sureB b = true) (h : RB hp b k) : refsB k = rfB b := by
  cases b with
  | arr ty deep t l => obtain ⟨h1, _⟩ := h; simp only [refsB, h1, rfB]
  | frz ty deep t l => obtain ⟨h1, _⟩ := h; simp only [refsB, h1, rfB]
  | box ty cs =>
    obtain ⟨h1, h2, row, h3, h4, h5⟩ := h
    unfold refsB
    rw [h1, h3]
    simp only [List.flatMap_cons, List.flatMap_nil, List.append_nil]
    exact rfs_rel hs h5

theorem closeT_rel (hh : RH hp hv) : ∀ (k : Nat) (l acc : List Nat) {o : List Nat}, closeT hp k l acc = some o → close hv k l acc = some o
  | 0, _, _, _, h => by cases h
  | k + 1, [], acc, o, h => h
  | k + 1, id :: l, acc, o, h => by
    simp only [closeT] at h
    simp only [close]
    rw [memN_iff] at h
    cases hc : acc.contains id with
    | true =>
      rw [hc] at h
      rw [if_pos rfl]
      exact closeT_rel hh k l acc h
    | false =>
      rw [hc] at h
      rw [if_neg (by simp)]
      simp only [cond_false] at h
      split at h
      · cases h
      · rename_i b hb
        obtain ⟨hs, h⟩ := cond_none' h
        obtain ⟨kb, hk, hr⟩ := hh id b hb
        simp only [hk, rfB_rel hs hr]
        exact closeT_rel hh k _ _ h

/-- All that is reached is there. -/
theorem closeT_in : ∀ (k : Nat) (l acc : List Nat) {o : List Nat}, (∀ i ∈ acc, ∃ b, getB hp i = some b ∧ sureB b = true) → closeT hp k l acc = some o → ∀ i ∈ o, ∃ b, getB hp i = some b ∧ sureB b = true
  | 0, _, _, _, _, h => by cases h
  | k + 1, [], acc, o, ha, h => by cases h; exact ha
  | k + 1, id :: l, acc, o, ha, h => by
    simp only [closeT] at h
    cases hc : memN id acc with
    | true => rw [hc] at h; exact closeT_in k l acc ha h
    | false =>
      rw [hc] at h
      simp only [cond_false] at h
      split at h
      · cases h
      · rename_i b hb
        obtain ⟨hs, h⟩ := cond_none' h
        refine closeT_in k _ _ (fun i hi => ?_) h
        rcases List.mem_append.1 hi with hi | hi
        · exact ha i hi
        · simp at hi; subst hi; exact ⟨b, hb, hs⟩

theorem idxT_eq : ∀ (o : List Nat) (id : Nat), idxT o id = idx o id
  | [], _ => rfl
  | x :: l, id => by
    unfold idx
    rw [List.idxOf?_cons]
    simp only [idxT]
    cases h : Nat.beq x id with
    | true => have := Nat.eq_of_beq_eq_true h; subst this; simp
    | false =>
      have : x ≠ id := fun he => by subst he; rw [Nat.beq_refl] at h; cases h
      have h2 : (x == id) = false := by simpa using this
      rw [h2]
      simp only [cond_false, Bool.false_eq_true, if_false]
      rw [idxT_eq l id]
      unfold idx
      cases List.idxOf? id l <;> rfl

theorem idx_at : ∀ {o : List Nat} {id j : Nat}, idx o id = some j → o[j]? = some id := by
  intro o id j h
  rw [← idxT_eq] at h
  induction o generalizing j with
  | nil => cases h
  | cons x l ih =>
    simp only [idxT] at h
    cases hx : Nat.beq x id with
    | true =>
      rw [hx] at h
      have := Nat.eq_of_beq_eq_true hx
      subst this
      cases h
      rfl
    | false =>
      rw [hx] at h
      simp only [cond_false] at h
      split at h
      · rename_i j' hj
        cases h
        rw [List.getElem?_cons_succ]
        exact ih hj
      · cases h

section
variable {f : Nat → Option Nat} (hlen : ∀ id j, f id = some j → ∀ b', getB H j = some b' → ∃ b, getB hp id = some b ∧ blen b = blen b')
include hlen

theorem ren_rv0 {v : SV} {y : V} (h : RV0 hp v y) : RV0 H (renS0 f v) (ren0 f y) := by
  cases v with
  | im t l => rcases h with ⟨h1, rfl⟩ | ⟨rows, rfl, h1⟩; exact .inl ⟨h1, rfl⟩; exact .inr ⟨rows, rfl, h1⟩
  | ow id =>
    obtain ⟨n, rfl, h1⟩ := h
    simp only [renS0, ren0]
    cases hf : f id with
    | none => trivial
    | some j =>
      refine ⟨n, rfl, fun b' hb' => ?_⟩
      obtain ⟨b, q1, q2⟩ := hlen id j hf b' hb'
      rw [← q2]; exact h1 b q1
  | ar id lo n =>
    have : y = _ := h
    subst this
    simp only [renS0, ren0]
    cases hf : f id with
    | none => trivial
    | some j => rfl
  | rf id r c =>
    have : y = _ := h
    subst this
    simp only [renS0, ren0]
    cases hf : f id with
    | none => trivial
    | some j => rfl
  | ir t a c => obtain ⟨row, rfl, h1⟩ := h; exact ⟨row, rfl, h1⟩
  | cl g cs => cases cs with | nil => have : y = _ := h; subst this; rfl | cons a l => exact h.elim
  | any => trivial
  | agg cs => exact h.elim
  | tup cs => exact h.elim
  | _ => have : y = _ := h; subst this; rfl

theorem ren_rcs : ∀ {vs : List SV} {ys : List V}, RC (RV0 hp) vs ys → RC (RV0 H) (vs.map (renS0 f)) (ys.map (ren0 f))
  | [], [], _ => trivial
  | v :: vs, y :: ys, h => ⟨ren_rv0 hlen h.1, ren_rcs h.2⟩
  | [], _ :: _, h => h.elim
  | _ :: _, [], h => h.elim

theorem ren_rv1 {v : SV} {y : V} (h : RV1 hp v y) (hs : sure1 v = true) : RV1 H (renS1 f v) (ren1 f y) := by
  have cell : ∀ {v : SV} {y : V}, RV0 hp v y → renS1 f v = renS0 f v → ren1 f y = ren0 f y → RV1 H (renS1 f v) (ren1 f y) := by
    intro v y h e1 e2
    rw [e1, e2]
    exact (ren_rv0 hlen h).to1
  cases v with
  | agg cs => obtain ⟨us, rfl, hc⟩ := h; exact ⟨_, rfl, ren_rcs hlen hc⟩
  | cl g cs => obtain ⟨us, rfl, hc⟩ := h; exact ⟨_, rfl, ren_rcs hlen hc⟩
  | im t l => rcases h with ⟨h1, rfl⟩ | ⟨rows, rfl, h1⟩; exact .inl ⟨h1, rfl⟩; exact .inr ⟨rows, rfl, h1⟩
  | ow id => obtain ⟨n, rfl, h1⟩ := h; exact cell (v := .ow id) ⟨n, rfl, h1⟩ rfl rfl
  | ir t a c => obtain ⟨row, rfl, h1⟩ := h; exact ⟨row, rfl, h1⟩
  | any => trivial
  | tup cs => exact h.elim
  | ar id lo n => have : y = _ := h; subst this; exact cell (v := .ar id lo n) rfl rfl rfl
  | rf id lo n => have : y = _ := h; subst this; exact cell (v := .rf id lo n) rfl rfl rfl
  | _ => have : y = _ := h; subst this; rfl

theorem ren_RB {b : TB} {k : Blk} (h : RB hp b k) : RB H (renTB f b) (renB f k) := by
  cases b with
  | arr ty deep t l =>
    obtain ⟨h1, h2, h3, h4, h5⟩ := h
    have : renB f k = k := by unfold renB; rw [h1]
    rw [this]; exact ⟨h1, h2, h3, h4, h5⟩
  | frz ty deep t l =>
    obtain ⟨h1, h2, h3, h4, h5⟩ := h
    have : renB f k = k := by unfold renB; rw [h1]
    rw [this]; exact ⟨h1, h2, h3, h4, h5⟩
  | box ty cs =>
    obtain ⟨h1, h2, row, h3, h4, h5⟩ := h
    have e : renB f k = { k with rows := k.rows.map (·.map (ren0 f)) } := by unfold renB; rw [h1]
    rw [e]
    refine ⟨h1, h2, row.map (ren0 f), by simp [h3], by simpa using h4, ren_rcs hlen h5⟩
end

theorem blen_ren {f : Nat → Option Nat} (b : TB) : blen (renTB f b) = blen b := by cases b <;> rfl

theorem getB_renHp {f : Nat → Option Nat} : ∀ (o : List Nat) (k j : Nat), getB (renHp hp f k o) j = if k ≤ j then (o[j - k]?).bind fun id => (getB hp id).map (renTB f) else none
  | [], k, j => by simp [renHp, getB]
  | id :: o, k, j => by
    simp only [renHp]
    rw [getB_cons, getB_renHp o (k + 1) j]
    by_cases h : j = k
    · subst h
      rw [if_pos rfl, if_pos (Nat.le_refl _)]
      simp
      cases getB hp id <;> rfl
    · rw [if_neg h]
      by_cases h2 : k ≤ j
      · rw [if_pos h2, if_pos (by omega), show j - k = (j - (k + 1)) + 1 by omega, List.getElem?_cons_succ]
      · rw [if_neg h2, if_neg (by omega)]

/-- The blocks in their new order. -/
theorem renHp_rel (hh : RH hp hv) (o : List Nat) : RH (renHp hp (idxT o) 0 o) (lkB (blksOf hv o)) ∧ ∀ id j, idx o id = some j → ∀ b', getB (renHp hp (idxT o) 0 o) j = some b' → ∃ b, getB hp id = some b ∧ blen b = blen b' := by
  have hf : idxT o = idx o := funext fun id => idxT_eq o id
  have hget : ∀ j b', getB (renHp hp (idxT o) 0 o) j = some b' → ∃ id b, o[j]? = some id ∧ getB hp id = some b ∧ b' = renTB (idx o) b := by
    intro j b' hb
    rw [getB_renHp, if_pos (Nat.zero_le _), Nat.sub_zero, hf] at hb
    obtain ⟨id, h1, h2⟩ := bind_some' hb
    simp only [Option.map_eq_some_iff] at h2
    obtain ⟨b, h3, h4⟩ := h2
    exact ⟨id, b, h1, h3, h4.symm⟩
  have hlen : ∀ id j, idx o id = some j → ∀ b', getB (renHp hp (idxT o) 0 o) j = some b' → ∃ b, getB hp id = some b ∧ blen b = blen b' := by
    intro id j hj b' hb
    obtain ⟨id', b, h1, h2, rfl⟩ := hget j b' hb
    rw [idx_at hj] at h1
    cases h1
    exact ⟨b, h2, (blen_ren b).symm⟩
  refine ⟨fun j b' hb => ?_, hlen⟩
  obtain ⟨id, b, h1, h2, rfl⟩ := hget j b' hb
  obtain ⟨k, hk, hr⟩ := hh id b h2
  refine ⟨renB (idx o) k, ?_, ren_RB hlen hr⟩
  show (blksOf hv o)[j]? = _
  unfold blksOf
  rw [List.getElem?_map, h1]
  simp only [Option.map_some, hk, Option.getD_some]

theorem ren12 {f : Nat → Option Nat} {y : V} (h : notTup y = true) : ren2 f y = ren1 f y := by
  cases y <;> first | rfl | cases h

theorem canonT_rel {e : Nat} {keep : List Nat} {st st2 : TSt} {s : St} (hs : RS st s) (h : canonT e keep st = some st2) : ∃ s2, (∀ K : St → Prop, K s2 → canon0 e keep s K) ∧ RS st2 s2 := by
  unfold canonT at h
  split at h
  · rename_i hsure
    split at h
    · rename_i o ho
      split at h
      · rename_i hc
        simp only [Bool.and_eq_true] at hc
        simp only [Option.some.injEq] at h
        subst h
        have hrefs : ∀ t ∈ keep, refs2 (s.tm t) = rf1 (getV st.tm t) := fun t ht => (rf1_rel (List.all_eq_true.1 hsure t ht) (hs.tm t)).2.2.1
        have hfl : (keep.flatMap fun t => refs2 (s.tm t)) = keep.flatMap fun t => rf1 (getV st.tm t) := by
          have : ∀ (l : List Nat), (∀ t ∈ l, refs2 (s.tm t) = rf1 (getV st.tm t)) → (l.flatMap fun t => refs2 (s.tm t)) = l.flatMap fun t => rf1 (getV st.tm t) := by
            intro l
            induction l with
            | nil => intro _; rfl
            | cons a l ih => intro h; rw [List.flatMap_cons, List.flatMap_cons, h a (by simp), ih fun t ht => h t (by simp [ht])]
          exact this keep hrefs
        have hcl := closeT_rel hs.hp _ _ _ ho
        obtain ⟨h1, hlen⟩ := renHp_rel hs.hp o
        have hf : idxT o = idx o := funext fun id => idxT_eq o id
        refine ⟨{ tm := lk .any (keep.map fun t => (t, ren2 (idx o) (s.tm t))), hp := lkB (blksOf s.hp o), c := 1 }, fun K hK => ?_, ⟨?_, h1, rfl⟩⟩
        · unfold canon0
          rw [hfl, hcl]
          exact ⟨Nat.le_of_ble_eq_true hc.1, eqNs_iff hc.2, hK⟩
        · have key : ∀ (l : List Nat), (∀ t ∈ l, t ∈ keep) → RT (renHp st.hp (idxT o) 0 o) (l.map fun t => (t, renS1 (idxT o) (getV st.tm t))) (lk .any (l.map fun t => (t, ren2 (idx o) (s.tm t)))) := by
            intro l
            induction l with
            | nil => intro _ t; trivial
            | cons a l ih =>
              intro hl t
              show RV2 _ (getV ((a, _) :: l.map _) t) (if t = a then _ else lk .any (l.map _) t)
              rw [getV_cons]
              split
              · obtain ⟨q1, _, _, q4⟩ := rf1_rel (List.all_eq_true.1 hsure a (hl a (by simp))) (hs.tm a)
                rw [ren12 q4, hf]
                rw [hf] at hlen
                exact (ren_rv1 hlen q1 (List.all_eq_true.1 hsure a (hl a (by simp)))).to2
              · exact ih (fun t ht => hl t (by simp [ht])) t
          exact key keep fun t ht => ht
      · cases h
    · cases h
  · cases h
end
end Go.Proofs.YtnhibkgoinnmcaaDoor.Ev
end

/-! #### EvX9 -/
section
/- The typed evaluator and the evaluator: data that are read; loop heads, exits, joins. -/
namespace Go.Proofs.YtnhibkgoinnmcaaDoor.Ev
open Go
set_option linter.unusedVariables false
set_option linter.unusedSimpArgs false
set_option linter.unusedSectionVars false

theorem fst_mk : ∀ (u v : Bool) (A B : Type) (a0 : u = true → A) (a : A) (b : B), (u = true → ∀ x y : A, x = y) → fstP u v A B a0 (mkP u v A B a b) = a
  | true, _, _, _, _, _, _, h => h rfl _ _
  | false, true, _, _, _, _, _, _ => rfl
  | false, false, _, _, _, _, _, _ => rfl

theorem snd_mk : ∀ (u v : Bool) (A B : Type) (b0 : v = true → B) (a : A) (b : B), (v = true → ∀ x y : B, x = y) → sndP u v A B b0 (mkP u v A B a b) = b
  | true, _, _, _, _, _, _, _ => rfl
  | false, true, _, _, _, _, _, h => h rfl _ _
  | false, false, _, _, _, _, _, _ => rfl

theorem pair_eq : ∀ (u v : Bool) (A B : Type), u = true → (v = true → ∀ x y : B, x = y) → v = true → ∀ x y : PairT u v A B, x = y
  | true, true, _, _, _, h, _, x, y => h rfl x y
  | false, _, _, _, h, _, _, _, _ => by cases h
  | true, false, _, _, _, _, h, _, _ => by cases h

section
variable {ι : Type} {den : ι → Type} {u : ι → Bool} {un : ∀ x, u x = true → den x} (hu : ∀ x, u x = true → ∀ a b : den x, a = b)
include hu
theorem unitL_eq : ∀ (l : List ι), l.all u = true → ∀ a b : denL den u l, a = b
  | [], _, _, _ => rfl
  | x :: l, h, a, b => by
    simp only [List.all_cons, Bool.and_eq_true] at h
    exact pair_eq (u x) (l.all u) (den x) (denL den u l) h.1 (fun hl => unitL_eq l hl) h.2 a b
theorem hdL_cons (x : ι) (l : List ι) (a : den x) (d : denL den u l) : hdL den u un x l (consL den u x l a d) = a := fst_mk _ _ _ _ _ _ _ fun h => hu x h
theorem tlL_cons (x : ι) (l : List ι) (a : den x) (d : denL den u l) : tlL den u un x l (consL den u x l a d) = d := snd_mk _ _ _ _ _ _ _ fun h => unitL_eq hu l h
end

theorem unitC_eq : ∀ (c : AC), c.isU = true → ∀ a b : c.den, a = b
  | .at _, _, _, _ => rfl
  | .int _, h, _, _ => by cases h
  | .bool, h, _, _ => by cases h
  | .str, h, _, _ => by cases h
  | .im _, h, _, _ => by cases h
theorem hdC_cons (c : AC) (cs : List AC) (a : c.den) (d : denC cs) : hdC c cs (consC c cs a d) = a := hdL_cons unitC_eq c cs a d
theorem tlC_cons (c : AC) (cs : List AC) (a : c.den) (d : denC cs) : tlC c cs (consC c cs a d) = d := tlL_cons unitC_eq c cs a d

theorem unitI_eq : ∀ (x : Item), x.isU = true → ∀ a b : x.den, a = b
  | .blk (.box _ cs), h, a, b => unitL_eq unitC_eq cs h a b
  | .blk (.arr _ _ _), h, _, _ => by cases h
  | .slot _ (.cell c), h, a, b => unitC_eq c h a b
  | .slot _ (.agg cs), h, a, b => unitL_eq unitC_eq cs h a b
  | .slot _ (.ref _ _), _, _, _ => rfl
  | .slot _ (.clo _), _, _, _ => rfl
  | .slot _ (.sub _), h, _, _ => by cases h
theorem hd_cons (x : Item) (l : List Item) (a : x.den) (d : denI l) : hdI x l (consI x l a d) = a := hdL_cons unitI_eq x l a d
theorem tl_cons (x : Item) (l : List Item) (a : x.den) (d : denI l) : tlI x l (consI x l a d) = d := tlL_cons unitI_eq x l a d

theorem rdC_eq {c : AC} {v : SV} {x : c.den} (h : rdC c v = some x) : v = encC c x := by
  cases c with
  | int k =>
    cases v <;> simp only [rdC, reduceCtorEq] at h
    split at h
    · rename_i hk; cases h; subst hk; rfl
    · cases h
  | bool => cases v <;> simp only [rdC, reduceCtorEq] at h; cases h; rfl
  | str => cases v <;> simp only [rdC, reduceCtorEq] at h; cases h; rfl
  | err => cases v <;> simp only [rdC, reduceCtorEq] at h; cases h; rfl
  | im t =>
    cases v <;> simp only [rdC, reduceCtorEq] at h
    split at h
    · rename_i he; cases h; subst he; rfl
    · cases h
  | «at» j =>
    cases v <;> simp only [rdC, reduceCtorEq] at h
    split at h
    · rename_i he; have := Nat.eq_of_beq_eq_true he; subst this; rfl
    · cases h

theorem rdCs_eq : ∀ {cs : List AC} {vs : List SV} {x : denC cs}, rdCs cs vs = some x → vs = encCs cs x
  | [], [], _, _ => rfl
  | [], _ :: _, _, h => by cases h
  | _ :: _, [], _, h => by cases h
  | c :: cs, v :: vs, x, h => by
    simp only [rdCs] at h
    split at h
    · rename_i a ha
      split at h
      · rename_i d hd
        cases h
        rw [encCs, hdC_cons, tlC_cons, ← rdC_eq ha, ← rdCs_eq hd]
      · cases h
    · cases h

theorem rdB_eq {b : AB} {tb : TB} {x : b.den} (h : rdB b tb = some x) : tb = encB b x := by
  cases b with
  | arr ty deep t =>
    cases tb <;> simp only [rdB, reduceCtorEq] at h
    split at h
    · rename_i he
      split at h
      · rename_i hc
        simp only [Bool.and_eq_true, beq_iff_eq] at hc
        cases h
        subst he
        rw [Nat.eq_of_beq_eq_true hc.1, hc.2]
        rfl
      · cases h
    · cases h
  | box ty cs =>
    cases tb <;> simp only [rdB, reduceCtorEq] at h
    split at h
    · rename_i hc
      rw [Nat.eq_of_beq_eq_true hc, rdCs_eq h]
      rfl
    · cases h

theorem rdS_eq {a : AS} {v : SV} {x : a.den} (h : rdS a v = some x) : v = encSV a x := by
  cases a with
  | cell c => exact rdC_eq (by cases v <;> exact h)
  | agg cs => cases v <;> simp only [rdS, reduceCtorEq] at h; rw [rdCs_eq h]; rfl
  | ref j isb =>
    cases isb with
    | false =>
      cases v <;> simp only [rdS, reduceCtorEq] at h
      split at h
      · rename_i he; have := Nat.eq_of_beq_eq_true he; subst this; rfl
      · cases h
    | true =>
      cases v with
      | rf i r c =>
        cases r with
        | zero =>
          cases c with
          | zero =>
            simp only [rdS] at h
            split at h
            · rename_i he; have := Nat.eq_of_beq_eq_true he; subst this; rfl
            · cases h
          | succ _ => simp [rdS] at h
        | succ _ => simp [rdS] at h
      | _ => simp [rdS] at h
  | sub j =>
    cases v <;> simp only [rdS, reduceCtorEq] at h
    split at h
    · rename_i he; have := Nat.eq_of_beq_eq_true he; subst this; cases h; rfl
    · cases h
  | clo f =>
    cases v with
    | cl g cs =>
      cases cs with
      | nil =>
        simp only [rdS] at h
        split at h
        · rename_i he; have := Nat.eq_of_beq_eq_true he; subst this; rfl
        · cases h
      | cons _ _ => simp [rdS] at h
    | _ => simp [rdS] at h

theorem rdI_eq : ∀ {l : List Item} {k : Nat} {tm : TTm} {hp : THp} {d : denI l}, rdI k l tm hp = some d → tm = (encI k l d).1 ∧ hp = (encI k l d).2
  | [], k, [], [], d, _ => ⟨rfl, rfl⟩
  | [], k, _ :: _, _, _, h => by simp [rdI] at h
  | [], k, [], _ :: _, _, h => by simp [rdI] at h
  | .blk b :: l, k, tm, [], _, h => by simp [rdI] at h
  | .blk b :: l, k, tm, (i, none) :: hp, _, h => by simp [rdI] at h
  | .blk b :: l, k, tm, (i, some tb) :: hp, d, h => by
    simp only [rdI] at h
    split at h
    · rename_i hi
      have := Nat.eq_of_beq_eq_true hi
      subst this
      split at h
      · rename_i x hx
        split at h
        · rename_i y hy
          cases h
          obtain ⟨e1, e2⟩ := rdI_eq hy
          rw [encI, hd_cons, tl_cons, ← rdB_eq hx, ← e1, ← e2]
          exact ⟨rfl, rfl⟩
        · cases h
      · cases h
    · cases h
  | .slot s a :: l, k, [], hp, _, h => by simp [rdI] at h
  | .slot s a :: l, k, (i, v) :: tm, hp, d, h => by
    simp only [rdI] at h
    split at h
    · rename_i hi
      have := Nat.eq_of_beq_eq_true hi
      subst this
      split at h
      · rename_i x hx
        split at h
        · rename_i y hy
          cases h
          obtain ⟨e1, e2⟩ := rdI_eq hy
          rw [encI, hd_cons, tl_cons, ← rdS_eq hx, ← e1, ← e2]
          exact ⟨rfl, rfl⟩
        · cases h
      · cases h
    · cases h

theorem keep_slots (bl : List AB) : ∀ (l : List Item), (mdsL (keepT bl l)).map (·.1) = slotsI l
  | [] => rfl
  | .blk b :: l => keep_slots bl l
  | .slot s a :: l => by
    have := keep_slots bl l
    unfold mdsL at this ⊢
    simp only [keepT, slotsI, List.map_cons, this]

/-- Where ways meet the state is what was read. -/
theorem canon_rel {e : Nat} {l : List Item} {st : TSt} {s : St} {d : denI l} (hs : RS st s) (h : decSt e l st = some d) : ∃ s', (∀ K : St → Prop, K s' → canon e (keepI l) s K) ∧ RS (encSt l d) s' := by
  unfold decSt at h
  split at h
  · rename_i hb
    obtain ⟨b1, b2⟩ := below_bel hb
    split at h
    · rename_i st1 h1
      obtain ⟨s1, n1, n2, n3, n4⟩ := tnS_rel hs b1 b2 h1
      split at h
      · rename_i st2 h2
        obtain ⟨s2, c1, c2⟩ := canonT_rel n2 h2
        obtain ⟨e1, e2⟩ := rdI_eq h
        have hc : st2.c = 1 := by
          unfold canonT at h2
          split at h2
          · split at h2
            · split at h2
              · simp only [Option.some.injEq] at h2; subst h2; rfl
              · cases h2
            · cases h2
          · cases h2
        have : st2 = encSt l d := by
          cases st2 with
          | mk tm hp c =>
            simp only at e1 e2 hc
            subst e1
            subst e2
            subst hc
            rfl
        rw [this] at c2
        refine ⟨s2, fun K hK => ?_, c2⟩
        unfold canon
        rw [show keepI l = mdsL (keepT (blksI l) l) from rfl, n1]
        simp only [caseO_some, keep_slots]
        exact c1 K hK
      · cases h
    · cases h
  · cases h
end Go.Proofs.YtnhibkgoinnmcaaDoor.Ev
end

/-! #### EvXa -/
section
/- The typed evaluator and the evaluator: what a function hands back. -/
namespace Go.Proofs.YtnhibkgoinnmcaaDoor.Ev
open Go
set_option linter.unusedVariables false
set_option linter.unusedSimpArgs false

/-- What a function hands back. -/
structure ResRel (res : List Item) (y : denI res) (r : V) (blks : List Blk) : Prop where
  val : RV2 (encI 0 res y).2 (tupT ((encI 0 res y).1.map (·.2))) r
  blk : RH (encI 0 res y).2 (lkB blks)
  len : blks.length = (encI 0 res y).2.length

/-- A function that is known. -/
def EntOK (R : Rel) (E : Ent) : Prop := ∀ x y args blks st, E.F x = some y → RS st (entry args blks) → decSt E.a.e E.a.params st = some x → idsOK args blks = true → args.length = (slotsI E.a.params).length → (args.flatMap refs1).eraseDups.length = E.a.e → (E.a.e = 0 → blks = []) →
  ∃ r blks', R E.a.g args blks r blks' ∧ ResRel E.a.res y r blks'

section
variable {P : Program} {X : TX} {g : FuncId}

theorem tRes_rel {α : Type} (hX : XOK P X) {st : TSt} {s : St} (hs : RS st s) : ∀ (l : List ResultVar) {K : List SV → Option α} {z : α}, tRes X st.tm st.hp l K = some z →
    ∃ xs ys, K xs = some z ∧ RC (RV2 st.hp) xs ys ∧ ∀ KV : List V → Prop, KV ys → resVs P s l KV
  | [], K, z, h => ⟨[], [], h, trivial, fun KV hk => hk⟩
  | .tmp t :: l, K, z, h => by
    obtain ⟨xs, ys, h1, h2, h3⟩ := tRes_rel hX hs l h
    exact ⟨_, _ :: ys, h1, ⟨hs.tm t, h2⟩, fun KV hk => h3 _ hk⟩
  | .cell a t :: l, K, z, h => by
    simp only [tRes] at h
    obtain ⟨x, u, h1, h2, h3⟩ := load_rel hX (hs.tm a) hs.hp.toM h
    obtain ⟨xs, ys, q1, q2, q3⟩ := tRes_rel hX hs l h1
    refine ⟨_, u :: ys, q1, ⟨h2, q2⟩, fun KV hk => ?_⟩
    show (match nevM P (.load t (.tmp a)) (opnd s.tm) s.hp 0 with | some (x, _) => resVs P s l fun xs => KV (x :: xs) | none => False)
    rw [h3 (opnd s.tm) (.tmp a) 0 rfl]
    exact q3 _ hk

theorem enumT_rel {hp : THp} : ∀ {xs : List SV} {ys : List V} (k : Nat), RC (RV2 hp) xs ys → RT hp (enumT k xs) (lk .any (enum k ys))
  | [], [], k, _ => fun t => trivial
  | x :: xs, y :: ys, k, h => by
    intro t
    show RV2 hp (getV ((k, x) :: enumT (k + 1) xs) t) (if t = k then y else lk .any (enum (k + 1) ys) t)
    rw [getV_cons]
    split
    · exact h.1
    · exact enumT_rel (k + 1) h.2 t
  | [], _ :: _, _, h => h.elim
  | _ :: _, [], _, h => h.elim

theorem enumT_vals : ∀ (xs : List SV) (k : Nat), (enumT k xs).map (·.2) = xs
  | [], _ => rfl
  | x :: xs, k => by simp [enumT, enumT_vals xs (k + 1)]

theorem renHp_len {hp : THp} {f : Nat → Option Nat} : ∀ (o : List Nat) (k : Nat), (renHp hp f k o).length = o.length
  | [], _ => rfl
  | id :: o, k => by simp [renHp, renHp_len o (k + 1)]

theorem RC.all1 {hp : THp} : ∀ {vs : List SV} {ys : List V}, vs.all sure1 = true → RC (RV2 hp) vs ys → RC (RV1 hp) vs ys ∧ ys.flatMap refs1 = vs.flatMap rf1 ∧ ys.flatMap refs2 = vs.flatMap rf1 ∧ ys.all notTup = true
  | [], [], _, _ => ⟨trivial, rfl, rfl, rfl⟩
  | v :: vs, y :: ys, hs, h => by
    simp only [List.all_cons, Bool.and_eq_true] at hs
    obtain ⟨q1, q2, q3, q4⟩ := rf1_rel hs.1 h.1
    obtain ⟨e1, e2, e3, e4⟩ := RC.all1 hs.2 h.2
    exact ⟨⟨q1, e1⟩, by simp only [List.flatMap_cons, q2, e2], by simp only [List.flatMap_cons, q3, e3], by simp [q4, e4]⟩
  | [], _ :: _, _, h => h.elim
  | _ :: _, [], _, h => h.elim

theorem RC.ren {hp H : THp} {f : Nat → Option Nat} (hlen : ∀ id j, f id = some j → ∀ b', getB H j = some b' → ∃ b, getB hp id = some b ∧ blen b = blen b') : ∀ {vs : List SV} {ys : List V}, vs.all sure1 = true → RC (RV1 hp) vs ys → RC (RV1 H) (vs.map (renS1 f)) (ys.map (ren1 f))
  | [], [], _, _ => trivial
  | v :: vs, y :: ys, hs, h => by
    simp only [List.all_cons, Bool.and_eq_true] at hs
    exact ⟨ren_rv1 hlen h.1 hs.1, RC.ren hlen hs.2 h.2⟩
  | [], _ :: _, _, h => h.elim
  | _ :: _, [], _, h => h.elim

theorem rts_mds (l : List (Nat × TMs)) : (mdsL l).map (·.2) = (l.map (·.2)).map TMs.mds ∧ rootVs (mdsL l) = l.map (fun p => V.rf p.1 0 0) ∧ (mdsL l).length = l.length := by
  refine ⟨?_, ?_, ?_⟩
  · simp [mdsL]
  · unfold rootVs mdsL; simp
  · simp [mdsL]

/-- What is handed back. -/
theorem ret_done {e : Nat} {st : TSt} {s : St} {res : List Item} {rs : List ResultVar} {y : denI res} (hX : XOK P X) (hs : RS st s)
    (h : (tRes X st.tm st.hp rs fun xs => outT res e st xs) = some y) :
    ∃ r blks', (rootsOK (mdsL (rtsT (blksI res) e 0 (blksI res))) s.hp = true ∧ resVs P s rs fun xs => caseO (normR ((mdsL (rtsT (blksI res) e 0 (blksI res))).map (·.2) ++ (keepI res).map (·.2)) (rootVs (mdsL (rtsT (blksI res) e 0 (blksI res))) ++ xs) s.hp (s.c + 1)) fun z => outL z.2.1 e r blks' (z.1.drop (mdsL (rtsT (blksI res) e 0 (blksI res))).length)) ∧ ResRel res y r blks' := by
  obtain ⟨xs, ys, h1, h2, h3⟩ := tRes_rel hX hs rs h
  unfold outT at h1
  simp only at h1
  generalize rtsT (blksI res) e 0 (blksI res) = rts at h1 ⊢
  split at h1
  case isFalse => cases h1
  rename_i hc
  simp only [Bool.and_eq_true] at hc
  obtain ⟨⟨c1, c2⟩, c3⟩ := hc
  split at h1
  case h_2 => cases h1
  rename_i zs0 hp1 hn
  split at h1
  case isFalse => cases h1
  rename_i hz
  split at h1
  case h_2 => cases h1
  rename_i o ho
  split at h1
  case isFalse => cases h1
  rename_i he
  obtain ⟨m1, m2, m3⟩ := rts_mds rts
  have hroot : rootsOK (mdsL rts) s.hp = true := by
    unfold rootsT at c1
    unfold rootsOK mdsL
    rw [List.all_map]
    refine List.all_eq_true.2 fun p hp => ?_
    have := List.all_eq_true.1 c1 p hp
    simp only [Bool.and_eq_true] at this
    simp only [Function.comp, Bool.and_eq_true, decide_eq_true_eq]
    refine ⟨blt_lt this.1, ?_⟩
    have h4 := this.2
    split at h4
    · rename_i ty cs hg
      obtain ⟨k, hk, k1, _⟩ := hs.hp p.1 _ hg
      rw [hk]
      simp [k1]
    · cases h4
  have hsc : s.c = st.c := hs.c
  obtain ⟨b1, _⟩ := below_bel c3
  have hids : ∀ i ∈ (rts.map (fun p => SV.rf p.1 0 0) ++ xs).flatMap ids2, i < 16 * (s.c + 1) := by
    intro i hi
    rw [List.flatMap_append, List.mem_append] at hi
    rcases hi with hi | hi
    · obtain ⟨v, hv, hi⟩ := List.mem_flatMap.1 hi
      obtain ⟨p, _, rfl⟩ := List.mem_map.1 hv
      simp [ids2, ids1, ids0] at hi
    · obtain ⟨v, hv, hi⟩ := List.mem_flatMap.1 hi
      simp only [belowT, Bool.and_eq_true] at c3
      rw [← enumT_vals xs 0] at hv
      obtain ⟨p, hp, rfl⟩ := List.mem_map.1 hv
      have := blt_lt (List.all_eq_true.1 (List.all_eq_true.1 c3.1 p hp) i hi)
      omega
  have hrc : RC (RV2 st.hp) (rts.map (fun p => SV.rf p.1 0 0) ++ xs) (rootVs (mdsL rts) ++ ys) := by
    rw [m2]
    refine RC.append (RC.map fun p _ => rfl) h2
  obtain ⟨ys', hv', c', n1, n2, n3, _⟩ := tnR_rel (c := s.c + 1) hs.hp (by rw [hsc]; exact b1) hids hrc (by rw [hsc]; exact hn)
  have hzc := n3.drop rts.length
  obtain ⟨a1, a2, a3, a4⟩ := RC.all1 hz hzc
  have hcl := closeT_rel n2 _ _ _ ho
  obtain ⟨r1, r2⟩ := renHp_rel n2 o
  have hf : idxT o = idx o := funext fun id => idxT_eq o id
  obtain ⟨e1, e2⟩ := rdI_eq h1
  have hvals : (encI 0 res y).1.map (·.2) = (zs0.drop rts.length).map (renS1 (idxT o)) := by rw [← e1, enumT_vals]
  have htake := eqNs_iff he
  have hrv : RC (RV1 (renHp hp1 (idxT o) 0 o)) ((zs0.drop rts.length).map (renS1 (idxT o))) ((ys'.drop rts.length).map (ren1 (idx o))) := by
    rw [hf] at r2 ⊢
    exact RC.ren r2 hz a1
  have fin : ∀ r, outL hv' e r (blksOf hv' o) (ys'.drop rts.length) → RV2 (renHp hp1 (idxT o) 0 o) (tupT ((zs0.drop rts.length).map (renS1 (idxT o)))) r → ∃ r blks', (rootsOK (mdsL rts) s.hp = true ∧ resVs P s rs fun xs => caseO (normR ((mdsL rts).map (·.2) ++ (keepI res).map (·.2)) (rootVs (mdsL rts) ++ xs) s.hp (s.c + 1)) fun z => outL z.2.1 e r blks' (z.1.drop (mdsL rts).length)) ∧ ResRel res y r blks' := by
    intro r hr hv
    refine ⟨r, blksOf hv' o, ⟨hroot, h3 _ ?_⟩, ⟨by rw [hvals, ← e2]; exact hv, by rw [← e2]; exact r1, by rw [← e2, renHp_len]; simp [blksOf]⟩⟩
    have : (mdsL rts).map (·.2) ++ (keepI res).map (·.2) = (rts.map (·.2) ++ (keepT (blksI res) res).map (·.2)).map TMs.mds := by
      rw [m1, show keepI res = mdsL (keepT (blksI res) res) from rfl, (rts_mds (keepT (blksI res) res)).1, List.map_append]
    rw [this, n1]
    simp only [caseO_some, m3]
    exact hr
  generalize ys'.drop rts.length = zs at a1 a2 a3 a4 hrv fin
  generalize zs0.drop rts.length = vs at hrv fin a2 a3 hcl
  have many : (tupT (vs.map (renS1 (idxT o))) = .tup (vs.map (renS1 (idxT o)))) → (∀ r, outL hv' e r (blksOf hv' o) zs = (zs.all notTup = true ∧ out1 hv' e (.tup zs) r (blksOf hv' o))) → ∃ r blks', (rootsOK (mdsL rts) s.hp = true ∧ resVs P s rs fun xs => caseO (normR ((mdsL rts).map (·.2) ++ (keepI res).map (·.2)) (rootVs (mdsL rts) ++ xs) s.hp (s.c + 1)) fun z => outL z.2.1 e r blks' (z.1.drop (mdsL rts).length)) ∧ ResRel res y r blks' := by
    intro ht ho'
    refine fin (.tup (zs.map (ren1 (idx o)))) ?_ ?_
    · rw [ho']
      refine ⟨a4, ?_⟩
      unfold out1
      rw [show refs2 (.tup zs) = zs.flatMap refs1 from rfl, a2, hcl]
      exact ⟨htake, rfl, rfl⟩
    · rw [ht]
      exact ⟨_, rfl, hrv⟩
  match zs, vs, a2, a3, a4, hrv, hcl, fin, many with
  | [z], [v], a2, a3, a4, hrv, hcl, fin, _ =>
    refine fin (ren2 (idx o) z) ?_ ?_
    · show out1 _ _ _ _ _
      unfold out1
      have : refs2 z = [v].flatMap rf1 := by simpa using a3
      rw [this, hcl]
      exact ⟨htake, rfl, rfl⟩
    · have : notTup z = true := by simpa using a4
      rw [ren12 this]
      exact hrv.1.to2
  | [], [], _, _, _, _, _, _, many => exact many rfl fun r => rfl
  | _ :: _ :: _, _ :: _ :: _, _, _, _, _, _, _, many => exact many rfl fun r => rfl
  | [], _ :: _, _, _, _, h, _, _, _ => exact h.elim
  | _ :: _, [], _, _, _, h, _, _, _ => exact h.elim
  | [_], _ :: _ :: _, _, _, _, h, _, _, _ => exact h.2.elim
  | _ :: _ :: _, [_], _, _, _, h, _, _, _ => exact h.2.elim
end
end Go.Proofs.YtnhibkgoinnmcaaDoor.Ev
end

/-! #### EvXb -/
section
/- The typed evaluator and the evaluator: what a function is handed. -/
namespace Go.Proofs.YtnhibkgoinnmcaaDoor.Ev
open Go
set_option linter.unusedVariables false
set_option linter.unusedSimpArgs false

theorem lendCT_rel {hp : THp} {hv : Hp} {c : AC} {v x : SV} {y : V} (hh : RH hp hv) (h : lendCT hp c v = some x) (hv' : RV0 hp v y) :
    ∃ y', lend0 hv y = some y' ∧ RV0 hp x y' ∧ arIds0 y = lentV v := by
  cases c with
  | int k =>
    cases v <;> simp only [lendCT, reduceCtorEq] at h
    cases h; have : y = _ := hv'; subst this; exact ⟨_, rfl, rfl, rfl⟩
  | bool => cases v <;> simp only [lendCT, reduceCtorEq] at h; cases h; have : y = _ := hv'; subst this; exact ⟨_, rfl, rfl, rfl⟩
  | str => cases v <;> simp only [lendCT, reduceCtorEq] at h; cases h; have : y = _ := hv'; subst this; exact ⟨_, rfl, rfl, rfl⟩
  | err => cases v <;> simp only [lendCT, reduceCtorEq] at h
  | «at» j => cases v <;> simp [lendCT] at h
  | im t =>
    have h' : ∃ l, asLh hp t v = some l ∧ x = .im t l := by
      simp only [lendCT] at h
      split at h
      · rename_i l hl; cases h; exact ⟨l, hl, rfl⟩
      · cases h
    obtain ⟨l, h', rfl⟩ := h'
    have hids : arIds0 y = lentV v := by
      cases v with
      | ow id => obtain ⟨n, rfl, _⟩ := hv'; rfl
      | ar a b c => have : y = _ := hv'; subst this; rfl
      | em => have : y = _ := hv'; subst this; rfl
      | er e => have : y = _ := hv'; subst this; rfl
      | im t' l' => rcases hv' with ⟨_, rfl⟩ | ⟨_, rfl, _⟩ <;> rfl
      | _ => simp [asLh, asL] at h'
    rcases asLh_rel h' hv' hh.toM with ⟨rfl, rfl⟩ | ⟨rows, rfl, hr⟩ | ⟨id, lo, n, kb, rfl, hk, hkk, hr⟩
    · exact ⟨.im [], rfl, .inr ⟨[], rfl, RLx.nil⟩, hids⟩
    · exact ⟨.im rows, rfl, .inr ⟨rows, rfl, hr⟩, hids⟩
    · refine ⟨.im ((kb.rows.take (lo + n)).drop lo), ?_, .inr ⟨_, rfl, hr⟩, hids⟩
      simp only [lend0, hk]

theorem lendCsT_rel {hp : THp} {hv : Hp} (hh : RH hp hv) : ∀ {cs : List AC} {vs xs : List SV} {ys : List V}, lendCsT hp cs vs = some xs → RC (RV0 hp) vs ys →
    ∃ ys', lendL hv ys = some ys' ∧ RC (RV0 hp) xs ys' ∧ ys.flatMap arIds0 = vs.flatMap lentV
  | [], [], xs, ys, h, hc => by
    simp only [lendCsT, Option.some.injEq] at h
    subst h
    cases ys with
    | nil => exact ⟨[], rfl, trivial, rfl⟩
    | cons a l => exact hc.elim
  | [], _ :: _, _, _, h, _ => by cases h
  | _ :: _, [], _, _, h, _ => by cases h
  | c :: cs, v :: vs, xs, ys, h, hc => by
    simp only [lendCsT] at h
    split at h
    · rename_i x1 hx1
      split at h
      · rename_i x2 hx2
        cases h
        cases ys with
        | nil => exact hc.elim
        | cons y ys =>
          obtain ⟨y', h1, h2, h3⟩ := lendCT_rel hh hx1 hc.1
          obtain ⟨ys', g1, g2, g3⟩ := lendCsT_rel hh hx2 hc.2
          exact ⟨y' :: ys', by simp only [lendL, h1, g1], ⟨h2, g2⟩, by rw [List.flatMap_cons, List.flatMap_cons, h3, g3]⟩
      · cases h
    · cases h

theorem lendST_rel {hp : THp} {hv : Hp} {a : AS} {v x : SV} {y : V} (hh : RH hp hv) (h : lendST hp a v = some x) (hv2 : RV2 hp v y) :
    ∃ y', lend1 hv y = some y' ∧ RV2 hp x y' ∧ arIds1 y = lentV1 v := by
  have cell : ∀ (c : AC), lendCT hp c v = some x → RV0 hp v y → lentV1 v = lentV v → (∀ y', RV0 hp x y' → RV2 hp x y') → lend1 hv y = lend0 hv y → arIds1 y = arIds0 y → ∃ y', lend1 hv y = some y' ∧ RV2 hp x y' ∧ arIds1 y = lentV1 v := by
    intro c hc h0 e1 e2 e3 e4
    obtain ⟨y', q1, q2, q3⟩ := lendCT_rel hh hc h0
    exact ⟨y', by rw [e3]; exact q1, e2 y' q2, by rw [e4, e1]; exact q3⟩
  cases a with
  | cell c =>
    have h : lendCT hp c v = some x := by cases v <;> exact h
    have hx : ∀ y', RV0 hp x y' → RV2 hp x y' := fun y' h => h.to1.to2
    cases v with
    | int k n => have : y = _ := hv2; subst this; exact cell c h rfl rfl hx rfl rfl
    | bool b => have : y = _ := hv2; subst this; exact cell c h rfl rfl hx rfl rfl
    | str s => have : y = _ := hv2; subst this; exact cell c h rfl rfl hx rfl rfl
    | em => have : y = _ := hv2; subst this; exact cell c h rfl rfl hx rfl rfl
    | er e => have : y = _ := hv2; subst this; exact cell c h rfl rfl hx rfl rfl
    | im t l => rcases hv2 with ⟨e, rfl⟩ | ⟨r, rfl, e⟩; exact cell c h (.inl ⟨e, rfl⟩) rfl hx rfl rfl; exact cell c h (.inr ⟨r, rfl, e⟩) rfl hx rfl rfl
    | ow id => obtain ⟨n, rfl, e⟩ := hv2; exact cell c h ⟨n, rfl, e⟩ rfl hx rfl rfl
    | ar a b d => have : y = _ := hv2; subst this; exact cell c h rfl rfl hx rfl rfl
    | sc a => cases c <;> simp [lendCT, asLh, asL] at h
    | rf a b d => cases c <;> simp [lendCT, asLh, asL] at h
    | ir a b d => cases c <;> simp [lendCT, asLh, asL] at h
    | agg cs => cases c <;> simp [lendCT, asLh, asL] at h
    | tup cs => cases c <;> simp [lendCT, asLh, asL] at h
    | cl f cs => cases c <;> simp [lendCT, asLh, asL] at h
    | any => cases c <;> simp [lendCT, asLh, asL] at h
  | agg cs =>
    cases v with
    | agg vs =>
      simp only [lendST] at h
      split at h
      · rename_i l hl
        cases h
        obtain ⟨us, rfl, hc⟩ := rv_agg hv2
        obtain ⟨ys', q1, q2, q3⟩ := lendCsT_rel hh hl hc
        exact ⟨.agg ys', by simp only [lend1, q1], ⟨ys', rfl, q2⟩, q3⟩
      · cases h
    | _ => simp [lendST] at h
  | ref j isb =>
    cases isb with
    | true =>
      cases v <;> simp only [lendST, reduceCtorEq] at h
      cases h
      have : y = _ := hv2
      subst this
      exact ⟨_, rfl, rfl, rfl⟩
    | false => cases v <;> simp [lendST] at h
  | sub j => cases v <;> simp [lendST] at h
  | clo f =>
    cases v with
    | cl g cs =>
      cases cs with
      | nil =>
        simp only [lendST, Option.some.injEq] at h
        subst h
        obtain ⟨us, rfl, hc⟩ := rv_cl hv2
        cases us with
        | nil => exact ⟨.cl g [], rfl, ⟨[], rfl, trivial⟩, rfl⟩
        | cons a l => exact hc.elim
      | cons a l => simp [lendST] at h
    | _ => simp [lendST] at h

theorem lendLT_rel {hp : THp} {hv : Hp} (hh : RH hp hv) : ∀ {l : List AS} {vs xs : List SV} {ys : List V}, lendLT hp l vs = some xs → RC (RV2 hp) vs ys →
    ∃ ys', lendA hv (l.map refA) ys = some ys' ∧ RC (RV2 hp) xs ys' ∧ lentA (l.map refA) ys = lentLT l vs
  | [], [], xs, ys, h, hc => by
    simp only [lendLT, Option.some.injEq] at h
    subst h
    cases ys with
    | nil => exact ⟨[], rfl, trivial, rfl⟩
    | cons a l => exact hc.elim
  | [], _ :: _, _, _, h, _ => by cases h
  | _ :: _, [], _, _, h, _ => by cases h
  | a :: l, v :: vs, xs, ys, h, hc => by
    simp only [lendLT] at h
    split at h
    · rename_i x1 hx1
      split at h
      · rename_i x2 hx2
        cases h
        cases ys with
        | nil => exact hc.elim
        | cons y ys =>
          obtain ⟨ys', g1, g2, g3⟩ := lendLT_rel hh hx2 hc.2
          cases hra : refA a with
          | true =>
            rw [hra] at hx1
            simp only [cond_true] at hx1
            obtain ⟨hsv, hx1⟩ := cond_none' hx1
            cases hx1
            obtain ⟨_, _, _, hnt⟩ := rf1_rel hsv hc.1
            refine ⟨y :: ys', ?_, ⟨hc.1, g2⟩, ?_⟩
            · simp only [lendA, List.map_cons, List.headD_cons, List.tail_cons, hra, if_true, hnt, g1]
            · simp only [lentA, lentLT, List.map_cons, List.headD_cons, List.tail_cons, hra, if_true, cond_true, g3]
          | false =>
            rw [hra] at hx1
            simp only [cond_false] at hx1
            obtain ⟨y', h1, h2, h3⟩ := lendST_rel hh hx1 hc.1
            refine ⟨y' :: ys', ?_, ⟨h2, g2⟩, ?_⟩
            · simp only [lendA, List.map_cons, List.headD_cons, List.tail_cons, hra, Bool.false_eq_true, if_false, h1, g1]
            · simp only [lentA, lentLT, List.map_cons, List.headD_cons, List.tail_cons, hra, Bool.false_eq_true, if_false, cond_false, h3, g3]
      · cases h
    · cases h

theorem dd_erase : ∀ (l acc : List Nat), ddN acc l = acc ++ (l.filter fun i => !acc.contains i).eraseDups
  | [], acc => by simp [ddN]
  | id :: l, acc => by
    simp only [ddN]
    rw [memN_iff]
    cases h : acc.contains id with
    | true =>
      simp only [cond_true]
      rw [dd_erase l acc, List.filter_cons, h]
      rfl
    | false =>
      simp only [cond_false]
      rw [dd_erase l (acc ++ [id]), List.filter_cons, h]
      simp only [Bool.not_false, if_true]
      rw [List.eraseDups_cons, List.append_assoc, List.singleton_append, List.filter_filter]
      congr 3
      apply List.filter_congr
      intro x _
      simp only [List.contains_append, List.contains_cons, List.contains_nil, Bool.or_false, Bool.not_or]
      rw [Bool.and_comm]
theorem dd_nil (l : List Nat) : ddN [] l = l.eraseDups := by
  rw [dd_erase]
  simp only [List.contains_nil, Bool.not_false, List.nil_append]
  rw [List.filter_eq_self.2 (fun _ _ => rfl)]

/-- Where nothing is reached nothing is turned. -/
theorem ren0_same {hp : THp} {f : Nat → Option Nat} {v : SV} {y : V} (hs : sure0 v = true) (h0 : rf0 v = []) (h : RV0 hp v y) : ren0 f y = y := by
  cases v with
  | im t l => rcases h with ⟨_, rfl⟩ | ⟨_, rfl, _⟩ <;> rfl
  | ow id => simp [rf0] at h0
  | ar a b c => simp [rf0] at h0
  | rf a b c => simp [rf0] at h0
  | ir t a c => obtain ⟨_, rfl, _⟩ := h; rfl
  | cl f cs => cases cs with | nil => have : y = _ := h; subst this; rfl | cons a l => exact h.elim
  | any => cases hs
  | agg cs => exact h.elim
  | tup cs => exact h.elim
  | _ => have : y = _ := h; subst this; rfl

theorem rens_same {hp : THp} {f : Nat → Option Nat} : ∀ {vs : List SV} {ys : List V}, vs.all sure0 = true → vs.flatMap rf0 = [] → RC (RV0 hp) vs ys → ys.map (ren0 f) = ys
  | [], [], _, _, _ => rfl
  | v :: vs, y :: ys, hs, h0, h => by
    simp only [List.all_cons, Bool.and_eq_true] at hs
    rw [List.flatMap_cons, List.append_eq_nil_iff] at h0
    rw [List.map_cons, ren0_same hs.1 h0.1 h.1, rens_same hs.2 h0.2 h.2]
  | [], _ :: _, _, _, h => h.elim
  | _ :: _, [], _, _, h => h.elim

theorem ren1_same {hp : THp} {f : Nat → Option Nat} {v : SV} {y : V} (hs : sure1 v = true) (h0 : rf1 v = []) (h : RV1 hp v y) : ren1 f y = y := by
  cases v with
  | agg cs => obtain ⟨us, rfl, hc⟩ := h; show V.agg _ = _; rw [rens_same hs h0 hc]
  | cl g cs => obtain ⟨us, rfl, hc⟩ := h; show V.cl _ _ = _; rw [rens_same hs h0 hc]
  | im t l => rcases h with ⟨_, rfl⟩ | ⟨_, rfl, _⟩ <;> rfl
  | ow id => simp [rf1, rf0] at h0
  | ar a b c => simp [rf1, rf0] at h0
  | rf a b c => simp [rf1, rf0] at h0
  | ir t a c => obtain ⟨_, rfl, _⟩ := h; rfl
  | any => cases hs
  | tup cs => exact h.elim
  | _ => have : y = _ := h; subst this; rfl

theorem renA_same {hp : THp} {f : Nat → Option Nat} : ∀ {vs : List SV} {ys : List V}, vs.all sure1 = true → vs.flatMap rf1 = [] → RC (RV1 hp) vs ys → ys.map (ren1 f) = ys
  | [], [], _, _, _ => rfl
  | v :: vs, y :: ys, hs, h0, h => by
    simp only [List.all_cons, Bool.and_eq_true] at hs
    rw [List.flatMap_cons, List.append_eq_nil_iff] at h0
    rw [List.map_cons, ren1_same hs.1 h0.1 h.1, renA_same hs.2 h0.2 h.2]
  | [], _ :: _, _, _, h => h.elim
  | _ :: _, [], _, _, h => h.elim

/-! ### what data are laid out as -/
theorem encC_sure (c : AC) (x : c.den) : sure0 (encC c x) = true := by cases c <;> rfl
theorem encCs_sure : ∀ (cs : List AC) (x : denC cs), (encCs cs x).all sure0 = true
  | [], _ => rfl
  | c :: cs, x => by rw [encCs, List.all_cons, encC_sure, encCs_sure cs]; rfl
theorem encSV_sure (a : AS) (x : a.den) : sure1 (encSV a x) = true := by
  cases a with
  | cell c => cases c <;> rfl
  | agg cs => exact encCs_sure cs x
  | ref j isb => cases isb <;> rfl
  | sub j => rfl
  | clo f => rfl
theorem encB_sure (b : AB) (x : b.den) : sureB (encB b x) = true := by
  cases b with
  | arr ty deep t => rfl
  | box ty cs => exact encCs_sure cs x
theorem encI_vals : ∀ (l : List Item) (k : Nat) (d : denI l), ((encI k l d).1.map (·.2)).all sure1 = true
  | [], _, _ => rfl
  | .blk b :: l, k, d => by simp only [encI]; exact encI_vals l _ _
  | .slot s a :: l, k, d => by simp only [encI, List.map_cons, List.all_cons, encSV_sure, Bool.true_and]; exact encI_vals l _ _
theorem encI_blk : ∀ (l : List Item) (k : Nat) (d : denI l) (i : Nat), i < (encI k l d).2.length → ∃ b, (encI k l d).2[i]? = some (k + i, some b) ∧ sureB b = true
  | [], _, _, i, h => by simp [encI] at h
  | .blk b :: l, k, d, i, h => by
    simp only [encI, List.length_cons] at h ⊢
    cases i with
    | zero => exact ⟨_, rfl, encB_sure _ _⟩
    | succ i =>
      obtain ⟨b', h1, h2⟩ := encI_blk l (k + 1) (tlI _ l d) i (by omega)
      exact ⟨b', by rw [List.getElem?_cons_succ, h1]; congr 2; omega, h2⟩
  | .slot s a :: l, k, d, i, h => by simp only [encI] at h ⊢; exact encI_blk l k _ i h

theorem getB_of_idx : ∀ {l : THp} {k : Nat}, (∀ i, i < l.length → ∃ b, l[i]? = some (k + i, some b)) → ∀ i, i < l.length → ∃ b, l[i]? = some (k + i, some b) ∧ getB l (k + i) = some b
  | [], _, _, i, h => by simp at h
  | a :: l, k, hl, i, h => by
    obtain ⟨b0, h0⟩ := hl 0 (by simp)
    simp at h0
    subst h0
    cases i with
    | zero => exact ⟨b0, rfl, by rw [Nat.add_zero, getB_cons, if_pos rfl]⟩
    | succ i =>
      obtain ⟨b, h1, h2⟩ := getB_of_idx (l := l) (k := k + 1) (fun j hj => by
        obtain ⟨b, hb⟩ := hl (j + 1) (by simpa using hj)
        exact ⟨b, by rw [List.getElem?_cons_succ] at hb; rw [hb]; congr 2; omega⟩) i (by simpa using h)
      exact ⟨b, by rw [List.getElem?_cons_succ, h1]; congr 2; omega, by rw [getB_cons, if_neg (by omega), show k + (i + 1) = k + 1 + i by omega]; exact h2⟩

/-- The blocks of data, each at its place. -/
theorem enc_get {l : List Item} {d : denI l} {i : Nat} (h : i < (encI 0 l d).2.length) : ∃ b, (encI 0 l d).2[i]? = some (i, some b) ∧ getB (encI 0 l d).2 i = some b ∧ sureB b = true := by
  obtain ⟨b, h1, h2⟩ := getB_of_idx (l := (encI 0 l d).2) (k := 0) (fun i hi => by obtain ⟨b, h1, _⟩ := encI_blk l 0 d i hi; exact ⟨b, h1⟩) i h
  obtain ⟨b', h3, h4⟩ := encI_blk l 0 d i h
  simp only [Nat.zero_add] at h1 h2 h3
  rw [h3] at h1
  cases h1
  exact ⟨b, h3, h2, h4⟩

theorem enc_none {l : List Item} {d : denI l} {i : Nat} {b : TB} (h : getB (encI 0 l d).2 i = some b) : i < (encI 0 l d).2.length := by
  obtain ⟨j, hj⟩ := List.getElem?_of_mem (getB_mem' h)
  have hl := (List.getElem?_eq_some_iff.1 hj).1
  obtain ⟨b', h1, _⟩ := encI_blk l 0 d j hl
  rw [hj] at h1
  simp only [Nat.zero_add, Option.some.injEq, Prod.mk.injEq] at h1
  rw [h1.1]; exact hl

/-- No slice that is only borrowed is reached. -/
theorem noIm0_rel {hp : THp} {v : SV} {y : V} (hs : sure0 v = true) (h : RV0 hp v y) : noIm0 y = noImT0 v := by
  cases v with
  | im t l => rcases h with ⟨_, rfl⟩ | ⟨_, rfl, _⟩ <;> rfl
  | ow id => obtain ⟨_, rfl, _⟩ := h; rfl
  | ir t a c => obtain ⟨_, rfl, _⟩ := h; rfl
  | cl f cs => cases cs with | nil => have : y = _ := h; subst this; rfl | cons a l => exact h.elim
  | any => cases hs
  | agg cs => exact h.elim
  | tup cs => exact h.elim
  | _ => have : y = _ := h; subst this; rfl

theorem noIms_rel {hp : THp} : ∀ {vs : List SV} {ys : List V}, vs.all sure0 = true → RC (RV0 hp) vs ys → ys.all noIm0 = vs.all noImT0
  | [], [], _, _ => rfl
  | v :: vs, y :: ys, hs, h => by
    simp only [List.all_cons, Bool.and_eq_true] at hs ⊢
    rw [noIm0_rel hs.1 h.1, noIms_rel hs.2 h.2]
  | [], _ :: _, _, h => h.elim
  | _ :: _, [], _, h => h.elim

def niV : V → Bool
  | .agg cs => cs.all noIm0
  | x => noIm0 x

theorem noIm_tup (vs : List V) : noIm (.tup vs) = vs.all niV := by
  show (vs.all fun | .agg cs => cs.all noIm0 | x => noIm0 x) = _
  congr 1

theorem noIm1_rel {hp : THp} {v : SV} {y : V} (hs : sure1 v = true) (h : RV1 hp v y) : niV y = noImT1 v ∧ noIm y = noImT1 v := by
  cases v with
  | agg cs => obtain ⟨us, rfl, hcs⟩ := h; have := noIms_rel hs hcs; exact ⟨this, this⟩
  | cl f cs =>
    obtain ⟨us, rfl, hcs⟩ := h
    cases cs with
    | nil => cases us with | nil => exact ⟨rfl, rfl⟩ | cons a l => exact hcs.elim
    | cons a l => cases us with | nil => exact hcs.elim | cons b m => exact ⟨rfl, rfl⟩
  | im t l => rcases h with ⟨_, rfl⟩ | ⟨_, rfl, _⟩ <;> exact ⟨rfl, rfl⟩
  | ow id => obtain ⟨_, rfl, _⟩ := h; exact ⟨rfl, rfl⟩
  | ir t a c => obtain ⟨_, rfl, _⟩ := h; exact ⟨rfl, rfl⟩
  | any => cases hs
  | tup cs => exact h.elim
  | _ => have : y = _ := h; subst this; exact ⟨rfl, rfl⟩

theorem noImB_rel {hp : THp} {b : TB} {k : Blk} (hs : sureB b = true) (h : RB hp b k) : noImB k = noImBT b := by
  cases b with
  | arr ty deep t l => obtain ⟨h1, h2, h3, _⟩ := h; unfold noImB; rw [h1]; exact h3
  | frz ty deep t l => obtain ⟨h1, h2, h3, _⟩ := h; unfold noImB; rw [h1]; rfl
  | box ty cs =>
    obtain ⟨h1, h2, row, h3, h4, h5⟩ := h
    unfold noImB
    rw [h1, h3]
    simp only [List.all_cons, List.all_nil, Bool.and_true]
    exact noIms_rel hs h5
end Go.Proofs.YtnhibkgoinnmcaaDoor.Ev
end

/-! #### EvXd -/
section
/- The typed evaluator and the evaluator: a call. -/
namespace Go.Proofs.YtnhibkgoinnmcaaDoor.Ev
open Go
set_option linter.unusedVariables false
set_option linter.unusedSimpArgs false

theorem inst_at : ∀ (l : List Blk) (hp : Hp) (b i : Nat), inst hp b l i = if b ≤ i ∧ i < b + l.length then l[i - b]? else hp i
  | [], hp, b, i => by rw [if_neg (by simp)]; rfl
  | x :: l, hp, b, i => by
    simp only [inst]
    rw [inst_at l]
    by_cases h : b + 1 ≤ i ∧ i < b + 1 + l.length
    · rw [if_pos h, if_pos (by simp only [List.length_cons]; omega)]
      rw [show i - b = (i - (b + 1)) + 1 by omega]
      rfl
    · rw [if_neg h]
      unfold upd
      by_cases hi : i = b
      · subst hi
        rw [if_pos rfl, if_pos (by simp)]
        simp
      · rw [if_neg hi, if_neg (by simp only [List.length_cons]; omega)]

theorem setAt_other : ∀ (ids : List Nat) (ks : List Blk) (hp : Hp) (i : Nat), i ∉ ids → setAt hp ids ks i = hp i
  | [], ks, hp, i, _ => by cases ks <;> rfl
  | _ :: _, [], hp, i, _ => rfl
  | id :: ids, k :: ks, hp, i, h => by
    simp only [List.mem_cons, not_or] at h
    simp only [setAt]
    rw [setAt_other ids ks _ i h.2]
    simp [upd, h.1]

theorem setAt_at : ∀ (ids : List Nat) (ks : List Blk) (hp : Hp) (j : Nat) (id : Nat), ids.Nodup → ids[j]? = some id → j < ks.length → setAt hp ids ks id = ks[j]?
  | [], _, _, _, _, _, h, _ => by simp at h
  | _ :: _, [], _, _, _, _, _, h => by simp at h
  | i :: ids, k :: ks, hp, j, id, hn, h, hl => by
    simp only [List.nodup_cons] at hn
    simp only [setAt]
    cases j with
    | zero =>
      simp at h
      subst h
      rw [setAt_other ids ks _ i hn.1]
      simp [upd]
    | succ j =>
      simp only [List.getElem?_cons_succ] at h ⊢
      exact setAt_at ids ks _ j id hn.2 h (by simpa using hl)

theorem getB_append {l m : THp} {i : Nat} : getB (l ++ m) i = if i ∈ l.map (·.1) then getB l i else getB m i := by
  induction l with
  | nil => simp
  | cons a l ih =>
    obtain ⟨k, x⟩ := a
    rw [List.cons_append, getB_cons, ih, getB_cons]
    by_cases h : i = k
    · simp [h]
    · simp only [List.map_cons, List.mem_cons, h, false_or, if_false]

theorem lensC_some {α : Type} {hp out : THp} : ∀ {l : List Nat} {A : Option α} {z : α}, lensC hp out l A = some z → A = some z ∧ ∀ id ∈ l, ∃ b b', getB hp id = some b ∧ getB out id = some b' ∧ blen b = blen b'
  | [], A, z, h => ⟨h, fun id hid => by simp at hid⟩
  | id :: l, A, z, h => by
    simp only [lensC] at h
    split at h
    · rename_i t1 d1 e1 l1 t2 d2 e2 l2 g1 g2
      obtain ⟨hc, h⟩ := cond_none' h
      obtain ⟨q1, q2⟩ := lensC_some h
      refine ⟨q1, fun i hi => ?_⟩
      rcases List.mem_cons.1 hi with rfl | hi
      · exact ⟨_, _, g2, g1, by simp only [blen]; rw [of_decide_eq_true hc]⟩
      · exact q2 i hi
    · rename_i t1 c1 t2 c2 g1 g2
      obtain ⟨q1, q2⟩ := lensC_some h
      refine ⟨q1, fun i hi => ?_⟩
      rcases List.mem_cons.1 hi with rfl | hi
      · exact ⟨_, _, g2, g1, rfl⟩
      · exact q2 i hi
    · cases h

theorem getB_killT : ∀ (l : List Nat) (hp : THp) (i : Nat), getB (killT hp l) i = if i ∈ l then none else getB hp i
  | [], hp, i => by simp [killT]
  | id :: l, hp, i => by
    rw [killT, getB_killT l, getB_cons]
    by_cases h1 : i ∈ l
    · simp [h1]
    · by_cases h2 : i = id
      · subst h2; simp
      · simp [h1, h2]

theorem backF_eq (o : List Nat) (e n b : Nat) : backF o e n b = back o e n b := by
  funext j
  unfold backF back
  by_cases h : j < e
  · have : Nat.blt j e = true := Nat.ble_eq_true_of_le h
    rw [this, if_pos h]; rfl
  · have : Nat.blt j e = false := by cases hb : Nat.blt j e with | false => rfl | true => exact absurd (blt_lt hb) h
    rw [this, if_neg h]
    by_cases h2 : j < n
    · have : Nat.blt j n = true := Nat.ble_eq_true_of_le h2
      rw [this, if_pos h2]; rfl
    · have : Nat.blt j n = false := by cases hb : Nat.blt j n with | false => rfl | true => exact absurd (blt_lt hb) h2
      rw [this, if_neg h2]; rfl

theorem renOut_get {f : Nat → Option Nat} : ∀ {L : THp} {i : Nat} {bb : TB}, getB (renOut f L) i = some bb → ∃ j b0, (j, some b0) ∈ L ∧ f j = some i ∧ bb = renTB f b0
  | [], _, _, h => by cases h
  | (k, x) :: L, i, bb, h => by
    simp only [renOut] at h
    split at h
    · rename_i i' hk
      rw [getB_cons] at h
      split at h
      · rename_i he
        subst he
        cases x with
        | none => cases h
        | some b0 => cases h; exact ⟨k, b0, by simp, hk, rfl⟩
      · obtain ⟨j, b0, h1, h2, h3⟩ := renOut_get h
        exact ⟨j, b0, by simp [h1], h2, h3⟩
    · obtain ⟨j, b0, h1, h2, h3⟩ := renOut_get h
      exact ⟨j, b0, by simp [h1], h2, h3⟩

theorem renOut_key {f : Nat → Option Nat} : ∀ {L : THp} {j i : Nat} {x : Option TB}, (j, x) ∈ L → f j = some i → i ∈ (renOut f L).map (·.1)
  | (k, x') :: L, j, i, x, h, hf => by
    simp only [renOut]
    rcases List.mem_cons.1 h with h | h
    · cases h
      rw [hf]
      simp
    · have := renOut_key h hf
      split
      · simp only [List.map_cons, List.mem_cons]; exact .inr this
      · exact this

theorem keys_of {f : Nat → Option Nat} : ∀ {L : THp} {i : Nat}, i ∈ (renOut f L).map (·.1) → ∃ j x, (j, x) ∈ L ∧ f j = some i
  | (k, x) :: L, i, h => by
    simp only [renOut] at h
    split at h
    · rename_i i' hk
      simp only [List.map_cons, List.mem_cons] at h
      rcases h with rfl | h
      · exact ⟨k, x, by simp, hk⟩
      · obtain ⟨j, x', h1, h2⟩ := keys_of h
        exact ⟨j, x', by simp [h1], h2⟩
    · obtain ⟨j, x', h1, h2⟩ := keys_of h
      exact ⟨j, x', by simp [h1], h2⟩

section
variable {hp1 : Hp} {o : List Nat} {e b : Nat} {blks : List Blk}
theorem callHp_at {i j : Nat} {k : Blk} (hn : o.Nodup) (hlow : ∀ id ∈ o, id < b) (heo : e ≤ o.length) (hen : e ≤ blks.length) (hj : blks[j]? = some k) (hf : back o e blks.length b j = some i) :
    callHp hp1 o e b blks i = some (renB (back o e blks.length b) k) := by
  have hjl := (List.getElem?_eq_some_iff.1 hj).1
  unfold callHp
  rw [inst_at]
  unfold back at hf
  by_cases h : j < e
  · rw [if_pos h] at hf
    have hlt := hlow i (List.mem_of_getElem? hf)
    rw [if_neg (by omega)]
    rw [setAt_at _ _ _ j _ (hn.sublist (List.take_sublist _ _)) (by rw [List.getElem?_take, if_pos h]; exact hf) (by simp; omega)]
    rw [List.getElem?_take, if_pos h, List.getElem?_map, hj]
    rfl
  · rw [if_neg h, if_pos hjl] at hf
    cases hf
    rw [if_pos (by simp; omega)]
    rw [List.getElem?_drop, List.getElem?_map, show e + (b + (j - e) - b) = j by omega, hj]
    rfl

theorem callHp_other {i : Nat} (h1 : i ∉ o) (h2 : ¬ (b ≤ i ∧ i < b + (blks.length - e))) : callHp hp1 o e b blks i = hp1 i := by
  unfold callHp
  rw [inst_at, if_neg (by simpa using h2), setAt_other _ _ _ _ (fun h => h1 (List.mem_of_mem_take h)), kill_other _ _ _ h1]
end

section
variable {α : Type} {P : Program} {R : Rel} {cf : Cfg} {X : TX} {b : Nat} {tm : TTm} {m : Tm} {hp : THp} {hv : Hp} {K : SV → THp → Cls → Option α} {z : α}

/-- The caller's blocks behind a call. -/
theorem call_back {E : Ent} {y : denI E.a.res} {o : List Nat} {r : V} {blks' : List Blk} (hres : ResRel E.a.res y r blks') (hn : o.Nodup) (hlow : ∀ id ∈ o, id < b) (heo : E.a.e ≤ o.length) (hen : E.a.e ≤ (encI 0 E.a.res y).2.length)
    (hlens : ∀ id ∈ o.take E.a.e, ∃ b0 b1, getB hp id = some b0 ∧ getB (renOut (backF o E.a.e (encI 0 E.a.res y).2.length b) (encI 0 E.a.res y).2) id = some b1 ∧ blen b0 = blen b1)
    {hp1 : THp} {hv1 : Hp} (hh1 : RH hp1 hv1) (hold : ∀ id ∈ o, getB hp1 id = getB hp id) (hids : ∀ i bb, getB hp1 i = some bb → ∀ q ∈ idsB bb, q < b) (hr : RT hp1 tm m) (htm : ∀ t, ∀ i ∈ ids2 (getV tm t), i < b) :
    RV2 (renOut (backF o E.a.e (encI 0 E.a.res y).2.length b) (encI 0 E.a.res y).2 ++ killT hp1 (o.drop E.a.e)) (tupT ((encI 0 E.a.res y).1.map fun p => renS1 (backF o E.a.e (encI 0 E.a.res y).2.length b) p.2)) (ren2 (back o E.a.e blks'.length b) r) ∧
    RH (renOut (backF o E.a.e (encI 0 E.a.res y).2.length b) (encI 0 E.a.res y).2 ++ killT hp1 (o.drop E.a.e)) (callHp hv1 o E.a.e b blks') ∧
    RT (renOut (backF o E.a.e (encI 0 E.a.res y).2.length b) (encI 0 E.a.res y).2 ++ killT hp1 (o.drop E.a.e)) tm m := by
  have hlen := hres.len
  have hsure := encI_vals E.a.res 0 y
  have hval := hres.val
  have hblk := hres.blk
  have hget := fun i (h : i < (encI 0 E.a.res y).2.length) => enc_get h
  have hnone := fun i bb (h : getB (encI 0 E.a.res y).2 i = some bb) => enc_none h
  have hmem : ∀ j x, (j, x) ∈ (encI 0 E.a.res y).2 → j < (encI 0 E.a.res y).2.length ∧ ∃ b0, x = some b0 ∧ getB (encI 0 E.a.res y).2 j = some b0 := by
    intro j x h
    obtain ⟨i, hi⟩ := List.getElem?_of_mem h
    have hl := (List.getElem?_eq_some_iff.1 hi).1
    obtain ⟨b0, h1, h2, _⟩ := hget i hl
    rw [hi] at h1
    simp only [Option.some.injEq, Prod.mk.injEq] at h1
    obtain ⟨rfl, rfl⟩ := h1
    exact ⟨hl, b0, rfl, h2⟩
  rw [hlen]
  generalize hvs : (encI 0 E.a.res y).1 = vs0 at *
  generalize (encI 0 E.a.res y).2 = L at *
  rw [backF_eq] at *
  generalize hn' : L.length = n at *
  have hinj : ∀ i j k, i < n → j < n → back o E.a.e n b i = some k → back o E.a.e n b j = some k → i = j := by
    intro i j k hi hj h1 h2
    unfold back at h1 h2
    by_cases a1 : i < E.a.e
    · rw [if_pos a1] at h1
      by_cases a2 : j < E.a.e
      · rw [if_pos a2] at h2
        have g1 := idx_get hn h1
        have g2 := idx_get hn h2
        rw [g1] at g2; exact Option.some.inj g2
      · rw [if_neg a2, if_pos hj] at h2
        cases h2
        have := hlow _ (List.mem_of_getElem? h1)
        omega
    · rw [if_neg a1, if_pos hi] at h1
      cases h1
      by_cases a2 : j < E.a.e
      · rw [if_pos a2] at h2
        have := hlow _ (List.mem_of_getElem? h2)
        omega
      · rw [if_neg a2, if_pos hj] at h2
        have := Option.some.inj h2
        omega
  have hfn : ∀ i k, back o E.a.e n b i = some k → i < n := by
    intro i k h
    unfold back at h
    by_cases a1 : i < E.a.e
    · omega
    · rw [if_neg a1] at h
      split at h
      · assumption
      · cases h
  have hkey : ∀ j i, back o E.a.e n b j = some i → i ∈ (renOut (back o E.a.e n b) L).map (·.1) := by
    intro j i h
    obtain ⟨b0, h1, _⟩ := hget j (by rw [← hn'] at *; exact hfn j i h)
    exact renOut_key (List.mem_of_getElem? h1) h
  have hlow2 : ∀ j i, back o E.a.e n b j = some i → i < b → j < E.a.e ∧ i ∈ o.take E.a.e := by
    intro j i h hi
    unfold back at h
    by_cases a1 : j < E.a.e
    · rw [if_pos a1] at h
      exact ⟨a1, List.mem_of_getElem? (i := j) (by rw [List.getElem?_take, if_pos a1]; exact h)⟩
    · rw [if_neg a1] at h
      split at h
      · cases h; omega
      · cases h
  have hlenT : ∀ id j, back o E.a.e n b id = some j → ∀ b', getB (renOut (back o E.a.e n b) L ++ killT hp1 (o.drop E.a.e)) j = some b' → ∃ b0, getB L id = some b0 ∧ blen b0 = blen b' := by
    intro id j hj b' hb'
    rw [getB_append, if_pos (hkey id j hj)] at hb'
    obtain ⟨j', b0, h1, h2, rfl⟩ := renOut_get hb'
    obtain ⟨q1, b1, q2, q3⟩ := hmem j' _ h1
    cases q2
    have := hinj id j' j (hfn _ _ hj) q1 hj h2
    subst this
    exact ⟨b0, q3, (blen_ren b0).symm⟩
  have hkn : ∀ i, i < b → Keeps hp1 (renOut (back o E.a.e n b) L ++ killT hp1 (o.drop E.a.e)) i := by
    intro i hi b' hb'
    rw [getB_append] at hb'
    split at hb'
    · rename_i hm
      obtain ⟨j, b0, h1, h2, rfl⟩ := renOut_get hb'
      obtain ⟨_, hto⟩ := hlow2 j i h2 hi
      obtain ⟨c0, c1, q1, q2, q3⟩ := hlens i hto
      rw [hb'] at q2
      cases q2
      exact ⟨c0, by rw [hold i (List.mem_of_mem_take hto)]; exact q1, q3⟩
    · rw [getB_killT] at hb'
      split at hb'
      · cases hb'
      · exact ⟨b', hb', rfl⟩
  refine ⟨?_, fun i bb hb => ?_, hr.keeps fun t i hi => hkn i (htm t i hi)⟩
  · -- the result
    have e1 : (vs0.map fun p => renS1 (back o E.a.e n b) p.2) = (vs0.map (·.2)).map (renS1 (back o E.a.e n b)) := by simp
    rw [e1]
    generalize vs0.map (·.2) = vs at hval hsure ⊢
    match vs, hval, hsure with
    | [v], hval, hsure =>
      have hs1 : sure1 v = true := by simpa using hsure
      obtain ⟨q1, _, _, q4⟩ := rf1_rel hs1 (show RV2 L v r from hval)
      rw [ren12 q4]
      exact (ren_rv1 hlenT q1 hs1).to2
    | [], hval, hsure =>
      obtain ⟨us, rfl, hc⟩ := (show ∃ us, r = .tup us ∧ RC (RV1 L) [] us from hval)
      cases us with
      | nil => exact ⟨[], rfl, trivial⟩
      | cons a l => exact hc.elim
    | v1 :: v2 :: vs, hval, hsure =>
      obtain ⟨us, rfl, hc⟩ := (show ∃ us, r = .tup us ∧ RC (RV1 L) (v1 :: v2 :: vs) us from hval)
      exact ⟨us.map (ren1 (back o E.a.e n b)), rfl, RC.ren hlenT hsure hc⟩
  · rw [getB_append] at hb
    split at hb
    · obtain ⟨j, b0, h1, h2, rfl⟩ := renOut_get hb
      obtain ⟨q1, b1, q2, q3⟩ := hmem j _ h1
      cases q2
      obtain ⟨kj, hkj, hrb⟩ := hblk j b0 q3
      have hkj : blks'[j]? = some kj := hkj
      refine ⟨renB (back o E.a.e n b) kj, ?_, ren_RB hlenT hrb⟩
      have := callHp_at (hp1 := hv1) (e := E.a.e) hn hlow heo (by omega) hkj (by rw [hlen]; exact h2)
      rw [hlen] at this
      exact this
    · rename_i hm
      rw [getB_killT] at hb
      split at hb
      · cases hb
      · rename_i hd
        obtain ⟨k, hk, hrb⟩ := hh1 i bb hb
        refine ⟨k, ?_, hrb.keeps fun q hq => hkn q (hids i bb hb q hq)⟩
        rw [callHp_other ?_ ?_]
        · exact hk
        · intro hio
          rw [← List.take_append_drop E.a.e o] at hio
          rcases List.mem_append.1 hio with hio | hio
          · obtain ⟨j, hj⟩ := List.getElem?_of_mem hio
            rw [List.getElem?_take] at hj
            split at hj
            · rename_i hje
              exact hm (hkey j i (by unfold back; rw [if_pos hje]; exact hj))
            · cases hj
          · exact hd hio
        · rintro ⟨h1, h2⟩
          rw [hlen] at h2
          exact hm (hkey (E.a.e + (i - b)) i (by unfold back; rw [if_neg (by omega), if_pos (by omega)]; congr 1; omega))

theorem noIm_list {H : THp} : ∀ {vs : List SV} {us : List V}, vs.all sure1 = true → RC (RV1 H) vs us → us.all niV = vs.all noImT1
  | [], [], _, _ => rfl
  | v :: vs, u :: us, hs, h => by
    simp only [List.all_cons, Bool.and_eq_true] at hs ⊢
    rw [(noIm1_rel hs.1 h.1).1, noIm_list hs.2 h.2]
  | [], _ :: _, _, h => h.elim
  | _ :: _, [], _, h => h.elim

theorem noIm_res {res : List Item} {y : denI res} {r : V} {blks' : List Blk} (hres : ResRel res y r blks') : noImRes ((encI 0 res y).1.map (·.2)) (encI 0 res y).2 = (noIm r && blks'.all noImB) := by
  have hsure := encI_vals res 0 y
  have hval := hres.val
  unfold noImRes
  congr 1
  · generalize (encI 0 res y).1.map (·.2) = vs at hval hsure
    match vs, hval, hsure with
    | [v], hval, hsure =>
      have hs1 : sure1 v = true := by simpa using hsure
      obtain ⟨q1, _⟩ := rf1_rel hs1 (show RV2 _ v r from hval)
      simp only [List.all_cons, List.all_nil, Bool.and_true]
      exact (noIm1_rel hs1 q1).2.symm
    | [], hval, hsure =>
      obtain ⟨us, rfl, hc⟩ := (show ∃ us, r = .tup us ∧ RC (RV1 (encI 0 res y).2) [] us from hval)
      rw [noIm_tup, noIm_list hsure hc]
    | v1 :: v2 :: vs, hval, hsure =>
      obtain ⟨us, rfl, hc⟩ := (show ∃ us, r = .tup us ∧ RC (RV1 (encI 0 res y).2) (v1 :: v2 :: vs) us from hval)
      rw [noIm_tup, noIm_list hsure hc]
  · have h3 : (encI 0 res y).2.map noImO = blks'.map noImB := by
      apply List.ext_getElem?
      intro j
      rw [List.getElem?_map, List.getElem?_map]
      by_cases hj : j < (encI 0 res y).2.length
      · obtain ⟨b0, h1, h2, h3⟩ := enc_get hj
        obtain ⟨kj, hkj, hrb⟩ := hres.blk j b0 h2
        have hkj : blks'[j]? = some kj := hkj
        rw [h1, hkj]
        simp only [Option.map_some, noImB_rel h3 hrb, noImO]
      · rw [List.getElem?_eq_none (by omega), List.getElem?_eq_none (by have := hres.len; omega)]
        rfl
    have h4 : ∀ {γ : Type} (l : List γ) (f : γ → Bool), l.all f = (l.map f).all id := by
      intro γ l f
      induction l with
      | nil => rfl
      | cons a l ih => simp only [List.all_cons, List.map_cons, ih]; rfl
    rw [h4 (encI 0 res y).2, h4 blks', h3]

theorem closeT_all {hp : THp} : ∀ (n : Nat) (l acc o : List Nat), closeT hp n l acc = some o → (∀ i ∈ l, i ∈ o) ∧ (∀ i ∈ acc, i ∈ o) ∧ ∀ i ∈ o, i ∈ acc ∨ ∃ b, getB hp i = some b ∧ sureB b = true ∧ ∀ j ∈ rfB b, j ∈ o
  | 0, _, _, _, h => by simp [closeT] at h
  | n + 1, [], acc, o, h => by
    simp only [closeT, Option.some.injEq] at h
    subst h
    exact ⟨fun _ h => by simp at h, fun _ h => h, fun _ h => .inl h⟩
  | n + 1, id :: l, acc, o, h => by
    simp only [closeT] at h
    cases hm : memN id acc with
    | true =>
      rw [hm] at h
      simp only [cond_true] at h
      obtain ⟨h1, h2, h3⟩ := closeT_all n l acc o h
      refine ⟨fun i hi => ?_, h2, h3⟩
      rcases List.mem_cons.1 hi with rfl | hi
      · exact h2 _ (by rw [memN_iff] at hm; simpa using hm)
      · exact h1 i hi
    | false =>
      rw [hm] at h
      simp only [cond_false] at h
      cases hb : getB hp id with
      | none => rw [hb] at h; cases h
      | some b =>
        rw [hb] at h
        simp only at h
        obtain ⟨hs, h⟩ := cond_none' h
        obtain ⟨h1, h2, h3⟩ := closeT_all n _ _ o h
        refine ⟨fun i hi => ?_, fun i hi => h2 i (by simp [hi]), fun i hi => ?_⟩
        · rcases List.mem_cons.1 hi with rfl | hi
          · exact h2 _ (by simp)
          · exact h1 i (by simp [hi])
        · rcases h3 i hi with h4 | h4
          · rcases List.mem_append.1 h4 with h4 | h4
            · exact .inl h4
            · simp only [List.mem_singleton] at h4
              subst h4
              exact .inr ⟨b, hb, hs, fun j hj => h1 j (by simp [hj])⟩
          · exact .inr h4

theorem closeT_reach {l o : List Nat} (hh : RH hp hv) (h : closeT hp 64 l [] = some o) : reachB hv l o = true := by
  obtain ⟨h1, _, h3⟩ := closeT_all 64 l [] o h
  unfold reachB
  simp only [Bool.and_eq_true, List.all_eq_true]
  refine ⟨fun i hi => by simpa using h1 i hi, fun i hi => ?_⟩
  rcases h3 i hi with h4 | ⟨b, hb, hs, hr⟩
  · simp at h4
  · obtain ⟨k, hk, hrb⟩ := hh i b hb
    rw [hk]
    simp only
    refine List.all_eq_true.2 fun j hj => ?_
    rw [rfB_rel hs hrb] at hj
    simpa using hr j hj

theorem weInv_nil {g : FuncId} {ys ys' : List V} {lent : List Nat} {KV : Cont} (h1 : lendA hv (cf.byref g) ys = some ys') (h2 : closeC hv (ys'.flatMap refs1) = some []) (h3 : lentA (cf.byref g) ys = lent) :
    weInv R cf g ys hv b KV = wePure R g ys' lent hv b KV := by
  unfold weInv
  rw [h1]
  dsimp only
  rw [h2, h3]

theorem weInv_cons {g : FuncId} {ys ys' : List V} {lent : List Nat} {KV : Cont} {i : Nat} {l : List Nat} (h1 : lendA hv (cf.byref g) ys = some ys') (h2 : closeC hv (ys'.flatMap refs1) = some (i :: l)) (h3 : lentA (cf.byref g) ys = lent) :
    weInv R cf g ys hv b KV = weRef R g ys' lent (ys'.flatMap refs1).eraseDups (i :: l) hv b KV := by
  unfold weInv
  rw [h1]
  dsimp only
  rw [h2, h3]

theorem call_done {g : FuncId} {args : List SV} {ys : List V} (hE : ∀ g E, findF X.ents g = some E → EntOK R E ∧ E.a.g = g ∧ cf.byref g = (slotsA E.a.params).map refA) (hh : RH hp hv) (hr : RT hp tm m) (hargs : RC (RV2 hp) args ys) (h : tCall X g args tm hp b K = some z) :
    ∃ x hp' cls y hv', K x hp' cls = some z ∧ RV2 hp' x y ∧ RH hp' hv' ∧ RT hp' tm m ∧ ∀ KV : Cont, KV y hv' cls → weInv R cf g ys hv b KV := by
  unfold tCall at h
  split at h
  case h_2 => cases h
  rename_i E hfe
  obtain ⟨hEnt, hEg, hbr⟩ := hE g E hfe
  split at h
  case h_2 => cases h
  rename_i args' hargs'
  split at h
  case h_2 => cases h
  rename_i o ho
  split at h
  case h_2 => cases h
  rename_i x hx
  split at h
  case isFalse => cases h
  rename_i hc
  simp only [Bool.and_eq_true] at hc
  obtain ⟨⟨⟨⟨⟨⟨⟨⟨s1, s2⟩, d1⟩, d2⟩, d3⟩, o16⟩, bel⟩, sl⟩, oall⟩ := hc
  obtain ⟨y, hFy, h⟩ := bind_some' h
  simp only at h
  split at h
  case isFalse => cases h
  rename_i hle
  simp only [Bool.and_eq_true] at hle
  have hen := Nat.le_of_ble_eq_true hle.1
  have hen16 := Nat.le_of_ble_eq_true hle.2
  obtain ⟨h, hlens⟩ := lensC_some h
  rw [force_eq] at h
  have o16 := Nat.le_of_ble_eq_true o16
  obtain ⟨bel1, bel2⟩ := below_bel bel
  -- the arguments as they are handed over
  obtain ⟨ys', hV, hargs2, hlent⟩ := lendLT_rel hh hargs' hargs
  rw [← hbr] at hV hlent
  generalize lentLT (slotsA E.a.params) args = lent at h oall hlent
  have hnl : ∀ id ∈ o, id ∉ lent := fun id hid => by
    have := List.all_eq_true.1 oall id hid
    simp only [Bool.and_eq_true] at this
    exact notIn_not this.2
  obtain ⟨a1, a2, a3, a4⟩ := RC.all1 s1 hargs2
  have hlow : ∀ id ∈ o, id < b := fun id hid => by
    have := List.all_eq_true.1 oall id hid
    simp only [Bool.and_eq_true] at this
    exact blt_lt this.1
  have hclose : close hv 64 (ys'.flatMap refs1) [] = some o := by rw [a2]; exact closeT_rel hh _ _ _ ho
  have hcloseC : closeC hv (ys'.flatMap refs1) = some o := by
    unfold closeC
    rw [hclose]
    simp only
    rw [if_pos (by rw [a2]; exact closeT_reach hh ho)]
  obtain ⟨c1, c2, _, _⟩ := close_spec hv 64 _ _ _ hclose (by simp) (fun id hid => by simp at hid)
  have hdir : (ys'.flatMap refs1).eraseDups = o.take E.a.e := by rw [a2, ← dd_nil]; exact (eqNs_iff d2).symm
  have hdl : (o.take E.a.e).length = E.a.e := by rw [eqNs_iff d2]; exact Nat.eq_of_beq_eq_true d3
  have heo : E.a.e ≤ o.length := by rw [List.length_take] at hdl; omega
  obtain ⟨r1, r2⟩ := renHp_rel hh o
  have hf : idxT o = idx o := funext fun id => idxT_eq o id
  have hren : RC (RV1 (renHp hp (idxT o) 0 o)) (args'.map (renS1 (idxT o))) (ys'.map (ren1 (idx o))) := by
    rw [hf] at r2 ⊢
    exact RC.ren r2 s1 a1
  obtain ⟨_, e2, _, _⟩ := RC.all1 s2 (hren.mono fun _ _ _ h => h.to2)
  have hed : ((ys'.map (ren1 (idx o))).flatMap refs1).eraseDups = List.range E.a.e := by rw [e2, ← dd_nil]; exact eqNs_iff d1
  have hids : idsOK (ys'.map (ren1 (idx o))) (blksOf hv o) = true := by
    unfold idsOK
    simp only [Bool.and_eq_true, decide_eq_true_eq, beq_iff_eq]
    refine ⟨⟨⟨List.all_eq_true.2 fun i hi => ?_, List.all_eq_true.2 fun i hi => ?_⟩, by simpa [blksOf] using o16⟩, by rw [hed, List.length_range]⟩
    · obtain ⟨u, hu, hi⟩ := List.mem_flatMap.1 hi
      obtain ⟨u0, _, rfl⟩ := List.mem_map.1 hu
      obtain ⟨j, hj, _⟩ := refs1_ren hi
      have := (List.getElem?_eq_some_iff.1 (idx_at hj)).1
      simp; omega
    · obtain ⟨k, hk, hi⟩ := List.mem_flatMap.1 hi
      unfold blksOf at hk
      obtain ⟨id, _, rfl⟩ := List.mem_map.1 hk
      obtain ⟨j, hj, _⟩ := refsB_ren hi
      have := (List.getElem?_eq_some_iff.1 (idx_at hj)).1
      simp; omega
  have hRS : RS { tm := enumT 0 (args'.map (renS1 (idxT o))), hp := renHp hp (idxT o) 0 o, c := 1 } (entry (ys'.map (ren1 (idx o))) (blksOf hv o)) :=
    ⟨enumT_rel 0 (hren.mono fun _ _ _ h => h.to2), r1, rfl⟩
  have hno : E.a.e = 0 → o = [] := by
    intro h0
    have h1 : (ddN [] (args'.flatMap rf1)).length = 0 := by rw [Nat.eq_of_beq_eq_true d3, h0]
    have h2 : args'.flatMap rf1 = [] := by
      cases hl : args'.flatMap rf1 with
      | nil => rfl
      | cons i l =>
        rw [hl, dd_nil] at h1
        simp [List.eraseDups_cons] at h1
    rw [h2] at ho
    simpa [closeT] using ho.symm
  obtain ⟨r, blks', hR, hres⟩ := hEnt x y _ _ _ hFy hRS hx hids (by rw [List.length_map, hargs2.length]; exact (Nat.eq_of_beq_eq_true sl).symm) (by rw [hed, List.length_range]) (fun h0 => by rw [hno h0]; rfl)
  rw [hEg] at hR
  have hlenB := hres.len
  have hlens' : ∀ id ∈ o.take E.a.e, ∃ b0 b1, getB hp id = some b0 ∧ getB (renOut (backF o E.a.e (encI 0 E.a.res y).2.length b) (encI 0 E.a.res y).2) id = some b1 ∧ blen b0 = blen b1 := hlens
  obtain ⟨f1, f2⟩ := freeze_T lent hh
  have hpl := call_back (E := E) hres c1 hlow heo hen hlens' hh (fun _ _ => rfl) (fun i bb hb => (bel1 i bb hb).2) hr bel2
  have hfz := call_back (E := E) hres c1 hlow heo hen hlens' f1 (fun i hi => freezeT_get _ _ _ (hnl i hi)) (fun i bb hb => (freezeT_bel lent bel1 i bb hb).2) (hr.keeps fun _ i _ => f2 i) bel2
  rw [noIm_res hres] at h
  have hcallR : ∀ F : V → List Blk → Prop, F r blks' → callR R g (ys'.map (ren1 (idx o))) (blksOf hv o) F := fun F hF => ⟨r, blks', hR, hF⟩
  cases o with
  | nil =>
    have he0 : E.a.e = 0 := by simpa using heo
    have hno : args'.flatMap rf1 = [] := by
      rw [← a2]
      cases hL : ys'.flatMap refs1 with
      | nil => rfl
      | cons i l =>
        exfalso
        have := hdir
        rw [hL, List.eraseDups_cons, he0] at this
        simp at this
    have hsame : ys'.map (ren1 (idx [])) = ys' := renA_same s1 hno a1
    rw [hsame] at hcallR hids
    rw [he0] at hpl hfz hen16 h
    simp only [List.drop_nil] at hpl hfz
    cases hc : (lent.isEmpty || (noIm r && blks'.all noImB)) with
    | true =>
      rw [hc] at h
      obtain ⟨m1, m2, m3⟩ := hpl
      refine ⟨_, _, _, _, _, h, m1, m2, m3, fun KV hK => ?_⟩
      rw [weInv_nil hV hcloseC hlent]
      refine hcallR _ ⟨by omega, hids, ?_⟩
      rw [if_pos hc]
      exact hK
    | false =>
      rw [hc] at h
      obtain ⟨m1, m2, m3⟩ := hfz
      refine ⟨_, _, _, _, _, h, m1, m2, m3, fun KV hK => ?_⟩
      rw [weInv_nil hV hcloseC hlent]
      refine hcallR _ ⟨by omega, hids, ?_⟩
      rw [if_neg (by rw [hc]; simp)]
      exact hK
  | cons i l =>
    have hall : ((i :: l).all fun id => !lent.contains id) = true := List.all_eq_true.2 fun id hid => by simpa using hnl id hid
    cases hc : (lent.isEmpty || (noIm r && blks'.all noImB)) with
    | true =>
      rw [hc] at h
      obtain ⟨m1, m2, m3⟩ := hpl
      refine ⟨_, _, _, _, _, h, m1, m2, m3, fun KV hK => ?_⟩
      rw [weInv_cons hV hcloseC hlent, hdir]
      unfold weRef
      rw [hdl]
      refine ⟨hall, rfl, hids, hcallR _ ⟨by omega, by omega, ?_⟩⟩
      rw [if_pos hc]
      exact hK
    | false =>
      rw [hc] at h
      obtain ⟨m1, m2, m3⟩ := hfz
      refine ⟨_, _, _, _, _, h, m1, m2, m3, fun KV hK => ?_⟩
      rw [weInv_cons hV hcloseC hlent, hdir]
      unfold weRef
      rw [hdl]
      refine ⟨hall, rfl, hids, hcallR _ ⟨by omega, by omega, ?_⟩⟩
      rw [if_neg (by rw [hc]; simp)]
      exact hK
end
end Go.Proofs.YtnhibkgoinnmcaaDoor.Ev
end

/-! #### EvXe -/
section
/- The typed evaluator and the evaluator: regions, code, functions. -/
namespace Go.Proofs.YtnhibkgoinnmcaaDoor.Ev
open Go
set_option linter.unusedVariables false
set_option linter.unusedSimpArgs false

section
variable {P : Program} {R : Rel} {cf : Cfg} {X : TX} {g : FuncId}

def EntsOK (R : Rel) (cf : Cfg) (X : TX) : Prop := ∀ g E, findF X.ents g = some E → EntOK R E ∧ E.a.g = g ∧ cf.byref g = (slotsA E.a.params).map refA

theorem op_looks {α : Type} {op : Op} {b : Nat} {tm : TTm} {m : Tm} {hp hpm : THp} {hvm : Hp} {K : SV → THp → Cls → Option α} {z : α} (hX : XOK P X) (hisr : isR op = true) (hr : RT hp tm m) (hh : RHm hpm hp hvm) (h : wtOp X op b tm hpm K = some z) : Looks P R cf op b m hp hpm hvm K z := by
  cases op with
  | load t a => exact l_load hX hr hh h
  | indexAddr t x i => exact l_idx hX hr hh h
  | convert s d x => exact l_conv hX hr hh h
  | slice t x lo hi mx =>
    cases mx with
    | none => exact l_slice hX hr hh h
    | some m' =>
      cases hi with
      | none => simp [wtOp] at h
      | some h' => exact l_slice3 hX hr h
  | _ => simp [isR] at hisr

theorem op_done {α : Type} {op : Op} {b : Nat} {tm : TTm} {m : Tm} {hp : THp} {hv : Hp} {K : SV → THp → Cls → Option α} {z : α} (hX : XOK P X) (hE : EntsOK R cf X) (hh : RH hp hv) (hr : RT hp tm m) (h : wtOp X op b tm hp K = some z) : Done P R cf op b tm m hv K z := by
  cases op with
  | move x => exact (l_move hr h).done hh hr
  | assign x => exact (l_assign hr h).done hh hr
  | pick c x y => exact (l_pick hr h).done hh hr
  | alloc t => exact d_alloc hX hh hr h
  | box t x => exact d_box hX hh hr h
  | build t parts => exact (l_build hX hr h).done hh hr
  | buildSlice t len parts => exact d_build hX hh hr h
  | load t a => exact (l_load hX hr hh.toM h).done hh hr
  | store t a x => exact d_store hX hh hr h
  | nilCheck x => exact (l_nil hr h).done hh hr
  | binOp op t x y yt => exact (l_bin hX hr h).done hh hr
  | unOp u t x => exact (l_un hr h).done hh hr
  | convert s d x => exact (l_conv hX hr hh.toM h).done hh hr
  | makeSlice t l c => exact d_make hX hh hr h
  | slice t x lo hi mx =>
    cases mx with
    | none => exact (l_slice hX hr hh.toM h).done hh hr
    | some m' =>
      cases hi with
      | none => simp [wtOp] at h
      | some h' => exact (l_slice3 hX hr h).done hh hr
  | fieldAddr t x k => exact (l_fieldAddr hX hr h).done hh hr
  | field t x k => exact (l_field hX hr h).done hh hr
  | indexAddr t x i => exact (l_idx hX hr hh.toM h).done hh hr
  | index t x i => exact (l_index hX hr h).done hh hr
  | extract x k => exact (l_extract hr h).done hh hr
  | makeFunc fn first caps =>
    cases fn with
    | func f => exact (l_func hr h).done hh hr
    | _ => simp [wtOp] at h
  | call c =>
    obtain ⟨callee, args, ts⟩ := c
    cases callee with
    | builtin bi =>
      cases bi with
      | append => exact d_append hX hh hr h
      | len => exact (l_len hX hr hh.toM h).done hh hr
      | min => exact (l_min hr h).done hh hr
      | max => exact (l_max hr h).done hh hr
      | _ => simp [wtOp] at h
    | value f =>
      simp only [wtOp] at h
      split at h
      · rename_i g caps hf
        have hc := op_rel hr f
        rw [hf] at hc
        obtain ⟨us, hfv, hcs⟩ := rv_cl hc
        obtain ⟨x, hp', cls, y, hv', h1, h2, h3, h4, h5⟩ := call_done hE hh hr (RC.append (map_op_rel hr args.toList) (hcs.mono fun _ _ _ h => h.to1.to2)) h
        refine ⟨x, hp', cls, y, hv', h1, h2, h3, h4, fun KV hk => ?_⟩
        show (match opnd m f with | .cl g caps => weInv R cf g (args.toList.map (opnd m) ++ caps) hv b KV | _ => False)
        rw [hfv]
        exact h5 KV hk
      · cases h
    | _ => simp [wtOp] at h
  | _ => simp [wtOp] at h

theorem mask_T {b : Nat} : ∀ (hp : THp) (id : Nat), getB (maskT b hp) id = if id < b then getB hp id else none
  | [], id => by simp [maskT, getB]
  | (k, x) :: l, id => by
    have ih := mask_T (b := b) l id
    unfold maskT at ih ⊢
    rw [List.filter_cons]
    by_cases hk : k < b
    · have : Nat.blt k b = true := Nat.ble_eq_true_of_le hk
      simp only [this, if_true]
      rw [getB_cons, getB_cons]
      by_cases hi : id = k
      · subst hi; rw [if_pos rfl, if_pos rfl, if_pos hk]
      · rw [if_neg hi, if_neg hi]; exact ih
    · have : Nat.blt k b = false := by
        cases hb : Nat.blt k b with
        | false => rfl
        | true => exact absurd (Nat.lt_of_succ_le (Nat.le_of_ble_eq_true hb)) hk
      simp only [this, Bool.false_eq_true, if_false]
      rw [getB_cons]
      by_cases hi : id = k
      · subst hi; rw [if_neg hk] at ih ⊢; exact ih
      · rw [if_neg hi]; exact ih

/-- An operation where it stands. -/
theorem at_done {α : Type} {draw : Bool} {op : Op} {b : Nat} {tm : TTm} {m : Tm} {hp : THp} {hv : Hp} {K : SV → THp → Cls → Option α} {z : α} (hX : XOK P X) (hE : EntsOK R cf X) (hh : RH hp hv) (hr : RT hp tm m) (h : wtAt X draw op b tm hp K = some z) :
    ∃ x hp' cls y hv', K x hp' cls = some z ∧ RV2 hp' x y ∧ RH hp' hv' ∧ RT hp' tm m ∧ ∀ KV : Cont, KV y hv' cls → opAt P R cf draw op b (opnd m) hv KV := by
  unfold wtAt at h
  cases hd : draw && isR op with
  | true =>
    rw [hd] at h
    have hi : isR op = true := by simp only [Bool.and_eq_true] at hd; exact hd.2
    obtain ⟨x, y, cls, h1, h2, h3⟩ := op_looks (R := R) (cf := cf) (hp := hp) (hpm := maskT b hp) (hvm := mask b hv) hX hi hr (fun id bb hb => by
      rw [mask_T] at hb
      split at hb
      · rename_i hlt
        obtain ⟨k, hk, hrb⟩ := hh id bb hb
        exact ⟨hb, k, by simp only [mask, if_pos hlt, hk], hrb⟩
      · cases hb) h
    refine ⟨x, hp, cls, y, hv, h1, h2, hh, hr, fun KV hk => ?_⟩
    unfold opAt
    rw [hd]
    exact h3 (fun x _ cls => KV x hv cls) hk
  | false =>
    rw [hd] at h
    obtain ⟨x, hp', cls, y, hv', h1, h2, h3, h4, h5⟩ := op_done hX hE hh hr h
    refine ⟨x, hp', cls, y, hv', h1, h2, h3, h4, fun KV hk => ?_⟩
    unfold opAt
    rw [hd]
    exact h5 KV hk

theorem put_rel {hp : THp} {tm : TTm} {m : Tm} {x : SV} {y : V} (h : RT hp tm m) (hx : RV2 hp x y) (dst : Option Tmp) : RT hp (putTm tm dst x) (put m dst y) := by
  cases dst with
  | none => exact h
  | some d =>
    intro t
    simp only [putTm, put]
    rw [getV_cons]
    unfold upd
    split
    · exact hx
    · exact h t

theorem drawn_some {α : Type} {draw ok : Bool} {cls : Cls} {A : Option α} {z : α} (h : drawnT draw ok cls A = some z) : A = some z ∧ ∀ B : Prop, B → drawn draw ok cls B := by
  cases draw <;> cases cls <;> first | exact ⟨h, fun B hb => hb⟩ | (obtain ⟨h1, h2⟩ := cond_none' h; exact ⟨h2, fun B hb => ⟨h1, hb⟩⟩)

theorem sure_ids {hp : THp} {tm : TTm} {m : Tm} {op : Op} (hr : RT hp tm m) (h : sureOp tm op = true) : opIds m op = idsOp tm op := by
  unfold opIds idsOp
  unfold sureOp at h
  generalize op.operands.toList = l at h ⊢
  induction l with
  | nil => rfl
  | cons y l ih =>
    simp only [List.map_cons, List.all_cons, Bool.and_eq_true] at h
    simp only [List.flatMap_cons, List.map_cons]
    rw [ih h.2, (rf1_rel h.1 (op_rel hr y)).2.2.1]

theorem flatMap_same {α β : Type} {f g : α → List β} : ∀ {l : List α}, (∀ x ∈ l, f x = g x) → l.flatMap f = l.flatMap g
  | [], _ => rfl
  | x :: l, h => by
    rw [List.flatMap_cons, List.flatMap_cons, h x (List.mem_cons_self ..), flatMap_same fun y hy => h y (List.mem_cons_of_mem _ hy)]

theorem touched_rel {hp : THp} {hv : Hp} {tm : TTm} {m : Tm} {op : Op} {ids : List Nat} (hE : EntsOK R cf X) (hh : RH hp hv) (hr : RT hp tm m) (h : touchedT X op tm hp = some ids) : touched cf op (opnd m) hv = some ids := by
  unfold touchedT at h
  split at h
  · rename_i t a x
    split at h
    · rename_i hc
      cases h
      simp only [Bool.and_eq_true] at hc
      simp only [touched]
      rw [(rf1_rel hc.1 (op_rel hr a)).2.2.1, (rf1_rel hc.2 (op_rel hr x)).2.2.1]
    · cases h
  · rename_i f args tys
    split at h
    case h_2 => cases h
    rename_i g caps hf
    split at h
    case h_2 => cases h
    rename_i E hfe
    obtain ⟨_, _, hbr⟩ := hE g E hfe
    split at h
    case h_2 => cases h
    rename_i args' hargs'
    split at h
    case isFalse => cases h
    rename_i s1
    split at h
    case h_2 => cases h
    rename_i o ho
    cases h
    have hc := op_rel hr f
    rw [hf] at hc
    obtain ⟨us, hfv, hcs⟩ := rv_cl hc
    obtain ⟨ys', hV, hargs2, hlent⟩ := lendLT_rel hh hargs' (RC.append (map_op_rel hr args.toList) (hcs.mono fun _ _ _ h => h.to1.to2))
    obtain ⟨a1, a2, a3, a4⟩ := RC.all1 s1 hargs2
    rw [← hbr] at hV hlent
    have hclose : close hv 64 (ys'.flatMap refs1) [] = some o := by rw [a2]; exact closeT_rel hh _ _ _ ho
    have hcloseC : closeC hv (ys'.flatMap refs1) = some o := by
      unfold closeC
      rw [hclose]
      simp only
      rw [if_pos (by rw [a2]; exact closeT_reach hh ho)]
    simp only [touched, hfv, hV, hcloseC, hlent]
  · rename_i t n parts
    split at h
    · rename_i hc
      cases h
      simp only [touched]
      congr 1
      refine flatMap_same fun p hp => ?_
      exact (rf1_rel (List.all_eq_true.1 hc p hp) (op_rel hr p.2)).2.2.1
    · cases h
  · cases h

theorem far_rel {hp : THp} {hv : Hp} {tm : TTm} {m : Tm} {all : List Oper} {i : Nat} (hE : EntsOK R cf X) (hh : RH hp hv) (hr : RT hp tm m) (h : farT X all tm hp i = true) : farOK cf all m hv i = true := by
  unfold farT at h
  unfold farOK
  cases ha : all[i]? with
  | none => rw [ha] at h; cases h
  | some a =>
    rw [ha] at h
    simp only [Bool.and_eq_true] at h ⊢
    refine ⟨h.1, ?_⟩
    replace h := h.2
    cases ht : touchedT X a.op tm hp with
    | none => rw [ht] at h; cases h
    | some ids =>
      rw [ht] at h
      rw [touched_rel hE hh hr ht]
      simp only at h ⊢
      refine List.all_eq_true.2 fun j hj => ?_
      have h4 := List.all_eq_true.1 h j hj
      cases ho : all[j]? with
      | none => simp
      | some o =>
        rw [ho] at h4
        simp only [Bool.or_eq_true, Bool.and_eq_true] at h4 ⊢
        rcases h4 with h4 | h4 | ⟨h4, h5, h6⟩
        · exact .inl h4
        · exact .inr (.inl h4)
        · exact .inr (.inr ⟨h4, by rw [sure_ids hr h5]; exact h6⟩)

theorem ok_rel {hp : THp} {hv : Hp} {tm : TTm} {m : Tm} {all : List Oper} {i : Nat} (hE : EntsOK R cf X) (hh : RH hp hv) (hr : RT hp tm m) (h : (eOK all i || farT X all tm hp i) = true) : (eOK all i || farOK cf all m hv i) = true := by
  simp only [Bool.or_eq_true] at h ⊢
  exact h.imp (fun h => h) (far_rel hE hh hr)

theorem drawn_ok {α : Type} {draw ok ok' : Bool} {cls : Cls} {A : Option α} {z : α} (hok : ok = true → ok' = true) (h : drawnT draw ok cls A = some z) : A = some z ∧ ∀ B : Prop, B → drawn draw ok' cls B := by
  cases draw <;> cases cls <;> first | exact ⟨h, fun B hb => hb⟩ | (obtain ⟨h1, h2⟩ := cond_none' h; exact ⟨h2, fun B hb => ⟨hok h1, hb⟩⟩)

theorem ops_done {α : Type} {all : List Oper} {draw : Bool} (hX : XOK P X) (hE : EntsOK R cf X) : ∀ (l : List Oper) (i : Nat) {st : TSt} {s : St} {K : TSt → Option α} {z : α}, RS st s → wtOps X all draw l i st K = some z →
    ∃ st' s', K st' = some z ∧ RS st' s' ∧ st'.c = st.c ∧ ∀ KV : St → Prop, KV s' → weOps P R cf all draw l i s KV
  | [], i, st, s, K, z, hs, h => ⟨st, s, h, hs, rfl, fun KV hk => hk⟩
  | o :: l, i, st, s, K, z, hs, h => by
    -- an operation that is done
    have go : ∀ (tm : TTm), RT st.hp tm s.tm → (wtAt X draw o.op (16 * (st.c + i)) tm st.hp fun x hp cls => drawnT draw (eOK all i || farT X all tm st.hp i) cls (wtOps X all draw l (i + 1) { tm := putTm tm o.dst x, hp := hp, c := st.c } K)) = some z →
        ∃ st' s', K st' = some z ∧ RS st' s' ∧ st'.c = st.c ∧ ∀ KV : St → Prop, KV s' → opAt P R cf draw o.op (16 * (s.c + i)) (opnd s.tm) s.hp fun x hp cls => drawn draw (eOK all i || farOK cf all s.tm s.hp i) cls (weOps P R cf all draw l (i + 1) { tm := put s.tm o.dst x, hp := hp, c := s.c } KV) := by
      intro tm hr h
      obtain ⟨x, hp', cls, y, hv', h1, h2, h3, h4, h5⟩ := at_done (R := R) (cf := cf) hX hE hs.hp hr h
      obtain ⟨h6, h7⟩ := drawn_ok (ok_rel hE hs.hp hr) h1
      obtain ⟨st', s', q1, q2, q3, q4⟩ := ops_done hX hE l (i + 1) (st := { tm := putTm tm o.dst x, hp := hp', c := st.c }) (s := { tm := put s.tm o.dst y, hp := hv', c := s.c }) ⟨put_rel h4 h2 o.dst, h3, hs.c⟩ h6
      exact ⟨st', s', q1, q2, q3, fun KV hk => by rw [hs.c]; exact h5 _ (by have := h7 _ (q4 KV hk); rw [hs.c] at this; exact this)⟩
    -- one that is passed by
    have no : ∀ (tm : TTm), RT st.hp tm s.tm → wtOps X all draw l (i + 1) { tm := putTm tm o.dst (.tup []), hp := st.hp, c := st.c } K = some z →
        ∃ st' s', K st' = some z ∧ RS st' s' ∧ st'.c = st.c ∧ ∀ KV : St → Prop, KV s' → weOps P R cf all draw l (i + 1) { tm := put s.tm o.dst (.tup []), hp := s.hp, c := s.c } KV := by
      intro tm hr h
      exact ops_done hX hE l (i + 1) (st := { tm := putTm tm o.dst (.tup []), hp := st.hp, c := st.c }) (s := { tm := put s.tm o.dst (.tup []), hp := s.hp, c := s.c }) ⟨put_rel (x := .tup []) (y := .tup []) hr ⟨[], rfl, trivial⟩ o.dst, hs.hp, hs.c⟩ h
    simp only [wtOps] at h
    cases hg : o.guard with
    | none =>
      rw [hg] at h
      obtain ⟨st', s', q1, q2, q3, q4⟩ := go st.tm hs.tm h
      exact ⟨st', s', q1, q2, q3, fun KV hk => by unfold weOps; rw [hg]; exact q4 KV hk⟩
    | some jw =>
      obtain ⟨j, want⟩ := jw
      rw [hg] at h
      simp only at h
      cases hd : (all[j]?).bind (·.dst) with
      | none => rw [hd] at h; cases h
      | some d =>
        rw [hd] at h
        simp only at h
        have htd := hs.tm d
        have fin : ∀ w : Bool, guardC (s.tm d) want = some w → (∃ st' s', K st' = some z ∧ RS st' s' ∧ st'.c = st.c ∧ ∀ KV : St → Prop, KV s' → (if w = true then opAt P R cf draw o.op (16 * (s.c + i)) (opnd s.tm) s.hp fun x hp cls => drawn draw (eOK all i || farOK cf all s.tm s.hp i) cls (weOps P R cf all draw l (i + 1) { tm := put s.tm o.dst x, hp := hp, c := s.c } KV) else weOps P R cf all draw l (i + 1) { tm := put s.tm o.dst (.tup []), hp := s.hp, c := s.c } KV)) →
            ∃ st' s', K st' = some z ∧ RS st' s' ∧ st'.c = st.c ∧ ∀ KV : St → Prop, KV s' → weOps P R cf all draw (o :: l) i s KV := by
          intro w hw ⟨st', s', q1, q2, q3, q4⟩
          refine ⟨st', s', q1, q2, q3, fun KV hk => ?_⟩
          unfold weOps
          rw [hg]
          simp only [hd, Option.map_some, caseO_some, hw]
          exact q4 KV hk
        have same : ∀ t : Bool, s.tm d = .v (.bool t) → RT st.hp ((d, .bool t) :: st.tm) s.tm := by
          intro t ht t'
          rw [getV_cons]
          split
          · rename_i he; rw [he, ht]; rfl
          · exact hs.tm t'
        split at h
        · rename_i t hv
          rw [hv] at htd
          have htd := rv_bool htd
          cases want with
          | true =>
            simp only at h
            cases t with
            | true =>
              obtain ⟨st', s', q1, q2, q3, q4⟩ := go _ (same true htd) h
              exact fin true (by rw [htd]; rfl) ⟨st', s', q1, q2, q3, fun KV hk => by rw [if_pos rfl]; exact q4 KV hk⟩
            | false =>
              obtain ⟨st', s', q1, q2, q3, q4⟩ := no _ (same false htd) h
              exact fin false (by rw [htd]; rfl) ⟨st', s', q1, q2, q3, fun KV hk => by rw [if_neg (by simp)]; exact q4 KV hk⟩
          | false =>
            simp only at h
            cases t with
            | true =>
              obtain ⟨st', s', q1, q2, q3, q4⟩ := no _ (same true htd) h
              exact fin false (by rw [htd]; rfl) ⟨st', s', q1, q2, q3, fun KV hk => by rw [if_neg (by simp)]; exact q4 KV hk⟩
            | false =>
              obtain ⟨st', s', q1, q2, q3, q4⟩ := go _ (same false htd) h
              exact fin true (by rw [htd]; rfl) ⟨st', s', q1, q2, q3, fun KV hk => by rw [if_pos rfl]; exact q4 KV hk⟩
        · rename_i hv
          rw [hv] at htd
          obtain ⟨us, hus, hc⟩ := (show ∃ us, s.tm d = .tup us ∧ RC (RV1 st.hp) [] us from htd)
          cases us with
          | cons a l => exact hc.elim
          | nil =>
            obtain ⟨st', s', q1, q2, q3, q4⟩ := no _ hs.tm h
            exact fin false (by rw [hus]; rfl) ⟨st', s', q1, q2, q3, fun KV hk => by rw [if_neg (by simp)]; exact q4 KV hk⟩
        · cases h

/-- The table of the evaluator says what the walk is told. -/
structure CfOK (cf : Cfg) (g : FuncId) (X : TX) : Prop where
  live : ∀ r an, findN X.ann.heads r = some an → cf.live g r = keepI an
  out : ∀ r outs ex an, findN X.ann.outs r = some outs → findE outs ex = some an → cf.out g r ex = keepI an
  join : ∀ r an, findN X.ann.joins r = some an → cf.join g r = some (keepI an)
  nojoin : ∀ r, findN X.ann.joins r = none → cf.join g r = none
  res : cf.res g = (keepI X.ann.res).map (·.2)
  par : cf.par g = keepI X.ann.params
  rts : cf.rts g = mdsL (rtsT (blksI X.ann.res) X.ann.e 0 (blksI X.ann.res))

theorem exEq_true {a b : Ex} (h : exEq a b = true) : a = b := by
  cases a <;> cases b <;> simp [exEq] at h
  · rfl
  · rw [h]
  · rfl

theorem inj_rel {α : Type} {e : Nat} {Q : TPost α} {ex : Ex} {st : TSt} {z : α} : ∀ {l : List (Ex × List Item)} {d : denX l}, injX e l ex st = some d → elimX Q l d = some z → ∃ an dd, findE l ex = some an ∧ decSt e an st = some dd ∧ Q ex (encSt an dd) = some z
  | [], d, h, _ => by cases h
  | [a], d, h, hz => by
    simp only [injX] at h
    obtain ⟨h1, h2⟩ := cond_none' h
    have := exEq_true h1
    subst this
    refine ⟨a.2, d, ?_, h2, hz⟩
    show cond (exEq a.1 a.1) (some a.2) _ = _
    rw [h1]; rfl
  | a :: b :: l, d, h, hz => by
    simp only [injX] at h
    cases hc : exEq a.1 ex with
    | true =>
      rw [hc] at h
      simp only [cond_true, Option.map_eq_some_iff] at h
      obtain ⟨dd, h1, rfl⟩ := h
      have := exEq_true hc
      subst this
      refine ⟨a.2, dd, ?_, h1, hz⟩
      show cond (exEq a.1 a.1) (some a.2) _ = _
      rw [hc]; rfl
    | false =>
      rw [hc] at h
      simp only [cond_false, Option.map_eq_some_iff] at h
      obtain ⟨dd, h1, rfl⟩ := h
      obtain ⟨an, d2, q1, q2, q3⟩ := inj_rel (l := b :: l) h1 hz
      refine ⟨an, d2, ?_, q2, q3⟩
      show cond (exEq a.1 ex) (some a.2) (findE (b :: l) ex) = _
      rw [hc]; exact q1

theorem code_done (hX : XOK P X) (hE : EntsOK R cf X) (hcf : CfOK cf g X) : ∀ (c : Code) {α : Type} {st : TSt} {s : St} {Q : TPost α} {z : α}, RS st s → wtC X c st Q = some z →
    ∃ ex st' s', Q ex st' = some z ∧ RS st' s' ∧ ∀ QV : Post, QV ex s' → we P R cf g X.e c s QV
  | .skip, α, st, s, Q, z, hs, h => ⟨.normal, st, s, h, hs, fun QV hq => hq⟩
  | .exit id, α, st, s, Q, z, hs, h => ⟨.exit id, st, s, h, hs, fun QV hq => hq⟩
  | .ret, α, st, s, Q, z, hs, h => ⟨.ret, st, s, h, hs, fun QV hq => hq⟩
  | .region id ops draw, α, st, s, Q, z, hs, h => by
    obtain ⟨st', s', h1, h2, h3, h4⟩ := ops_done (R := R) (cf := cf) hX hE _ 0 hs h
    refine ⟨.normal, _, { s' with c := s'.c + ops.size }, h1, ⟨h2.tm, h2.hp, by show s'.c + _ = st'.c + _; rw [h2.c]⟩, fun QV hq => ?_⟩
    unfold we
    exact h4 _ hq
  | .seq a b, α, st, s, Q, z, hs, h => by
    unfold wtC at h
    cases hj : findN X.ann.joins (rid b) with
    | none =>
      rw [hj] at h
      simp only at h
      obtain ⟨ex, st1, s1, h1, h2, h3⟩ := code_done hX hE hcf a hs h
      cases ex with
      | normal =>
        obtain ⟨ex, st2, s2, q1, q2, q3⟩ := code_done hX hE hcf b h2 h1
        exact ⟨ex, st2, s2, q1, q2, fun QV hq => by unfold we; exact h3 _ (by show meet _ _ _ _; rw [hcf.nojoin _ hj]; exact q3 QV hq)⟩
      | exit id => exact ⟨.exit id, st1, s1, h1, h2, fun QV hq => by unfold we; exact h3 _ hq⟩
      | ret => exact ⟨.ret, st1, s1, h1, h2, fun QV hq => by unfold we; exact h3 _ hq⟩
    | some an =>
      rw [hj] at h
      simp only at h
      obtain ⟨w, hw, hz⟩ := bind_some' h
      obtain ⟨ex, st1, s1, h1, h2, h3⟩ := code_done hX hE hcf a hs hw
      have other : ∀ ex', ex' ≠ .normal → ex = ex' → (Q ex' st1).map Sum.inl = some w → ∃ ex st' s', Q ex st' = some z ∧ RS st' s' ∧ ∀ QV : Post, QV ex s' → we P R cf g X.e (a.seq b) s QV := by
        intro ex' hne he h1
        subst he
        simp only [Option.map_eq_some_iff] at h1
        obtain ⟨r, hr, rfl⟩ := h1
        simp only [Sum.elim_inl, Option.some.injEq] at hz
        subst hz
        refine ⟨ex, st1, s1, hr, h2, fun QV hq => ?_⟩
        unfold we
        refine h3 _ ?_
        cases ex with
        | normal => exact absurd rfl hne
        | exit id => exact hq
        | ret => exact hq
      cases ex with
      | normal =>
        simp only [Option.map_eq_some_iff] at h1
        obtain ⟨d, hd, rfl⟩ := h1
        simp only [Sum.elim_inr] at hz
        obtain ⟨s2, c1, c2⟩ := canon_rel h2 hd
        obtain ⟨ex, st3, s3, q1, q2, q3⟩ := code_done hX hE hcf b c2 hz
        exact ⟨ex, st3, s3, q1, q2, fun QV hq => by unfold we; exact h3 _ (by show meet _ _ _ _; rw [hcf.join _ _ hj]; exact c1 _ (q3 QV hq))⟩
      | exit id => exact other (.exit id) (by simp) rfl h1
      | ret => exact other .ret (by simp) rfl h1
  | .cond c x y, α, st, s, Q, z, hs, h => by
    unfold wtC at h
    have hc := op_rel hs.tm c
    split at h
    · rename_i t ht
      rw [ht] at hc
      have hc := rv_bool hc
      cases t with
      | true =>
        obtain ⟨ex, st1, s1, h1, h2, h3⟩ := code_done hX hE hcf x hs h
        exact ⟨ex, st1, s1, h1, h2, fun QV hq => by unfold we; rw [hc]; exact h3 QV hq⟩
      | false =>
        obtain ⟨ex, st1, s1, h1, h2, h3⟩ := code_done hX hE hcf y hs h
        exact ⟨ex, st1, s1, h1, h2, fun QV hq => by unfold we; rw [hc]; exact h3 QV hq⟩
    · cases h
  | .block id c, α, st, s, Q, z, hs, h => by
    unfold wtC at h
    obtain ⟨ex, st1, s1, h1, h2, h3⟩ := code_done hX hE hcf c hs h
    cases ex with
    | normal => exact ⟨.normal, st1, s1, h1, h2, fun QV hq => by unfold we; exact h3 _ hq⟩
    | ret => exact ⟨.ret, st1, s1, h1, h2, fun QV hq => by unfold we; exact h3 _ hq⟩
    | exit j =>
      simp only at h1
      cases hj : Nat.beq j id with
      | true =>
        rw [hj] at h1
        have hji := Nat.eq_of_beq_eq_true hj
        exact ⟨.normal, st1, s1, h1, h2, fun QV hq => by unfold we; exact h3 _ (by show (if j = id then _ else _); rw [if_pos hji]; exact hq)⟩
      | false =>
        rw [hj] at h1
        have hji : j ≠ id := fun he => by subst he; rw [Nat.beq_refl] at hj; cases hj
        exact ⟨.exit j, st1, s1, h1, h2, fun QV hq => by unfold we; exact h3 _ (by show (if j = id then _ else _); rw [if_neg hji]; exact hq)⟩
  | .loop c, α, st, s, Q, z, hs, h => by
    unfold wtC at h
    split at h
    · rename_i an outs ha ho
      obtain ⟨d0, hd0, h⟩ := bind_some' h
      obtain ⟨w, hw, hz⟩ := bind_some' h
      obtain ⟨n, hn⟩ := loopM_some hw
      obtain ⟨s0, c1, c2⟩ := canon_rel hs hd0
      have key : ∀ (n : Nat) (d : denI an) (s0 : St), loopF (fun d => wtC X c (encSt an d) fun ex s => match ex with | .normal => (decSt X.e an s).map .inl | ex => (injX X.e outs ex s).map .inr) n d = some w → RS (encSt an d) s0 →
          ∃ ex st' s', Q ex st' = some z ∧ RS st' s' ∧ ∀ QV : Post, QV ex s' → loopAt P R cf g X.e c s0 QV := by
        intro n
        induction n with
        | zero => intro d s0 h _; cases h
        | succ n ih =>
          intro d s0 h hs0
          simp only [loopF] at h
          obtain ⟨o, hb, h⟩ := bind_some' h
          obtain ⟨ex, st1, s1, h1, h2, h3⟩ := code_done hX hE hcf c hs0 hb
          have other : ∀ ex', ex' ≠ .normal → ex = ex' → (injX X.e outs ex' st1).map Sum.inr = some o → ∃ ex st' s', Q ex st' = some z ∧ RS st' s' ∧ ∀ QV : Post, QV ex s' → loopAt P R cf g X.e c s0 QV := by
            intro ex' hne he h1
            subst he
            simp only [Option.map_eq_some_iff] at h1
            obtain ⟨w', hw', rfl⟩ := h1
            simp only [Sum.elim_inr, Option.some.injEq] at h
            subst h
            obtain ⟨an2, dd, q1, q2, q3⟩ := inj_rel hw' hz
            obtain ⟨s2, e1, e2⟩ := canon_rel h2 q2
            refine ⟨ex, _, s2, q3, e2, fun QV hq => ?_⟩
            rw [loop_round]
            refine h3 _ ?_
            cases ex with
            | normal => exact absurd rfl hne
            | exit id => show canon _ _ _ _; rw [hcf.out _ _ _ _ ho q1]; exact e1 _ hq
            | ret => show canon _ _ _ _; rw [hcf.out _ _ _ _ ho q1]; exact e1 _ hq
          cases ex with
          | normal =>
            simp only [Option.map_eq_some_iff] at h1
            obtain ⟨d', hd', rfl⟩ := h1
            simp only [Sum.elim_inl] at h
            obtain ⟨s2, e1, e2⟩ := canon_rel h2 hd'
            obtain ⟨ex, st3, s3, q1, q2, q3⟩ := ih d' s2 h e2
            refine ⟨ex, st3, s3, q1, q2, fun QV hq => ?_⟩
            rw [loop_round]
            refine h3 _ ?_
            show canon _ _ _ _
            rw [hcf.live _ _ ha]
            exact e1 _ (q3 QV hq)
          | exit id => exact other (.exit id) (by simp) rfl h1
          | ret => exact other .ret (by simp) rfl h1
      obtain ⟨ex, st', s', q1, q2, q3⟩ := key n d0 s0 hn c2
      exact ⟨ex, st', s', q1, q2, fun QV hq => by rw [loop_in, hcf.live _ _ ha]; exact c1 _ (q3 QV hq)⟩
    · cases h
  | .scope c, α, st, s, Q, z, hs, h => by simp [wtC] at h
  | .label l, α, st, s, Q, z, hs, h => by simp [wtC] at h
  | .goto l, α, st, s, Q, z, hs, h => by simp [wtC] at h
  | .rangeFunc .., α, st, s, Q, z, hs, h => by simp [wtC] at h
  | .refuse _, α, st, s, Q, z, hs, h => by simp [wtC] at h
end
end Go.Proofs.YtnhibkgoinnmcaaDoor.Ev
end

/-! #### EvXf -/
section
/- The typed evaluator and the evaluator: functions. -/
namespace Go.Proofs.YtnhibkgoinnmcaaDoor.Ev
open Go
set_option linter.unusedVariables false
set_option linter.unusedSimpArgs false

section
variable {P : Program} {X : TX} {g : FuncId}

/-- What is checked of a function beside its answer. -/
structure FnOK (P : Program) (cf : Cfg) (X : TX) (fn : Func) (c : Code) : Prop where
  get : P.funcs[X.ann.g]? = some fn
  body : fn.body = some c
  ok : bodyOK fn c (slotsI X.ann.params).length = true
  ext : cf.isExt X.ann.g = false

/-- A function whose typed reading is known is one that may be called. -/
theorem fn_done {cf : Cfg} {ext : Rel} {fn : Func} {c : Code} {F : denI X.ann.params → Option (denI X.ann.res)} (hX : XOK P X) (hE : EntsOK (Runs P cf ext) cf X) (hcf : CfOK cf X.ann.g X) (hf : FnOK P cf X fn c)
    (hF : ∀ x, wtF X fn x = F x) : EntOK (Runs P cf ext) ⟨X.ann, F⟩ := by
  intro x y args blks st0 hy hs0 hd hid hl he _
  have hy : wtF X fn x = some y := by rw [hF]; exact hy
  unfold wtF at hy
  rw [hf.body] at hy
  simp only at hy
  have he : (args.flatMap refs1).eraseDups.length = X.e := he
  obtain ⟨s0, k1, hs⟩ := canon_rel hs0 hd
  obtain ⟨ex, st', s', h1, h2, h3⟩ := code_done hX hE hcf c hs hy
  have main : ∀ ex', ex = ex' → (∀ i, ex' ≠ .exit i) → (tRes X st'.tm st'.hp fn.results.toList fun xs => outT X.ann.res X.e st' xs) = some y →
      ∃ r blks', Runs P cf ext X.ann.g args blks r blks' ∧ ResRel X.ann.res y r blks' := by
    intro ex' hex hno h1
    obtain ⟨r, blks', q1, q2⟩ := ret_done (e := X.e) (res := X.ann.res) (rs := fn.results.toList) (y := y) hX h2 h1
    refine ⟨r, blks', Runs.intro hf.ext hf.get hf.body (by rw [hl]; exact hf.ok) hid ?_, q2⟩
    rw [he, hcf.par]
    refine k1 _ (h3 _ ?_)
    rw [hcf.res, hcf.rts]
    subst hex
    cases ex with
    | exit i => exact absurd rfl (hno i)
    | normal => exact q1
    | ret => exact q1
  cases ex with
  | exit i => cases h1
  | normal => exact main .normal rfl (by simp) h1
  | ret => exact main .ret rfl (by simp) h1

theorem ents_nil {R : Rel} {cf : Cfg} {X : TX} (h : X.ents = []) : EntsOK R cf X := by
  intro g E hE
  rw [h] at hE
  cases hE

/-- The functions that are known, one by one. -/
def AllEnt (R : Rel) (cf : Cfg) : List Ent → Prop
  | [] => True
  | E :: l => (EntOK R E ∧ cf.byref E.a.g = (slotsA E.a.params).map refA) ∧ AllEnt R cf l

theorem ents_of {R : Rel} {cf : Cfg} {X : TX} (h : AllEnt R cf X.ents) : EntsOK R cf X := by
  intro g E hE
  generalize X.ents = l at h hE
  induction l with
  | nil => cases hE
  | cons a l ih =>
    simp only [findF] at hE
    cases hg : Nat.beq a.a.g g with
    | true =>
      rw [hg] at hE
      simp only [cond_true, Option.some.injEq] at hE
      subst hE
      have := Nat.eq_of_beq_eq_true hg
      subst this
      exact ⟨h.1.1, rfl, h.1.2⟩
    | false =>
      rw [hg] at hE
      exact ih h.2 hE

theorem cf_ok {tab : List FAnn} {ext : FuncId → Bool} {X : TX} (h : findA tab X.ann.g = some X.ann) : CfOK (cfOf tab ext) X.ann.g X where
  live r an hr := by simp only [cfOf, h, Option.bind_some, hr]
  out r outs ex an hr he := by simp only [cfOf, h, Option.bind_some, hr, he]
  join r an hr := by simp only [cfOf, h, Option.bind_some, hr]
  nojoin r hr := by simp only [cfOf, h, Option.bind_some, hr]
  res := by simp only [cfOf, h]
  par := by simp only [cfOf, h]
  rts := by simp only [cfOf, h]
end
end Go.Proofs.YtnhibkgoinnmcaaDoor.Ev
end

/-! #### EvXg -/
section
/- A law: what it is handed, read as data; the row. -/
namespace Go.Proofs.YtnhibkgoinnmcaaDoor.Ev
open Go Go.RowKit
set_option linter.unusedVariables false
set_option linter.unusedSimpArgs false

def shT : Sh → Ty
  | .int k => .int k
  | .str => .str
  | .bool => .bool
  | .sl _ e => .sl (shT e)
  | .pair a b => .pair (shT a) (shT b)

/-- What is known of what a law is handed. -/
def WFS : (s : Sh) → (shT s).den → Prop
  | .int k, n => (Lit.int k n).wf = true
  | .str, s => s.length ≤ maxBytes
  | .bool, _ => True
  | .sl bytes e, l => (∀ a ∈ (show List (shT e).den from l), WFS e a) ∧ (show List (shT e).den from l).length * bytes ≤ maxBytes
  | .pair a b, x => WFS a (show (shT a).den × (shT b).den from x).1 ∧ WFS b (show (shT a).den × (shT b).den from x).2

theorem dv_re : ∀ {s : Sh} {xs : List V}, DV s xs → ∃ x, RE (shT s) x xs ∧ WFS s x
  | .int k, xs, h => by obtain ⟨n, rfl, hn⟩ := h; exact ⟨n, rfl, hn⟩
  | .str, xs, h => by obtain ⟨s, rfl, hs⟩ := h; exact ⟨s.data.toList, by simp [RE, shT], by show s.data.toList.length ≤ maxBytes; rw [Array.length_toList]; exact hs⟩
  | .bool, xs, h => by obtain ⟨b, rfl⟩ := h; exact ⟨b, rfl, trivial⟩
  | .sl bytes e, xs, h => by
    obtain ⟨rows, rfl, hr, hb⟩ := h
    have key : ∀ rows : List (List V), (∀ r ∈ rows, DV e r) → ∃ l : List (shT e).den, RLx (RE (shT e)) l rows ∧ ∀ a ∈ l, WFS e a := by
      intro rows
      induction rows with
      | nil => intro _; exact ⟨[], RLx.nil, by simp⟩
      | cons r rows ih =>
        intro h
        obtain ⟨a, h1, h2⟩ := dv_re (h r (by simp))
        obtain ⟨l, h3, h4⟩ := ih fun r' hr' => h r' (by simp [hr'])
        refine ⟨a :: l, RLx.cons h1 h3, fun b hb => ?_⟩
        rcases List.mem_cons.1 hb with rfl | hb
        · exact h2
        · exact h4 b hb
    obtain ⟨l, h1, h2⟩ := key rows hr
    exact ⟨l, .inr ⟨rows, rfl, h1⟩, h2, by rw [← h1.1]; exact hb⟩
  | .pair a b, xs, h => by
    obtain ⟨l, r, rfl, h1, h2⟩ := h
    obtain ⟨x, q1, q2⟩ := dv_re h1
    obtain ⟨y, q3, q4⟩ := dv_re h2
    exact ⟨(x, y), ⟨l, r, rfl, q1, q3⟩, q2, q4⟩

def acOf : Sh → AC
  | .int k => .int k
  | .str => .str
  | .bool => .bool
  | .sl _ e => .im (shT e)
  | .pair _ _ => .bool

def oneS : Sh → Bool
  | .pair _ _ => false
  | _ => true

def WFC : (s : Sh) → (acOf s).den → Prop
  | .int k, n => WFS (.int k) n
  | .str, s => WFS .str s
  | .bool, b => True
  | .sl n e, l => WFS (.sl n e) l
  | .pair _ _, _ => True

theorem dv_cell {s : Sh} {x : V} (ho : oneS s = true) (h : DV s [x]) : ∃ d : (acOf s).den, WFC s d ∧ ∀ hp, RV2 hp (encC (acOf s) d) x := by
  obtain ⟨d, h1, h2⟩ := dv_re h
  cases s with
  | int k =>
    have h1 : [x] = [V.v (.int k d)] := h1
    cases h1
    exact ⟨d, h2, fun hp => rfl⟩
  | str =>
    have h1 : [x] = [V.v (.string ⟨Array.mk d⟩)] := h1
    cases h1
    exact ⟨d, h2, fun hp => rfl⟩
  | bool =>
    have h1 : [x] = [V.v (.bool d)] := h1
    cases h1
    exact ⟨d, trivial, fun hp => rfl⟩
  | sl n e =>
    refine ⟨d, h2, fun hp => ?_⟩
    rcases h1 with ⟨e1, e2⟩ | ⟨rows, e2, e3⟩
    · cases e2; exact .inl ⟨e1, rfl⟩
    · cases e2; exact .inr ⟨rows, rfl, e3⟩
  | pair a b => cases ho

/-- The parameters of a law. -/
def parI : Nat → List Sh → List Item
  | _, [] => []
  | i, s :: l => .slot i (.cell (acOf s)) :: parI (i + 1) l

def WFP : (i : Nat) → (l : List Sh) → denI (parI i l) → Prop
  | _, [], _ => True
  | i, s :: l, d => WFC s (hdI (.slot i (.cell (acOf s))) (parI (i + 1) l) d) ∧ WFP (i + 1) l (tlI (.slot i (.cell (acOf s))) (parI (i + 1) l) d)

/-- Values, one by one, as told. -/
def DVs : List Sh → List V → Prop
  | [], [] => True
  | s :: l, x :: xs => DV s [x] ∧ DVs l xs
  | _, _ => False

theorem DVs.length : ∀ {l : List Sh} {xs : List V}, DVs l xs → xs.length = l.length
  | [], [], _ => rfl
  | _ :: l, _ :: xs, h => by simp [DVs.length h.2]
  | [], _ :: _, h => h.elim
  | _ :: _, [], h => h.elim

theorem par_rel : ∀ (l : List Sh) (i : Nat) {xs : List V}, l.all oneS = true → DVs l xs → ∃ d : denI (parI i l), WFP i l d ∧ (∀ k, (encI k (parI i l) d).2 = []) ∧ ∀ k hp, RT hp (encI k (parI i l) d).1 (lk .any (enum i xs))
  | [], i, [], _, _ => ⟨(), trivial, fun _ => rfl, fun k hp t => trivial⟩
  | s :: l, i, x :: xs, ho, h => by
    simp only [List.all_cons, Bool.and_eq_true] at ho
    obtain ⟨a, h1, h2⟩ := dv_cell ho.1 h.1
    obtain ⟨d, h3, h4, h5⟩ := par_rel l (i + 1) ho.2 h.2
    refine ⟨consI (.slot i (.cell (acOf s))) (parI (i + 1) l) a d, ⟨?_, ?_⟩, fun k => ?_, fun k hp => ?_⟩
    · rw [hd_cons (.slot i (.cell (acOf s)))]; exact h1
    · rw [tl_cons (.slot i (.cell (acOf s)))]; exact h3
    · simp only [parI, encI]
      rw [tl_cons (.slot i (.cell (acOf s)))]
      exact h4 k
    · simp only [parI, encI]
      rw [tl_cons (.slot i (.cell (acOf s))), hd_cons (.slot i (.cell (acOf s)))]
      intro t
      show RV2 hp (getV ((i, encSV (.cell (acOf s)) a) :: _) t) (if t = i then x else lk .any (enum (i + 1) xs) t)
      rw [getV_cons]
      split
      · exact h2 hp
      · exact h5 k hp t
  | [], _, _ :: _, _, h => h.elim
  | _ :: _, _, [], _, h => h.elim

section
variable {P : Program}

/-- The shapes of the parameters. -/
def FitsL (P : Program) : List TypeId → List Sh → Prop
  | [], [] => True
  | t :: ts, s :: l => Fits P t s ∧ FitsL P ts l
  | _, _ => False

theorem told_args {H : Type} {enc : TypeId × Value → H} {W : World} : ∀ {ts : List TypeId} {l : List Sh} {vs : List Value} {ds : List (DataW H)} {p : List MemPlace}, FitsL P ts l → l.all oneS = true → DataW.TrodAll enc P W 0 (fun _ => true) true ts vs ds p →
    (∀ (j : Nat) t v, ts[j]? = some t → vs[j]? = some v → ∃ base, Value.okWide P W .any base t v) → (∀ n ∈ DataW.weightsEach P ts ds, n ≤ reachBytes) → ∃ xs, DVs l xs ∧ Told W xs vs
  | [], [], vs, ds, p, _, _, h, _, _ => by
    obtain ⟨rfl, rfl, rfl⟩ := ChangeShapes.trodAll_nil h
    exact ⟨[], trivial, trivial⟩
  | t :: ts, s :: l, vs, ds, p, hf, ho, h, hv, hw => by
    obtain ⟨v, vs', d, ds', p1, q, rfl, rfl, rfl, ⟨fuel, h1⟩, h2⟩ := ChangeShapes.trodAll_cons h
    simp only [List.all_cons, Bool.and_eq_true] at ho
    obtain ⟨xs, q1, q2, q3⟩ := trod_told fuel t s _ _ hf.1 h1 fun n hn => hw n (by simp [DataW.weightsEach, hn])
    obtain ⟨ys, q4, q5⟩ := told_args hf.2 ho.2 h2 (fun j t v h1 h2 => hv (j + 1) t v (by simpa using h1) (by simpa using h2)) fun n hn => hw n (by simp [DataW.weightsEach, hn])
    have hs1 : s.size = 1 := by cases s <;> first | rfl | (cases ho.1)
    obtain ⟨x, rfl⟩ := List.length_eq_one_iff.1 (by rw [q2, hs1])
    refine ⟨x :: ys, ⟨q1, q4⟩, ?_, q5⟩
    obtain ⟨base, hok⟩ := hv 0 t v rfl rfl
    have hc : v.cells.toList = [v] := by
      cases hf.1 with
      | int ht => simp only [Value.okWide, ht, Cell.okWide] at hok; cases v <;> simp_all [Cell.ok, Value.cells]
      | str ht => simp only [Value.okWide, ht, Cell.okWide] at hok; cases v <;> simp_all [Cell.ok, Value.cells]
      | bool ht => simp only [Value.okWide, ht, Cell.okWide] at hok; cases v <;> simp_all [Cell.ok, Value.cells]
      | sl ht => obtain ⟨a, n, c, rfl⟩ := WideShapes.okWide_slice ht hok; rfl
      | st => cases ho.1
    rw [hc] at q3
    exact q3.1
  | [], _ :: _, _, _, _, h, _, _, _, _ => h.elim
  | _ :: _, [], _, _, _, h, _, _, _, _ => h.elim

theorem trod_below {H : Type} {enc : TypeId × Value → H} {W W' : World} (hl : laidOutB P = true) (hb : Below W.heap.size W W') : ∀ {ts : List TypeId} {vs : List Value} {ds : List (DataW H)} {p : List MemPlace}, (∀ t ∈ ts, P.readableRec t = true ∧ t < P.types.size) → DataW.TrodAll enc P W 0 (fun _ => true) true ts vs ds p →
    ∃ q, DataW.TrodAll enc P W' 0 (fun b => decide (b < W.heap.size)) true ts vs ds q
  | [], vs, ds, p, _, h => by
    obtain ⟨rfl, rfl, rfl⟩ := ChangeShapes.trodAll_nil h
    exact ⟨[], ChangeShapes.trodAll_mk0⟩
  | t :: ts, vs, ds, p, hr, h => by
    obtain ⟨v, vs', d, ds', p1, q, rfl, rfl, rfl, h1, h2⟩ := ChangeShapes.trodAll_cons h
    obtain ⟨q', h3⟩ := trod_below hl hb (fun t ht => hr t (by simp [ht])) h2
    have hlt : ∀ x ∈ p1, x.block < W.heap.size := by obtain ⟨m, hm⟩ := h1; exact DataW.trod_lt m _ _ _ hm
    obtain ⟨r1, r2⟩ := hr t (by simp)
    exact ⟨_, trodAll_cons_mk (Below.trod hl r1 r2 h1 hb hlt) h3⟩
end
end Go.Proofs.YtnhibkgoinnmcaaDoor.Ev
end

/-! #### EvXh -/
section
/- A law's row. -/
namespace Go.Proofs.YtnhibkgoinnmcaaDoor.Ev
open Go Go.RowKit
set_option linter.unusedVariables false
set_option linter.unusedSimpArgs false

theorem par_len : ∀ (l : List Sh) (i : Nat), (parI i l).length = l.length
  | [], _ => rfl
  | s :: l, i => by simp [parI, par_len l (i + 1)]

theorem par_slots : ∀ (l : List Sh) (i : Nat), (slotsI (parI i l)).length = l.length
  | [], _ => rfl
  | s :: l, i => by simp [parI, slotsI, par_slots l (i + 1)]

section
variable {P : Program} {J : Tabs}

/-- The rows of types, one by one. -/
def TabOK (P : Program) : List (Nat × TyD) → Prop
  | [] => True
  | x :: l => tyOf P x.1 = some x.2 ∧ TabOK P l

theorem tab_ok {l : List (Nat × TyD)} (h : TabOK P l) : ∀ t d, getD l t = some d → tyOf P t = some d := by
  intro t d hd
  induction l with
  | nil => cases hd
  | cons x l ih =>
    obtain ⟨k, y⟩ := x
    simp only [getD] at hd
    cases hk : Nat.beq t k with
    | true =>
      rw [hk] at hd
      simp only [cond_true, Option.some.injEq] at hd
      have := Nat.eq_of_beq_eq_true hk
      subst this
      subst hd
      exact h.1
    | false =>
      rw [hk] at hd
      exact ih h.2 hd

theorem law_true {cf : Cfg} {ext : Rel} {g : FuncId} {shs : List Sh} {heads joins : List (Nat × List Item)} {outs : List (Nat × List (Ex × List Item))} {F : denI (parI 0 shs) → Option Bool}
    (hm : P.follows .mixedOrders = true) (hext : ∀ g args blks r blks', ext g args blks r blks' → CSpec P J g args blks r blks')
    (hE : EntOK (Runs P cf ext) ⟨⟨g, 0, parI 0 shs, [.slot 0 (.cell .bool)], heads, outs, joins⟩, F⟩) (hD : ∀ d, decSt 0 (parI 0 shs) (encSt (parI 0 shs) d) = some d) (hF : ∀ d, WFP 0 shs d → F d = some true) (ho : shs.all oneS = true)
    {w : World} (hJ : ∀ x ∈ J, w.heap[x.1]? = some x.2) {xs : List V} {vals : Array Value} (hx : DVs shs xs) (hv : Told w xs vals.toList) : Calls P g vals w fun e w' => e = .returned (.bool true) ∧ Below w.heap.size w w' := by
  obtain ⟨d, h1, h2, h3⟩ := par_rel shs 0 ho hx
  have hrefs := told_refs hv
  obtain ⟨r, blks', q1, q2⟩ := hE d true xs [] (encSt (parI 0 shs) d) (hF d h1) ⟨h3 0 _, (fun id b hb => by
    rw [show (encSt (parI 0 shs) d).hp = (encI 0 (parI 0 shs) d).2 from rfl, h2] at hb
    exact absurd hb (by simp [getB])), rfl⟩ (hD d) (told_ids hv) (by rw [hx.length]; exact (par_slots shs 0).symm) (by rw [hrefs]; rfl) (fun _ => rfl)
  have hr : r = .v (.bool true) := q2.val
  have hb : blks' = [] := List.eq_nil_of_length_eq_zero q2.len
  subst hr
  subst hb
  exact law_calls hm hext hJ hv q1

theorem law_contract {H : Type} {enc : TypeId × Value → H} {cf : Cfg} {ext : Rel} {g : FuncId} {shs : List Sh} {heads joins : List (Nat × List Item)} {outs : List (Nat × List (Ex × List Item))} {F : denI (parI 0 shs) → Option Bool} {fn : Func} {s : ChangeSpec} {ts : List TypeId} {rt : TypeId}
    (hm : P.follows .mixedOrders = true) (hext : ∀ g args blks r blks', ext g args blks r blks' → CSpec P J g args blks r blks')
    (hE : EntOK (Runs P cf ext) ⟨⟨g, 0, parI 0 shs, [.slot 0 (.cell .bool)], heads, outs, joins⟩, F⟩) (hD : ∀ d, decSt 0 (parI 0 shs) (encSt (parI 0 shs) d) = some d) (hF : ∀ d, WFP 0 shs d → F d = some true) (ho : shs.all oneS = true)
    (hp : fn.params.toList = ts) (hr : fn.resultTypes.toList = [rt]) (hrt : P.underlying rt = some .bool) (hf : FitsL P ts shs) (hl : laidOutB P = true) (hread : ∀ t ∈ ts, P.readableRec t = true ∧ t < P.types.size) (hvars : s.vars = [])
    (hs : ∀ ds : List (DataW H), ds.length = ts.length → s.fn H (ds ++ []) = { results := [.lit (.bool true)], args := ds, vars := [] })
    {W : World} (hJ : ∀ x ∈ J, W.heap[x.1]? = some x.2) {base : Nat} {args : Array Value} {ds gs : List (DataW H)} {before : List MemPlace}
    (hval : ∀ (j : Nat) t v, fn.params[j]? = some t → args[j]? = some v → Value.okWide P W .any base t v) (hW : DataW.Whole enc P fn.params.toList s.vars false W args.toList ds gs before)
    (hsz : (DataW.weightsEach P (fn.params.toList ++ s.plain.varTypes P) (ds ++ gs)).all (· ≤ reachBytes) = true) :
    Calls P g args W fun e W' => ∃ v, e = .returned v ∧ s.post enc P fn false true false false W args v W' := by
  have hW' := hW
  obtain ⟨p, q, hA, hV, rfl, hfz, hnd⟩ := hW
  rw [hvars] at hV
  obtain ⟨rfl, rfl⟩ := ChangeShapes.trodVars_none hV
  rw [hp] at hA
  have hlen : ∀ {ts : List TypeId} {vs : List Value} {ds : List (DataW H)} {p : List MemPlace}, DataW.TrodAll enc P W 0 (fun _ => true) true ts vs ds p → ds.length = ts.length := by
    intro ts
    induction ts with
    | nil => intro vs ds p h; obtain ⟨_, rfl, _⟩ := ChangeShapes.trodAll_nil h; rfl
    | cons t ts ih => intro vs ds p h; obtain ⟨v, vs', d, ds', p1, q, rfl, rfl, rfl, h1, h2⟩ := ChangeShapes.trodAll_cons h; simp [ih h2]
  have hdl := hlen hA
  have hwt : ∀ n ∈ DataW.weightsEach P ts ds, n ≤ reachBytes := by
    intro n hn
    have hmem : ∀ (a b : List TypeId) (c d : List (DataW H)), ∀ n ∈ DataW.weightsEach P a c, c.length = a.length → n ∈ DataW.weightsEach P (a ++ b) (c ++ d) := by
      intro a
      induction a with
      | nil => intro b c d n hn hl; cases c <;> simp [DataW.weightsEach] at hn hl
      | cons t a ih =>
        intro b c d n hn hl
        cases c with
        | nil => simp [DataW.weightsEach] at hn
        | cons x c =>
          simp only [DataW.weightsEach, List.mem_append, List.cons_append] at hn ⊢
          rcases hn with hn | hn
          · exact .inl hn
          · exact .inr (ih b c d n hn (by simpa using hl))
    rw [hp] at hsz
    have := List.all_eq_true.1 hsz n (hmem ts _ ds _ n hn hdl)
    simpa using this
  obtain ⟨xs, h1, h2⟩ := told_args hf ho hA (fun j t v h1 h2 => ⟨base, hval j t v (by rw [← hp] at h1; simpa using h1) (by simpa using h2)⟩) hwt
  refine (law_true hm hext hE hD hF ho hJ h1 h2).mono fun e W' ⟨he, bel⟩ => ?_
  subst he
  obtain ⟨q', hq⟩ := trod_below hl bel hread hA
  refine ⟨_, rfl, ds, [], _, [], q', [], hW', ?_, ?_, ?_, bel.frame _, fun h => by cases h⟩
  · rw [hs ds hdl, hr]
    have : ((Value.bool true).resultList fn.resultTypes.size) = [.bool true] := by
      have : fn.resultTypes.size = 1 := by rw [← Array.length_toList, hr]; rfl
      rw [this]; rfl
    rw [this]
    exact ChangeShapes.trodAll_mk1 (shut_bool hrt true)
  · rw [hs ds hdl, hp]
    exact hq
  · rw [hs ds hdl, hvars]
    rfl
end
end Go.Proofs.YtnhibkgoinnmcaaDoor.Ev
end
