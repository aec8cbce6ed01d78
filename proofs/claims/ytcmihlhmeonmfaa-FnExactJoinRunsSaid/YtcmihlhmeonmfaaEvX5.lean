/- The typed evaluator and the evaluator: parts of slices, conversions. -/
import Derived.Test.YtcmihlhmeonmfaaEvX4
namespace Go.Proofs.Ytcmihlhmeonmfaa.Ev
open Go
set_option linter.unusedVariables false
set_option linter.unusedSimpArgs false

section
variable {α : Type} {P : Program} {R : Rel} {cf : Cfg} {X : TX} {b : Nat} {tm : TTm} {m : Tm} {hp hpm : THp} {hv hvm : Hp} {K : SV → THp → Cls → Option α} {z : α}

theorem bnd_rel (hr : RT hp tm m) {x : Option Operand} {d : Nat} {n : Int} (h : tBnd tm x (d : Int) = some n) (h0 : 0 ≤ n) : bnd (opnd m) x d = some n.toNat := by
  cases x with
  | none => simp only [tBnd, Option.some.injEq] at h; subst h; simp [bnd]
  | some x =>
    simp only [tBnd] at h
    have hx := op_rel hr x
    unfold intOf' at h
    split at h
    · rename_i k n' e1
      cases h
      rw [e1] at hx
      have hx := rv_int hx
      simp only [bnd, hx, if_pos h0]
    · cases h

theorem sub_rel {β : Type} {lo hi : Option Operand} {len : Nat} {KS : Nat → Nat → Option β} {z : β} (hr : RT hp tm m) (h : tSub tm lo hi len KS = some z) :
    ∃ l r, KS l r = some z ∧ bnd (opnd m) lo 0 = some l ∧ bnd (opnd m) hi len = some r ∧ l ≤ r ∧ r ≤ len := by
  have main : (match tBnd tm lo 0, tBnd tm hi (len : Int) with | some l, some h => (subI l h len).bind fun p => KS p.1 p.2 | _, _ => none) = some z → ∃ l r, KS l r = some z ∧ bnd (opnd m) lo 0 = some l ∧ bnd (opnd m) hi len = some r ∧ l ≤ r ∧ r ≤ len := by
    intro h
    split at h
    · rename_i l r e1 e2
      obtain ⟨p, h1, h2⟩ := bind_some' h
      unfold subI at h1
      split at h1
      · rename_i hc
        cases h1
        exact ⟨l.toNat, r.toNat, h2, bnd_rel hr (d := 0) e1 hc.1, bnd_rel hr e2 (by omega), by omega, by omega⟩
      · cases h1
    · cases h
  unfold tSub at h
  cases lo with
  | none =>
    cases hi with
    | none => exact ⟨0, len, h, rfl, rfl, Nat.zero_le _, Nat.le_refl _⟩
    | some y => exact main h
  | some x => exact main h

theorem el_str {t e : TypeId} (h : (tyOf P t).bind (·.elem) = some e) : isStr P t = false := by
  cases hs : isStr P t with
  | false => rfl
  | true =>
    have h1 := elem_under h
    have h2 := str_under hs
    rw [h1] at h2
    cases h2

theorem l_slice {t : TypeId} {x : Operand} {lo hi : Option Operand} (hX : XOK P X) (hr : RT hp tm m) (hh : RHm hpm hp hvm) (h : wtOp X (.slice t x lo hi none) b tm hpm K = some z) :
    Looks P R cf (.slice t x lo hi none) b m hp hpm hvm K z := by
  simp only [wtOp, tSlice] at h
  have hx := op_rel hr x
  split at h
  · rename_i s e1
    rw [e1] at hx
    have hx := rv_str hx
    split at h
    · rename_i hs
      have hs' : isStr P t = true := strX hX hs
      obtain ⟨l, r, h1, h2, h3, h4, h5⟩ := sub_rel hr h
      have hsz : (ByteArray.mk s.toArray).size = s.length := by simp [ByteArray.size]
      refine ⟨_, .v (.string ⟨((s.take r).drop l).toArray⟩), .M, h1, rfl, fun KV hk => ?_⟩
      show (if isStr P t then caseO (nevT P (.slice t x lo hi none) (opnd m)) fun z => KV z hvm .M else _)
      rw [if_pos hs']
      have : nevT P (.slice t x lo hi none) (opnd m) = some (.v (.string ⟨((s.take r).drop l).toArray⟩)) := by
        simp only [nevT, hs', hx, h2, hsz, h3]
        rw [if_pos ⟨h4, h5⟩]
        congr 3
        apply ByteArray.ext
        simp [List.drop_take]
      rw [this]
      exact hk
    · cases h
  · rename_i hns
    split at h
    · rename_i e de c he
      have hE := elem_ok hX he
      have hs' := el_str hE.el
      have fin : ∀ (v : SV) (y : V), K v hpm .M = some z → RV2 hp v y → (∀ KV : Cont, KV y hvm .M → weSlice P t (opnd m x) lo hi (opnd m) hvm KV) → Looks P R cf (.slice t x lo hi none) b m hp hpm hvm K z := by
        intro v y h hv hw
        refine ⟨v, y, .M, h, hv, fun KV hk => ?_⟩
        show (if isStr P t then _ else weSlice P t (opnd m x) lo hi (opnd m) hvm KV)
        rw [if_neg (by rw [hs']; simp)]
        exact hw KV hk
      split at h
      · rename_i e1
        rw [e1] at hx
        have hx : opnd m x = .em := hx
        obtain ⟨l, r, h1, h2, h3, h4, h5⟩ := sub_rel hr h
        refine fin _ .em h1 rfl fun KV hk => ?_
        simp only [weSlice, hE.el, hE.ty, caseO_some, hx, h2, h3]
        exact ⟨by omega, by omega, hk⟩
      · rename_i ty l0 e1
        rw [e1] at hx
        split at h
        · rename_i hsz
          have hsz := Nat.eq_of_beq_eq_true hsz
          obtain ⟨l, r, h1, h2, h3, h4, h5⟩ := sub_rel hr h
          rcases hx with ⟨rfl, hx⟩ | ⟨rows, hx, hrl⟩
          · refine fin _ .em h1 (.inl ⟨by simp, rfl⟩) fun KV hk => ?_
            simp only [List.length_nil] at h3 h5
            simp only [weSlice, hE.el, hE.ty, caseO_some, hx, h2, h3]
            exact ⟨by omega, by omega, hk⟩
          · refine fin _ (.im ((rows.take r).drop l)) h1 (.inr ⟨_, rfl, (hrl.take r).drop l⟩) fun KV hk => ?_
            simp only [weSlice, hE.el, hE.ty, caseO_some, hx, h2, hrl.1, h3]
            refine ⟨h4, h5, fun row hrow => ?_, hk⟩
            obtain ⟨i, hi⟩ := List.getElem?_of_mem hrow
            obtain ⟨a, _, hre⟩ := hrl.get' hi
            rw [hre.len]; exact hsz
        · cases h
      · rename_i id e1
        rw [e1] at hx
        obtain ⟨len, hx, hlen⟩ := hx
        have key : ∀ (ty : Ty) (l0 : List ty.den) (tb : TB), getB hpm id = some tb → blen tb = some l0.length → (∀ kb, RB hp tb kb → kb.size = ty.size) → (Nat.beq ty.size de.size = true) →
            tSubW tm lo hi l0.length (K (.ow id) hpm .M) (fun l h => K (.ar id l (h - l)) hpm .M) = some z → Looks P R cf (.slice t x lo hi none) b m hp hpm hvm K z := by
          intro ty l0 tb hg hbl hks hsz h
          obtain ⟨hg', kb, hkb, hrb⟩ := hh id tb hg
          have hl := hlen tb hg'
          rw [hbl] at hl
          cases hl
          have hsz : kb.size = de.size := by rw [hks kb hrb]; exact Nat.eq_of_beq_eq_true hsz
          have gen : (tSub tm lo hi l0.length fun l h => K (.ar id l (h - l)) hpm .M) = some z → Looks P R cf (.slice t x lo hi none) b m hp hpm hvm K z := by
            intro h
            obtain ⟨l, r, h1, h2, h3, h4, h5⟩ := sub_rel hr h
            refine fin _ (.ar id (0 + l) (r - l)) h1 (by rw [Nat.zero_add]; rfl) fun KV hk => ?_
            simp only [weSlice, hE.el, hE.ty, caseO_some, hx, h2, h3, hkb]
            exact ⟨h4, h5, hsz, hk⟩
          cases lo with
          | none =>
            cases hi with
            | none =>
              refine fin _ (.ar id (0 + 0) (l0.length - 0)) h ⟨l0.length, by simp, hlen⟩ fun KV hk => ?_
              simp only [weSlice, hE.el, hE.ty, caseO_some, hx, bnd, hkb]
              exact ⟨Nat.zero_le _, Nat.le_refl _, hsz, hk⟩
            | some y => exact gen h
          | some y => exact gen h
        split at h
        · rename_i a b' ty l hg
          split at h
          · rename_i hsz; exact key ty l _ hg rfl (fun kb hrb => hrb.2.2.2.1) hsz h
          · cases h
        · rename_i a b' ty l hg
          split at h
          · rename_i hsz; exact key ty l _ hg rfl (fun kb hrb => hrb.2.2.2.1) hsz h
          · cases h
        · cases h
      · rename_i id l1 n e1
        rw [e1] at hx
        have hx : opnd m x = .ar id l1 n := hx
        have key : ∀ (ty : Ty) (tb : TB), getB hpm id = some tb → (∀ kb, RB hp tb kb → kb.size = ty.size) → (Nat.beq ty.size de.size = true) →
            (tSub tm lo hi n fun l h => K (.ar id (l1 + l) (h - l)) hpm .M) = some z → Looks P R cf (.slice t x lo hi none) b m hp hpm hvm K z := by
          intro ty tb hg hks hsz h
          obtain ⟨hg', kb, hkb, hrb⟩ := hh id tb hg
          have hsz : kb.size = de.size := by rw [hks kb hrb]; exact Nat.eq_of_beq_eq_true hsz
          obtain ⟨l, r, h1, h2, h3, h4, h5⟩ := sub_rel hr h
          refine fin _ (.ar id (l1 + l) (r - l)) h1 rfl fun KV hk => ?_
          simp only [weSlice, hE.el, hE.ty, caseO_some, hx, h2, h3, hkb]
          exact ⟨h4, h5, hsz, hk⟩
        split at h
        · rename_i a b' ty l hg
          split at h
          · rename_i hsz; exact key ty _ hg (fun kb hrb => hrb.2.2.2.1) hsz h
          · cases h
        · rename_i a b' ty l hg
          split at h
          · rename_i hsz; exact key ty _ hg (fun kb hrb => hrb.2.2.2.1) hsz h
          · cases h
        · cases h
      · cases h
    · cases h

theorem l_slice3 {t : TypeId} {x hi mx : Operand} {lo : Option Operand} (hX : XOK P X) (hr : RT hp tm m) (h : wtOp X (.slice t x lo (some hi) (some mx)) b tm hpm K = some z) :
    Looks P R cf (.slice t x lo (some hi) (some mx)) b m hp hpm hvm K z := by
  simp only [wtOp] at h
  have hx := op_rel hr x
  split at h
  · rename_i e de c ty l he e1
    rw [e1] at hx
    have hE := elem_ok hX he
    split at h
    · rename_i l0 h0 m0 q1 q2 q3
      obtain ⟨hc, h⟩ := cond_none' h
      have hc := of_decide_eq_true hc
      obtain ⟨rfl, rfl, rfl⟩ := hc
      have b1 := bnd_rel hr (d := 0) q1 (by omega)
      have b2 := bnd_rel hr (d := 0) q2 (by omega)
      have b3 := bnd_rel hr (d := 0) q3 (by omega)
      have hel : ((tyOf P t).bind (·.elem)).bind (tyOf P) = some de := by rw [hE.el]; exact hE.ty
      refine looks_T h (y := .em) rfl ?_ fun _ => rfl
      rcases hx with ⟨rfl, hx⟩ | ⟨rows, hx, hrl⟩
      · simp only [nevT, hel, hx, b1, b2, b3]; rfl
      · simp only [nevT, hel, hx, b1, b2, b3]
        rw [if_pos (by simp)]
    · cases h
  · cases h

theorem bytesX {t : TypeId} (hX : XOK P X) (h : isBytesX X t = true) : isBytes P t = true := by
  unfold isBytesX at h
  split at h
  · rename_i d hd
    split at h
    · rename_i e he
      split at h
      · rename_i de hde
        have : (tyOf P t).bind (·.elem) = some e := by rw [hX.ty t d hd]; exact he
        simp only [isBytes, this, hX.ty e de hde]; exact h
      · cases h
    · cases h
  · cases h

theorem bytes_of : ∀ {l : List Int} {rows : List (List V)}, RLx (RE (.int .u8)) l rows → bytesOfRows rows = some (strOf l)
  | [], rows, h => by rw [h.of_nil]; rfl
  | n :: l, rows, h => by
    cases rows with
    | nil => have := h.1; simp at this
    | cons r rows =>
      have hr : RE (.int .u8) n r := h.2 0 n r rfl rfl
      have hrest : RLx (RE (.int .u8)) l rows := ⟨by have := h.1; simpa using this, fun i a q h1 h2 => h.2 (i + 1) a q (by simpa using h1) (by simpa using h2)⟩
      simp only [RE] at hr
      subst hr
      simp only [bytesOfRows, byteOfRow, bytes_of hrest, strOf, List.map_cons]

theorem u8_rows (s : Str) : RLx (RE (.int .u8)) (numsOf s) (u8rows ⟨s.toArray⟩) := by
  refine ⟨by simp [u8rows, numsOf], fun i a r h1 h2 => ?_⟩
  simp only [u8rows, numsOf, List.getElem?_map, Option.map_eq_some_iff] at h1 h2
  obtain ⟨c, hc, rfl⟩ := h1
  obtain ⟨c', hc', rfl⟩ := h2
  have : c' = c := by
    have h3 : s[i]? = some c' := by simpa using hc'
    rw [hc] at h3
    exact (Option.some.inj h3).symm
  subst this
  rfl

theorem conv_int {s d : TypeId} {ds dd : TyD} {k k0 : IntKind} {n : Int} (h1 : tyOf P s = some ds) (h2 : tyOf P d = some dd) (h3 : dd.int = some k) : (pureRun P (Go.convert s d (.int k0 n))).bind ofScalar = some (.v (.int k (k.wrap n))) := by
  obtain ⟨i, u, z, hi, hu, _⟩ := tyOf_some h1
  obtain ⟨i', u', z', hi', hu', _, _, _, _, rfl⟩ := tyOf_some h2
  have hud : u' = .int k := by cases u' <;> simp [intD] at h3; rw [h3]
  subst hud
  unfold Go.convert
  rw [pure_under hu, pure_under hu']
  cases u <;> rfl

theorem conv_str {s d : TypeId} {x : ByteArray} (h1 : isStr P s = true) (h2 : isStr P d = true) : (pureRun P (Go.convert s d (.string x))).bind ofScalar = some (.v (.string x)) := by
  unfold Go.convert
  rw [pure_under (str_under h1), pure_under (str_under h2)]
  rfl

theorem conv_bytes {s d : TypeId} {x : ByteArray} (h1 : isStr P s = true) (h2 : isBytes P d = true) : (pureRun P (Go.convert s d (.string x))).bind ofScalar = none := by
  obtain ⟨e, h3, h4⟩ := str_bytes h2
  unfold Go.convert
  rw [pure_under (str_under h1), pure_under h3]
  show (pureRun P (underlying e >>= _)).bind ofScalar = none
  rw [pure_under h4]
  rfl

theorem asLh_rel {e : Ty} {x : SV} {l : List e.den} {y : V} (h : asLh hpm e x = some l) (hv : RV0 hp x y) (hh : RHm hpm hp hvm) :
    (l = [] ∧ y = .em) ∨ (∃ rows, y = .im rows ∧ RLx (RE e) l rows) ∨ ∃ id lo n kb, y = .ar id lo n ∧ hvm id = some kb ∧ kb.kind ≠ .box ∧ RLx (RE e) l ((kb.rows.take (lo + n)).drop lo) := by
  unfold asLh at h
  split at h
  · rename_i id
    obtain ⟨n, rfl, hlen⟩ := hv
    have key : ∀ (t : Ty) (l0 : List t.den) (tb : TB), getB hpm id = some tb → blen tb = some l0.length → (∀ kb, RB hp tb kb → kb.kind ≠ .box ∧ RLx (RE t) l0 kb.rows) → (if h : t = e then some (castL h l0) else none) = some l →
        (l = [] ∧ V.ar id 0 n = .em) ∨ (∃ rows, V.ar id 0 n = .im rows ∧ RLx (RE e) l rows) ∨ ∃ id' lo n' kb, V.ar id 0 n = .ar id' lo n' ∧ hvm id' = some kb ∧ kb.kind ≠ .box ∧ RLx (RE e) l ((kb.rows.take (lo + n')).drop lo) := by
      intro t l0 tb hg hbl hks h
      obtain ⟨hg', kb, hkb, hrb⟩ := hh id tb hg
      have hl := hlen tb hg'
      rw [hbl] at hl
      cases hl
      obtain ⟨q1, q2⟩ := hks kb hrb
      split at h
      · rename_i he
        cases h
        refine .inr (.inr ⟨id, 0, l0.length, kb, rfl, hkb, q1, ?_⟩)
        have : (kb.rows.take (0 + l0.length)).drop 0 = kb.rows := by rw [Nat.zero_add, ← q2.1]; simp
        rw [this]
        exact castL_rel he q2
      · cases h
    split at h
    · rename_i a b' t l0 hg; exact key t l0 _ hg rfl (fun kb hrb => ⟨by rw [hrb.1]; simp, hrb.2.2.2.2⟩) h
    · rename_i a b' t l0 hg; exact key t l0 _ hg rfl (fun kb hrb => ⟨by rw [hrb.1]; simp, hrb.2.2.2.2⟩) h
    · cases h
  · rename_i id lo n
    have hv : y = .ar id lo n := hv
    subst hv
    have key : ∀ (t : Ty) (l0 : List t.den) (tb : TB), getB hpm id = some tb → (∀ kb, RB hp tb kb → kb.kind ≠ .box ∧ RLx (RE t) l0 kb.rows) → (if h : t = e then some (((castL h l0).take (lo + n)).drop lo) else none) = some l →
        (l = [] ∧ V.ar id lo n = .em) ∨ (∃ rows, V.ar id lo n = .im rows ∧ RLx (RE e) l rows) ∨ ∃ id' lo' n' kb, V.ar id lo n = .ar id' lo' n' ∧ hvm id' = some kb ∧ kb.kind ≠ .box ∧ RLx (RE e) l ((kb.rows.take (lo' + n')).drop lo') := by
      intro t l0 tb hg hks h
      obtain ⟨hg', kb, hkb, hrb⟩ := hh id tb hg
      obtain ⟨q1, q2⟩ := hks kb hrb
      split at h
      · rename_i he
        cases h
        exact .inr (.inr ⟨id, lo, n, kb, rfl, hkb, q1, ((castL_rel he q2).take _).drop _⟩)
      · cases h
    split at h
    · rename_i a b' t l0 hg; exact key t l0 _ hg (fun kb hrb => ⟨by rw [hrb.1]; simp, hrb.2.2.2.2⟩) h
    · rename_i a b' t l0 hg; exact key t l0 _ hg (fun kb hrb => ⟨by rw [hrb.1]; simp, hrb.2.2.2.2⟩) h
    · cases h
  · rcases asL_rel h hv with h1 | h1
    · exact .inl h1
    · exact .inr (.inl h1)

theorem asLh_cell {e : Ty} {x : SV} {l : List e.den} {y : V} (h : asLh hpm e x = some l) (hv : RV2 hp x y) : RV0 hp x y := by
  cases x with
  | agg cs => simp [asLh, asL] at h
  | tup cs => simp [asLh, asL] at h
  | cl f cs => simp [asLh, asL] at h
  | _ => exact hv

theorem l_conv {s d : TypeId} {x : Operand} (hX : XOK P X) (hr : RT hp tm m) (hh : RHm hpm hp hvm) (h : wtOp X (.convert s d x) b tm hpm K = some z) : Looks P R cf (.convert s d x) b m hp hpm hvm K z := by
  simp only [wtOp, tConv] at h
  have hx := op_rel hr x
  split at h
  · rename_i k n e1
    rw [e1] at hx
    have hx := rv_int hx
    split at h
    · rename_i ds dd h1 h2
      split at h
      · rename_i k' h3
        exact looks_T h (y := .v (.int k' (k'.wrap n))) rfl (by simp only [nevT, hx]; exact conv_int (hX.ty _ _ h1) (hX.ty _ _ h2) h3) fun _ => rfl
      · cases h
    · cases h
  · rename_i v e1
    rw [e1] at hx
    have hx := rv_str hx
    split at h
    · rename_i hs
      have hs := strX hX hs
      split at h
      · rename_i hd
        have hd := bytesX hX hd
        obtain ⟨hc, h⟩ := cond_none' h
        have hc := of_decide_eq_true hc
        refine looks_M h (y := .im (u8rows ⟨v.toArray⟩)) (.inr ⟨_, rfl, u8_rows v⟩) (by simp only [nevT, hx]; exact conv_bytes hs hd) ?_ fun _ => rfl
        simp only [nevM, hx, hs, hd, Bool.true_and]
        have : (ByteArray.mk v.toArray).size ≤ maxBytes := by simpa [ByteArray.size] using hc
        rw [if_pos (by simpa using this)]
      · split at h
        · rename_i hd
          have hd := strX hX hd
          exact looks_T h (y := .v (.string ⟨v.toArray⟩)) rfl (by simp only [nevT, hx]; exact conv_str hs hd) fun _ => rfl
        · cases h
    · cases h
  · rename_i hn1 hn2
    split at h
    · rename_i hc
      simp only [Bool.and_eq_true] at hc
      have h1 := bytesX hX hc.1
      have h2 := strX hX hc.2
      split at h
      · rename_i l hl
        have hx0 := asLh_cell hl hx
        have hrel := asLh_rel hl hx0 hh
        · rcases hrel with ⟨rfl, hy⟩ | ⟨rows, hy, hrl⟩ | ⟨id, lo, n, kb, hy, hkb, hkk, hrl⟩
          · refine looks_M h (y := .v (.string ⟨(strOf []).toArray⟩)) rfl (by simp only [nevT, hy]) ?_ fun _ => rfl
            simp only [nevM, hy, h1, h2, Bool.and_self, if_true]
            rfl
          · refine looks_M h (y := .v (.string ⟨(strOf l).toArray⟩)) rfl (by simp only [nevT, hy]) ?_ fun _ => rfl
            simp only [nevM, hy, h1, h2, Bool.and_self, if_true, bytes_of hrl]
          · refine looks_M h (y := .v (.string ⟨(strOf l).toArray⟩)) rfl (by simp only [nevT, hy]) ?_ fun _ => rfl
            simp only [nevM, hy, hkb, h1, h2, Bool.and_self, bytes_of hrl]
            rw [if_pos (by simpa using hkk)]
      · cases h
    · cases h
end
end Go.Proofs.Ytcmihlhmeonmfaa.Ev
