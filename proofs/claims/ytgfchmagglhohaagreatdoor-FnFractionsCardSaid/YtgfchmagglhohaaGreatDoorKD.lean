/- What the theorem of this claim leans on, part 4. -/
import Derived.Test.YtgfchmagglhohaaGreatDoorKC
import Derived.WalkKit
import Derived.SizedLaws
import Derived.IntWalk
import Derived.Below
import Derived.Lib.LaidTab
import Derived.Lib.ItoaMem
import Derived.Lib.AppendIntMem
import Derived.Lib.Itoa
import Derived.Lib.Join
import Derived.Lib.Repeat
import Derived.Lib.Split
import Derived.Lib.SplitLaws
import Derived.Lib.IndexMore
import Derived.Lib.Strings
import Derived.Lib.AtoiAll
import Derived.Lib.AtoiErrMem
import Derived.Shelf.Strings.Builder1
import Derived.Shelf.Strings.Builder2
import Derived.Shelf.Strings.OnBuilder
import Derived.Shelf.Small.Wraps
import Derived.Shelf.Strings.Builder2Cap
import Derived.Shelf.Strconv.Atoi
import Derived.Shelf.Strconv.Itoa0
import Derived.Shelf.Strconv.Itoa1
import Derived.Shelf.LaysM
import Derived.Shelf.Strconv.Itoa2
import Derived.Shelf.Strconv.Itoa3
import Derived.Shelf.Strconv.AtoiErrFast
import Derived.Shelf.Strconv.ParseIntEmpty
import Derived.Shelf.Strconv.AtoiFail
import Derived.Shelf.Strconv.Clone
import Derived.Shelf.Strconv.SyntaxError
import Derived.Shelf.LaysC
import Derived.Shelf.Strconv.ToError
import Derived.Shelf.Strconv.AtoiErr
import Derived.Shelf.Strconv.ErrVar
import Derived.Shelf.Strconv.Lower
import Derived.Shelf.Strconv.ParseUint10
import Derived.Shelf.Strconv.ParseUint10Empty
import Derived.Shelf.Strconv.ParseUint10Any
import Derived.Shelf.Strconv.ParseInt10
import Derived.Shelf.Strconv.AtoiLong
import Derived.Shelf.Strconv.AtoiInnerAll
import Derived.Shelf.Strconv.RangeError
import Derived.Shelf.Strconv.ToErrorRange
import Derived.Shelf.Strconv.AtoiAll
import Derived.Shelf.Strconv.ErrVarAll
import Derived.Shelf.Strconv.ParseUintEmpty
import Derived.Shelf.Strconv.ParseUint10b64
import Derived.Shelf.Strconv.ParseUint10b32
import Derived.Shelf.Strconv.ParseUint10b16
import Derived.Shelf.Strconv.ParseUint10b8
import Derived.Shelf.Strconv.ParseUint10At
import Derived.Shelf.Strconv.ParseInt10At64
import Derived.Shelf.Strconv.ParseInt10At32
import Derived.Shelf.Strconv.ParseInt10At16
import Derived.Shelf.Strconv.ParseInt10At8
import Derived.Shelf.Strconv.ParseInt10All
import Derived.Shelf.Strings.Search1
import Derived.Shelf.Strings.Search2
import Derived.Shelf.Strings.Search3
import Derived.Shelf.Strings.Cut
import Derived.Shelf.Strings.Count
import Derived.Shelf.Strings.Shaped
import Derived.Shelf.Strings.Prefix
import Derived.Shelf.Strings.Split
import Derived.Shelf.Strings.SplitShaped
import Derived.Shelf.Strings.Explode
import Derived.Shelf.Bits.Mul64
import Derived.Shelf.Strings.Repeat
import Derived.Shelf.Strings.BuilderCap
import Derived.Ground.Names2Prog
import Derived.Shelf.Slices.ReverseS
import Derived.Shelf.Slices.Clone
import Derived.Shelf.Slices.SearchI
import Derived.Shelf.Slices.Cells
import Derived.Ground.SlgnProg
import Derived.Shelf.SlicesE.Clone
import Derived.Test.YtgfchmagglhohaaGreatDoorProg
import Derived.HandedShaped
import Derived.LaidMore
import Derived.Shelf.Vars
import Derived.Stop.LaidErr
import Derived.KernelRfl
section
namespace Go.Proofs.YtgfchmagglhohaaGreatDoor.Ev
open Go
set_option linter.unusedVariables false
set_option linter.unusedSimpArgs false
section
variable {P : Program} {R : Rel} {cf : Cfg} {X : TX} {g : FuncId}
def EntsOK (R : Rel) (cf : Cfg) (X : TX) : Prop := ∀ g E, findF X.ents g = some E → EntOK R E ∧ E.a.g = g ∧ cf.byref g = (slotsA E.a.params).map refA
theorem Y9 {α : Type} {op : Op} {b : Nat} {tm : TTm} {m : Tm} {hp hpm : THp} {hvm : Hp} {K : SV → THp → Cls → Option α} {z : α} (hX : XOK P X) (hisr : isR op = true) (hr : RT hp tm m) (hh : RHm hpm hp hvm) (h : wtOp X op b tm hpm K = some z) : Looks P R cf op b m hp hpm hvm K z := by
  cases op with
  | load t a => exact Y8 hX hr hh h
  | indexAddr t x i => exact Af3 hX hr hh h
  | convert s d x => exact YO hX hr hh h
  | slice t x lo hi mx =>
    cases mx with
    | none => exact Xf hX hr hh h
    | some m' =>
      cases hi with
      | none => simp [wtOp] at h
      | some h' => exact UM hX hr h
  | _ => simp [isR] at hisr
theorem Ad1 {α : Type} {op : Op} {b : Nat} {tm : TTm} {m : Tm} {hp : THp} {hv : Hp} {K : SV → THp → Cls → Option α} {z : α} (hX : XOK P X) (hE : EntsOK R cf X) (hh : RH hp hv) (hr : RT hp tm m) (h : wtOp X op b tm hp K = some z) : Done P R cf op b tm m hv K z := by
  cases op with
  | move x => exact (Aj3 hr h).done hh hr
  | assign x => exact (ZV hr h).done hh hr
  | pick c x y => exact (Ag4 hr h).done hh hr
  | alloc t => exact Aa3 hX hh hr h
  | box t x => exact Aj7 hX hh hr h
  | build t parts => exact (Ac4 hX hr h).done hh hr
  | buildSlice t len parts => exact Aa9 hX hh hr h
  | load t a => exact (Y8 hX hr hh.toM h).done hh hr
  | store t a x => exact Ae5 hX hh hr h
  | nilCheck x => exact (Ak2 hr h).done hh hr
  | binOp op t x y yt => exact (Ak5 hX hr h).done hh hr
  | unOp u t x => exact (l_un hr h).done hh hr
  | convert s d x => exact (YO hX hr hh.toM h).done hh hr
  | makeSlice t l c => exact Ah3 hX hh hr h
  | slice t x lo hi mx =>
    cases mx with
    | none => exact (Xf hX hr hh.toM h).done hh hr
    | some m' =>
      cases hi with
      | none => simp [wtOp] at h
      | some h' => exact (UM hX hr h).done hh hr
  | fieldAddr t x k => exact (Tt hX hr h).done hh hr
  | field t x k => exact (Aa4 hX hr h).done hh hr
  | indexAddr t x i => exact (Af3 hX hr hh.toM h).done hh hr
  | index t x i => exact (Ae8 hX hr h).done hh hr
  | extract x k => exact (Xp hr h).done hh hr
  | makeFunc fn first caps =>
    cases fn with
    | func f => exact (Ai4 hr h).done hh hr
    | _ => simp [wtOp] at h
  | call c =>
    obtain ⟨callee, args, ts⟩ := c
    cases callee with
    | builtin bi =>
      cases bi with
      | append => exact ZU hX hh hr h
      | len => exact (Ak4 hX hr hh.toM h).done hh hr
      | min => exact (Aj9 hr h).done hh hr
      | max => exact (Ak6 hr h).done hh hr
      | _ => simp [wtOp] at h
    | value f =>
      simp only [wtOp] at h
      split at h
      · rename_i g caps hf
        have hc := Ax hr f
        rw [hf] at hc
        obtain ⟨us, hfv, hcs⟩ := Xg hc
        obtain ⟨x, hp', cls, y, hv', h1, h2, h3, h4, h5⟩ := YE hE hh hr (RC.append (FE hr args.toList) (hcs.mono fun _ _ _ h => h.to1.to2)) h
        refine ⟨x, hp', cls, y, hv', h1, h2, h3, h4, fun KV hk => ?_⟩
        show (match opnd m f with | .cl g caps => weInv R cf g (args.toList.map (opnd m) ++ caps) hv b KV | _ => False)
        rw [hfv]
        exact h5 KV hk
      · cases h
    | _ => simp [wtOp] at h
  | _ => simp [wtOp] at h
theorem Zo {b : Nat} : ∀ (hp : THp) (id : Nat), getB (maskT b hp) id = if id < b then getB hp id else none
  | [], id => by simp [maskT, getB]
  | (k, x) :: l, id => by
    have ih := Zo (b := b) l id
    unfold maskT at ih ⊢
    rw [List.filter_cons]
    by_cases hk : k < b
    · have : Nat.blt k b = true := Nat.ble_eq_true_of_le hk
      simp only [this, if_true]
      rw [Am, Am]
      by_cases hi : id = k
      · subst hi; rw [if_pos rfl, if_pos rfl, if_pos hk]
      · rw [if_neg hi, if_neg hi]; exact ih
    · have : Nat.blt k b = false := by
        cases hb : Nat.blt k b with
        | false => rfl
        | true => exact absurd (Nat.lt_of_succ_le (Nat.le_of_ble_eq_true hb)) hk
      simp only [this, Bool.false_eq_true, if_false]
      rw [Am]
      by_cases hi : id = k
      · subst hi; rw [if_neg hk] at ih ⊢; exact ih
      · rw [if_neg hi]; exact ih
theorem Ae0 {α : Type} {draw : Bool} {op : Op} {b : Nat} {tm : TTm} {m : Tm} {hp : THp} {hv : Hp} {K : SV → THp → Cls → Option α} {z : α} (hX : XOK P X) (hE : EntsOK R cf X) (hh : RH hp hv) (hr : RT hp tm m) (h : wtAt X draw op b tm hp K = some z) :
    ∃ x hp' cls y hv', K x hp' cls = some z ∧ RV2 hp' x y ∧ RH hp' hv' ∧ RT hp' tm m ∧ ∀ KV : Cont, KV y hv' cls → opAt P R cf draw op b (opnd m) hv KV := by
  unfold wtAt at h
  cases hd : draw && isR op with
  | true =>
    rw [hd] at h
    have hi : isR op = true := by simp only [Bool.and_eq_true] at hd; exact hd.2
    obtain ⟨x, y, cls, h1, h2, h3⟩ := Y9 (R := R) (cf := cf) (hp := hp) (hpm := maskT b hp) (hvm := mask b hv) hX hi hr (fun id bb hb => by
      rw [Zo] at hb
      split at hb
      · rename_i hlt
        obtain ⟨k, hk, hrb⟩ := hh id bb hb
        exact ⟨hb, k, by simp only [mask, if_pos hlt, hk], hrb⟩
      · cases hb) h
    refine ⟨x, hp, cls, y, hv, h1, h2, hh, hr, fun KV hk => ?_⟩
    unfold opAt
    rw [hd]
    exact h3 (fun x _ cls => KV x hv cls) hk
  | false =>
    rw [hd] at h
    obtain ⟨x, hp', cls, y, hv', h1, h2, h3, h4, h5⟩ := Ad1 hX hE hh hr h
    refine ⟨x, hp', cls, y, hv', h1, h2, h3, h4, fun KV hk => ?_⟩
    unfold opAt
    rw [hd]
    exact h5 KV hk
theorem Xb {hp : THp} {tm : TTm} {m : Tm} {x : SV} {y : V} (h : RT hp tm m) (hx : RV2 hp x y) (dst : Option Tmp) : RT hp (putTm tm dst x) (put m dst y) := by
  cases dst with
  | none => exact h
  | some d =>
    intro t
    simp only [putTm, put]
    rw [Ds]
    unfold upd
    split
    · exact hx
    · exact h t
theorem Z1 {hp : THp} {tm : TTm} {m : Tm} {op : Op} (hr : RT hp tm m) (h : sureOp tm op = true) : opIds m op = idsOp tm op := by
  unfold opIds idsOp
  unfold sureOp at h
  generalize op.operands.toList = l at h ⊢
  induction l with
  | nil => rfl
  | cons y l ih =>
    simp only [List.map_cons, List.all_cons, Bool.and_eq_true] at h
    simp only [List.flatMap_cons, List.map_cons]
    rw [ih h.2, (Er h.1 (Ax hr y)).2.2.1]
theorem Lc {α β : Type} {f g : α → List β} : ∀ {l : List α}, (∀ x ∈ l, f x = g x) → l.flatMap f = l.flatMap g
  | [], _ => rfl
  | x :: l, h => by
    rw [List.flatMap_cons, List.flatMap_cons, h x (List.mem_cons_self ..), Lc fun y hy => h y (List.mem_cons_of_mem _ hy)]
theorem Uw {hp : THp} {hv : Hp} {tm : TTm} {m : Tm} {op : Op} {ids : List Nat} (hE : EntsOK R cf X) (hh : RH hp hv) (hr : RT hp tm m) (h : touchedT X op tm hp = some ids) : touched cf op (opnd m) hv = some ids := by
  unfold touchedT at h
  split at h
  · rename_i t a x
    split at h
    · rename_i hc
      cases h
      simp only [Bool.and_eq_true] at hc
      simp only [touched]
      rw [(Er hc.1 (Ax hr a)).2.2.1, (Er hc.2 (Ax hr x)).2.2.1]
    · cases h
  · rename_i f args tys
    split at h
    case h_2 => cases h
    rename_i g caps hf
    split at h
    case h_2 => cases h
    rename_i E hfe
    obtain ⟨_, _, hbr⟩ := hE g E hfe
    split at h
    case h_2 => cases h
    rename_i args' hargs'
    split at h
    case isFalse => cases h
    rename_i s1
    split at h
    case h_2 => cases h
    rename_i o ho
    cases h
    have hc := Ax hr f
    rw [hf] at hc
    obtain ⟨us, hfv, hcs⟩ := Xg hc
    obtain ⟨ys', hV, hargs2, hlent⟩ := J9 hh hargs' (RC.append (FE hr args.toList) (hcs.mono fun _ _ _ h => h.to1.to2))
    obtain ⟨a1, a2, a3, a4⟩ := RC.all1 s1 hargs2
    rw [← hbr] at hV hlent
    have hclose : close hv 64 (ys'.flatMap refs1) [] = some o := by rw [a2]; exact D9 hh _ _ _ ho
    have hcloseC : closeC hv (ys'.flatMap refs1) = some o := by
      unfold closeC
      rw [hclose]
      simp only
      rw [if_pos (by rw [a2]; exact Kq hh ho)]
    simp only [touched, hfv, hV, hcloseC, hlent]
  · rename_i t n parts
    split at h
    · rename_i hc
      cases h
      simp only [touched]
      congr 1
      refine Lc fun p hp => ?_
      exact (Er (List.all_eq_true.1 hc p hp) (Ax hr p.2)).2.2.1
    · cases h
  · cases h
theorem Aa7 {hp : THp} {hv : Hp} {tm : TTm} {m : Tm} {all : List Oper} {i : Nat} (hE : EntsOK R cf X) (hh : RH hp hv) (hr : RT hp tm m) (h : farT X all tm hp i = true) : farOK cf all m hv i = true := by
  unfold farT at h
  unfold farOK
  cases ha : all[i]? with
  | none => rw [ha] at h; cases h
  | some a =>
    rw [ha] at h
    simp only [Bool.and_eq_true] at h ⊢
    refine ⟨h.1, ?_⟩
    replace h := h.2
    cases ht : touchedT X a.op tm hp with
    | none => rw [ht] at h; cases h
    | some ids =>
      rw [ht] at h
      rw [Uw hE hh hr ht]
      simp only at h ⊢
      refine List.all_eq_true.2 fun j hj => ?_
      have h4 := List.all_eq_true.1 h j hj
      cases ho : all[j]? with
      | none => simp
      | some o =>
        rw [ho] at h4
        simp only [Bool.or_eq_true, Bool.and_eq_true] at h4 ⊢
        rcases h4 with h4 | h4 | ⟨h4, h5, h6⟩
        · exact .inl h4
        · exact .inr (.inl h4)
        · exact .inr (.inr ⟨h4, by rw [Z1 hr h5]; exact h6⟩)
theorem Af8 {hp : THp} {hv : Hp} {tm : TTm} {m : Tm} {all : List Oper} {i : Nat} (hE : EntsOK R cf X) (hh : RH hp hv) (hr : RT hp tm m) (h : (eOK all i || farT X all tm hp i) = true) : (eOK all i || farOK cf all m hv i) = true := by
  simp only [Bool.or_eq_true] at h ⊢
  exact h.imp (fun h => h) (Aa7 hE hh hr)
theorem YW {α : Type} {draw ok ok' : Bool} {cls : Cls} {A : Option α} {z : α} (hok : ok = true → ok' = true) (h : drawnT draw ok cls A = some z) : A = some z ∧ ∀ B : Prop, B → drawn draw ok' cls B := by
  cases draw <;> cases cls <;> first | exact ⟨h, fun B hb => hb⟩ | (obtain ⟨h1, h2⟩ := Bu h; exact ⟨h2, fun B hb => ⟨hok h1, hb⟩⟩)
theorem OR {α : Type} {all : List Oper} {draw : Bool} (hX : XOK P X) (hE : EntsOK R cf X) : ∀ (l : List Oper) (i : Nat) {st : TSt} {s : St} {K : TSt → Option α} {z : α}, RS st s → wtOps X all draw l i st K = some z →
    ∃ st' s', K st' = some z ∧ RS st' s' ∧ st'.c = st.c ∧ ∀ KV : St → Prop, KV s' → weOps P R cf all draw l i s KV
  | [], i, st, s, K, z, hs, h => ⟨st, s, h, hs, rfl, fun KV hk => hk⟩
  | o :: l, i, st, s, K, z, hs, h => by
    have go : ∀ (tm : TTm), RT st.hp tm s.tm → (wtAt X draw o.op (16 * (st.c + i)) tm st.hp fun x hp cls => drawnT draw (eOK all i || farT X all tm st.hp i) cls (wtOps X all draw l (i + 1) { tm := putTm tm o.dst x, hp := hp, c := st.c } K)) = some z →
        ∃ st' s', K st' = some z ∧ RS st' s' ∧ st'.c = st.c ∧ ∀ KV : St → Prop, KV s' → opAt P R cf draw o.op (16 * (s.c + i)) (opnd s.tm) s.hp fun x hp cls => drawn draw (eOK all i || farOK cf all s.tm s.hp i) cls (weOps P R cf all draw l (i + 1) { tm := put s.tm o.dst x, hp := hp, c := s.c } KV) := by
      intro tm hr h
      obtain ⟨x, hp', cls, y, hv', h1, h2, h3, h4, h5⟩ := Ae0 (R := R) (cf := cf) hX hE hs.hp hr h
      obtain ⟨h6, h7⟩ := YW (Af8 hE hs.hp hr) h1
      obtain ⟨st', s', q1, q2, q3, q4⟩ := OR hX hE l (i + 1) (st := { tm := putTm tm o.dst x, hp := hp', c := st.c }) (s := { tm := put s.tm o.dst y, hp := hv', c := s.c }) ⟨Xb h4 h2 o.dst, h3, hs.c⟩ h6
      exact ⟨st', s', q1, q2, q3, fun KV hk => by rw [hs.c]; exact h5 _ (by have := h7 _ (q4 KV hk); rw [hs.c] at this; exact this)⟩
    have no : ∀ (tm : TTm), RT st.hp tm s.tm → wtOps X all draw l (i + 1) { tm := putTm tm o.dst (.tup []), hp := st.hp, c := st.c } K = some z →
        ∃ st' s', K st' = some z ∧ RS st' s' ∧ st'.c = st.c ∧ ∀ KV : St → Prop, KV s' → weOps P R cf all draw l (i + 1) { tm := put s.tm o.dst (.tup []), hp := s.hp, c := s.c } KV := by
      intro tm hr h
      exact OR hX hE l (i + 1) (st := { tm := putTm tm o.dst (.tup []), hp := st.hp, c := st.c }) (s := { tm := put s.tm o.dst (.tup []), hp := s.hp, c := s.c }) ⟨Xb (x := .tup []) (y := .tup []) hr ⟨[], rfl, trivial⟩ o.dst, hs.hp, hs.c⟩ h
    simp only [wtOps] at h
    cases hg : o.guard with
    | none =>
      rw [hg] at h
      obtain ⟨st', s', q1, q2, q3, q4⟩ := go st.tm hs.tm h
      exact ⟨st', s', q1, q2, q3, fun KV hk => by unfold weOps; rw [hg]; exact q4 KV hk⟩
    | some jw =>
      obtain ⟨j, want⟩ := jw
      rw [hg] at h
      simp only at h
      cases hd : (all[j]?).bind (·.dst) with
      | none => rw [hd] at h; cases h
      | some d =>
        rw [hd] at h
        simp only at h
        have htd := hs.tm d
        have fin : ∀ w : Bool, guardC (s.tm d) want = some w → (∃ st' s', K st' = some z ∧ RS st' s' ∧ st'.c = st.c ∧ ∀ KV : St → Prop, KV s' → (if w = true then opAt P R cf draw o.op (16 * (s.c + i)) (opnd s.tm) s.hp fun x hp cls => drawn draw (eOK all i || farOK cf all s.tm s.hp i) cls (weOps P R cf all draw l (i + 1) { tm := put s.tm o.dst x, hp := hp, c := s.c } KV) else weOps P R cf all draw l (i + 1) { tm := put s.tm o.dst (.tup []), hp := s.hp, c := s.c } KV)) →
            ∃ st' s', K st' = some z ∧ RS st' s' ∧ st'.c = st.c ∧ ∀ KV : St → Prop, KV s' → weOps P R cf all draw (o :: l) i s KV := by
          intro w hw ⟨st', s', q1, q2, q3, q4⟩
          refine ⟨st', s', q1, q2, q3, fun KV hk => ?_⟩
          unfold weOps
          rw [hg]
          simp only [hd, Option.map_some, Ah, hw]
          exact q4 KV hk
        have same : ∀ t : Bool, s.tm d = .v (.bool t) → RT st.hp ((d, .bool t) :: st.tm) s.tm := by
          intro t ht t'
          rw [Ds]
          split
          · rename_i he; rw [he, ht]; rfl
          · exact hs.tm t'
        split at h
        · rename_i t hv
          rw [hv] at htd
          have htd := Jq htd
          cases want with
          | true =>
            simp only at h
            cases t with
            | true =>
              obtain ⟨st', s', q1, q2, q3, q4⟩ := go _ (same true htd) h
              exact fin true (by rw [htd]; rfl) ⟨st', s', q1, q2, q3, fun KV hk => by rw [if_pos rfl]; exact q4 KV hk⟩
            | false =>
              obtain ⟨st', s', q1, q2, q3, q4⟩ := no _ (same false htd) h
              exact fin false (by rw [htd]; rfl) ⟨st', s', q1, q2, q3, fun KV hk => by rw [if_neg (by simp)]; exact q4 KV hk⟩
          | false =>
            simp only at h
            cases t with
            | true =>
              obtain ⟨st', s', q1, q2, q3, q4⟩ := no _ (same true htd) h
              exact fin false (by rw [htd]; rfl) ⟨st', s', q1, q2, q3, fun KV hk => by rw [if_neg (by simp)]; exact q4 KV hk⟩
            | false =>
              obtain ⟨st', s', q1, q2, q3, q4⟩ := go _ (same false htd) h
              exact fin true (by rw [htd]; rfl) ⟨st', s', q1, q2, q3, fun KV hk => by rw [if_pos rfl]; exact q4 KV hk⟩
        · rename_i hv
          rw [hv] at htd
          obtain ⟨us, hus, hc⟩ := (show ∃ us, s.tm d = .tup us ∧ RC (RV1 st.hp) [] us from htd)
          cases us with
          | cons a l => exact hc.elim
          | nil =>
            obtain ⟨st', s', q1, q2, q3, q4⟩ := no _ hs.tm h
            exact fin false (by rw [hus]; rfl) ⟨st', s', q1, q2, q3, fun KV hk => by rw [if_neg (by simp)]; exact q4 KV hk⟩
        · cases h
structure CfOK (cf : Cfg) (g : FuncId) (X : TX) : Prop where
  live : ∀ r an, findN X.ann.heads r = some an → cf.live g r = keepI an
  out : ∀ r outs ex an, findN X.ann.outs r = some outs → findE outs ex = some an → cf.out g r ex = keepI an
  join : ∀ r an, findN X.ann.joins r = some an → cf.join g r = some (keepI an)
  nojoin : ∀ r, findN X.ann.joins r = none → cf.join g r = none
  res : cf.res g = (keepI X.ann.res).map (·.2)
  par : cf.par g = keepI X.ann.params
  rts : cf.rts g = mdsL (rtsT (blksI X.ann.res) X.ann.e 0 (blksI X.ann.res))
theorem Rg {a b : Ex} (h : exEq a b = true) : a = b := by
  cases a <;> cases b <;> simp [exEq] at h
  · rfl
  · rw [h]
  · rfl
theorem WW {α : Type} {e : Nat} {Q : TPost α} {ex : Ex} {st : TSt} {z : α} : ∀ {l : List (Ex × List Item)} {d : denX l}, injX e l ex st = some d → elimX Q l d = some z → ∃ an dd, findE l ex = some an ∧ decSt e an st = some dd ∧ Q ex (encSt an dd) = some z
  | [], d, h, _ => by cases h
  | [a], d, h, hz => by
    simp only [injX] at h
    obtain ⟨h1, h2⟩ := Bu h
    have := Rg h1
    subst this
    refine ⟨a.2, d, ?_, h2, hz⟩
    show cond (exEq a.1 a.1) (some a.2) _ = _
    rw [h1]; rfl
  | a :: b :: l, d, h, hz => by
    simp only [injX] at h
    cases hc : exEq a.1 ex with
    | true =>
      rw [hc] at h
      simp only [cond_true, Option.map_eq_some_iff] at h
      obtain ⟨dd, h1, rfl⟩ := h
      have := Rg hc
      subst this
      refine ⟨a.2, dd, ?_, h1, hz⟩
      show cond (exEq a.1 a.1) (some a.2) _ = _
      rw [hc]; rfl
    | false =>
      rw [hc] at h
      simp only [cond_false, Option.map_eq_some_iff] at h
      obtain ⟨dd, h1, rfl⟩ := h
      obtain ⟨an, d2, q1, q2, q3⟩ := WW (l := b :: l) h1 hz
      refine ⟨an, d2, ?_, q2, q3⟩
      show cond (exEq a.1 ex) (some a.2) (findE (b :: l) ex) = _
      rw [hc]; exact q1
theorem CK (hX : XOK P X) (hE : EntsOK R cf X) (hcf : CfOK cf g X) : ∀ (c : Code) {α : Type} {st : TSt} {s : St} {Q : TPost α} {z : α}, RS st s → wtC X c st Q = some z →
    ∃ ex st' s', Q ex st' = some z ∧ RS st' s' ∧ ∀ QV : Post, QV ex s' → we P R cf g X.e c s QV
  | .skip, α, st, s, Q, z, hs, h => ⟨.normal, st, s, h, hs, fun QV hq => hq⟩
  | .exit id, α, st, s, Q, z, hs, h => ⟨.exit id, st, s, h, hs, fun QV hq => hq⟩
  | .ret, α, st, s, Q, z, hs, h => ⟨.ret, st, s, h, hs, fun QV hq => hq⟩
  | .region id ops draw, α, st, s, Q, z, hs, h => by
    obtain ⟨st', s', h1, h2, h3, h4⟩ := OR (R := R) (cf := cf) hX hE _ 0 hs h
    refine ⟨.normal, _, { s' with c := s'.c + ops.size }, h1, ⟨h2.tm, h2.hp, by show s'.c + _ = st'.c + _; rw [h2.c]⟩, fun QV hq => ?_⟩
    unfold we
    exact h4 _ hq
  | .seq a b, α, st, s, Q, z, hs, h => by
    unfold wtC at h
    cases hj : findN X.ann.joins (rid b) with
    | none =>
      rw [hj] at h
      simp only at h
      obtain ⟨ex, st1, s1, h1, h2, h3⟩ := CK hX hE hcf a hs h
      cases ex with
      | normal =>
        obtain ⟨ex, st2, s2, q1, q2, q3⟩ := CK hX hE hcf b h2 h1
        exact ⟨ex, st2, s2, q1, q2, fun QV hq => by unfold we; exact h3 _ (by show meet _ _ _ _; rw [hcf.nojoin _ hj]; exact q3 QV hq)⟩
      | exit id => exact ⟨.exit id, st1, s1, h1, h2, fun QV hq => by unfold we; exact h3 _ hq⟩
      | ret => exact ⟨.ret, st1, s1, h1, h2, fun QV hq => by unfold we; exact h3 _ hq⟩
    | some an =>
      rw [hj] at h
      simp only at h
      obtain ⟨w, hw, hz⟩ := AJ h
      obtain ⟨ex, st1, s1, h1, h2, h3⟩ := CK hX hE hcf a hs hw
      have other : ∀ ex', ex' ≠ .normal → ex = ex' → (Q ex' st1).map Sum.inl = some w → ∃ ex st' s', Q ex st' = some z ∧ RS st' s' ∧ ∀ QV : Post, QV ex s' → we P R cf g X.e (a.seq b) s QV := by
        intro ex' hne he h1
        subst he
        simp only [Option.map_eq_some_iff] at h1
        obtain ⟨r, hr, rfl⟩ := h1
        simp only [Sum.elim_inl, Option.some.injEq] at hz
        subst hz
        refine ⟨ex, st1, s1, hr, h2, fun QV hq => ?_⟩
        unfold we
        refine h3 _ ?_
        cases ex with
        | normal => exact absurd rfl hne
        | exit id => exact hq
        | ret => exact hq
      cases ex with
      | normal =>
        simp only [Option.map_eq_some_iff] at h1
        obtain ⟨d, hd, rfl⟩ := h1
        simp only [Sum.elim_inr] at hz
        obtain ⟨s2, c1, c2⟩ := GH h2 hd
        obtain ⟨ex, st3, s3, q1, q2, q3⟩ := CK hX hE hcf b c2 hz
        exact ⟨ex, st3, s3, q1, q2, fun QV hq => by unfold we; exact h3 _ (by show meet _ _ _ _; rw [hcf.join _ _ hj]; exact c1 _ (q3 QV hq))⟩
      | exit id => exact other (.exit id) (by simp) rfl h1
      | ret => exact other .ret (by simp) rfl h1
  | .cond c x y, α, st, s, Q, z, hs, h => by
    unfold wtC at h
    have hc := Ax hs.tm c
    split at h
    · rename_i t ht
      rw [ht] at hc
      have hc := Jq hc
      cases t with
      | true =>
        obtain ⟨ex, st1, s1, h1, h2, h3⟩ := CK hX hE hcf x hs h
        exact ⟨ex, st1, s1, h1, h2, fun QV hq => by unfold we; rw [hc]; exact h3 QV hq⟩
      | false =>
        obtain ⟨ex, st1, s1, h1, h2, h3⟩ := CK hX hE hcf y hs h
        exact ⟨ex, st1, s1, h1, h2, fun QV hq => by unfold we; rw [hc]; exact h3 QV hq⟩
    · cases h
  | .block id c, α, st, s, Q, z, hs, h => by
    unfold wtC at h
    obtain ⟨ex, st1, s1, h1, h2, h3⟩ := CK hX hE hcf c hs h
    cases ex with
    | normal => exact ⟨.normal, st1, s1, h1, h2, fun QV hq => by unfold we; exact h3 _ hq⟩
    | ret => exact ⟨.ret, st1, s1, h1, h2, fun QV hq => by unfold we; exact h3 _ hq⟩
    | exit j =>
      simp only at h1
      cases hj : Nat.beq j id with
      | true =>
        rw [hj] at h1
        have hji := Nat.eq_of_beq_eq_true hj
        exact ⟨.normal, st1, s1, h1, h2, fun QV hq => by unfold we; exact h3 _ (by show (if j = id then _ else _); rw [if_pos hji]; exact hq)⟩
      | false =>
        rw [hj] at h1
        have hji : j ≠ id := fun he => by subst he; rw [Nat.beq_refl] at hj; cases hj
        exact ⟨.exit j, st1, s1, h1, h2, fun QV hq => by unfold we; exact h3 _ (by show (if j = id then _ else _); rw [if_neg hji]; exact hq)⟩
  | .loop c, α, st, s, Q, z, hs, h => by
    unfold wtC at h
    split at h
    · rename_i an outs ha ho
      obtain ⟨d0, hd0, h⟩ := AJ h
      obtain ⟨w, hw, hz⟩ := AJ h
      obtain ⟨n, hn⟩ := HA hw
      obtain ⟨s0, c1, c2⟩ := GH hs hd0
      have key : ∀ (n : Nat) (d : denI an) (s0 : St), loopF (fun d => wtC X c (encSt an d) fun ex s => match ex with | .normal => (decSt X.e an s).map .inl | ex => (injX X.e outs ex s).map .inr) n d = some w → RS (encSt an d) s0 →
          ∃ ex st' s', Q ex st' = some z ∧ RS st' s' ∧ ∀ QV : Post, QV ex s' → loopAt P R cf g X.e c s0 QV := by
        intro n
        induction n with
        | zero => intro d s0 h _; cases h
        | succ n ih =>
          intro d s0 h hs0
          simp only [loopF] at h
          obtain ⟨o, hb, h⟩ := AJ h
          obtain ⟨ex, st1, s1, h1, h2, h3⟩ := CK hX hE hcf c hs0 hb
          have other : ∀ ex', ex' ≠ .normal → ex = ex' → (injX X.e outs ex' st1).map Sum.inr = some o → ∃ ex st' s', Q ex st' = some z ∧ RS st' s' ∧ ∀ QV : Post, QV ex s' → loopAt P R cf g X.e c s0 QV := by
            intro ex' hne he h1
            subst he
            simp only [Option.map_eq_some_iff] at h1
            obtain ⟨w', hw', rfl⟩ := h1
            simp only [Sum.elim_inr, Option.some.injEq] at h
            subst h
            obtain ⟨an2, dd, q1, q2, q3⟩ := WW hw' hz
            obtain ⟨s2, e1, e2⟩ := GH h2 q2
            refine ⟨ex, _, s2, q3, e2, fun QV hq => ?_⟩
            rw [OH]
            refine h3 _ ?_
            cases ex with
            | normal => exact absurd rfl hne
            | exit id => show canon _ _ _ _; rw [hcf.out _ _ _ _ ho q1]; exact e1 _ hq
            | ret => show canon _ _ _ _; rw [hcf.out _ _ _ _ ho q1]; exact e1 _ hq
          cases ex with
          | normal =>
            simp only [Option.map_eq_some_iff] at h1
            obtain ⟨d', hd', rfl⟩ := h1
            simp only [Sum.elim_inl] at h
            obtain ⟨s2, e1, e2⟩ := GH h2 hd'
            obtain ⟨ex, st3, s3, q1, q2, q3⟩ := ih d' s2 h e2
            refine ⟨ex, st3, s3, q1, q2, fun QV hq => ?_⟩
            rw [OH]
            refine h3 _ ?_
            show canon _ _ _ _
            rw [hcf.live _ _ ha]
            exact e1 _ (q3 QV hq)
          | exit id => exact other (.exit id) (by simp) rfl h1
          | ret => exact other .ret (by simp) rfl h1
      obtain ⟨ex, st', s', q1, q2, q3⟩ := key n d0 s0 hn c2
      exact ⟨ex, st', s', q1, q2, fun QV hq => by rw [Af0, hcf.live _ _ ha]; exact c1 _ (q3 QV hq)⟩
    · cases h
  | .scope c, α, st, s, Q, z, hs, h => by simp [wtC] at h
  | .label l, α, st, s, Q, z, hs, h => by simp [wtC] at h
  | .goto l, α, st, s, Q, z, hs, h => by simp [wtC] at h
  | .rangeFunc .., α, st, s, Q, z, hs, h => by simp [wtC] at h
  | .refuse _, α, st, s, Q, z, hs, h => by simp [wtC] at h
end
end Go.Proofs.YtgfchmagglhohaaGreatDoor.Ev

end
section
namespace Go.Proofs.YtgfchmagglhohaaGreatDoor.Ev
open Go
set_option linter.unusedVariables false
set_option linter.unusedSimpArgs false
section
variable {P : Program} {X : TX} {g : FuncId}
structure FnOK (P : Program) (cf : Cfg) (X : TX) (fn : Func) (c : Code) : Prop where
  get : P.funcs[X.ann.g]? = some fn
  body : fn.body = some c
  ok : bodyOK fn c (slotsI X.ann.params).length = true
  ext : cf.isExt X.ann.g = false
theorem Ab {cf : Cfg} {ext : Rel} {fn : Func} {c : Code} {F : denI X.ann.params → Option (denI X.ann.res)} (hX : XOK P X) (hE : EntsOK (Runs P cf ext) cf X) (hcf : CfOK cf X.ann.g X) (hf : FnOK P cf X fn c)
    (hF : ∀ x, wtF X fn x = F x) : EntOK (Runs P cf ext) ⟨X.ann, F⟩ := by
  intro x y args blks st0 hy hs0 hd hid hl he _
  have hy : wtF X fn x = some y := by rw [hF]; exact hy
  unfold wtF at hy
  rw [hf.body] at hy
  simp only at hy
  have he : (args.flatMap refs1).eraseDups.length = X.e := he
  obtain ⟨s0, k1, hs⟩ := GH hs0 hd
  obtain ⟨ex, st', s', h1, h2, h3⟩ := CK hX hE hcf c hs hy
  have main : ∀ ex', ex = ex' → (∀ i, ex' ≠ .exit i) → (tRes X st'.tm st'.hp fn.results.toList fun xs => outT X.ann.res X.e st' xs) = some y →
      ∃ r blks', Runs P cf ext X.ann.g args blks r blks' ∧ ResRel X.ann.res y r blks' := by
    intro ex' hex hno h1
    obtain ⟨r, blks', q1, q2⟩ := Zj (e := X.e) (res := X.ann.res) (rs := fn.results.toList) (y := y) hX h2 h1
    refine ⟨r, blks', Runs.intro hf.ext hf.get hf.body (by rw [hl]; exact hf.ok) hid ?_, q2⟩
    rw [he, hcf.par]
    refine k1 _ (h3 _ ?_)
    rw [hcf.res, hcf.rts]
    subst hex
    cases ex with
    | exit i => exact absurd rfl (hno i)
    | normal => exact q1
    | ret => exact q1
  cases ex with
  | exit i => cases h1
  | normal => exact main .normal rfl (by simp) h1
  | ret => exact main .ret rfl (by simp) h1
theorem ZZ {R : Rel} {cf : Cfg} {X : TX} (h : X.ents = []) : EntsOK R cf X := by
  intro g E hE
  rw [h] at hE
  cases hE
def AllEnt (R : Rel) (cf : Cfg) : List Ent → Prop
  | [] => True
  | E :: l => (EntOK R E ∧ cf.byref E.a.g = (slotsA E.a.params).map refA) ∧ AllEnt R cf l
theorem Ad {R : Rel} {cf : Cfg} {X : TX} (h : AllEnt R cf X.ents) : EntsOK R cf X := by
  intro g E hE
  generalize X.ents = l at h hE
  induction l with
  | nil => cases hE
  | cons a l ih =>
    simp only [findF] at hE
    cases hg : Nat.beq a.a.g g with
    | true =>
      rw [hg] at hE
      simp only [cond_true, Option.some.injEq] at hE
      subst hE
      have := Nat.eq_of_beq_eq_true hg
      subst this
      exact ⟨h.1.1, rfl, h.1.2⟩
    | false =>
      rw [hg] at hE
      exact ih h.2 hE
theorem Ai {tab : List FAnn} {ext : FuncId → Bool} {X : TX} (h : findA tab X.ann.g = some X.ann) : CfOK (cfOf tab ext) X.ann.g X where
  live r an hr := by simp only [cfOf, h, Option.bind_some, hr]
  out r outs ex an hr he := by simp only [cfOf, h, Option.bind_some, hr, he]
  join r an hr := by simp only [cfOf, h, Option.bind_some, hr]
  nojoin r hr := by simp only [cfOf, h, Option.bind_some, hr]
  res := by simp only [cfOf, h]
  par := by simp only [cfOf, h]
  rts := by simp only [cfOf, h]
end
end Go.Proofs.YtgfchmagglhohaaGreatDoor.Ev

end
section
namespace Go.Proofs.YtgfchmagglhohaaGreatDoor.Ev
open Go Go.RowKit
set_option linter.unusedVariables false
set_option linter.unusedSimpArgs false
def shT : Sh → Ty
  | .int k => .int k
  | .str => .str
  | .bool => .bool
  | .sl _ e => .sl (shT e)
  | .pair a b => .pair (shT a) (shT b)
def WFS : (s : Sh) → (shT s).den → Prop
  | .int k, n => (Lit.int k n).wf = true
  | .str, s => s.length ≤ maxBytes
  | .bool, _ => True
  | .sl bytes e, l => (∀ a ∈ (show List (shT e).den from l), WFS e a) ∧ (show List (shT e).den from l).length * bytes ≤ maxBytes
  | .pair a b, x => WFS a (show (shT a).den × (shT b).den from x).1 ∧ WFS b (show (shT a).den × (shT b).den from x).2
theorem Xm : ∀ {s : Sh} {xs : List V}, DV s xs → ∃ x, RE (shT s) x xs ∧ WFS s x
  | .int k, xs, h => by obtain ⟨n, rfl, hn⟩ := h; exact ⟨n, rfl, hn⟩
  | .str, xs, h => by obtain ⟨s, rfl, hs⟩ := h; exact ⟨s.data.toList, by simp [RE, shT], by show s.data.toList.length ≤ maxBytes; rw [Array.length_toList]; exact hs⟩
  | .bool, xs, h => by obtain ⟨b, rfl⟩ := h; exact ⟨b, rfl, trivial⟩
  | .sl bytes e, xs, h => by
    obtain ⟨rows, rfl, hr, hb⟩ := h
    have key : ∀ rows : List (List V), (∀ r ∈ rows, DV e r) → ∃ l : List (shT e).den, RLx (RE (shT e)) l rows ∧ ∀ a ∈ l, WFS e a := by
      intro rows
      induction rows with
      | nil => intro _; exact ⟨[], RLx.nil, by simp⟩
      | cons r rows ih =>
        intro h
        obtain ⟨a, h1, h2⟩ := Xm (h r (by simp))
        obtain ⟨l, h3, h4⟩ := ih fun r' hr' => h r' (by simp [hr'])
        refine ⟨a :: l, RLx.cons h1 h3, fun b hb => ?_⟩
        rcases List.mem_cons.1 hb with rfl | hb
        · exact h2
        · exact h4 b hb
    obtain ⟨l, h1, h2⟩ := key rows hr
    exact ⟨l, .inr ⟨rows, rfl, h1⟩, h2, by rw [← h1.1]; exact hb⟩
  | .pair a b, xs, h => by
    obtain ⟨l, r, rfl, h1, h2⟩ := h
    obtain ⟨x, q1, q2⟩ := Xm h1
    obtain ⟨y, q3, q4⟩ := Xm h2
    exact ⟨(x, y), ⟨l, r, rfl, q1, q3⟩, q2, q4⟩
def acOf : Sh → AC
  | .int k => .int k
  | .str => .str
  | .bool => .bool
  | .sl _ e => .im (shT e)
  | .pair _ _ => .bool
def oneS : Sh → Bool
  | .pair _ _ => false
  | _ => true
def WFC : (s : Sh) → (acOf s).den → Prop
  | .int k, n => WFS (.int k) n
  | .str, s => WFS .str s
  | .bool, b => True
  | .sl n e, l => WFS (.sl n e) l
  | .pair _ _, _ => True
theorem Ad7 {s : Sh} {x : V} (ho : oneS s = true) (h : DV s [x]) : ∃ d : (acOf s).den, WFC s d ∧ ∀ hp, RV2 hp (encC (acOf s) d) x := by
  obtain ⟨d, h1, h2⟩ := Xm h
  cases s with
  | int k =>
    have h1 : [x] = [V.v (.int k d)] := h1
    cases h1
    exact ⟨d, h2, fun hp => rfl⟩
  | str =>
    have h1 : [x] = [V.v (.string ⟨Array.mk d⟩)] := h1
    cases h1
    exact ⟨d, h2, fun hp => rfl⟩
  | bool =>
    have h1 : [x] = [V.v (.bool d)] := h1
    cases h1
    exact ⟨d, trivial, fun hp => rfl⟩
  | sl n e =>
    refine ⟨d, h2, fun hp => ?_⟩
    rcases h1 with ⟨e1, e2⟩ | ⟨rows, e2, e3⟩
    · cases e2; exact .inl ⟨e1, rfl⟩
    · cases e2; exact .inr ⟨rows, rfl, e3⟩
  | pair a b => cases ho
def parI : Nat → List Sh → List Item
  | _, [] => []
  | i, s :: l => .slot i (.cell (acOf s)) :: parI (i + 1) l
def WFP : (i : Nat) → (l : List Sh) → denI (parI i l) → Prop
  | _, [], _ => True
  | i, s :: l, d => WFC s (hdI (.slot i (.cell (acOf s))) (parI (i + 1) l) d) ∧ WFP (i + 1) l (tlI (.slot i (.cell (acOf s))) (parI (i + 1) l) d)
def DVs : List Sh → List V → Prop
  | [], [] => True
  | s :: l, x :: xs => DV s [x] ∧ DVs l xs
  | _, _ => False
theorem DVs.length : ∀ {l : List Sh} {xs : List V}, DVs l xs → xs.length = l.length
  | [], [], _ => rfl
  | _ :: l, _ :: xs, h => by simp [DVs.length h.2]
  | [], _ :: _, h => h.elim
  | _ :: _, [], h => h.elim
theorem Xl : ∀ (l : List Sh) (i : Nat) {xs : List V}, l.all oneS = true → DVs l xs → ∃ d : denI (parI i l), WFP i l d ∧ (∀ k, (encI k (parI i l) d).2 = []) ∧ ∀ k hp, RT hp (encI k (parI i l) d).1 (lk .any (enum i xs))
  | [], i, [], _, _ => ⟨(), trivial, fun _ => rfl, fun k hp t => trivial⟩
  | s :: l, i, x :: xs, ho, h => by
    simp only [List.all_cons, Bool.and_eq_true] at ho
    obtain ⟨a, h1, h2⟩ := Ad7 ho.1 h.1
    obtain ⟨d, h3, h4, h5⟩ := Xl l (i + 1) ho.2 h.2
    refine ⟨consI (.slot i (.cell (acOf s))) (parI (i + 1) l) a d, ⟨?_, ?_⟩, fun k => ?_, fun k hp => ?_⟩
    · rw [NY (.slot i (.cell (acOf s)))]; exact h1
    · rw [K9 (.slot i (.cell (acOf s)))]; exact h3
    · simp only [parI, encI]
      rw [K9 (.slot i (.cell (acOf s)))]
      exact h4 k
    · simp only [parI, encI]
      rw [K9 (.slot i (.cell (acOf s))), NY (.slot i (.cell (acOf s)))]
      intro t
      show RV2 hp (getV ((i, encSV (.cell (acOf s)) a) :: _) t) (if t = i then x else lk .any (enum (i + 1) xs) t)
      rw [Ds]
      split
      · exact h2 hp
      · exact h5 k hp t
  | [], _, _ :: _, _, h => h.elim
  | _ :: _, _, [], _, h => h.elim
section
variable {P : Program}
def FitsL (P : Program) : List TypeId → List Sh → Prop
  | [], [] => True
  | t :: ts, s :: l => Fits P t s ∧ FitsL P ts l
  | _, _ => False
theorem R8 {H : Type} {enc : TypeId × Value → H} {W : World} : ∀ {ts : List TypeId} {l : List Sh} {vs : List Value} {ds : List (DataW H)} {p : List MemPlace}, FitsL P ts l → l.all oneS = true → DataW.TrodAll enc P W 0 (fun _ => true) true ts vs ds p →
    (∀ (j : Nat) t v, ts[j]? = some t → vs[j]? = some v → ∃ base, Value.okWide P W .any base t v) → (∀ n ∈ DataW.weightsEach P ts ds, n ≤ reachBytes) → ∃ xs, DVs l xs ∧ Told W xs vs
  | [], [], vs, ds, p, _, _, h, _, _ => by
    obtain ⟨rfl, rfl, rfl⟩ := ChangeShapes.trodAll_nil h
    exact ⟨[], trivial, trivial⟩
  | t :: ts, s :: l, vs, ds, p, hf, ho, h, hv, hw => by
    obtain ⟨v, vs', d, ds', p1, q, rfl, rfl, rfl, ⟨fuel, h1⟩, h2⟩ := ChangeShapes.trodAll_cons h
    simp only [List.all_cons, Bool.and_eq_true] at ho
    obtain ⟨xs, q1, q2, q3⟩ := Ji fuel t s _ _ hf.1 h1 fun n hn => hw n (by simp [DataW.weightsEach, hn])
    obtain ⟨ys, q4, q5⟩ := R8 hf.2 ho.2 h2 (fun j t v h1 h2 => hv (j + 1) t v (by simpa using h1) (by simpa using h2)) fun n hn => hw n (by simp [DataW.weightsEach, hn])
    have hs1 : s.size = 1 := by cases s <;> first | rfl | (cases ho.1)
    obtain ⟨x, rfl⟩ := List.length_eq_one_iff.1 (by rw [q2, hs1])
    refine ⟨x :: ys, ⟨q1, q4⟩, ?_, q5⟩
    obtain ⟨base, hok⟩ := hv 0 t v rfl rfl
    have hc : v.cells.toList = [v] := by
      cases hf.1 with
      | int ht => simp only [Value.okWide, ht, Cell.okWide] at hok; cases v <;> simp_all [Cell.ok, Value.cells]
      | str ht => simp only [Value.okWide, ht, Cell.okWide] at hok; cases v <;> simp_all [Cell.ok, Value.cells]
      | bool ht => simp only [Value.okWide, ht, Cell.okWide] at hok; cases v <;> simp_all [Cell.ok, Value.cells]
      | sl ht => obtain ⟨a, n, c, rfl⟩ := WideShapes.okWide_slice ht hok; rfl
      | st => cases ho.1
    rw [hc] at q3
    exact q3.1
  | [], _ :: _, _, _, _, h, _, _, _, _ => h.elim
  | _ :: _, [], _, _, _, h, _, _, _, _ => h.elim
theorem OG {H : Type} {enc : TypeId × Value → H} {W W' : World} (hl : laidOutB P = true) (hb : Below W.heap.size W W') : ∀ {ts : List TypeId} {vs : List Value} {ds : List (DataW H)} {p : List MemPlace}, (∀ t ∈ ts, P.readableRec t = true ∧ t < P.types.size) → DataW.TrodAll enc P W 0 (fun _ => true) true ts vs ds p →
    ∃ q, DataW.TrodAll enc P W' 0 (fun b => decide (b < W.heap.size)) true ts vs ds q
  | [], vs, ds, p, _, h => by
    obtain ⟨rfl, rfl, rfl⟩ := ChangeShapes.trodAll_nil h
    exact ⟨[], ChangeShapes.trodAll_mk0⟩
  | t :: ts, vs, ds, p, hr, h => by
    obtain ⟨v, vs', d, ds', p1, q, rfl, rfl, rfl, h1, h2⟩ := ChangeShapes.trodAll_cons h
    obtain ⟨q', h3⟩ := OG hl hb (fun t ht => hr t (by simp [ht])) h2
    have hlt : ∀ x ∈ p1, x.block < W.heap.size := by obtain ⟨m, hm⟩ := h1; exact DataW.trod_lt m _ _ _ hm
    obtain ⟨r1, r2⟩ := hr t (by simp)
    exact ⟨_, trodAll_cons_mk (Below.trod hl r1 r2 h1 hb hlt) h3⟩
end
end Go.Proofs.YtgfchmagglhohaaGreatDoor.Ev

end
section
namespace Go.Proofs.YtgfchmagglhohaaGreatDoor.Ev
open Go Go.RowKit
set_option linter.unusedVariables false
set_option linter.unusedSimpArgs false
theorem QZ : ∀ (l : List Sh) (i : Nat), (slotsI (parI i l)).length = l.length
  | [], _ => rfl
  | s :: l, i => by simp [parI, slotsI, QZ l (i + 1)]
section
variable {P : Program} {J : Tabs}
def TabOK (P : Program) : List (Nat × TyD) → Prop
  | [] => True
  | x :: l => tyOf P x.1 = some x.2 ∧ TabOK P l
theorem Ah1 {l : List (Nat × TyD)} (h : TabOK P l) : ∀ t d, getD l t = some d → tyOf P t = some d := by
  intro t d hd
  induction l with
  | nil => cases hd
  | cons x l ih =>
    obtain ⟨k, y⟩ := x
    simp only [getD] at hd
    cases hk : Nat.beq t k with
    | true =>
      rw [hk] at hd
      simp only [cond_true, Option.some.injEq] at hd
      have := Nat.eq_of_beq_eq_true hk
      subst this
      subst hd
      exact h.1
    | false =>
      rw [hk] at hd
      exact ih h.2 hd
theorem YK {cf : Cfg} {ext : Rel} {g : FuncId} {shs : List Sh} {heads joins : List (Nat × List Item)} {outs : List (Nat × List (Ex × List Item))} {F : denI (parI 0 shs) → Option Bool}
    (hm : P.follows .mixedOrders = true) (hext : ∀ g args blks r blks', ext g args blks r blks' → CSpec P J g args blks r blks')
    (hE : EntOK (Runs P cf ext) ⟨⟨g, 0, parI 0 shs, [.slot 0 (.cell .bool)], heads, outs, joins⟩, F⟩) (hD : ∀ d, decSt 0 (parI 0 shs) (encSt (parI 0 shs) d) = some d) (hF : ∀ d, WFP 0 shs d → F d = some true) (ho : shs.all oneS = true)
    {w : World} (hJ : ∀ x ∈ J, w.heap[x.1]? = some x.2) {xs : List V} {vals : Array Value} (hx : DVs shs xs) (hv : Told w xs vals.toList) : Calls P g vals w fun e w' => e = .returned (.bool true) ∧ Below w.heap.size w w' := by
  obtain ⟨d, h1, h2, h3⟩ := Xl shs 0 ho hx
  have hrefs := R3 hv
  obtain ⟨r, blks', q1, q2⟩ := hE d true xs [] (encSt (parI 0 shs) d) (hF d h1) ⟨h3 0 _, (fun id b hb => by
    rw [show (encSt (parI 0 shs) d).hp = (encI 0 (parI 0 shs) d).2 from rfl, h2] at hb
    exact absurd hb (by simp [getB])), rfl⟩ (hD d) (Vf hv) (by rw [hx.length]; exact (QZ shs 0).symm) (by rw [hrefs]; rfl) (fun _ => rfl)
  have hr : r = .v (.bool true) := q2.val
  have hb : blks' = [] := List.eq_nil_of_length_eq_zero q2.len
  subst hr
  subst hb
  exact XU hm hext hJ hv q1
theorem Te {H : Type} {enc : TypeId × Value → H} {cf : Cfg} {ext : Rel} {g : FuncId} {shs : List Sh} {heads joins : List (Nat × List Item)} {outs : List (Nat × List (Ex × List Item))} {F : denI (parI 0 shs) → Option Bool} {fn : Func} {s : ChangeSpec} {ts : List TypeId} {rt : TypeId}
    (hm : P.follows .mixedOrders = true) (hext : ∀ g args blks r blks', ext g args blks r blks' → CSpec P J g args blks r blks')
    (hE : EntOK (Runs P cf ext) ⟨⟨g, 0, parI 0 shs, [.slot 0 (.cell .bool)], heads, outs, joins⟩, F⟩) (hD : ∀ d, decSt 0 (parI 0 shs) (encSt (parI 0 shs) d) = some d) (hF : ∀ d, WFP 0 shs d → F d = some true) (ho : shs.all oneS = true)
    (hp : fn.params.toList = ts) (hr : fn.resultTypes.toList = [rt]) (hrt : P.underlying rt = some .bool) (hf : FitsL P ts shs) (hl : laidOutB P = true) (hread : ∀ t ∈ ts, P.readableRec t = true ∧ t < P.types.size) (hvars : s.vars = [])
    (hs : ∀ ds : List (DataW H), ds.length = ts.length → s.fn H (ds ++ []) = { results := [.lit (.bool true)], args := ds, vars := [] })
    {W : World} (hJ : ∀ x ∈ J, W.heap[x.1]? = some x.2) {base : Nat} {args : Array Value} {ds gs : List (DataW H)} {before : List MemPlace}
    (hval : ∀ (j : Nat) t v, fn.params[j]? = some t → args[j]? = some v → Value.okWide P W .any base t v) (hW : DataW.Whole enc P fn.params.toList s.vars false W args.toList ds gs before)
    (hsz : (DataW.weightsEach P (fn.params.toList ++ s.plain.varTypes P) (ds ++ gs)).all (· ≤ reachBytes) = true) :
    Calls P g args W fun e W' => ∃ v, e = .returned v ∧ s.post enc P fn false true false false W args v W' := by
  have hW' := hW
  obtain ⟨p, q, hA, hV, rfl, hfz, hnd⟩ := hW
  rw [hvars] at hV
  obtain ⟨rfl, rfl⟩ := ChangeShapes.trodVars_none hV
  rw [hp] at hA
  have hlen : ∀ {ts : List TypeId} {vs : List Value} {ds : List (DataW H)} {p : List MemPlace}, DataW.TrodAll enc P W 0 (fun _ => true) true ts vs ds p → ds.length = ts.length := by
    intro ts
    induction ts with
    | nil => intro vs ds p h; obtain ⟨_, rfl, _⟩ := ChangeShapes.trodAll_nil h; rfl
    | cons t ts ih => intro vs ds p h; obtain ⟨v, vs', d, ds', p1, q, rfl, rfl, rfl, h1, h2⟩ := ChangeShapes.trodAll_cons h; simp [ih h2]
  have hdl := hlen hA
  have hwt : ∀ n ∈ DataW.weightsEach P ts ds, n ≤ reachBytes := by
    intro n hn
    have hmem : ∀ (a b : List TypeId) (c d : List (DataW H)), ∀ n ∈ DataW.weightsEach P a c, c.length = a.length → n ∈ DataW.weightsEach P (a ++ b) (c ++ d) := by
      intro a
      induction a with
      | nil => intro b c d n hn hl; cases c <;> simp [DataW.weightsEach] at hn hl
      | cons t a ih =>
        intro b c d n hn hl
        cases c with
        | nil => simp [DataW.weightsEach] at hn
        | cons x c =>
          simp only [DataW.weightsEach, List.mem_append, List.cons_append] at hn ⊢
          rcases hn with hn | hn
          · exact .inl hn
          · exact .inr (ih b c d n hn (by simpa using hl))
    rw [hp] at hsz
    have := List.all_eq_true.1 hsz n (hmem ts _ ds _ n hn hdl)
    simpa using this
  obtain ⟨xs, h1, h2⟩ := R8 hf ho hA (fun j t v h1 h2 => ⟨base, hval j t v (by rw [← hp] at h1; simpa using h1) (by simpa using h2)⟩) hwt
  refine (YK hm hext hE hD hF ho hJ h1 h2).mono fun e W' ⟨he, bel⟩ => ?_
  subst he
  obtain ⟨q', hq⟩ := OG hl bel hread hA
  refine ⟨_, rfl, ds, [], _, [], q', [], hW', ?_, ?_, ?_, bel.frame _, fun h => by cases h⟩
  · rw [hs ds hdl, hr]
    have : ((Value.bool true).resultList fn.resultTypes.size) = [.bool true] := by
      have : fn.resultTypes.size = 1 := by rw [← Array.length_toList, hr]; rfl
      rw [this]; rfl
    rw [this]
    exact ChangeShapes.trodAll_mk1 (shut_bool hrt true)
  · rw [hs ds hdl, hp]
    exact hq
  · rw [hs ds hdl, hvars]
    rfl
end
end Go.Proofs.YtgfchmagglhohaaGreatDoor.Ev

end
section
namespace Go.Proofs.YtgfchmagglhohaaGreatDoor.Ev
open Go
set_option linter.unusedVariables false
set_option linter.unusedSimpArgs false
theorem wrapI {n : Int} (h1 : -9223372036854775808 ≤ n) (h2 : n ≤ 9223372036854775807) : IntKind.wrap .i64 n = n := by rw [IntKind.wrap_i64]; omega
theorem wrapI' (n : Int) : -9223372036854775808 ≤ IntKind.wrap .i64 n ∧ IntKind.wrap .i64 n ≤ 9223372036854775807 := by rw [IntKind.wrap_i64]; omega
section
variable {σ τ ρ ρ' : Type} {f : σ → Option (σ ⊕ ρ)} {g : τ → Option (τ ⊕ ρ')}
theorem Bl {s s' : σ} (h : f s = some (.inl s')) : loopM f s = loopM f s' := by rw [UR, h]; rfl
theorem Aw {s : σ} {r : ρ} (h : f s = some (.inr r)) : loopM f s = some r := by rw [UR, h]; rfl
theorem EB {I : σ → Prop} {R : ρ → Prop} (m : σ → Nat) (h : ∀ s, I s → (∃ s', f s = some (.inl s') ∧ I s' ∧ m s' < m s) ∨ ∃ r, f s = some (.inr r) ∧ R r) : ∀ s, I s → ∃ r, loopM f s = some r ∧ R r := by
  have : ∀ n s, m s < n → I s → ∃ r, loopM f s = some r ∧ R r := by
    intro n
    induction n with
    | zero => intro s h; omega
    | succ n ih =>
      intro s hn hs
      rcases h s hs with ⟨s', h1, h2, h3⟩ | ⟨r, h1, h2⟩
      · obtain ⟨r, h4, h5⟩ := ih s' (by omega) h2
        exact ⟨r, by rw [Bl h1, h4], h5⟩
      · exact ⟨r, Aw h1, h2⟩
  exact fun s hs => this (m s + 1) s (by omega) hs
end
section
variable {α β γ : Type}
theorem Aq (l : List α) (i : Nat) : getI l (i : Int) = l[i]? := by
  unfold getI
  rw [if_pos (by omega)]
  simp
theorem WM {l : List α} {i : Int} (h0 : 0 ≤ i) (h1 : i < l.length) : ∃ a, getI l i = some a ∧ l[i.toNat]? = some a := by
  unfold getI
  rw [if_pos h0]
  have : i.toNat < l.length := by omega
  exact ⟨l[i.toNat], List.getElem?_eq_getElem this, List.getElem?_eq_getElem this⟩
theorem AI {i n : Nat} (h : i < n) : idxI (i : Int) n = some i := by
  unfold idxI
  rw [if_pos (by omega)]
  simp
theorem EC {n b s : Nat} (h1 : n * b ≤ maxBytes) (h2 : n * s ≤ maxBytes) : lenI (n : Int) b s = some n := by
  unfold lenI
  rw [if_pos (by simp; omega)]
  simp
end
section
variable {α σ ρ : Type} {body : σ → Option (σ ⊕ ρ)}
theorem OD {l : List α} {st : Nat → σ} {p : α → Bool} {fin : ρ} {bad : Nat → ρ} (hgo : ∀ k a, l[k]? = some a → p a = true → body (st k) = some (.inl (st (k + 1)))) (hbad : ∀ k a, l[k]? = some a → p a = false → body (st k) = some (.inr (bad k))) (hend : body (st l.length) = some (.inr fin)) :
    (l.all p = true → loopM body (st 0) = some fin) ∧ (l.all p = false → ∃ k, k < l.length ∧ loopM body (st 0) = some (bad k)) := by
  have key : ∀ (n k : Nat), k + n = l.length → ((l.drop k).all p = true → loopM body (st k) = some fin) ∧ ((l.drop k).all p = false → ∃ j, j < l.length ∧ loopM body (st k) = some (bad j)) := by
    intro n
    induction n with
    | zero =>
      intro k hk
      have : k = l.length := by omega
      subst this
      rw [List.drop_length]
      exact ⟨fun _ => Aw hend, (fun h => by cases h)⟩
    | succ n ih =>
      intro k hk
      have hlt : k < l.length := by omega
      have hd : l.drop k = l[k] :: l.drop (k + 1) := List.drop_eq_getElem_cons hlt
      have he : l[k]? = some l[k] := List.getElem?_eq_getElem hlt
      rw [hd, List.all_cons]
      cases hp : p l[k] with
      | true =>
        have h1 := hgo k _ he hp
        obtain ⟨q1, q2⟩ := ih (k + 1) (by omega)
        rw [Bool.true_and, Bl h1]
        exact ⟨q1, q2⟩
      | false =>
        rw [Bool.false_and]
        exact ⟨(fun h => by cases h), fun _ => ⟨k, hlt, Aw (hbad k _ he hp)⟩⟩
  have := key l.length 0 (by omega)
  rwa [List.drop_zero] at this
end
section
theorem wrap1 {k : Nat} (h : k < 4611686018427387904) : IntKind.wrap .i64 ((k : Int) + 1) = ((k + 1 : Nat) : Int) := by rw [wrapI (by omega) (by omega)]; omega
end
theorem W2 {β : Type} {b s : Nat} {l m : List β} (h1 : (l.length + m.length) * b ≤ maxBytes) (h2 : (l.length + m.length) * s ≤ maxBytes) : appL b s l m = some (l ++ m) := by
  unfold appL
  rw [if_pos ⟨h1, h2⟩]
end Go.Proofs.YtgfchmagglhohaaGreatDoor.Ev

end
section
namespace Go.Proofs.YtgfchmagglhohaaGreatDoor.Ev
open Go
set_option linter.unusedVariables false
set_option linter.unusedSimpArgs false
variable {P : Program} {J : Tabs}
def nilS : Value := .slice none 0 0
def cloneBody (t tb : TypeId) : Code :=
  .seq (.region 0 #[⟨some 2, .assign (.const nilS), t, "slices.go:355", #[], none⟩] false)
    (.seq (.seq (.region 1 #[⟨some 3, .move (.tmp 0), t, "slices.go:357", #[], none⟩, ⟨some 4, .binOp .eql t (.tmp 3) (.const nilS) t, tb, "slices.go:357", #[⟨0, .data⟩], none⟩] false)
        (.cond (.tmp 4) (.seq (.region 2 #[⟨some 2, .assign (.const nilS), t, "slices.go:358", #[], none⟩] false) .ret) .skip))
      (.seq (.region 3 #[⟨some 5, .buildSlice t 0 #[], t, "slices.go:362", #[], none⟩, ⟨some 6, .move (.tmp 0), t, "slices.go:362", #[], none⟩,
          ⟨some 7, .call ⟨.builtin .append, #[.tmp 5, .tmp 6], #[t, t]⟩, t, "slices.go:362", #[⟨0, .data⟩, ⟨1, .data⟩], none⟩,
          ⟨some 2, .assign (.tmp 7), t, "slices.go:362", #[⟨2, .data⟩, ⟨2, .chain⟩, ⟨0, .phase⟩, ⟨1, .phase⟩, ⟨2, .phase⟩], none⟩] false) .ret))
def cfN (e size : Nat) (deep : Bool) : Cfg := { live := fun _ _ => [], out := fun _ _ _ => [], join := fun _ _ => none, res := fun _ => [.one (.own e size deep)], par := fun _ => [(0, .one .keep)], rts := fun _ => [], byref := fun _ => [], isExt := fun _ => false }
theorem Xt {g : FuncId} {fn : Func} {t tb e : TypeId} {d de : TyD} (hfn : P.funcs[g]? = some fn) (hb : fn.body = some (cloneBody t tb)) (hok : bodyOK fn (cloneBody t tb) 1 = true) (hr : fn.results.toList = [.tmp 2])
    (hd : tyOf P t = some d) (he : d.elem = some e) (hde : tyOf P e = some de) (hst : isStr P t = false) (a : Option Addr) (c : Nat) :
    Runs P (cfN e de.size (de.zero.all isVB)) (fun _ _ _ _ _ => False) g [.v (.slice a 0 c)] [] (.ar 0 0 0) [arrOf e de.size (de.zero.all isVB) []] := by
  refine Runs.intro rfl hfn hb hok rfl ?_
  rw [hr]
  have hsl : isSl P t = true := by unfold isSl; rw [hd]; simp [he]
  cases a with
  | none =>
    simp [canon, normS, normV, normC, caseO, entry, enum, lk, upd, canon0, close, refs2, refs1, refs0, ren2, ren1, ren0, lkB, blksOf, cloneBody, we, reo, weOps, opAt, isR, weOp, nevT, nilEq, opnd, Ev.put, drawn, ofConst, ofCell, nilS, hsl, meet, caseB, toVal, cfN, outs, rootsOK, resVs, resV, normR, rootVs, outL, out1, idx, renB, arrOf, refsB]
  | some a =>
    simp [canon, normS, normV, normC, caseO, entry, enum, lk, upd, canon0, close, refs2, refs1, refs0, ren2, ren1, ren0, lkB, blksOf, cloneBody, we, reo, weOps, opAt, isR, weOp, nevT, nilEq, opnd, Ev.put, drawn, ofConst, ofCell, nilS, hsl, meet, caseB, toVal, cfN, outs, rootsOK, resVs, resV, normR, rootVs, outL, out1, idx, renB, arrOf, refsB, weBuildSlice, hd, he, hde, weAppend, srcRows, nodupB]
structure CloneOK (P : Program) (x : FuncId × TypeId × Nat × Bool) : Prop where
  ok : ∃ (fn : Func) (t tb : TypeId) (d de : TyD), P.funcs[x.1]? = some fn ∧ fn.body = some (cloneBody t tb) ∧ bodyOK fn (cloneBody t tb) 1 = true ∧ fn.results.toList = [.tmp 2] ∧
    tyOf P t = some d ∧ d.elem = some x.2.1 ∧ tyOf P x.2.1 = some de ∧ isStr P t = false ∧ de.size = x.2.2.1 ∧ de.zero.all isVB = x.2.2.2
theorem Nf (hm : P.follows .mixedOrders = true) {x : FuncId × TypeId × Nat × Bool} (h : CloneOK P x) {v : V} (hv : v = .em ∨ v = .im []) : CSpec P J x.1 [v] [] (.ar 0 0 0) [arrOf x.2.1 x.2.2.1 x.2.2.2 []] := by
  obtain ⟨fn, t, tb, d, de, h1, h2, h3, h4, h5, h6, h7, h8, h9, h10⟩ := h.ok
  have key : ∀ (a : Option Addr) (c : Nat), CSpec P J x.1 [.v (.slice a 0 c)] [] (.ar 0 0 0) [arrOf x.2.1 x.2.2.1 x.2.2.2 []] := by
    intro a c
    obtain ⟨k, hk⟩ := Xt h1 h2 h3 h4 h5 h6 h7 h8 a c
    rw [← h9, ← h10]
    exact Ja hm (fun _ _ _ _ _ h => h.elim) k _ _ _ _ _ hk
  refine ⟨(key none 0).enter, fun _ w A E vals hT hI hvl => ?_⟩
  obtain ⟨y, hy⟩ : ∃ y, vals.toList = [y] := by
    match hl : vals.toList with
    | [] => rw [hl] at hvl; exact hvl.elim
    | [y] => exact ⟨y, rfl⟩
    | _ :: _ :: _ => rw [hl] at hvl; exact hvl.2.elim
  rw [hy] at hvl
  have hv1 := hvl.1
  obtain ⟨a, c, hyc⟩ : ∃ a c, y = .slice a 0 c := by
    rcases hv with rfl | rfl
    · have hv1 : Rep w A .em y := hv1
      cases hv1 with
      | em a => exact ⟨a, 0, rfl⟩
    · have hv1 : Rep w A (.im []) y := hv1
      cases hv1 with
      | im0 a c => exact ⟨a, c, rfl⟩
      | im b off cap => exact ⟨some ⟨b, off, none⟩, cap, rfl⟩
  subst hyc
  have hk := (key a c).calls rfl w A E vals hT hI (by rw [hy]; exact ⟨.v _ rfl, trivial⟩)
  refine hk.mono fun e w' he => ?_
  obtain ⟨y', E', G', q1, q2, q3, q4⟩ := he
  refine ⟨y', E', G', q1, q2, q3, fun j hj => ?_⟩
  rcases hv with rfl | rfl <;> simp [refs1, refs0] at hj
def cloneRel (Rc : Rel) (tab : List (FuncId × TypeId × Nat × Bool)) : Rel := fun g args blks r blks' =>
  Rc g args blks r blks' ∨ ∃ x ∈ tab, g = x.1 ∧ (args = [.em] ∨ args = [.im []]) ∧ blks = [] ∧ r = .ar 0 0 0 ∧ blks' = [arrOf x.2.1 x.2.2.1 x.2.2.2 []]
theorem Qf {cf : Cfg} {tab : List (FuncId × TypeId × Nat × Bool)} (hm : P.follows .mixedOrders = true) (ht : ∀ x ∈ tab, CloneOK P x) :
    ∀ g args blks r blks', cloneRel (Runs P cf fun _ _ _ _ _ => False) tab g args blks r blks' → CSpec P J g args blks r blks' := by
  intro g args blks r blks' h
  rcases h with ⟨k, hk⟩ | ⟨x, hx, rfl, ha, rfl, rfl, rfl⟩
  · exact Ja hm (fun _ _ _ _ _ h => h.elim) k _ _ _ _ _ hk
  · rcases ha with rfl | rfl
    · exact Nf hm (ht x hx) (.inl rfl)
    · exact Nf hm (ht x hx) (.inr rfl)
theorem Ai9 {t : Ty} {st : TSt} {x : denI [.slot 0 (.cell (.im t))]} (h : decSt 0 [.slot 0 (.cell (.im t))] st = some x) : asLh st.hp t (getV st.tm 0) = some (show List t.den from x) := by
  unfold decSt at h
  split at h
  case isFalse => cases h
  simp only [keepT, blksI, tmS, tmC, tnS, tnV, tnC] at h
  cases ha : asLh st.hp t (getV st.tm 0) with
  | none => rw [ha] at h; cases h
  | some l =>
    rw [ha] at h
    simp only [Nat.zero_le, Nat.ble_eq, if_true] at h
    have hc : ∀ c, canonT 0 (slotsI [.slot 0 (.cell (.im t))]) { tm := (0, .im t l) :: st.tm, hp := freezeT st.hp (frV (getV st.tm 0)), c := c } = some { tm := [(0, .im t l)], hp := [], c := 1 } := fun c => rfl
    rw [hc] at h
    simp only [rdI, rdS, rdC, Nat.beq_refl, if_true, dite_true] at h
    rw [← Option.some.inj h]
    rfl
def orNil {α β : Type} (F : List α → Option (List β)) (l : List α) : Option (List β) := match l with | [] => some [] | a :: l => F (a :: l)
theorem Vw {ext : Rel} {cf : Cfg} {Rc : Rel} {tab : List (FuncId × TypeId × Nat × Bool)} {g : FuncId} {e : TypeId} {deep : Bool} {t : Ty} {heads joins : List (Nat × List Item)} {outs : List (Nat × List (Ex × List Item))} {F : List t.den → Option (List t.den)}
    (h : EntOK Rc ⟨⟨g, 0, [.slot 0 (.cell (.im t))], [.blk (.arr e deep t), .slot 0 (.ref 0 false)], heads, outs, joins⟩, F⟩) (hmem : (g, e, t.size, deep) ∈ tab) (hext : ∀ g args blks r blks', cloneRel Rc tab g args blks r blks' → ext g args blks r blks') :
    EntOK (Runs P cf ext) ⟨⟨g, 0, [.slot 0 (.cell (.im t))], [.blk (.arr e deep t), .slot 0 (.ref 0 false)], heads, outs, joins⟩, fun l => orNil F l⟩ := by
  intro x y args blks st hF hs hd hid hlen href hb0
  have ha := Ai9 hd
  cases hx : (show List t.den from x) with
  | cons a l =>
    have hx' : x = (show denI [.slot 0 (.cell (.im t))] from (a :: l : List t.den)) := hx
    subst hx'
    obtain ⟨r, blks', q1, q2⟩ := h _ y args blks st hF hs hd hid hlen href hb0
    exact ⟨r, blks', Runs.ext (hext _ _ _ _ _ (.inl q1)), q2⟩
  | nil =>
    have hx' : x = (show denI [.slot 0 (.cell (.im t))] from ([] : List t.den)) := hx
    subst hx'
    have hy : y = (show denI [.blk (.arr e deep t), .slot 0 (.ref 0 false)] from ([] : List t.den)) := (Option.some.inj hF).symm
    subst hy
    obtain ⟨v, rfl⟩ : ∃ v, args = [v] := by
      match args, hlen with
      | [v], _ => exact ⟨v, rfl⟩
    have hrefs : ([v] : List V).flatMap refs1 = [] := by
      cases hr : ([v] : List V).flatMap refs1 with
      | nil => rfl
      | cons i l => rw [hr] at href; simp [List.eraseDups_cons] at href
    have hv := hs.tm 0
    have hv : RV2 st.hp (getV st.tm 0) v := hv
    have hcase : v = .em ∨ v = .im [] := by
      generalize getV st.tm 0 = u at ha hv
      cases u with
      | em => exact .inl hv
      | im t' l =>
        simp only [asLh, asL] at ha
        rcases hv with ⟨_, hv⟩ | ⟨rows, hv, hl⟩
        · exact .inl hv
        · split at ha
          · rename_i ht
            subst ht
            have h0 : l = [] := by have := Option.some.inj ha; exact this
            subst h0
            have : rows = [] := List.eq_nil_of_length_eq_zero (by have := hl.1; simpa using this)
            subst this
            exact .inr hv
          · cases ha
      | ow id =>
        obtain ⟨n, rfl, _⟩ := hv
        simp [refs1, refs0] at hrefs
      | ar id lo n =>
        have hv : v = .ar id lo n := hv
        subst hv
        simp [refs1, refs0] at hrefs
      | _ => simp [asLh, asL] at ha
    have hblks : blks = [] := hb0 rfl
    subst hblks
    refine ⟨.ar 0 0 0, [arrOf e t.size deep []], Runs.ext (hext _ _ _ _ _ (.inr ⟨_, hmem, rfl, ?_, rfl, rfl, rfl⟩)), ?_, ?_, rfl⟩
    · rcases hcase with rfl | rfl
      · exact .inl rfl
      · exact .inr rfl
    · exact ⟨0, rfl, fun b hb => by cases hb; rfl⟩
    · intro id b hb
      have hb : getB [(0, some (TB.arr e deep t []))] id = some b := hb
      simp only [getB] at hb
      cases hi : Nat.beq id 0 with
      | false => rw [hi] at hb; cases hb
      | true =>
        rw [hi] at hb
        have hb : some (TB.arr e deep t []) = some b := hb
        cases hb
        have : id = 0 := Nat.eq_of_beq_eq_true hi
        subst this
        exact ⟨_, rfl, rfl, rfl, rfl, rfl, RLx.nil⟩
end Go.Proofs.YtgfchmagglhohaaGreatDoor.Ev

end
section
namespace Go.Proofs.YtgfchmagglhohaaGreatDoor.Ev
open Go Go.RowKit
set_option linter.unusedVariables false
set_option linter.unusedSimpArgs false
def ArgC : (c : AC) → c.den → V → Prop
  | .int k, n, v => v = .v (.int k n)
  | .bool, b, v => v = .v (.bool b)
  | .str, s, v => v = .v (.string ⟨s.toArray⟩)
  | .err, b, v => v = .er b
  | .im t, l, v => (l = [] ∧ v = .em) ∨ ∃ rows, v = .im rows ∧ RLx (RE t) l rows
  | .at _, _, _ => False
section
variable {hp hp' : THp} {u v : SV} {a : V} {b n : Nat} {c : AC}
theorem VJ (hc : c.isU = false) (h : tnC (tmC [] c) u hp b = some (v, hp', n)) (hr : RV2 hp u a) (ha : refs1 a = []) : hp' = hp ∧ ∀ f d, rdC c (renS1 f v) = some d → ArgC c d a := by
  cases c with
  | «at» j => cases hc
  | im t =>
    simp only [tmC, tnC] at h
    cases hl : asLh hp t u with
    | none => rw [hl] at h; cases h
    | some l =>
      rw [hl] at h
      simp only [Option.some.injEq, Prod.mk.injEq] at h
      obtain ⟨rfl, rfl, _⟩ := h
      have key : frV u = [] ∧ ArgC (.im t) l a := by
        cases u with
        | em =>
          simp only [asLh, asL, Option.some.injEq] at hl
          subst hl
          exact ⟨rfl, .inl ⟨rfl, hr⟩⟩
        | im t' l' =>
          simp only [asLh, asL] at hl
          split at hl
          · rename_i ht
            subst ht
            have hl : l' = l := Option.some.inj hl
            subst hl
            exact ⟨rfl, hr⟩
          · cases hl
        | ow id =>
          obtain ⟨m, rfl, _⟩ := hr
          simp [refs1, refs0] at ha
        | ar id lo m =>
          have hr : a = .ar id lo m := hr
          subst hr
          simp [refs1, refs0] at ha
        | _ => simp [asLh, asL] at hl
      refine ⟨by rw [key.1]; rfl, fun f d hd => ?_⟩
      simp only [renS1, renS0, rdC, dite_true] at hd
      have hd : l = d := Option.some.inj hd
      subst hd
      exact key.2
  | int k =>
    simp only [tmC, tnC, Option.some.injEq, Prod.mk.injEq] at h
    obtain ⟨rfl, rfl, _⟩ := h
    refine ⟨rfl, fun f d hd => ?_⟩
    cases u with
    | int k' m =>
      simp only [renS1, renS0, rdC] at hd
      split at hd
      · rename_i hk; subst hk; cases hd; exact hr
      · cases hd
    | ow id => simp only [renS1, renS0] at hd; split at hd <;> cases hd
    | ar id lo m => simp only [renS1, renS0] at hd; split at hd <;> cases hd
    | rf id r c => simp only [renS1, renS0] at hd; split at hd <;> cases hd
    | cl g caps => cases hd
    | _ => cases hd
  | bool =>
    simp only [tmC, tnC, Option.some.injEq, Prod.mk.injEq] at h
    obtain ⟨rfl, rfl, _⟩ := h
    refine ⟨rfl, fun f d hd => ?_⟩
    cases u with
    | bool m => cases hd; exact hr
    | ow id => simp only [renS1, renS0] at hd; split at hd <;> cases hd
    | ar id lo m => simp only [renS1, renS0] at hd; split at hd <;> cases hd
    | rf id r c => simp only [renS1, renS0] at hd; split at hd <;> cases hd
    | cl g caps => cases hd
    | _ => cases hd
  | str =>
    simp only [tmC, tnC, Option.some.injEq, Prod.mk.injEq] at h
    obtain ⟨rfl, rfl, _⟩ := h
    refine ⟨rfl, fun f d hd => ?_⟩
    cases u with
    | str m => cases hd; exact hr
    | ow id => simp only [renS1, renS0] at hd; split at hd <;> cases hd
    | ar id lo m => simp only [renS1, renS0] at hd; split at hd <;> cases hd
    | rf id r c => simp only [renS1, renS0] at hd; split at hd <;> cases hd
    | cl g caps => cases hd
    | _ => cases hd
  | err =>
    simp only [tmC, tnC, Option.some.injEq, Prod.mk.injEq] at h
    obtain ⟨rfl, rfl, _⟩ := h
    refine ⟨rfl, fun f d hd => ?_⟩
    cases u with
    | er m => cases hd; exact hr
    | ow id => simp only [renS1, renS0] at hd; split at hd <;> cases hd
    | ar id lo m => simp only [renS1, renS0] at hd; split at hd <;> cases hd
    | rf id r c => simp only [renS1, renS0] at hd; split at hd <;> cases hd
    | cl g caps => cases hd
    | _ => cases hd
end
theorem dec1 {c : AC} {st : TSt} {x : denI [.slot 0 (.cell c)]} {a : V} (hc : c.isU = false) (h : decSt 0 [.slot 0 (.cell c)] st = some x) (hr : RV2 st.hp (getV st.tm 0) a) (ha : refs1 a = []) :
    ∃ d, x = consI (.slot 0 (.cell c)) [] d () ∧ ArgC c d a := by
  unfold decSt at h
  split at h
  case isFalse => cases h
  simp only [keepT, blksI, tmS, tnS, tnV] at h
  cases h1 : tnC (tmC [] c) (getV st.tm 0) st.hp (16 * st.c) with
  | none => rw [h1] at h; cases h
  | some z =>
    obtain ⟨v, hp1, n⟩ := z
    rw [h1] at h
    simp only at h
    split at h
    case h_2 => cases h
    rename_i st1 hle
    split at hle
    case isFalse => cases hle
    cases hle
    obtain ⟨rfl, h2⟩ := VJ hc h1 hr ha
    split at h
    case h_2 => cases h
    rename_i st2 hst2
    unfold canonT at hst2
    split at hst2
    case isFalse => cases hst2
    split at hst2
    case h_2 => cases hst2
    rename_i o ho
    split at hst2
    case isFalse => cases hst2
    have hst2 := Option.some.inj hst2
    subst hst2
    simp only [slotsI, List.map_cons, List.map_nil, getV, Nat.beq_refl, cond_true] at h
    cases hhp : renHp st.hp (idxT o) 0 o with
    | cons y l => rw [hhp] at h; simp only [rdI, Nat.beq_refl, if_true] at h; split at h <;> cases h
    | nil =>
      rw [hhp] at h
      simp only [rdI, Nat.beq_refl, if_true, rdS] at h
      split at h
      · rename_i d hd
        exact ⟨d, (Option.some.inj h).symm, h2 _ _ hd⟩
      · cases h
theorem dec2 {c c' : AC} {st : TSt} {x : denI [.slot 0 (.cell c), .slot 1 (.cell c')]} {a a' : V} (hc : c.isU = false) (hc' : c'.isU = false) (h : decSt 0 [.slot 0 (.cell c), .slot 1 (.cell c')] st = some x)
    (hr : RV2 st.hp (getV st.tm 0) a) (hr' : RV2 st.hp (getV st.tm 1) a') (ha : refs1 a = []) (ha' : refs1 a' = []) :
    ∃ d d', x = consI (.slot 0 (.cell c)) [.slot 1 (.cell c')] d (consI (.slot 1 (.cell c')) [] d' ()) ∧ ArgC c d a ∧ ArgC c' d' a' := by
  unfold decSt at h
  split at h
  case isFalse => cases h
  simp only [keepT, blksI, tmS, tnS, tnV] at h
  cases h1 : tnC (tmC [] c) (getV st.tm 0) st.hp (16 * st.c) with
  | none => rw [h1] at h; cases h
  | some z =>
    obtain ⟨v, hp1, n⟩ := z
    rw [h1] at h
    simp only at h
    obtain ⟨rfl, h2⟩ := VJ hc h1 hr ha
    split at h
    case h_2 => cases h
    rename_i st1 hle
    split at hle
    case isFalse => cases hle
    have hg : getV ((0, v) :: st.tm) 1 = getV st.tm 1 := rfl
    rw [hg] at hle
    cases h3 : tnC (tmC [] c') (getV st.tm 1) st.hp (16 * (st.c + 1)) with
    | none => rw [h3] at hle; cases hle
    | some z =>
      obtain ⟨v', hp2, n'⟩ := z
      rw [h3] at hle
      simp only at hle
      obtain ⟨rfl, h4⟩ := VJ hc' h3 hr' ha'
      split at hle
      case isFalse => cases hle
      cases hle
      split at h
      case h_2 => cases h
      rename_i st2 hst2
      unfold canonT at hst2
      split at hst2
      case isFalse => cases hst2
      split at hst2
      case h_2 => cases hst2
      rename_i o ho
      split at hst2
      case isFalse => cases hst2
      have hst2 := Option.some.inj hst2
      subst hst2
      have g0 : getV ((1, v') :: (0, v) :: st.tm) 0 = v := rfl
      have g1 : getV ((1, v') :: (0, v) :: st.tm) 1 = v' := rfl
      simp only [slotsI, List.map_cons, List.map_nil, g0, g1] at h
      cases hhp : renHp st.hp (idxT o) 0 o with
      | cons y l =>
        rw [hhp] at h
        cases e1 : rdS (.cell c) (renS1 (idxT o) v) with
        | none => simp [rdI, e1] at h
        | some d => cases e2 : rdS (.cell c') (renS1 (idxT o) v') with
          | none => simp [rdI, e1, e2] at h
          | some d' => simp [rdI, e1, e2] at h
      | nil =>
        rw [hhp] at h
        cases e1 : rdS (.cell c) (renS1 (idxT o) v) with
        | none => simp [rdI, e1] at h
        | some d => cases e2 : rdS (.cell c') (renS1 (idxT o) v') with
          | none => simp [rdI, e1, e2] at h
          | some d' =>
            simp only [rdI, e1, e2, Nat.beq_refl, if_true, Option.some.injEq] at h
            exact ⟨d, d', h.symm, h2 _ _ e1, h4 _ _ e2⟩
section
variable {P : Program} {J : Tabs} {cf : Cfg} {ext : Rel}
theorem Q0 {args : List V} (h : (args.flatMap refs1).eraseDups.length = 0) : ∀ v ∈ args, refs1 v = [] := by
  have h0 : args.flatMap refs1 = [] := by
    cases hr : args.flatMap refs1 with
    | nil => rfl
    | cons i l => rw [hr] at h; simp [List.eraseDups_cons] at h
  intro v hv
  rw [List.flatMap_eq_nil_iff] at h0
  exact h0 v hv
theorem ZP {g : FuncId} {c : AC} {res : List Item} {F : denI [.slot 0 (.cell c)] → Option (denI res)} (hc : c.isU = false)
    (h : ∀ d y a, ArgC c d a → F (consI (.slot 0 (.cell c)) [] d ()) = some y → ∃ r blks', ext g [a] [] r blks' ∧ ResRel res y r blks') :
    EntOK (Runs P cf ext) ⟨⟨g, 0, [.slot 0 (.cell c)], res, [], [], []⟩, F⟩ := by
  intro x y args blks st hF hs hd hid hlen href hb0
  match args, hlen with
  | [a], _ =>
    have hb : blks = [] := hb0 rfl
    subst hb
    have hn := Q0 href
    have h0 : RV2 st.hp (getV st.tm 0) a := hs.tm 0
    obtain ⟨d, rfl, hA⟩ := dec1 hc hd h0 (hn a (by simp))
    obtain ⟨r, blks', h1, h2⟩ := h d y a hA hF
    exact ⟨r, blks', Runs.ext h1, h2⟩
theorem Tn {g : FuncId} {c c' : AC} {res : List Item} {F : denI [.slot 0 (.cell c), .slot 1 (.cell c')] → Option (denI res)} (hc : c.isU = false) (hc' : c'.isU = false)
    (h : ∀ d d' y a a', ArgC c d a → ArgC c' d' a' → F (consI (.slot 0 (.cell c)) [.slot 1 (.cell c')] d (consI (.slot 1 (.cell c')) [] d' ())) = some y → ∃ r blks', ext g [a, a'] [] r blks' ∧ ResRel res y r blks') :
    EntOK (Runs P cf ext) ⟨⟨g, 0, [.slot 0 (.cell c), .slot 1 (.cell c')], res, [], [], []⟩, F⟩ := by
  intro x y args blks st hF hs hd hid hlen href hb0
  match args, hlen with
  | [a, a'], _ =>
    have hb : blks = [] := hb0 rfl
    subst hb
    have hn := Q0 href
    have h0 : RV2 st.hp (getV st.tm 0) a := hs.tm 0
    have h1 : RV2 st.hp (getV st.tm 1) a' := hs.tm 1
    obtain ⟨d, d', rfl, hA, hA'⟩ := dec2 hc hc' hd h0 h1 (hn a (by simp)) (hn a' (by simp))
    obtain ⟨r, blks', h1, h2⟩ := h d d' y a a' hA hA' hF
    exact ⟨r, blks', Runs.ext h1, h2⟩
def Ent0 (P : Program) (g : FuncId) : Prop := ∃ fn, P.funcs[g]? = some fn ∧ okEnter fn = true ∧ fn.body.isSome = true
theorem U7 {E : Env} {b : Nat} : ¬ Own E (lkB []) b := fun ⟨id, k, hk, _⟩ => by simp [lkB] at hk
theorem Yt {w w' : World} {A : Nat → Prop} {E : Env} (hI : HpInv w (Own E (lkB [])) A E A (lkB []) w) (h : Below w.heap.size w w') : HpInv w (Own E (lkB [])) A E A (lkB []) w' := by
  refine ⟨⟨h.os, h.tape, h.output, h.size, fun b hb _ => h.block b hb, fun b cur ty fz hb => ⟨cur, fz, ?_, rfl⟩⟩, fun b hb => ?_, fun b _ => U7, fun b hb => absurd hb U7, fun id k id' k' hk => by simp [lkB] at hk, fun id k b hk => by simp [lkB] at hk, fun id k hk => by simp [lkB] at hk⟩
  · rw [h.block b (Array.getElem?_eq_some_iff.1 hb).1]; exact hb
  · have h1 := hI.g1 b hb
    have := h.size
    exact ⟨by omega, h1.2⟩
theorem Ip {g : FuncId} {args : List V} {r : V} (hent : Ent0 P g)
    (h : ∀ (w : World) (A : Nat → Prop) (E : Env) (vals : List Value), (∀ x ∈ J, w.heap[x.1]? = some x.2) → (∀ b, A b → b < w.heap.size) → VL (VR1 w E (lkB []) A) args vals →
      Calls P g vals.toArray w fun e w' => ∃ y, e = .returned y ∧ Below w.heap.size w w' ∧ VR2 w' E (lkB []) A r y) : CSpec P J g args [] r [] := by
  refine ⟨hent, fun _ w A E vals hT hI hvl => ?_⟩
  refine (show Calls P g vals w _ from (h w A E vals.toList (fun x hx => (hT x hx).1) (fun b hb => (hI.g1 b hb).1) hvl)).mono ?_
  rintro e w' ⟨y, rfl, hb, hv⟩
  exact ⟨y, E, A, rfl, Yt hI hb, hv, fun j _ k' hk => by simp at hk⟩
end
end Go.Proofs.YtgfchmagglhohaaGreatDoor.Ev

end
section
namespace Go.Proofs.YtgfchmagglhohaaGreatDoor.Ev
open Go Go.RowKit
set_option linter.unusedVariables false
set_option linter.unusedSimpArgs false
section
variable {P : Program} {J : Tabs} {cf : Cfg} {ext : Rel} {g : FuncId}
def JTab (P : Program) (J : Tabs) (name : String) (k : IntKind) (zs : List Int) : Prop := ∀ w : World, (∀ x ∈ J, w.heap[x.1]? = some x.2) → Lib.TabIs P w name k zs
theorem Ak1 {w : World} {E : Env} {A : Nat → Prop} {x : Value} {ys : List Value} (h : VL (VR1 w E (lkB []) A) [.v x] ys) : ys = [x] := by
  match ys, h with
  | [y], h =>
    have h1 : Rep w A (.v x) y := h.1
    cases h1
    rfl
  | [], h => exact h.elim
  | _ :: _ :: _, h => exact h.2.elim
theorem Ak0 {w : World} {E : Env} {A : Nat → Prop} {x x' : Value} {ys : List Value} (h : VL (VR1 w E (lkB []) A) [.v x, .v x'] ys) : ys = [x, x'] := by
  match ys, h with
  | [y, z], h =>
    have h1 : Rep w A (.v x) y := h.1
    have h2 : Rep w A (.v x') z := h.2.1
    cases h1
    cases h2
    rfl
  | [], h => exact h.elim
  | [_], h => exact h.2.elim
  | _ :: _ :: _ :: _, h => exact h.2.2.elim
def PY (n : Int) : Option Str := if -9223372036854775808 ≤ n ∧ n ≤ 9223372036854775807 then some (Lib.itoa n) else none
def itoaRel (g : FuncId) : Rel := fun g' args blks r blks' => g' = g ∧ ∃ n : Int, -9223372036854775808 ≤ n ∧ n ≤ 9223372036854775807 ∧ args = [.v (.int .i64 n)] ∧ blks = [] ∧ r = .v (.string ⟨(Lib.itoa n).toArray⟩) ∧ blks' = []
def itoaA (g : FuncId) : FAnn := ⟨g, 0, [.slot 0 (.cell (.int .i64))], [.slot 0 (.cell .str)], [], [], []⟩
theorem Yp (hent : Ent0 P g) (hc : ∀ (n : Int) (h0 : -9223372036854775808 ≤ n) (h1 : n ≤ 9223372036854775807) (w : World) (htab : Lib.TabIs P w "internal/strconv.uint64pow10" .u64 Lib.pow10Tab),
    Calls P g #[.int .i64 n] w fun e w' => e = .returned (.string ⟨(Lib.itoa n).toArray⟩) ∧ ∃ k os, w' = Sort.grow (w.drewN k) os) (hJ : JTab P J "internal/strconv.uint64pow10" .u64 Lib.pow10Tab) :
    ∀ g' args blks r blks', itoaRel g g' args blks r blks' → CSpec P J g' args blks r blks' := by
  rintro g' args blks r blks' ⟨rfl, n, h0, h1, rfl, rfl, rfl, rfl⟩
  refine Ip hent fun w A E vals hT hA hvl => ?_
  rw [Ak1 hvl]
  refine (hc n h0 h1 w (hJ w hT)).mono ?_
  rintro e w' ⟨rfl, k, os, rfl⟩
  exact ⟨_, rfl, Lib.below_grow _ w (Nat.le_refl _) k os, .v _ rfl⟩
theorem YI (hx : ∀ g' args blks r blks', itoaRel g g' args blks r blks' → ext g' args blks r blks') : EntOK (Runs P cf ext) ⟨itoaA g, PY⟩ := by
  refine ZP rfl fun d y a ha hF => ?_
  have hF : PY d = some y := hF
  unfold PY at hF
  split at hF
  · rename_i h
    cases hF
    have ha : a = .v (.int .i64 d) := ha
    exact ⟨_, [], hx _ _ _ _ _ ⟨rfl, d, h.1, h.2, by rw [ha], rfl, rfl, rfl⟩, rfl, fun id b hb => by simp [encI, getB] at hb, rfl⟩
  · cases hF
def OT (l : List Str) (sep : Str) : Option Str := if l.length ≤ 140737488355328 ∧ (Lib.join l sep).length ≤ 140737488355328 then some (Lib.join l sep) else none
def joinRel (g : FuncId) : Rel := fun g' args blks r blks' => g' = g ∧ ∃ (l : List Str) (sep : Str) (a : V), l.length ≤ 140737488355328 ∧ (Lib.join l sep).length ≤ 140737488355328 ∧ ArgC (.im .str) l a ∧ args = [a, .v (.string ⟨sep.toArray⟩)] ∧ blks = [] ∧
  r = .v (.string ⟨(Lib.join l sep).toArray⟩) ∧ blks' = []
def joinA (g : FuncId) : FAnn := ⟨g, 0, [.slot 0 (.cell (.im .str)), .slot 1 (.cell .str)], [.slot 0 (.cell .str)], [], [], []⟩
theorem XK (hent : Ent0 P g) (hc0 : ∀ (a : Option Addr) (c : Nat) (sep : ByteArray) (w : World), Calls P g #[.slice a 0 c, .string sep] w fun e w' => e = .returned (.string ⟨#[]⟩) ∧ w' = w)
    (hc : ∀ (bk o c : Nat) (xs : List ByteArray) (sep : ByteArray) (w : World) (hcells : ∀ (j : Nat) x, xs[j]? = some x → w.cell? ⟨bk, o + j, none⟩ = some (.string x)) (hbk : bk < w.heap.size) (hN : xs.length ≤ 140737488355328) (hcap : xs.length ≤ c) (hlen : (Lib.join (xs.map (·.data.toList)) sep.data.toList).length ≤ 140737488355328),
      Calls P g #[.slice (some ⟨bk, o, none⟩) xs.length c, .string sep] w fun e w' => e = .returned (.string ⟨(Lib.join (xs.map (·.data.toList)) sep.data.toList).toArray⟩) ∧ Below w.heap.size w w') :
    ∀ g' args blks r blks', joinRel g g' args blks r blks' → CSpec P J g' args blks r blks' := by
  rintro g' args blks r blks' ⟨rfl, l, sep, a, hl1, hl2, ha, rfl, rfl, rfl, rfl⟩
  refine Ip hent fun w A E vals hT hA hvl => ?_
  obtain ⟨y, rfl, hy⟩ : ∃ y, vals = [y, .string ⟨sep.toArray⟩] ∧ VR1 w E (lkB []) A a y := by
    match vals, hvl with
    | [y, z], h =>
      have h2 : Rep w A (.v (.string ⟨sep.toArray⟩)) z := h.2.1
      cases h2
      exact ⟨y, rfl, h.1⟩
    | [], h => exact h.elim
    | [_], h => exact h.2.elim
    | _ :: _ :: _ :: _, h => exact h.2.2.elim
  have empty : ∀ (a : Option Addr) (c : Nat), l = [] → Calls P g' [Value.slice a 0 c, .string ⟨sep.toArray⟩].toArray w fun e w' => ∃ y, e = .returned y ∧ Below w.heap.size w w' ∧ VR2 w' E (lkB []) A (.v (.string ⟨(Lib.join l sep).toArray⟩)) y := by
    intro a c h0
    subst h0
    refine (hc0 a c ⟨sep.toArray⟩ w).mono ?_
    rintro e w' ⟨rfl, rfl⟩
    exact ⟨_, rfl, Below.refl _ _, .v _ rfl⟩
  rcases ha with ⟨h0, rfl⟩ | ⟨rows, rfl, hrows⟩
  · have hy : Rep w A .em y := hy
    cases hy with
    | em a => exact empty a 0 h0
  · have hy : Rep w A (.im rows) y := hy
    cases hy with
    | im0 a cap => exact empty a cap (List.eq_nil_of_length_eq_zero (by have := hrows.1; simpa using this.symm))
    | im b off cap size rows f hb hs hcap hcm hrl hcell hrep =>
      have hone : ∀ (i : Nat) (s : Str), l[i]? = some s → rows[i]? = some [V.v (.string ⟨s.toArray⟩)] := by
        intro i s hi
        obtain ⟨row, h1, h2⟩ := hrows.get hi
        rw [h1]
        have h2 : row = _ := h2
        rw [h2]
      have hsz : l ≠ [] → size = 1 := by
        intro hne
        match l, hne, hone with
        | s :: l', _, hone =>
          have := hrl 0 _ (hone 0 s rfl)
          simpa using this.symm
      by_cases h0 : l = []
      · have hr0 : rows.length = 0 := by have := hrows.1; rw [h0] at this; simpa using this
        rw [hr0]
        exact empty _ cap h0
      · have hs1 := hsz h0
        subst hs1
        have hmap : (l.map fun s => (⟨s.toArray⟩ : ByteArray)).map (fun b => b.data.toList) = l := by simp [Function.comp_def]
        have hll : (l.map fun s => (⟨s.toArray⟩ : ByteArray)).length = rows.length := by simp [hrows.1]
        have key := hc b off cap (l.map fun s => ⟨s.toArray⟩) ⟨sep.toArray⟩ w (fun j x hx => by
          rw [List.getElem?_map, Option.map_eq_some_iff] at hx
          obtain ⟨s, h1, rfl⟩ := hx
          have h2 := hone j s h1
          have h3 := hcell j 0 _ _ h2 rfl
          have h4 := hrep j 0 _ _ h2 rfl
          rw [Nat.mul_one, Nat.add_zero] at h3
          rw [h3]
          generalize f j 0 = z at h4
          cases h4
          rfl) (hA b hb) (by rw [hll]; have := hrows.1; omega) (by rw [hll]; exact hcap) (by rw [hmap]; simpa using hl2)
        rw [hll, hmap] at key
        refine key.mono ?_
        rintro e w' ⟨rfl, hbl⟩
        exact ⟨_, rfl, hbl, .v _ rfl⟩
theorem YH (hx : ∀ g' args blks r blks', joinRel g g' args blks r blks' → ext g' args blks r blks') : EntOK (Runs P cf ext) ⟨joinA g, fun x => OT x.1 x.2⟩ := by
  refine Tn rfl rfl fun d d' y a a' ha ha' hF => ?_
  have hF : OT d d' = some y := hF
  unfold OT at hF
  split at hF
  · rename_i h
    cases hF
    have ha' : a' = .v (.string ⟨(show Str from d').toArray⟩) := ha'
    exact ⟨_, [], hx _ _ _ _ _ ⟨rfl, d, d', a, h.1, h.2, ha, by rw [ha'], rfl, rfl, rfl⟩, rfl, fun id b hb => by simp [encI, getB] at hb, rfl⟩
  · cases hF
def TS (s : Str) (c : Int) : Option Str := if 0 ≤ c ∧ c ≤ 9223372036854775807 ∧ s.length * c.toNat ≤ 140737488355328 then some (Lib.repeatL s c.toNat) else none
def repRel (g : FuncId) : Rel := fun g' args blks r blks' => g' = g ∧ ∃ (s : Str) (c : Nat), c ≤ 9223372036854775807 ∧ s.length * c ≤ 140737488355328 ∧ args = [.v (.string ⟨s.toArray⟩), .v (.int .i64 (c : Int))] ∧ blks = [] ∧ r = .v (.string ⟨(Lib.repeatL s c).toArray⟩) ∧ blks' = []
def repA (g : FuncId) : FAnn := ⟨g, 0, [.slot 0 (.cell .str), .slot 1 (.cell (.int .i64))], [.slot 0 (.cell .str)], [], [], []⟩
theorem Zl (hent : Ent0 P g) (hc : ∀ (s : ByteArray) (c : Nat) (w : World) (hc : c ≤ 9223372036854775807) (hlen : s.size * c ≤ 140737488355328),
    Calls P g #[.string s, .int .i64 c] w fun e w' => e = .returned (.string ⟨(Lib.repeatL s.data.toList c).toArray⟩) ∧ Below w.heap.size w w') :
    ∀ g' args blks r blks', repRel g g' args blks r blks' → CSpec P J g' args blks r blks' := by
  rintro g' args blks r blks' ⟨rfl, s, c, hc1, hlen, rfl, rfl, rfl, rfl⟩
  refine Ip hent fun w A E vals hT hA hvl => ?_
  rw [Ak0 hvl]
  refine (hc ⟨s.toArray⟩ c w hc1 (by simpa [ByteArray.size] using hlen)).mono ?_
  rintro e w' ⟨rfl, hb⟩
  exact ⟨_, rfl, hb, .v _ rfl⟩
theorem Aa5 (hx : ∀ g' args blks r blks', repRel g g' args blks r blks' → ext g' args blks r blks') : EntOK (Runs P cf ext) ⟨repA g, fun x => TS x.1 x.2⟩ := by
  refine Tn rfl rfl fun d d' y a a' ha ha' hF => ?_
  have hF : TS d d' = some y := hF
  unfold TS at hF
  split at hF
  · rename_i h
    cases hF
    have ha : a = .v (.string ⟨(show Str from d).toArray⟩) := ha
    have ha' : a' = .v (.int .i64 d') := ha'
    exact ⟨_, [], hx _ _ _ _ _ ⟨rfl, d, (show Int from d').toNat, Int.toNat_le.2 (show (show Int from d') ≤ ((9223372036854775807 : Nat) : Int) from h.2.1), h.2.2, by rw [ha, ha', Int.toNat_of_nonneg h.1], rfl, rfl, rfl⟩, rfl, fun id b hb => by simp [encI, getB] at hb, rfl⟩
  · cases hF
end
end Go.Proofs.YtgfchmagglhohaaGreatDoor.Ev

end
section
namespace Go.Proofs
open Go.Shelf
def Tryz.lays156_ren : Go.Shelf.Ren := ⟨fun | 156 => 155 | 165 => 197 | 166 => 198 | 169 => 199 | 240 => 229 | 241 => 230 | 276 => 251 | 277 => 252 | n => n, fun | 31 => 87 | 9 => 9 | 3 => 3 | 4 => 4 | 0 => 0 | 20 => 20 | 72 => 171 | 76 => 93 | 70 => 169 | 37 => 22 | 75 => 92 | 127 => 196 | 164 => 218 | 5 => 5 | 80 => 109 | n => n, fun | n => n⟩
theorem Tryz.lays156 : Go.Proofs.Lays.n156 Tryz.prog Tryz.lays156_ren := {
  mixed := by kernel_rfl
  f156 := Tryz.func155.trans (congrArg some (by kernel_rfl))
  f165 := Tryz.func197.trans (congrArg some (by kernel_rfl))
  f166 := Tryz.func198.trans (congrArg some (by kernel_rfl))
  f169 := Tryz.func199.trans (congrArg some (by kernel_rfl))
  f240 := Tryz.func229.trans (congrArg some (by kernel_rfl))
  f241 := Tryz.func230.trans (congrArg some (by kernel_rfl))
  f276 := Tryz.func251.trans (congrArg some (by kernel_rfl))
  f277 := Tryz.func252.trans (congrArg some (by kernel_rfl))
  t0 := Tryz.underlying0
  a0 := Tryz.isAgg0
  z0 := Tryz.sizeOf0
  v0 := Tryz.zeroValue0
  t3 := Tryz.underlying3
  a3 := Tryz.isAgg3
  z3 := Tryz.sizeOf3
  v3 := Tryz.zeroValue3
  t4 := Tryz.underlying4
  a4 := Tryz.isAgg4
  z4 := Tryz.sizeOf4
  v4 := Tryz.zeroValue4
  t9 := Tryz.underlying9
  a9 := Tryz.isAgg9
  z9 := Tryz.sizeOf9
  v9 := Tryz.zeroValue9
  t20 := Tryz.underlying20
  a20 := Tryz.isAgg20
  z20 := Tryz.sizeOf20
  v20 := Tryz.zeroValue20
  t31 := Tryz.underlying87
  a31 := Tryz.isAgg87
  z31 := Tryz.sizeOf87
  v31 := Tryz.zeroValue87
  t37 := Tryz.underlying22
  a37 := Tryz.isAgg22
  z37 := Tryz.sizeOf22
  v37 := Tryz.zeroValue22
  t70 := Tryz.underlying169
  a70 := Tryz.isAgg169
  z70 := Tryz.sizeOf169
  v70 := Tryz.zeroValue169
  t72 := Tryz.underlying171
  a72 := Tryz.isAgg171
  z72 := Tryz.sizeOf171
  v72 := Tryz.zeroValue171
  t75 := Tryz.underlying92
  a75 := Tryz.isAgg92
  z75 := Tryz.sizeOf92
  v75 := Tryz.zeroValue92
  t76 := Tryz.underlying93
  a76 := Tryz.isAgg93
  z76 := Tryz.sizeOf93
  v76 := Tryz.zeroValue93
  t127 := Tryz.underlying196
  a127 := Tryz.isAgg196
  z127 := Tryz.sizeOf196
  v127 := Tryz.zeroValue196
  t164 := Tryz.underlying218
  a164 := Tryz.isAgg218
  z164 := Tryz.sizeOf218
  v164 := Tryz.zeroValue218 }
theorem Tryz.Builder_Extra_156 : Builder.Extra Tryz.prog Tryz.lays156_ren := {
  sizeBuilder := by kernel_rfl
  liesBuilder := by kernel_rfl
  t5 := Tryz.underlying5
  a5 := Tryz.isAgg5
  z5 := Tryz.sizeOf5
  v5 := Tryz.zeroValue5
  infoByte := by kernel_rfl
  cellsByte := by kernel_rfl
  sizeByte := by kernel_rfl
  neB5 := by decide }
open Go.RowKit in
theorem Tryz.strings_Join_none (a : Option Addr) (c : Nat) (sep : ByteArray) (w : World) :
    Calls Tryz.prog 155 #[.slice a 0 c, .string sep] w fun e w' => e = .returned (.string ⟨#[]⟩) ∧ w' = w := Any.strings_Join_none Tryz.lays156 Tryz.Builder_Extra_156 a c sep w
open Go.RowKit in
theorem Tryz.strings_Join (bk o c : Nat) (xs : List ByteArray) (sep : ByteArray) (w : World) (hcells : ∀ (j : Nat) x, xs[j]? = some x → w.cell? ⟨bk, o + j, none⟩ = some (.string x)) (hbk : bk < w.heap.size) (hN : xs.length ≤ 140737488355328) (hcap : xs.length ≤ c) (hlen : (Lib.join (xs.map (·.data.toList)) sep.data.toList).length ≤ 140737488355328) :
    Calls Tryz.prog 155 #[.slice (some ⟨bk, o, none⟩) xs.length c, .string sep] w fun e w' => e = .returned (.string ⟨(Lib.join (xs.map (·.data.toList)) sep.data.toList).toArray⟩) ∧ Below w.heap.size w w' := Any.strings_Join Tryz.lays156 Tryz.Builder_Extra_156 bk o c xs sep w hcells hbk hN hcap hlen
def Tryz.laysM171_ren : Go.Shelf.Ren := ⟨fun | 171 => 154 | 243 => 196 | 246 => 228 | 283 => 247 | 284 => 248 | 285 => 249 | 286 => 250 | 129 => 261 | 317 => 260 | 318 => 262 | 319 => 263 | 320 => 264 | 337 => 265 | 338 => 266 | n => n, fun | 3 => 3 | 9 => 9 | 2 => 2 | 4 => 4 | 171 => 213 | 0 => 0 | 53 => 76 | 37 => 22 | 5 => 5 | 173 => 216 | 212 => 228 | 51 => 206 | 20 => 20 | 213 => 229 | 46 => 144 | 232 => 236 | 233 => 237 | n => n, fun | 17 => 3 | 18 => 6 | 19 => 7 | n => n⟩
theorem Tryz.laysM171 : Go.Proofs.LaysM.n171 Tryz.prog Tryz.laysM171_ren := {
  mixed := by kernel_rfl
  f129 := Tryz.func261.trans (congrArg some (by kernel_rfl))
  f171 := Tryz.func154.trans (congrArg some (by kernel_rfl))
  f243 := Tryz.func196.trans (congrArg some (by kernel_rfl))
  f246 := Tryz.func228.trans (congrArg some (by kernel_rfl))
  f283 := Tryz.func247.trans (congrArg some (by kernel_rfl))
  f284 := Tryz.func248.trans (congrArg some (by kernel_rfl))
  f285 := Tryz.func249.trans (congrArg some (by kernel_rfl))
  f286 := Tryz.func250.trans (congrArg some (by kernel_rfl))
  f317 := Tryz.func260.trans (congrArg some (by kernel_rfl))
  f318 := Tryz.func262.trans (congrArg some (by kernel_rfl))
  f319 := Tryz.func263.trans (congrArg some (by kernel_rfl))
  f320 := Tryz.func264.trans (congrArg some (by kernel_rfl))
  f337 := Tryz.func265.trans (congrArg some (by kernel_rfl))
  f338 := Tryz.func266.trans (congrArg some (by kernel_rfl))
  t0 := Tryz.underlying0
  a0 := Tryz.isAgg0
  z0 := Tryz.sizeOf0
  v0 := Tryz.zeroValue0
  t2 := Tryz.underlying2
  a2 := Tryz.isAgg2
  z2 := Tryz.sizeOf2
  v2 := Tryz.zeroValue2
  t3 := Tryz.underlying3
  a3 := Tryz.isAgg3
  z3 := Tryz.sizeOf3
  v3 := Tryz.zeroValue3
  t4 := Tryz.underlying4
  a4 := Tryz.isAgg4
  z4 := Tryz.sizeOf4
  v4 := Tryz.zeroValue4
  t5 := Tryz.underlying5
  a5 := Tryz.isAgg5
  z5 := Tryz.sizeOf5
  v5 := Tryz.zeroValue5
  t9 := Tryz.underlying9
  a9 := Tryz.isAgg9
  z9 := Tryz.sizeOf9
  v9 := Tryz.zeroValue9
  t20 := Tryz.underlying20
  a20 := Tryz.isAgg20
  z20 := Tryz.sizeOf20
  v20 := Tryz.zeroValue20
  t37 := Tryz.underlying22
  a37 := Tryz.isAgg22
  z37 := Tryz.sizeOf22
  v37 := Tryz.zeroValue22
  t46 := Tryz.underlying144
  a46 := Tryz.isAgg144
  z46 := Tryz.sizeOf144
  v46 := Tryz.zeroValue144
  t51 := Tryz.underlying206
  a51 := Tryz.isAgg206
  z51 := Tryz.sizeOf206
  v51 := Tryz.zeroValue206
  t53 := Tryz.underlying76
  a53 := Tryz.isAgg76
  z53 := Tryz.sizeOf76
  v53 := Tryz.zeroValue76
  t171 := Tryz.underlying213
  a171 := Tryz.isAgg213
  z171 := Tryz.sizeOf213
  v171 := Tryz.zeroValue213
  t173 := Tryz.underlying216
  a173 := Tryz.isAgg216
  z173 := Tryz.sizeOf216
  v173 := Tryz.zeroValue216
  t212 := Tryz.underlying228
  a212 := Tryz.isAgg228
  z212 := Tryz.sizeOf228
  v212 := Tryz.zeroValue228
  t213 := Tryz.underlying229
  a213 := Tryz.isAgg229
  z213 := Tryz.sizeOf229
  t232 := Tryz.underlying236
  a232 := Tryz.isAgg236
  z232 := Tryz.sizeOf236
  v232 := Tryz.zeroValue236
  t233 := Tryz.underlying237
  a233 := Tryz.isAgg237
  z233 := Tryz.sizeOf237
  v233 := Tryz.zeroValue237
  g17 := by kernel_rfl
  g18 := by kernel_rfl
  g19 := by kernel_rfl
  i0 := by kernel_rfl
  i2 := by kernel_rfl
  i3 := by kernel_rfl
  i4 := by kernel_rfl
  i5 := by kernel_rfl
  i9 := by kernel_rfl
  i20 := by kernel_rfl
  i37 := by kernel_rfl
  i46 := by kernel_rfl
  i51 := by kernel_rfl
  i53 := by kernel_rfl
  i171 := by kernel_rfl
  i173 := by kernel_rfl
  i212 := by kernel_rfl
  i232 := by kernel_rfl
  i233 := by kernel_rfl
  m17 := by kernel_rfl
  m18 := by kernel_rfl
  m19 := by kernel_rfl }
open Go.RowKit Go.Sort Go.Lib in
theorem Tryz.strconv_Itoa (n : Int) (h0 : -9223372036854775808 ≤ n) (h1 : n ≤ 9223372036854775807) (w : World) (htab : Lib.TabIs Tryz.prog w "internal/strconv.uint64pow10" .u64 Lib.pow10Tab) :
    Calls Tryz.prog 154 #[.int .i64 n] w fun e w' => e = .returned (.string ⟨(Lib.itoa n).toArray⟩) ∧ ∃ k os, w' = grow (w.drewN k) os := Any.strconv_Itoa Tryz.laysM171 n h0 h1 w htab
def Tryz.lays105_ren : Go.Shelf.Ren := ⟨fun | 105 => 172 | 212 => 211 | 99 => 212 | 165 => 197 | 166 => 198 | 170 => 213 | 169 => 199 | 263 => 241 | 264 => 242 | 206 => 220 | 240 => 229 | 241 => 230 | 276 => 251 | 277 => 252 | n => n, fun | 9 => 9 | 3 => 3 | 4 => 4 | 20 => 20 | 0 => 0 | 46 => 144 | 109 => 182 | 5 => 5 | 72 => 171 | 76 => 93 | 51 => 206 | 146 => 207 | 53 => 76 | 148 => 209 | 70 => 169 | 37 => 22 | 75 => 92 | 127 => 196 | 164 => 218 | 80 => 109 | n => n, fun | n => n⟩
theorem Tryz.lays105 : Go.Proofs.Lays.n105 Tryz.prog Tryz.lays105_ren := {
  mixed := by kernel_rfl
  f99 := Tryz.func212.trans (congrArg some (by kernel_rfl))
  f105 := Tryz.func172.trans (congrArg some (by kernel_rfl))
  f165 := Tryz.func197.trans (congrArg some (by kernel_rfl))
  f166 := Tryz.func198.trans (congrArg some (by kernel_rfl))
  f169 := Tryz.func199.trans (congrArg some (by kernel_rfl))
  f170 := Tryz.func213.trans (congrArg some (by kernel_rfl))
  f206 := Tryz.func220.trans (congrArg some (by kernel_rfl))
  f212 := Tryz.func211.trans (congrArg some (by kernel_rfl))
  f240 := Tryz.func229.trans (congrArg some (by kernel_rfl))
  f241 := Tryz.func230.trans (congrArg some (by kernel_rfl))
  f263 := Tryz.func241.trans (congrArg some (by kernel_rfl))
  f264 := Tryz.func242.trans (congrArg some (by kernel_rfl))
  f276 := Tryz.func251.trans (congrArg some (by kernel_rfl))
  f277 := Tryz.func252.trans (congrArg some (by kernel_rfl))
  t0 := Tryz.underlying0
  a0 := Tryz.isAgg0
  z0 := Tryz.sizeOf0
  v0 := Tryz.zeroValue0
  t3 := Tryz.underlying3
  a3 := Tryz.isAgg3
  z3 := Tryz.sizeOf3
  v3 := Tryz.zeroValue3
  t4 := Tryz.underlying4
  a4 := Tryz.isAgg4
  z4 := Tryz.sizeOf4
  v4 := Tryz.zeroValue4
  t5 := Tryz.underlying5
  a5 := Tryz.isAgg5
  z5 := Tryz.sizeOf5
  v5 := Tryz.zeroValue5
  t9 := Tryz.underlying9
  a9 := Tryz.isAgg9
  z9 := Tryz.sizeOf9
  v9 := Tryz.zeroValue9
  t20 := Tryz.underlying20
  a20 := Tryz.isAgg20
  z20 := Tryz.sizeOf20
  v20 := Tryz.zeroValue20
  t37 := Tryz.underlying22
  a37 := Tryz.isAgg22
  z37 := Tryz.sizeOf22
  v37 := Tryz.zeroValue22
  t46 := Tryz.underlying144
  a46 := Tryz.isAgg144
  z46 := Tryz.sizeOf144
  v46 := Tryz.zeroValue144
  t51 := Tryz.underlying206
  a51 := Tryz.isAgg206
  z51 := Tryz.sizeOf206
  v51 := Tryz.zeroValue206
  t53 := Tryz.underlying76
  a53 := Tryz.isAgg76
  z53 := Tryz.sizeOf76
  v53 := Tryz.zeroValue76
  t70 := Tryz.underlying169
  a70 := Tryz.isAgg169
  z70 := Tryz.sizeOf169
  v70 := Tryz.zeroValue169
  t72 := Tryz.underlying171
  a72 := Tryz.isAgg171
  z72 := Tryz.sizeOf171
  v72 := Tryz.zeroValue171
  t75 := Tryz.underlying92
  a75 := Tryz.isAgg92
  z75 := Tryz.sizeOf92
  v75 := Tryz.zeroValue92
  t76 := Tryz.underlying93
  a76 := Tryz.isAgg93
  z76 := Tryz.sizeOf93
  v76 := Tryz.zeroValue93
  t109 := Tryz.underlying182
  a109 := Tryz.isAgg182
  z109 := Tryz.sizeOf182
  v109 := Tryz.zeroValue182
  t127 := Tryz.underlying196
  a127 := Tryz.isAgg196
  z127 := Tryz.sizeOf196
  v127 := Tryz.zeroValue196
  t146 := Tryz.underlying207
  a146 := Tryz.isAgg207
  z146 := Tryz.sizeOf207
  v146 := Tryz.zeroValue207
  t148 := Tryz.underlying209
  a148 := Tryz.isAgg209
  z148 := Tryz.sizeOf209
  v148 := Tryz.zeroValue209
  t164 := Tryz.underlying218
  a164 := Tryz.isAgg218
  z164 := Tryz.sizeOf218
  v164 := Tryz.zeroValue218 }
theorem Tryz.Builder_Extra_105 : Builder.Extra Tryz.prog Tryz.lays105_ren := {
  sizeBuilder := by kernel_rfl
  liesBuilder := by kernel_rfl
  t5 := Tryz.underlying5
  a5 := Tryz.isAgg5
  z5 := Tryz.sizeOf5
  v5 := Tryz.zeroValue5
  infoByte := by kernel_rfl
  cellsByte := by kernel_rfl
  sizeByte := by kernel_rfl
  neB5 := by decide }
open Go.RowKit Go.Lib in
theorem Tryz.strings_Repeat (s : ByteArray) (c : Nat) (w : World) (hc : c ≤ 9223372036854775807) (hlen : s.size * c ≤ 140737488355328) :
    Calls Tryz.prog 172 #[.string s, .int .i64 c] w fun e w' => e = .returned (.string ⟨(Lib.repeatL s.data.toList c).toArray⟩) ∧ Below w.heap.size w w' := Any.strings_Repeat Tryz.lays105 Tryz.Builder_Extra_105 s c w hc hlen
end Go.Proofs

end
section
namespace Go.Proofs.YtgfchmagglhohaaGreatDoor.Ev
open Go Go.RowKit
set_option linter.unusedVariables false
variable {H : Type} {enc : TypeId × Value → H}
theorem Iz {a : Assume} {C : Checked} {os : Os} {f : FuncId} {fn : Func} {s : ChangeSpec} {conds : List PathCond} {apart fresh handsOn again : Bool} {X : World → Array Value → Prop}
    (hX : ∀ (w w' : World) (args : Array Value), w.heap = w'.heap → X w args → X w' args)
    (own : ownKnob C.prog.godebug = none) (started : os.Started) (noInit : C.prog.inits.idxOf? f = none) (hfn : C.prog.funcs[f]? = some fn)
    (witness : ∃ (w : World) (tape : Tape) (i : Input), w.os = os ∧ (w.forCall tape i).Shaped C.prog ∧ i.vars = [] ∧ Input.okWide C.prog (w.forCall tape i) .any w.heap.size f i ∧
      ((s.pre enc C.prog fn conds apart (w.forCall tape i).memory i.args ∧ X (w.forCall tape i).memory i.args) ∧ sizedMet enc C.prog fn (OpenSpec.ofChange s) apart (w.forCall tape i).memory i.args) ∧ a.holds C.prog (lone (Frame.enter C.prog f i.args .normal) [] (w.forCall tape i)))
    (contract : ∀ (W : World) (base : Nat) (args : Array Value) (ds gs : List (DataW H)) (before : List MemPlace),
      (∀ (j : Nat) t v, fn.params[j]? = some t → args[j]? = some v → Value.okWide C.prog W .any base t v) →
      DataW.Whole enc C.prog fn.params.toList s.vars apart W args.toList ds gs before →
      (DataW.weightsEach C.prog (fn.params.toList ++ s.plain.varTypes C.prog) (ds ++ gs)).all (· ≤ reachBytes) = true →
      W.ShapedOpen C.prog → X W args →
      Calls C.prog f args W fun e W' => ∃ v, e = .returned v ∧ s.post enc C.prog fn apart fresh handsOn again W args v W') :
    ReturnsInHanded a C os f .any (fun w args => (s.pre enc C.prog fn conds apart w args ∧ X w args) ∧ sizedMet enc C.prog fn (OpenSpec.ofChange s) apart w args) (s.post enc C.prog fn apart fresh handsOn again) := by
  refine returnsInHanded_of_calls own started noInit witness ?_
  intro w tape i _ hsh _ hok hpre hholds
  obtain ⟨_, _, _, fn', hfn', _, _, _, _, hval⟩ := hok
  have e : fn' = fn := Option.some.inj (hfn'.symm.trans hfn)
  subst e
  obtain ⟨⟨⟨ds, gs, before, hw, hc⟩, hx⟩, hz⟩ := hpre
  have hw' := DataW.Whole.of_heap (w' := w.forCall tape i) (by rfl) hw
  refine (contract (w.forCall tape i) w.heap.size i.args ds gs before hval hw' (hz.weights hw) hsh (hX _ _ _ (by rfl) hx)).mono fun e W' ⟨v, he, hp⟩ => ?_
  subst he
  exact ChangeSpec.post_blind hp
def Jof (w : World) (ids : List Nat) : Tabs := ids.filterMap fun g => (w.heap[g]?).map fun o => (g, o)
theorem Zt {w : World} {ids : List Nat} : ∀ x ∈ Jof w ids, w.heap[x.1]? = some x.2 := by
  intro x hx
  simp only [Jof, List.mem_filterMap, Option.map_eq_some_iff] at hx
  obtain ⟨g, _, o, ho, rfl⟩ := hx
  exact ho
theorem ZN {w w' : World} {ids : List Nat} (h : ∀ x ∈ Jof w ids, w'.heap[x.1]? = some x.2) {g : Nat} (hg : g ∈ ids) {o : Obj} (ho : w.heap[g]? = some o) : w'.heap[g]? = some o :=
  h (g, o) (by simp only [Jof, List.mem_filterMap, Option.map_eq_some_iff]; exact ⟨g, hg, o, ho, rfl⟩)
theorem Ae6 {P : Program} {w w' : World} {ids : List Nat} (h : ∀ x ∈ Jof w ids, w'.heap[x.1]? = some x.2) {name : String} {g : Nat} (hn : P.globalNamed name = some g) (hg : g ∈ ids) {cs : Array Value}
    (hv : w.var? P name = some cs) : w'.var? P name = some cs := by
  cases ho : w.heap[g]? with
  | none => simp [World.var?, hn, ho] at hv
  | some o =>
    have := ZN h hg ho
    simp only [World.var?, hn, Option.bind_some, ho] at hv
    simp only [World.var?, hn, Option.bind_some, this]
    exact hv
theorem jtab {P : Program} {w : World} {ids : List Nat} {name : String} {g : Nat} {k : IntKind} {zs : List Int} (hn : P.globalNamed name = some g) (hg : g ∈ ids) (h : Lib.TabIs P w name k zs) : JTab P (Jof w ids) name k zs :=
  fun _ hw => Ae6 hw hn hg h
theorem Kr {P : Program} {w : World} : ∀ (n : Nat) {l : List (String × DataW Unit)}, laidMet P l w → laidMet P (l.drop n) w
  | 0, _, h => h
  | n + 1, [], h => h
  | n + 1, _ :: _, h => Kr n h.tail
end Go.Proofs.YtgfchmagglhohaaGreatDoor.Ev

end
section
namespace Go.Proofs.YtgfchmagglhohaaGreatDoor.Ev
open Go
set_option maxRecDepth 100000
set_option linter.unusedVariables false
def tyD3 : TyD := ⟨1, 8, false, [(.v (.int .i64 0))], none, false, (some .i64), [], false⟩
def tyD4 : TyD := ⟨1, 1, false, [(.v (.bool false))], none, false, none, [], false⟩
def tyD5 : TyD := ⟨1, 1, false, [(.v (.int .u8 0))], none, false, (some .u8), [], false⟩
def tyD9 : TyD := ⟨1, 16, false, [(.v (.string ⟨#[]⟩))], none, true, none, [], false⟩
def tyD22 : TyD := ⟨1, 24, false, [.em], (some 5), false, none, [], false⟩
def tyD23 : TyD := ⟨1, 24, false, [.em], (some 3), false, none, [], false⟩
def tyD44 : TyD := ⟨2, 32, true, [(.v (.bool false)), .em], none, false, none, [⟨0, 4, 1, false⟩, ⟨1, 23, 1, false⟩], false⟩
def tyD59 : TyD := ⟨4, 64, true, [(.v (.bool false)), .em, (.v (.bool false)), .em], none, false, none, [⟨0, 44, 2, true⟩, ⟨2, 44, 2, true⟩], false⟩
def tyD76 : TyD := ⟨1, 8, false, [(.v (.int .u64 0))], none, false, (some .u64), [], false⟩
def tyD78 : TyD := ⟨3, 40, true, [.em, (.v (.int .i64 0)), (.v (.int .u64 0))], none, false, none, [⟨0, 22, 1, false⟩, ⟨1, 3, 1, false⟩, ⟨2, 76, 1, false⟩], false⟩
def tyD87 : TyD := ⟨1, 24, false, [.em], (some 9), false, none, [], false⟩
def tyD140 : TyD := ⟨1, 24, false, [.em], (some 44), false, none, [], false⟩
def tyD144 : TyD := ⟨1, 8, false, [(.v (.int .u64 0))], none, false, (some .u64), [], false⟩
def tyD153 : TyD := ⟨1, 24, false, [.em], (some 59), false, none, [], false⟩
theorem ty3 : tyOf Tryz.prog 3 = some tyD3 := by kernel_rfl
theorem ty4 : tyOf Tryz.prog 4 = some tyD4 := by kernel_rfl
theorem ty5 : tyOf Tryz.prog 5 = some tyD5 := by kernel_rfl
theorem ty9 : tyOf Tryz.prog 9 = some tyD9 := by kernel_rfl
theorem ty22 : tyOf Tryz.prog 22 = some tyD22 := by kernel_rfl
theorem ty23 : tyOf Tryz.prog 23 = some tyD23 := by kernel_rfl
theorem ty44 : tyOf Tryz.prog 44 = some tyD44 := by kernel_rfl
theorem ty59 : tyOf Tryz.prog 59 = some tyD59 := by kernel_rfl
theorem ty76 : tyOf Tryz.prog 76 = some tyD76 := by kernel_rfl
theorem ty78 : tyOf Tryz.prog 78 = some tyD78 := by kernel_rfl
theorem ty87 : tyOf Tryz.prog 87 = some tyD87 := by kernel_rfl
theorem ty140 : tyOf Tryz.prog 140 = some tyD140 := by kernel_rfl
theorem ty144 : tyOf Tryz.prog 144 = some tyD144 := by kernel_rfl
theorem ty153 : tyOf Tryz.prog 153 = some tyD153 := by kernel_rfl
def tyTab : List (Nat × TyD) := [(3, tyD3), (4, tyD4), (5, tyD5), (9, tyD9), (22, tyD22), (23, tyD23), (44, tyD44), (59, tyD59), (76, tyD76), (78, tyD78), (87, tyD87), (140, tyD140), (144, tyD144), (153, tyD153)]
def codTab : List (Nat × Ty) := [(3, .int .i64), (5, .int .u8), (9, .str), (44, .pair (.bool) (.sl (.int .i64))), (59, .pair (.pair (.bool) (.sl (.int .i64))) (.pair (.bool) (.sl (.int .i64))))]
theorem tyOK : ∀ t d, getD tyTab t = some d → tyOf Tryz.prog t = some d := Ah1 (by unfold tyTab; exact ⟨ty3, ⟨ty4, ⟨ty5, ⟨ty9, ⟨ty22, ⟨ty23, ⟨ty44, ⟨ty59, ⟨ty76, ⟨ty78, ⟨ty87, ⟨ty140, ⟨ty144, ⟨ty153, trivial⟩⟩⟩⟩⟩⟩⟩⟩⟩⟩⟩⟩⟩⟩)
theorem bool4 : Tryz.prog.underlying 4 = some .bool := by kernel_rfl
theorem boolOK : ∀ t, ([4] : List Nat).contains t = true → Tryz.prog.underlying t = some .bool := by
  intro t h
  simp at h
  rcases h with rfl
  all_goals first | exact bool4
theorem eqOK : ∀ t, ([] : List Nat).contains t = true → EqOK Tryz.prog t := by
  intro t h
  simp at h
  try exact h.elim
def F1 : FAnn := ⟨195, 1, [.blk (.box 78 [.im (.int .u8), .int .i64, .int .u64]), .slot 0 (.ref 0 true)], [.blk (.box 78 [.im (.int .u8), .int .i64, .int .u64]), .slot 0 (.cell (.int .i64))],
  [],
  [],
  [(4, [.blk (.box 78 [.im (.int .u8), .int .i64, .int .u64]), .slot 0 (.ref 0 true), .slot 3 (.cell (.int .i64))])]⟩
def FS : FAnn := ⟨151, 1, [.blk (.box 78 [.im (.int .u8), .int .i64, .int .u64]), .slot 0 (.ref 0 true), .slot 1 (.cell (.int .i64))], [.blk (.box 78 [.im (.int .u8), .int .i64, .int .u64]), .slot 0 (.cell (.int .i64))],
  [],
  [],
  []⟩
def Gf : FAnn := ⟨87, 1, [.blk (.box 78 [.im (.int .u8), .int .i64, .int .u64]), .slot 0 (.ref 0 true), .slot 1 (.cell (.int .i64))], [.blk (.box 78 [.im (.int .u8), .int .i64, .int .u64]), .slot 0 (.cell (.bool))],
  [],
  [],
  []⟩
def EV : FAnn := ⟨152, 1, [.blk (.box 78 [.im (.int .u8), .int .i64, .int .u64]), .slot 0 (.ref 0 true), .slot 1 (.cell (.im (.int .i64)))], [.blk (.box 78 [.im (.int .u8), .int .i64, .int .u64]), .slot 0 (.cell (.int .i64))],
  [],
  [],
  []⟩
def Ls : FAnn := ⟨114, 0, [.slot 0 (.cell (.im (.int .i64)))], [.blk (.arr 3 true (.int .i64)), .slot 0 (.ref 0 false)],
  [(1, [.slot 0 (.cell (.im (.int .i64)))])],
  [(1, [(.exit 0, [.slot 0 (.cell (.im (.int .i64)))])])],
  []⟩
def Kd : FAnn := ⟨104, 0, [.slot 0 (.cell (.bool)), .slot 1 (.cell (.im (.int .i64)))], [.blk (.arr 3 true (.int .i64)), .slot 0 (.agg [.bool, .at 0])],
  [],
  [],
  []⟩
def Gl : FAnn := ⟨112, 1, [.blk (.box 78 [.im (.int .u8), .int .i64, .int .u64]), .slot 0 (.ref 0 true)], [.blk (.box 78 [.im (.int .u8), .int .i64, .int .u64]), .slot 0 (.agg [.bool, .im (.int .i64)])],
  [(5, [.blk (.box 78 [.im (.int .u8), .int .i64, .int .u64]), .blk (.box 44 [.bool, .im (.int .i64)]), .blk (.arr 3 true (.int .i64)), .slot 0 (.ref 0 true), .slot 2 (.ref 1 true), .slot 3 (.cell (.int .i64)), .slot 4 (.ref 2 false)])],
  [(5, [(.exit 0, [.blk (.box 78 [.im (.int .u8), .int .i64, .int .u64]), .blk (.box 44 [.bool, .im (.int .i64)]), .blk (.arr 3 true (.int .i64)), .slot 0 (.ref 0 true), .slot 2 (.ref 1 true), .slot 4 (.ref 2 false)])])],
  [(4, [.blk (.box 78 [.im (.int .u8), .int .i64, .int .u64]), .blk (.box 44 [.bool, .im (.int .i64)]), .slot 0 (.ref 0 true), .slot 2 (.ref 1 true), .slot 3 (.cell (.int .i64))])]⟩
def Od : FAnn := ⟨102, 0, [.slot 0 (.cell (.int .i64)), .slot 1 (.cell (.int .i64)), .slot 2 (.cell (.int .i64))], [.slot 0 (.cell (.bool))],
  [],
  [],
  []⟩
def IX : FAnn := ⟨34, 0, [.slot 0 (.agg [.bool, .im (.int .i64)])], [.slot 0 (.cell (.bool))],
  [(2, [.blk (.box 44 [.bool, .im (.int .i64)]), .slot 1 (.ref 0 true), .slot 7 (.cell (.im (.int .i64))), .slot 8 (.cell (.int .i64)), .slot 9 (.cell (.int .i64))])],
  [(2, [(.exit 0, [.blk (.box 44 [.bool, .im (.int .i64)]), .slot 1 (.ref 0 true)]), (.ret, [.slot 2 (.cell (.bool))])])],
  []⟩
def Mi : FAnn := ⟨135, 0, [.slot 0 (.cell (.im (.int .i64))), .slot 1 (.cell (.im (.int .i64)))], [.slot 0 (.cell (.int .i64))],
  [(6, [.slot 0 (.cell (.im (.int .i64))), .slot 1 (.cell (.im (.int .i64))), .slot 5 (.cell (.int .i64))])],
  [(6, [(.exit 0, []), (.ret, [.slot 4 (.cell (.int .i64))])])],
  []⟩
def IH : FAnn := ⟨214, 0, [.slot 0 (.cell (.im (.int .i64))), .slot 1 (.cell (.int .i64))], [.blk (.arr 3 true (.int .i64)), .blk (.arr 3 true (.int .i64)), .slot 0 (.ref 0 false), .slot 1 (.ref 1 false)],
  [(4, [.blk (.arr 3 true (.int .i64)), .slot 0 (.cell (.im (.int .i64))), .slot 1 (.cell (.int .i64)), .slot 6 (.ref 0 false), .slot 7 (.cell (.int .i64)), .slot 8 (.cell (.int .i64))])],
  [(4, [(.exit 0, [.blk (.arr 3 true (.int .i64)), .slot 6 (.ref 0 false), .slot 7 (.cell (.int .i64))])])],
  []⟩
def PI : FAnn := ⟨215, 0, [.slot 0 (.cell (.im (.int .i64))), .slot 1 (.cell (.int .i64))], [.blk (.arr 3 true (.int .i64)), .slot 0 (.ref 0 false)],
  [(3, [.blk (.arr 3 true (.int .i64)), .slot 1 (.cell (.int .i64)), .slot 5 (.ref 0 false), .slot 13 (.cell (.im (.int .i64))), .slot 14 (.cell (.int .i64)), .slot 15 (.cell (.int .i64))])],
  [(3, [(.exit 0, [.blk (.arr 3 true (.int .i64)), .slot 5 (.ref 0 false)])])],
  []⟩
def I5 : FAnn := ⟨216, 0, [.slot 0 (.cell (.im (.int .i64))), .slot 1 (.cell (.im (.int .i64))), .slot 2 (.cell (.int .i64))], [.slot 0 (.cell (.int .i64))],
  [(5, [.slot 0 (.cell (.im (.int .i64))), .slot 1 (.cell (.im (.int .i64))), .slot 2 (.cell (.int .i64)), .slot 7 (.cell (.int .i64)), .slot 9 (.cell (.int .i64)), .slot 10 (.cell (.int .i64))])],
  [(5, [(.exit 0, [.slot 9 (.cell (.int .i64))])])],
  [(6, [.slot 0 (.cell (.im (.int .i64))), .slot 1 (.cell (.im (.int .i64))), .slot 2 (.cell (.int .i64)), .slot 7 (.cell (.int .i64)), .slot 9 (.cell (.int .i64)), .slot 10 (.cell (.int .i64))])]⟩
def Kg : FAnn := ⟨175, 0, [.slot 0 (.cell (.im (.int .i64))), .slot 1 (.cell (.int .i64))], [.slot 0 (.cell (.int .i64))],
  [],
  [],
  []⟩
def J1 : FAnn := ⟨217, 1, [.blk (.arr 3 true (.int .i64)), .slot 0 (.ref 0 false), .slot 1 (.cell (.im (.int .i64))), .slot 2 (.cell (.int .i64)), .slot 3 (.cell (.int .i64))], [.blk (.arr 3 true (.int .i64)), .slot 0 (.cell (.int .i64))],
  [(3, [.blk (.arr 3 true (.int .i64)), .slot 0 (.ref 0 false), .slot 1 (.cell (.im (.int .i64))), .slot 2 (.cell (.int .i64)), .slot 3 (.cell (.int .i64)), .slot 9 (.cell (.int .i64)), .slot 10 (.cell (.int .i64))])],
  [(3, [(.exit 0, [.blk (.arr 3 true (.int .i64)), .slot 9 (.cell (.int .i64))])])],
  [(10, [.blk (.arr 3 true (.int .i64)), .slot 0 (.ref 0 false), .slot 1 (.cell (.im (.int .i64))), .slot 2 (.cell (.int .i64)), .slot 3 (.cell (.int .i64)), .slot 9 (.cell (.int .i64)), .slot 10 (.cell (.int .i64)), .slot 11 (.cell (.int .i64))])]⟩
def JN : FAnn := ⟨218, 1, [.blk (.arr 3 true (.int .i64)), .slot 0 (.ref 0 false), .slot 1 (.cell (.im (.int .i64))), .slot 2 (.cell (.int .i64))], [.blk (.arr 3 true (.int .i64))],
  [(2, [.blk (.arr 3 true (.int .i64)), .slot 0 (.ref 0 false), .slot 1 (.cell (.im (.int .i64))), .slot 2 (.cell (.int .i64)), .slot 6 (.cell (.int .i64)), .slot 7 (.cell (.int .i64))])],
  [(2, [(.exit 0, [.blk (.arr 3 true (.int .i64))])])],
  []⟩
def JW : FAnn := ⟨219, 0, [.slot 0 (.cell (.im (.int .i64))), .slot 1 (.cell (.int .i64))], [.blk (.arr 3 true (.int .i64)), .slot 0 (.ref 0 false)],
  [(3, [.blk (.arr 3 true (.int .i64)), .slot 0 (.cell (.im (.int .i64))), .slot 1 (.cell (.int .i64)), .slot 5 (.ref 0 false), .slot 11 (.cell (.int .i64)), .slot 12 (.cell (.int .i64))])],
  [(3, [(.exit 0, [.blk (.arr 3 true (.int .i64)), .slot 5 (.ref 0 false)])])],
  []⟩
def FF : FAnn := ⟨174, 0, [.slot 0 (.cell (.im (.int .i64))), .slot 1 (.cell (.im (.int .i64)))], [.blk (.arr 3 true (.int .i64)), .blk (.arr 3 true (.int .i64)), .slot 0 (.ref 0 false), .slot 1 (.ref 1 false)],
  [(7, [.blk (.arr 3 true (.int .i64)), .slot 0 (.ref 0 false), .slot 1 (.cell (.im (.int .i64))), .slot 6 (.cell (.int .i64))]), (13, [.blk (.arr 3 true (.int .i64)), .blk (.arr 3 true (.int .i64)), .blk (.arr 3 true (.int .i64)), .slot 6 (.cell (.int .i64)), .slot 7 (.ref 0 false), .slot 8 (.ref 1 false), .slot 9 (.ref 2 false), .slot 10 (.cell (.int .i64))])],
  [(7, [(.exit 0, [.blk (.arr 3 true (.int .i64)), .slot 0 (.ref 0 false), .slot 1 (.cell (.im (.int .i64))), .slot 6 (.cell (.int .i64))])]), (13, [(.exit 2, [.blk (.arr 3 true (.int .i64)), .blk (.arr 3 true (.int .i64)), .slot 6 (.cell (.int .i64)), .slot 7 (.ref 0 false), .slot 9 (.ref 1 false)])])],
  []⟩
def L2 : FAnn := ⟨136, 0, [.slot 0 (.cell (.im (.int .i64))), .slot 1 (.cell (.im (.int .i64)))], [.blk (.arr 3 true (.int .i64)), .slot 0 (.ref 0 false)],
  [(1, [.slot 0 (.cell (.im (.int .i64))), .slot 1 (.cell (.im (.int .i64)))])],
  [(1, [(.exit 0, [.slot 0 (.cell (.im (.int .i64)))])])],
  []⟩
def Lz : FAnn := ⟨186, 0, [.slot 0 (.agg [.bool, .im (.int .i64)]), .slot 1 (.agg [.bool, .im (.int .i64)])], [.slot 0 (.agg [.bool, .im (.int .i64)]), .slot 1 (.agg [.bool, .im (.int .i64)])],
  [],
  [],
  []⟩
def Lq : FAnn := ⟨168, 0, [.slot 0 (.agg [.bool, .im (.int .i64)])], [.slot 0 (.agg [.bool, .im (.int .i64)])],
  [],
  [],
  []⟩
def J5 : FAnn := ⟨138, 0, [.slot 0 (.agg [.bool, .im (.int .i64)]), .slot 1 (.agg [.bool, .im (.int .i64)])], [.slot 0 (.agg [.bool, .im (.int .i64), .bool, .im (.int .i64)])],
  [],
  [],
  []⟩
def Lx : FAnn := ⟨38, 0, [.slot 0 (.cell (.int .i64))], [.slot 0 (.agg [.bool, .im (.int .i64)])],
  [(3, [.blk (.box 44 [.bool, .im (.int .i64)]), .blk (.arr 3 true (.int .i64)), .slot 0 (.cell (.int .i64)), .slot 2 (.ref 0 true), .slot 3 (.ref 1 false), .slot 4 (.cell (.int .i64))])],
  [(3, [(.exit 0, [.blk (.box 44 [.bool, .im (.int .i64)]), .blk (.arr 3 true (.int .i64)), .slot 0 (.cell (.int .i64)), .slot 2 (.ref 0 true), .slot 3 (.ref 1 false)])])],
  []⟩
def Mo : FAnn := ⟨62, 0, [.slot 0 (.cell (.int .i64)), .slot 1 (.cell (.int .i64))], [.slot 0 (.agg [.bool, .im (.int .i64), .bool, .im (.int .i64)]), .slot 1 (.cell (.bool))],
  [],
  [],
  []⟩
def Gn : FAnn := ⟨179, 1, [.blk (.box 78 [.im (.int .u8), .int .i64, .int .u64]), .slot 0 (.ref 0 true)], [.blk (.box 78 [.im (.int .u8), .int .i64, .int .u64]), .slot 0 (.agg [.bool, .im (.int .i64), .bool, .im (.int .i64)])],
  [],
  [],
  []⟩
def C7 : FAnn := ⟨117, 0, [.slot 0 (.cell (.im (.int .u8)))], [.slot 0 (.agg [.bool, .im (.int .i64), .bool, .im (.int .i64)]), .slot 1 (.agg [.bool, .im (.int .i64), .bool, .im (.int .i64)])],
  [],
  [],
  []⟩
def Fp : FAnn := ⟨46, 0, [.slot 0 (.cell (.im (.int .u8)))], [.slot 0 (.agg [.bool, .im (.int .i64), .bool, .im (.int .i64)]), .slot 1 (.agg [.bool, .im (.int .i64), .bool, .im (.int .i64)])],
  [],
  [],
  []⟩
def JV : FAnn := ⟨77, 0, [.slot 0 (.cell (.int .i64)), .slot 1 (.cell (.int .i64)), .slot 2 (.cell (.int .i64))], [.slot 0 (.cell (.bool))],
  [],
  [],
  []⟩
def Gh : FAnn := ⟨101, 0, [.slot 0 (.cell (.int .i64))], [.slot 0 (.cell (.bool))],
  [],
  [],
  []⟩
def Bm : FAnn := ⟨170, 0, [.slot 0 (.cell (.im (.int .i64))), .slot 1 (.clo 101)], [.slot 0 (.cell (.int .i64))],
  [(2, [.slot 0 (.cell (.im (.int .i64))), .slot 1 (.clo 101), .slot 7 (.cell (.int .i64)), .slot 8 (.cell (.int .i64))])],
  [(2, [(.exit 0, []), (.ret, [.slot 4 (.cell (.int .i64))])])],
  []⟩
def Bb : FAnn := ⟨100, 0, [.slot 0 (.cell (.im (.int .i64))), .slot 1 (.clo 101)], [.slot 0 (.cell (.bool))],
  [],
  [],
  []⟩
def ID : FAnn := ⟨33, 0, [.slot 0 (.agg [.bool, .im (.int .i64)])], [.slot 0 (.cell (.bool))],
  [],
  [],
  []⟩
def Hu : FAnn := ⟨163, 0, [.slot 0 (.agg [.bool, .im (.int .i64)])], [.slot 0 (.cell (.bool))],
  [],
  [],
  []⟩
def A8 : FAnn := ⟨209, 0, [.slot 0 (.cell (.im (.pair (.bool) (.sl (.int .i64))))), .slot 1 (.clo 163)], [.slot 0 (.cell (.int .i64))],
  [(2, [.slot 0 (.cell (.im (.pair (.bool) (.sl (.int .i64))))), .slot 1 (.clo 163), .slot 7 (.cell (.int .i64)), .slot 8 (.cell (.int .i64))])],
  [(2, [(.exit 0, []), (.ret, [.slot 4 (.cell (.int .i64))])])],
  []⟩
def AU : FAnn := ⟨162, 0, [.slot 0 (.cell (.im (.pair (.bool) (.sl (.int .i64))))), .slot 1 (.clo 163)], [.slot 0 (.cell (.bool))],
  [],
  [],
  []⟩
def JL : FAnn := ⟨91, 0, [.slot 0 (.cell (.im (.pair (.bool) (.sl (.int .i64)))))], [.slot 0 (.cell (.bool))],
  [],
  [],
  []⟩
def Hf : FAnn := ⟨133, 0, [.slot 0 (.agg [.bool, .im (.int .i64)])], [.slot 0 (.cell (.int .i64))],
  [],
  [],
  []⟩
def EQ : FAnn := ⟨210, 0, [.slot 0 (.cell (.int .i64))], [.slot 0 (.cell (.bool))],
  [],
  [],
  []⟩
def DQ : FAnn := ⟨169, 0, [.slot 0 (.cell (.int .i64)), .slot 1 (.cell (.int .i64))], [.slot 0 (.cell (.int .i64))],
  [],
  [],
  []⟩
def D8 : FAnn := ⟨105, 0, [.slot 0 (.cell (.im (.int .i64))), .slot 1 (.cell (.im (.int .i64)))], [.slot 0 (.cell (.int .i64))],
  [(4, [.slot 0 (.cell (.im (.int .i64))), .slot 1 (.cell (.im (.int .i64))), .slot 5 (.cell (.int .i64))])],
  [(4, [(.exit 0, []), (.ret, [.slot 4 (.cell (.int .i64))])])],
  []⟩
def Sc : FAnn := ⟨178, 0, [.slot 0 (.cell (.im (.int .i64)))], [.slot 0 (.cell (.im (.int .i64)))],
  [(2, [.slot 0 (.cell (.im (.int .i64))), .slot 3 (.cell (.int .i64))])],
  [(2, [(.exit 0, [.slot 0 (.cell (.im (.int .i64))), .slot 3 (.cell (.int .i64))])])],
  []⟩
def G5 : FAnn := ⟨171, 0, [.slot 0 (.cell (.im (.int .i64))), .slot 1 (.cell (.int .i64))], [.slot 0 (.cell (.im (.int .i64))), .slot 1 (.cell (.int .i64))],
  [(4, [.blk (.arr 3 true (.int .i64)), .slot 0 (.cell (.im (.int .i64))), .slot 1 (.cell (.int .i64)), .slot 6 (.ref 0 false), .slot 7 (.cell (.int .i64)), .slot 8 (.cell (.int .i64))])],
  [(4, [(.exit 0, [.blk (.arr 3 true (.int .i64)), .slot 6 (.ref 0 false), .slot 7 (.cell (.int .i64))])])],
  []⟩
def AW : FAnn := ⟨177, 0, [.slot 0 (.cell (.im (.int .i64)))], [.blk (.arr 3 true (.int .i64)), .slot 0 (.ref 0 false)],
  [],
  [],
  []⟩
def LI : FAnn := ⟨111, 0, [.slot 0 (.cell (.bool)), .slot 1 (.cell (.im (.int .i64)))], [.blk (.arr 3 true (.int .i64)), .slot 0 (.agg [.bool, .at 0])],
  [],
  [],
  []⟩
def L6 : FAnn := ⟨37, 0, [.slot 0 (.cell (.int .i64))], [.slot 0 (.agg [.bool, .im (.int .i64)])],
  [(6, [.blk (.box 44 [.bool, .im (.int .i64)]), .blk (.arr 3 true (.int .i64)), .slot 2 (.ref 0 true), .slot 3 (.cell (.bool)), .slot 4 (.cell (.int .u64)), .slot 5 (.ref 1 false)])],
  [(6, [(.exit 0, [.blk (.box 44 [.bool, .im (.int .i64)]), .blk (.arr 3 true (.int .i64)), .slot 2 (.ref 0 true), .slot 3 (.cell (.bool)), .slot 5 (.ref 1 false)])])],
  [(5, [.blk (.box 44 [.bool, .im (.int .i64)]), .slot 2 (.ref 0 true), .slot 3 (.cell (.bool)), .slot 4 (.cell (.int .u64))])]⟩
def HT : FAnn := ⟨110, 0, [.slot 0 (.agg [.bool, .im (.int .i64)]), .slot 1 (.agg [.bool, .im (.int .i64)])], [.blk (.arr 3 true (.int .i64)), .slot 0 (.agg [.bool, .at 0])],
  [(3, [.blk (.box 44 [.bool, .im (.int .i64)]), .blk (.box 44 [.bool, .im (.int .i64)]), .blk (.box 44 [.bool, .im (.int .i64)]), .blk (.arr 3 true (.int .i64)), .slot 2 (.ref 0 true), .slot 3 (.ref 1 true), .slot 4 (.ref 2 true), .slot 5 (.ref 3 false), .slot 20 (.cell (.im (.int .i64))), .slot 21 (.cell (.int .i64)), .slot 22 (.cell (.int .i64))]), (7, [.blk (.box 44 [.bool, .im (.int .i64)]), .blk (.box 44 [.bool, .im (.int .i64)]), .blk (.box 44 [.bool, .im (.int .i64)]), .blk (.arr 3 true (.int .i64)), .slot 2 (.ref 0 true), .slot 3 (.ref 1 true), .slot 4 (.ref 2 true), .slot 5 (.ref 3 false), .slot 6 (.cell (.int .i64)), .slot 7 (.cell (.int .i64)), .slot 8 (.cell (.int .i64)), .slot 20 (.cell (.im (.int .i64))), .slot 21 (.cell (.int .i64)), .slot 22 (.cell (.int .i64)), .slot 28 (.cell (.im (.int .i64))), .slot 29 (.cell (.int .i64)), .slot 30 (.cell (.int .i64))])],
  [(3, [(.exit 0, [.blk (.box 44 [.bool, .im (.int .i64)]), .blk (.box 44 [.bool, .im (.int .i64)]), .blk (.box 44 [.bool, .im (.int .i64)]), .blk (.arr 3 true (.int .i64)), .slot 2 (.ref 0 true), .slot 3 (.ref 1 true), .slot 4 (.ref 2 true), .slot 5 (.ref 3 false)])]), (7, [(.exit 2, [.blk (.box 44 [.bool, .im (.int .i64)]), .blk (.box 44 [.bool, .im (.int .i64)]), .blk (.box 44 [.bool, .im (.int .i64)]), .blk (.arr 3 true (.int .i64)), .slot 2 (.ref 0 true), .slot 3 (.ref 1 true), .slot 4 (.ref 2 true), .slot 5 (.ref 3 false), .slot 6 (.cell (.int .i64)), .slot 8 (.cell (.int .i64)), .slot 20 (.cell (.im (.int .i64))), .slot 21 (.cell (.int .i64)), .slot 22 (.cell (.int .i64))])])],
  []⟩
def Hh : FAnn := ⟨184, 0, [.slot 0 (.cell (.im (.int .i64))), .slot 1 (.cell (.im (.int .i64)))], [.slot 0 (.cell (.im (.int .i64))), .slot 1 (.cell (.im (.int .i64)))],
  [(10, [.blk (.arr 3 true (.int .i64)), .blk (.arr 3 true (.int .i64)), .slot 0 (.cell (.im (.int .i64))), .slot 6 (.cell (.int .i64)), .slot 9 (.cell (.int .i64)), .slot 10 (.ref 0 false), .slot 11 (.ref 1 false)]), (14, [.blk (.arr 3 true (.int .i64)), .blk (.arr 3 true (.int .i64)), .blk (.arr 3 true (.int .i64)), .slot 6 (.cell (.int .i64)), .slot 9 (.cell (.int .i64)), .slot 10 (.ref 0 false), .slot 11 (.ref 1 false), .slot 12 (.ref 2 false), .slot 13 (.cell (.int .i64))]), (18, [.blk (.arr 3 true (.int .i64)), .blk (.arr 3 true (.int .i64)), .blk (.arr 3 true (.int .i64)), .slot 6 (.cell (.int .i64)), .slot 9 (.cell (.int .i64)), .slot 10 (.ref 0 false), .slot 11 (.ref 1 false), .slot 12 (.ref 2 false), .slot 13 (.cell (.int .i64)), .slot 15 (.cell (.int .i64)), .slot 16 (.cell (.int .i64))]), (23, [.blk (.arr 3 true (.int .i64)), .blk (.arr 3 true (.int .i64)), .blk (.arr 3 true (.int .i64)), .slot 6 (.cell (.int .i64)), .slot 9 (.cell (.int .i64)), .slot 10 (.ref 0 false), .slot 11 (.ref 1 false), .slot 12 (.ref 2 false), .slot 13 (.cell (.int .i64)), .slot 15 (.cell (.int .i64)), .slot 17 (.cell (.int .i64)), .slot 153 (.cell (.int .i64)), .slot 154 (.cell (.int .i64))]), (37, [.blk (.arr 3 true (.int .i64)), .blk (.arr 3 true (.int .i64)), .blk (.arr 3 true (.int .i64)), .slot 6 (.cell (.int .i64)), .slot 9 (.cell (.int .i64)), .slot 10 (.ref 0 false), .slot 11 (.ref 1 false), .slot 12 (.ref 2 false), .slot 13 (.cell (.int .i64)), .slot 15 (.cell (.int .i64)), .slot 20 (.cell (.int .i64)), .slot 208 (.cell (.int .i64)), .slot 209 (.cell (.int .i64))])],
  [(10, [(.exit 0, [.blk (.arr 3 true (.int .i64)), .blk (.arr 3 true (.int .i64)), .slot 6 (.cell (.int .i64)), .slot 9 (.cell (.int .i64)), .slot 10 (.ref 0 false), .slot 11 (.ref 1 false)])]), (14, [(.exit 2, [.blk (.arr 3 true (.int .i64)), .blk (.arr 3 true (.int .i64)), .slot 6 (.cell (.int .i64)), .slot 9 (.cell (.int .i64)), .slot 10 (.ref 0 false), .slot 12 (.ref 1 false)])]), (18, [(.exit 4, [.blk (.arr 3 true (.int .i64)), .blk (.arr 3 true (.int .i64)), .blk (.arr 3 true (.int .i64)), .slot 6 (.cell (.int .i64)), .slot 9 (.cell (.int .i64)), .slot 10 (.ref 0 false), .slot 11 (.ref 1 false), .slot 12 (.ref 2 false), .slot 13 (.cell (.int .i64)), .slot 15 (.cell (.int .i64))])]), (23, [(.exit 6, [.blk (.arr 3 true (.int .i64)), .blk (.arr 3 true (.int .i64)), .blk (.arr 3 true (.int .i64)), .slot 6 (.cell (.int .i64)), .slot 9 (.cell (.int .i64)), .slot 10 (.ref 0 false), .slot 11 (.ref 1 false), .slot 12 (.ref 2 false), .slot 13 (.cell (.int .i64)), .slot 15 (.cell (.int .i64)), .slot 17 (.cell (.int .i64))])]), (37, [(.exit 8, [.blk (.arr 3 true (.int .i64)), .blk (.arr 3 true (.int .i64)), .blk (.arr 3 true (.int .i64)), .slot 6 (.cell (.int .i64)), .slot 9 (.cell (.int .i64)), .slot 10 (.ref 0 false), .slot 11 (.ref 1 false), .slot 12 (.ref 2 false), .slot 13 (.cell (.int .i64)), .slot 15 (.cell (.int .i64)), .slot 20 (.cell (.int .i64))])])],
  [(19, [.blk (.arr 3 true (.int .i64)), .blk (.arr 3 true (.int .i64)), .blk (.arr 3 true (.int .i64)), .slot 6 (.cell (.int .i64)), .slot 9 (.cell (.int .i64)), .slot 10 (.ref 0 false), .slot 11 (.ref 1 false), .slot 12 (.ref 2 false), .slot 13 (.cell (.int .i64)), .slot 15 (.cell (.int .i64)), .slot 16 (.cell (.int .i64))]), (30, [.blk (.arr 3 true (.int .i64)), .blk (.arr 3 true (.int .i64)), .blk (.arr 3 true (.int .i64)), .slot 6 (.cell (.int .i64)), .slot 9 (.cell (.int .i64)), .slot 10 (.ref 0 false), .slot 11 (.ref 1 false), .slot 12 (.ref 2 false), .slot 13 (.cell (.int .i64)), .slot 15 (.cell (.int .i64)), .slot 17 (.cell (.int .i64)), .slot 18 (.cell (.int .i64)), .slot 19 (.cell (.int .i64)), .slot 153 (.cell (.int .i64)), .slot 154 (.cell (.int .i64))])]⟩
def HW : FAnn := ⟨134, 0, [.slot 0 (.agg [.bool, .im (.int .i64)]), .slot 1 (.agg [.bool, .im (.int .i64)])], [.slot 0 (.agg [.bool, .im (.int .i64)])],
  [(2, [.blk (.box 44 [.bool, .im (.int .i64)]), .slot 4 (.ref 0 true), .slot 5 (.cell (.im (.int .i64))), .slot 6 (.cell (.im (.int .i64)))])],
  [(2, [(.exit 0, [.blk (.box 44 [.bool, .im (.int .i64)]), .slot 4 (.ref 0 true), .slot 5 (.cell (.im (.int .i64)))])])],
  []⟩
def FO : FAnn := ⟨98, 0, [.slot 0 (.agg [.bool, .im (.int .i64)]), .slot 1 (.agg [.bool, .im (.int .i64)])], [.slot 0 (.cell (.int .i64))],
  [],
  [],
  []⟩
def HR : FAnn := ⟨58, 0, [.slot 0 (.agg [.bool, .im (.int .i64), .bool, .im (.int .i64)])], [.slot 0 (.cell (.bool))],
  [],
  [],
  []⟩
def II : FAnn := ⟨118, 0, [.slot 0 (.cell (.im (.pair (.pair (.bool) (.sl (.int .i64))) (.pair (.bool) (.sl (.int .i64))))))], [.slot 0 (.cell (.bool))],
  [(2, [.slot 5 (.cell (.im (.pair (.pair (.bool) (.sl (.int .i64))) (.pair (.bool) (.sl (.int .i64)))))), .slot 6 (.cell (.int .i64)), .slot 7 (.cell (.int .i64))])],
  [(2, [(.exit 0, []), (.ret, [.slot 2 (.cell (.bool))])])],
  []⟩
def Hj : FAnn := ⟨164, 0, [.slot 0 (.cell (.im (.int .i64))), .slot 1 (.cell (.im (.int .i64)))], [.blk (.arr 3 true (.int .i64)), .slot 0 (.ref 0 false)],
  [(4, [.blk (.arr 3 true (.int .i64)), .slot 0 (.cell (.im (.int .i64))), .slot 1 (.cell (.im (.int .i64))), .slot 5 (.ref 0 false), .slot 6 (.cell (.int .i64)), .slot 7 (.cell (.int .i64))])],
  [(4, [(.exit 0, [.blk (.arr 3 true (.int .i64)), .slot 5 (.ref 0 false)])])],
  [(6, [.blk (.arr 3 true (.int .i64)), .slot 0 (.cell (.im (.int .i64))), .slot 1 (.cell (.im (.int .i64))), .slot 5 (.ref 0 false), .slot 6 (.cell (.int .i64)), .slot 7 (.cell (.int .i64))]), (8, [.blk (.arr 3 true (.int .i64)), .slot 0 (.cell (.im (.int .i64))), .slot 1 (.cell (.im (.int .i64))), .slot 5 (.ref 0 false), .slot 6 (.cell (.int .i64)), .slot 7 (.cell (.int .i64))]), (10, [.blk (.arr 3 true (.int .i64)), .slot 0 (.cell (.im (.int .i64))), .slot 1 (.cell (.im (.int .i64))), .slot 5 (.ref 0 false), .slot 6 (.cell (.int .i64)), .slot 7 (.cell (.int .i64))])]⟩
def G8 : FAnn := ⟨165, 0, [.slot 0 (.cell (.im (.int .i64))), .slot 1 (.cell (.im (.int .i64)))], [.slot 0 (.cell (.im (.int .i64)))],
  [(4, [.blk (.arr 3 true (.int .i64)), .slot 1 (.cell (.im (.int .i64))), .slot 5 (.ref 0 false), .slot 6 (.cell (.int .i64)), .slot 11 (.cell (.int .i64)), .slot 12 (.cell (.int .i64))])],
  [(4, [(.exit 0, [.blk (.arr 3 true (.int .i64)), .slot 5 (.ref 0 false)])])],
  [(9, [.blk (.arr 3 true (.int .i64)), .slot 1 (.cell (.im (.int .i64))), .slot 5 (.ref 0 false), .slot 7 (.cell (.int .i64)), .slot 11 (.cell (.int .i64)), .slot 12 (.cell (.int .i64))])]⟩
def IT : FAnn := ⟨93, 0, [.slot 0 (.agg [.bool, .im (.int .i64)]), .slot 1 (.agg [.bool, .im (.int .i64)])], [.slot 0 (.agg [.bool, .im (.int .i64)])],
  [],
  [],
  []⟩
def HZ : FAnn := ⟨167, 0, [.slot 0 (.agg [.bool, .im (.int .i64)])], [.slot 0 (.agg [.bool, .im (.int .i64)])],
  [],
  [],
  []⟩
def IQ : FAnn := ⟨185, 0, [.slot 0 (.agg [.bool, .im (.int .i64)]), .slot 1 (.agg [.bool, .im (.int .i64)])], [.slot 0 (.agg [.bool, .im (.int .i64)]), .slot 1 (.agg [.bool, .im (.int .i64)])],
  [],
  [],
  []⟩
def LK : FAnn := ⟨137, 0, [.slot 0 (.agg [.bool, .im (.int .i64)]), .slot 1 (.agg [.bool, .im (.int .i64)])], [.slot 0 (.agg [.bool, .im (.int .i64), .bool, .im (.int .i64)])],
  [],
  [],
  [(4, [.blk (.box 44 [.bool, .im (.int .i64)]), .blk (.box 44 [.bool, .im (.int .i64)]), .blk (.box 59 [.bool, .im (.int .i64), .bool, .im (.int .i64)]), .blk (.box 44 [.bool, .im (.int .i64)]), .slot 2 (.ref 0 true), .slot 3 (.ref 1 true), .slot 4 (.ref 2 true), .slot 5 (.ref 3 true)])]⟩
def Io : FAnn := ⟨120, 0, [.slot 0 (.agg [.bool, .im (.int .i64), .bool, .im (.int .i64)]), .slot 1 (.agg [.bool, .im (.int .i64), .bool, .im (.int .i64)])], [.slot 0 (.agg [.bool, .im (.int .i64), .bool, .im (.int .i64)])],
  [],
  [],
  []⟩
def ET : FAnn := ⟨180, 0, [.slot 0 (.agg [.bool, .im (.int .i64), .bool, .im (.int .i64)]), .slot 1 (.cell (.int .i64))], [.slot 0 (.cell (.bool))],
  [],
  [],
  []⟩
def FP : FAnn := ⟨119, 0, [.slot 0 (.agg [.bool, .im (.int .i64), .bool, .im (.int .i64)])], [.slot 0 (.agg [.bool, .im (.int .i64), .bool, .im (.int .i64)]), .slot 1 (.cell (.bool))],
  [],
  [],
  []⟩
def J2 : FAnn := ⟨47, 0, [.slot 0 (.agg [.bool, .im (.int .i64), .bool, .im (.int .i64)]), .slot 1 (.agg [.bool, .im (.int .i64), .bool, .im (.int .i64)])], [.slot 0 (.agg [.bool, .im (.int .i64), .bool, .im (.int .i64)]), .slot 1 (.cell (.bool))],
  [],
  [],
  []⟩
def HY : FAnn := ⟨59, 0, [.slot 0 (.agg [.bool, .im (.int .i64), .bool, .im (.int .i64)])], [.slot 0 (.cell (.bool))],
  [],
  [],
  []⟩
def JK : FAnn := ⟨121, 0, [.slot 0 (.agg [.bool, .im (.int .i64), .bool, .im (.int .i64)]), .slot 1 (.agg [.bool, .im (.int .i64), .bool, .im (.int .i64)])], [.slot 0 (.cell (.bool))],
  [],
  [],
  []⟩
def FB : FAnn := ⟨116, 0, [.slot 0 (.cell (.im (.int .i64))), .slot 1 (.cell (.im (.int .i64)))], [.blk (.arr 3 true (.int .i64)), .slot 0 (.ref 0 false)],
  [(3, [.blk (.arr 3 true (.int .i64)), .slot 1 (.cell (.im (.int .i64))), .slot 5 (.ref 0 false), .slot 18 (.cell (.im (.int .i64))), .slot 19 (.cell (.int .i64)), .slot 20 (.cell (.int .i64))]), (7, [.blk (.arr 3 true (.int .i64)), .slot 1 (.cell (.im (.int .i64))), .slot 5 (.ref 0 false), .slot 6 (.cell (.int .i64)), .slot 7 (.cell (.int .i64)), .slot 8 (.cell (.int .i64)), .slot 9 (.cell (.int .i64)), .slot 18 (.cell (.im (.int .i64))), .slot 19 (.cell (.int .i64)), .slot 20 (.cell (.int .i64))])],
  [(3, [(.exit 0, [.blk (.arr 3 true (.int .i64)), .slot 5 (.ref 0 false)])]), (7, [(.exit 2, [.blk (.arr 3 true (.int .i64)), .slot 1 (.cell (.im (.int .i64))), .slot 5 (.ref 0 false), .slot 18 (.cell (.im (.int .i64))), .slot 19 (.cell (.int .i64)), .slot 20 (.cell (.int .i64))])])],
  [(9, [.blk (.arr 3 true (.int .i64)), .slot 1 (.cell (.im (.int .i64))), .slot 5 (.ref 0 false), .slot 6 (.cell (.int .i64)), .slot 7 (.cell (.int .i64)), .slot 8 (.cell (.int .i64)), .slot 9 (.cell (.int .i64)), .slot 18 (.cell (.im (.int .i64))), .slot 19 (.cell (.int .i64)), .slot 20 (.cell (.int .i64))])]⟩
def Ma : FAnn := ⟨181, 0, [.slot 0 (.agg [.bool, .im (.int .i64)]), .slot 1 (.agg [.bool, .im (.int .i64)])], [.slot 0 (.agg [.bool, .im (.int .i64)])],
  [],
  [],
  []⟩
def FH : FAnn := ⟨115, 0, [.slot 0 (.cell (.im (.int .i64))), .slot 1 (.cell (.im (.int .i64)))], [.blk (.arr 3 true (.int .i64)), .slot 0 (.ref 0 false)],
  [(4, [.blk (.arr 3 true (.int .i64)), .slot 0 (.cell (.im (.int .i64))), .slot 1 (.cell (.im (.int .i64))), .slot 5 (.ref 0 false), .slot 6 (.cell (.int .i64)), .slot 7 (.cell (.int .i64))])],
  [(4, [(.exit 0, [.blk (.arr 3 true (.int .i64)), .slot 5 (.ref 0 false)])])],
  [(6, [.blk (.arr 3 true (.int .i64)), .slot 0 (.cell (.im (.int .i64))), .slot 1 (.cell (.im (.int .i64))), .slot 5 (.ref 0 false), .slot 6 (.cell (.int .i64)), .slot 7 (.cell (.int .i64))])]⟩
def Fv : FAnn := ⟨166, 0, [.slot 0 (.cell (.im (.int .i64))), .slot 1 (.cell (.im (.int .i64)))], [.blk (.arr 3 true (.int .i64)), .slot 0 (.ref 0 false)],
  [(4, [.blk (.arr 3 true (.int .i64)), .slot 0 (.cell (.im (.int .i64))), .slot 1 (.cell (.im (.int .i64))), .slot 5 (.ref 0 false), .slot 6 (.cell (.int .i64)), .slot 10 (.cell (.int .i64)), .slot 11 (.cell (.int .i64))])],
  [(4, [(.exit 0, [.blk (.arr 3 true (.int .i64)), .slot 5 (.ref 0 false)])])],
  []⟩
def LM : FAnn := ⟨95, 0, [.slot 0 (.agg [.bool, .im (.int .i64)]), .slot 1 (.agg [.bool, .im (.int .i64)])], [.slot 0 (.agg [.bool, .im (.int .i64)])],
  [],
  [],
  []⟩
def Ly : FAnn := ⟨123, 0, [.slot 0 (.agg [.bool, .im (.int .i64), .bool, .im (.int .i64)]), .slot 1 (.agg [.bool, .im (.int .i64), .bool, .im (.int .i64)])], [.slot 0 (.agg [.bool, .im (.int .i64), .bool, .im (.int .i64)])],
  [],
  [],
  []⟩
def JS : FAnn := ⟨122, 0, [.slot 0 (.agg [.bool, .im (.int .i64), .bool, .im (.int .i64)])], [.slot 0 (.agg [.bool, .im (.int .i64), .bool, .im (.int .i64)]), .slot 1 (.cell (.bool))],
  [],
  [],
  []⟩
def JJ : FAnn := ⟨48, 0, [.slot 0 (.agg [.bool, .im (.int .i64), .bool, .im (.int .i64)]), .slot 1 (.agg [.bool, .im (.int .i64), .bool, .im (.int .i64)])], [.slot 0 (.agg [.bool, .im (.int .i64), .bool, .im (.int .i64)]), .slot 1 (.cell (.bool))],
  [],
  [],
  []⟩
def Ic : FAnn := ⟨182, 0, [.slot 0 (.agg [.bool, .im (.int .i64), .bool, .im (.int .i64)])], [.slot 0 (.agg [.bool, .im (.int .i64), .bool, .im (.int .i64)])],
  [],
  [],
  []⟩
def H7 : FAnn := ⟨124, 0, [.slot 0 (.agg [.bool, .im (.int .i64), .bool, .im (.int .i64)]), .slot 1 (.agg [.bool, .im (.int .i64), .bool, .im (.int .i64)])], [.slot 0 (.agg [.bool, .im (.int .i64), .bool, .im (.int .i64)])],
  [],
  [],
  []⟩
def Kk : FAnn := ⟨49, 0, [.slot 0 (.agg [.bool, .im (.int .i64), .bool, .im (.int .i64)]), .slot 1 (.agg [.bool, .im (.int .i64), .bool, .im (.int .i64)])], [.slot 0 (.agg [.bool, .im (.int .i64), .bool, .im (.int .i64)]), .slot 1 (.cell (.bool))],
  [],
  [],
  []⟩
def Mq : FAnn := ⟨183, 0, [.slot 0 (.agg [.bool, .im (.int .i64), .bool, .im (.int .i64)])], [.slot 0 (.agg [.bool, .im (.int .i64), .bool, .im (.int .i64)])],
  [],
  [],
  []⟩
def LO : FAnn := ⟨125, 0, [.slot 0 (.agg [.bool, .im (.int .i64), .bool, .im (.int .i64)]), .slot 1 (.agg [.bool, .im (.int .i64), .bool, .im (.int .i64)])], [.slot 0 (.agg [.bool, .im (.int .i64), .bool, .im (.int .i64)])],
  [],
  [],
  []⟩
def JY : FAnn := ⟨50, 0, [.slot 0 (.agg [.bool, .im (.int .i64), .bool, .im (.int .i64)]), .slot 1 (.agg [.bool, .im (.int .i64), .bool, .im (.int .i64)])], [.slot 0 (.agg [.bool, .im (.int .i64), .bool, .im (.int .i64)]), .slot 1 (.cell (.bool))],
  [],
  [],
  []⟩
def IE : FAnn := ⟨126, 0, [.slot 0 (.agg [.bool, .im (.int .i64), .bool, .im (.int .i64)]), .slot 1 (.agg [.bool, .im (.int .i64), .bool, .im (.int .i64)])], [.slot 0 (.agg [.bool, .im (.int .i64), .bool, .im (.int .i64)])],
  [],
  [],
  []⟩
def JR : FAnn := ⟨51, 0, [.slot 0 (.agg [.bool, .im (.int .i64), .bool, .im (.int .i64)]), .slot 1 (.agg [.bool, .im (.int .i64), .bool, .im (.int .i64)])], [.slot 0 (.agg [.bool, .im (.int .i64), .bool, .im (.int .i64)]), .slot 1 (.cell (.bool))],
  [],
  [],
  []⟩
def Lu : FAnn := ⟨127, 0, [.slot 0 (.agg [.bool, .im (.int .i64), .bool, .im (.int .i64)]), .slot 1 (.agg [.bool, .im (.int .i64), .bool, .im (.int .i64)])], [.slot 0 (.agg [.bool, .im (.int .i64), .bool, .im (.int .i64)])],
  [],
  [],
  []⟩
def JP : FAnn := ⟨52, 0, [.slot 0 (.agg [.bool, .im (.int .i64), .bool, .im (.int .i64)]), .slot 1 (.agg [.bool, .im (.int .i64), .bool, .im (.int .i64)])], [.slot 0 (.agg [.bool, .im (.int .i64), .bool, .im (.int .i64)]), .slot 1 (.cell (.bool))],
  [],
  [],
  []⟩
def Hb : FAnn := ⟨128, 0, [.slot 0 (.agg [.bool, .im (.int .i64), .bool, .im (.int .i64)])], [.slot 0 (.cell (.int .i64))],
  [],
  [],
  []⟩
def I1 : FAnn := ⟨129, 0, [.slot 0 (.agg [.bool, .im (.int .i64), .bool, .im (.int .i64)]), .slot 1 (.agg [.bool, .im (.int .i64), .bool, .im (.int .i64)])], [.slot 0 (.agg [.bool, .im (.int .i64), .bool, .im (.int .i64)])],
  [],
  [],
  []⟩
def JX : FAnn := ⟨53, 0, [.slot 0 (.agg [.bool, .im (.int .i64), .bool, .im (.int .i64)]), .slot 1 (.agg [.bool, .im (.int .i64), .bool, .im (.int .i64)])], [.slot 0 (.agg [.bool, .im (.int .i64), .bool, .im (.int .i64)]), .slot 1 (.cell (.bool))],
  [],
  [],
  []⟩
def L1 : FAnn := ⟨130, 0, [.slot 0 (.agg [.bool, .im (.int .i64), .bool, .im (.int .i64)]), .slot 1 (.agg [.bool, .im (.int .i64), .bool, .im (.int .i64)])], [.slot 0 (.agg [.bool, .im (.int .i64), .bool, .im (.int .i64)])],
  [],
  [],
  []⟩
def JO : FAnn := ⟨54, 0, [.slot 0 (.agg [.bool, .im (.int .i64), .bool, .im (.int .i64)]), .slot 1 (.agg [.bool, .im (.int .i64), .bool, .im (.int .i64)])], [.slot 0 (.agg [.bool, .im (.int .i64), .bool, .im (.int .i64)]), .slot 1 (.cell (.bool))],
  [],
  [],
  []⟩
def FL : FAnn := ⟨131, 0, [.slot 0 (.agg [.bool, .im (.int .i64), .bool, .im (.int .i64)]), .slot 1 (.agg [.bool, .im (.int .i64), .bool, .im (.int .i64)])], [.slot 0 (.cell (.int .i64))],
  [],
  [],
  []⟩
def Fu : FAnn := ⟨55, 0, [.slot 0 (.agg [.bool, .im (.int .i64), .bool, .im (.int .i64)]), .slot 1 (.agg [.bool, .im (.int .i64), .bool, .im (.int .i64)])], [.slot 0 (.cell (.int .i64)), .slot 1 (.cell (.bool))],
  [],
  [],
  []⟩
def HB : FAnn := ⟨99, 0, [.slot 0 (.agg [.bool, .im (.int .i64)]), .slot 1 (.agg [.bool, .im (.int .i64)])], [.slot 0 (.cell (.int .i64))],
  [],
  [],
  []⟩
def LH : FAnn := ⟨132, 0, [.slot 0 (.agg [.bool, .im (.int .i64), .bool, .im (.int .i64)]), .slot 1 (.agg [.bool, .im (.int .i64), .bool, .im (.int .i64)])], [.slot 0 (.cell (.int .i64))],
  [],
  [],
  []⟩
def FC : FAnn := ⟨56, 0, [.slot 0 (.agg [.bool, .im (.int .i64), .bool, .im (.int .i64)]), .slot 1 (.agg [.bool, .im (.int .i64), .bool, .im (.int .i64)])], [.slot 0 (.cell (.int .i64)), .slot 1 (.cell (.bool))],
  [],
  [],
  []⟩
def Hd : FAnn := ⟨13, 0, [.slot 0 (.cell (.im (.int .i64))), .slot 1 (.cell (.im (.int .i64)))], [.slot 0 (.cell (.bool))],
  [(4, [.slot 0 (.cell (.im (.int .i64))), .slot 1 (.cell (.im (.int .i64))), .slot 12 (.cell (.int .i64)), .slot 13 (.cell (.int .i64))])],
  [(4, [(.exit 0, []), (.ret, [.slot 4 (.cell (.bool))])])],
  []⟩
def I4 : FAnn := ⟨32, 0, [.slot 0 (.agg [.bool, .im (.int .i64)]), .slot 1 (.agg [.bool, .im (.int .i64)])], [.slot 0 (.cell (.bool))],
  [],
  [],
  []⟩
def H2 : FAnn := ⟨57, 0, [.slot 0 (.agg [.bool, .im (.int .i64), .bool, .im (.int .i64)]), .slot 1 (.agg [.bool, .im (.int .i64), .bool, .im (.int .i64)])], [.slot 0 (.cell (.bool))],
  [],
  [],
  []⟩
def Ec : FAnn := ⟨103, 1, [.blk (.box 78 [.im (.int .u8), .int .i64, .int .u64]), .slot 0 (.ref 0 true)], [.blk (.box 78 [.im (.int .u8), .int .i64, .int .u64]), .slot 0 (.cell (.int .i64))],
  [],
  [],
  []⟩
def Gk : FAnn := ⟨60, 0, [.slot 0 (.cell (.im (.int .u8)))], [.slot 0 (.cell (.int .i64)), .slot 1 (.cell (.int .i64))],
  [],
  [],
  []⟩
def L4 : FAnn := ⟨61, 0, [.slot 0 (.cell (.int .i64)), .slot 1 (.cell (.int .i64))], [.slot 0 (.agg [.bool, .im (.int .i64), .bool, .im (.int .i64)]), .slot 1 (.cell (.bool))],
  [],
  [],
  []⟩
def EU : FAnn := ⟨139, 0, [.slot 0 (.cell (.im (.int .u8)))], [.slot 0 (.agg [.bool, .im (.int .i64), .bool, .im (.int .i64)])],
  [],
  [],
  []⟩
def ES : FAnn := ⟨63, 0, [.slot 0 (.cell (.im (.int .u8)))], [.slot 0 (.agg [.bool, .im (.int .i64), .bool, .im (.int .i64)])],
  [],
  [],
  []⟩
def H5 : FAnn := ⟨154, 0, [.slot 0 (.cell (.int .i64))], [.slot 0 (.cell (.str))],
  [],
  [],
  []⟩
def Gr : FAnn := ⟨172, 0, [.slot 0 (.cell (.str)), .slot 1 (.cell (.int .i64))], [.slot 0 (.cell (.str))],
  [],
  [],
  []⟩
def A9 : FAnn := ⟨173, 1, [.blk (.arr 9 true (.str)), .slot 0 (.sub 0)], [.blk (.arr 9 true (.str))],
  [(1, [.blk (.arr 9 true (.str)), .slot 0 (.sub 0), .slot 2 (.cell (.int .i64)), .slot 3 (.cell (.int .i64))])],
  [(1, [(.exit 0, [.blk (.arr 9 true (.str))])])],
  []⟩
def Ix : FAnn := ⟨155, 0, [.slot 0 (.cell (.im (.str))), .slot 1 (.cell (.str))], [.slot 0 (.cell (.str))],
  [],
  [],
  []⟩
def Hk : FAnn := ⟨107, 0, [.slot 0 (.agg [.bool, .im (.int .i64)])], [.slot 0 (.cell (.str))],
  [(5, [.blk (.box 44 [.bool, .im (.int .i64)]), .blk (.arr 9 true (.str)), .slot 1 (.ref 0 true), .slot 3 (.ref 1 false), .slot 4 (.cell (.im (.int .i64)))])],
  [(5, [(.exit 0, [.blk (.box 44 [.bool, .im (.int .i64)]), .blk (.arr 9 true (.str)), .slot 1 (.ref 0 true), .slot 3 (.ref 1 false)])])],
  []⟩
def Hs : FAnn := ⟨140, 0, [.slot 0 (.agg [.bool, .im (.int .i64), .bool, .im (.int .i64)])], [.slot 0 (.cell (.str))],
  [],
  [],
  []⟩
def H3 : FAnn := ⟨64, 0, [.slot 0 (.agg [.bool, .im (.int .i64), .bool, .im (.int .i64)])], [.slot 0 (.cell (.str)), .slot 1 (.cell (.bool))],
  [],
  [],
  []⟩
def Jp : FAnn := ⟨156, 0, [.slot 0 (.cell (.int .i64))], [.slot 0 (.cell (.str))],
  [],
  [],
  []⟩
def J3 : FAnn := ⟨108, 0, [.slot 0 (.agg [.bool, .im (.int .i64)])], [.slot 0 (.cell (.str))],
  [(5, [.blk (.box 44 [.bool, .im (.int .i64)]), .slot 1 (.ref 0 true), .slot 3 (.cell (.str)), .slot 4 (.cell (.im (.int .i64)))])],
  [(5, [(.exit 0, [.blk (.box 44 [.bool, .im (.int .i64)]), .slot 1 (.ref 0 true), .slot 3 (.cell (.str))])])],
  []⟩
def J0 : FAnn := ⟨141, 0, [.slot 0 (.agg [.bool, .im (.int .i64), .bool, .im (.int .i64)])], [.slot 0 (.cell (.str))],
  [],
  [],
  []⟩
def H8 : FAnn := ⟨65, 0, [.slot 0 (.agg [.bool, .im (.int .i64), .bool, .im (.int .i64)])], [.slot 0 (.cell (.str)), .slot 1 (.cell (.bool))],
  [],
  [],
  []⟩
def E5 : FAnn := ⟨5, 0, [.slot 0 (.cell (.im (.int .u8))), .slot 1 (.cell (.im (.int .u8)))], [.slot 0 (.cell (.bool))],
  [],
  [],
  [(21, [.blk (.box 59 [.bool, .im (.int .i64), .bool, .im (.int .i64)]), .blk (.box 59 [.bool, .im (.int .i64), .bool, .im (.int .i64)]), .blk (.box 59 [.bool, .im (.int .i64), .bool, .im (.int .i64)]), .slot 1 (.cell (.im (.int .u8))), .slot 5 (.ref 0 true), .slot 6 (.ref 1 true), .slot 19 (.ref 2 true), .slot 20 (.cell (.bool))]), (25, [.slot 1 (.cell (.im (.int .u8)))])]⟩
def annTab : List FAnn := [F1, FS, Gf, EV, Ls, Kd, Gl, Od, IX, Mi, IH, PI, I5, Kg, J1, JN, JW, FF, L2, Lz, Lq, J5, Lx, Mo, Gn, C7, Fp, JV, Gh, Bm, Bb, ID, Hu, A8, AU, JL, Hf, EQ, DQ, D8, Sc, G5, AW, LI, L6, HT, Hh, HW, FO, HR, II, Hj, G8, IT, HZ, IQ, LK, Io, ET, FP, J2, HY, JK, FB, Ma, FH, Fv, LM, Ly, JS, JJ, Ic, H7, Kk, Mq, LO, JY, IE, JR, Lu, JP, Hb, I1, JX, L1, JO, FL, Fu, HB, LH, FC, Hd, I4, H2, Ec, Gk, L4, EU, ES, H5, Gr, A9, Ix, Hk, Hs, H3, Jp, J3, J0, H8, E5]
def noExt : Rel := fun _ _ _ _ _ => False
def cfC : Cfg := cfOf [AW] fun _ => false
def cloneTab : List (FuncId × TypeId × Nat × Bool) := [(177, 3, Ty.size (.int .i64), true)]
theorem Gi : CloneOK Tryz.prog (177, 3, Ty.size (.int .i64), true) := ⟨Tryz.f177, 23, 4, tyD23, tyD3, Tryz.func177, by kernel_rfl, by kernel_rfl, rfl, ty23, rfl, ty3, by kernel_rfl, rfl, rfl⟩
theorem XT : ∀ x ∈ cloneTab, CloneOK Tryz.prog x := by
  intro x hx
  simp only [cloneTab, List.mem_cons, List.not_mem_nil, or_false] at hx
  rcases hx with rfl
  exact Gi
def ext0 : Rel := fun g args blks r blks' => cloneRel (Runs Tryz.prog cfC noExt) cloneTab g args blks r blks' ∨ itoaRel 154 g args blks r blks' ∨ repRel 172 g args blks r blks' ∨ joinRel 155 g args blks r blks'
theorem ZO : Ent0 Tryz.prog 154 := ⟨Tryz.f154, Tryz.func154, by kernel_rfl, by kernel_rfl⟩
theorem Aa6 : Ent0 Tryz.prog 172 := ⟨Tryz.f172, Tryz.func172, by kernel_rfl, by kernel_rfl⟩
theorem Z6 : Ent0 Tryz.prog 155 := ⟨Tryz.f155, Tryz.func155, by kernel_rfl, by kernel_rfl⟩
structure LibJ (J : Tabs) : Prop where
  tab : JTab Tryz.prog J "internal/strconv.uint64pow10" .u64 Lib.pow10Tab
theorem Y4 {J : Tabs} (hJ : LibJ J) : ∀ g args blks r blks', ext0 g args blks r blks' → CSpec Tryz.prog J g args blks r blks' := by
  intro g args blks r blks' h
  rcases h with h | h | h | h
  · exact Qf (by kernel_rfl) XT _ _ _ _ _ h
  · exact Yp ZO Tryz.strconv_Itoa hJ.tab _ _ _ _ _ h
  · exact Zl Aa6 Tryz.strings_Repeat _ _ _ _ _ h
  · exact XK Z6 Tryz.strings_Join_none Tryz.strings_Join _ _ _ _ _ h
def cf0 : Cfg := cfOf annTab fun g => ([177, 154, 172, 155] : List Nat).contains g
abbrev RR : Rel := Runs Tryz.prog cf0 ext0
noncomputable def BY (a0 : ((List Int) × (Int × Int))) : Option ((List (Int) × Int × Int) × Int) :=
  (bif decide (a0.2.1 < (((List.length a0.1) : Nat) : Int)) then
      ((getI a0.1 a0.2.1)).bind fun x0 =>
      some (Sum.inr ((a0.1, (a0.2.1, a0.2.2)), (Go.IntKind.wrap Go.IntKind.i64 x0)))
    else
    some (Sum.inr ((a0.1, (a0.2.1, a0.2.2)), (0 : Int)))).bind fun x1 =>
  Sum.elim
    (fun x2 =>
    some x2)
    (fun x3 =>
    bif decide ((Go.IntKind.wrap Go.IntKind.i64 (x3.1.2.1 + (1 : Int))) ≤ (((List.length x3.1.1) : Nat) : Int)) then
      some ((x3.1.1, ((Go.IntKind.wrap Go.IntKind.i64 (x3.1.2.1 + (1 : Int))), (Go.IntKind.wrap Go.IntKind.u64 ((Go.IntKind.wrap Go.IntKind.u64 ((Go.IntKind.wrap Go.IntKind.u64 (x3.1.2.2 * (6364136223846793005 : Int))) + (Go.IntKind.wrap Go.IntKind.u64 x3.2))) + (1442695040888963407 : Int))))), x3.2)
    else
    some ((x3.1.1, ((Go.IntKind.wrap Go.IntKind.i64 (x3.1.2.1 + (1 : Int))), (Go.IntKind.wrap Go.IntKind.u64 ((Go.IntKind.wrap Go.IntKind.u64 ((Go.IntKind.wrap Go.IntKind.u64 (x3.1.2.2 * (6364136223846793005 : Int))) + (Go.IntKind.wrap Go.IntKind.u64 x3.2))) + (1442695040888963407 : Int))))), (Go.IntKind.wrap Go.IntKind.i64 (andI Go.IntKind.u64 (shrI Go.IntKind.u64 (Go.IntKind.wrap Go.IntKind.u64 ((Go.IntKind.wrap Go.IntKind.u64 ((Go.IntKind.wrap Go.IntKind.u64 (x3.1.2.2 * (6364136223846793005 : Int))) + (Go.IntKind.wrap Go.IntKind.u64 x3.2))) + (1442695040888963407 : Int))) (40 : Int)) (255 : Int)))))
    x1
noncomputable def Iw : Ent := ⟨F1, fun x => BY x⟩
noncomputable def H9 : TX := ⟨tyTab, codTab, [], [4], [], F1⟩
set_option maxHeartbeats 2000000 in
theorem OL (a0 : (List (Int) × Int × Int)) : wtF H9 Tryz.f195 (a0) = BY a0 := by kernel_rfl
theorem NA : EntOK RR Iw := Ab (X := H9) ⟨tyOK, boolOK, eqOK⟩ (Ad (by exact trivial)) (Ai (by kernel_rfl)) ⟨Tryz.func195, rfl, by kernel_rfl, rfl⟩ (fun x => by exact OL x)
noncomputable def Ay (a0 : ((List Int) × (Int × Int))) (a1 : Int) : Option ((List (Int) × Int × Int) × Int) :=
  bif decide (a1 ≤ (1 : Int)) then
    some ((a0.1, (a0.2.1, a0.2.2)), (0 : Int))
  else
  ((BY (a0.1, (a0.2.1, a0.2.2)))).bind fun x0 =>
  bif decide (a1 > (200 : Int)) then
    ((BY (x0.1.1, (x0.1.2.1, x0.1.2.2)))).bind fun x1 =>
    bif (a1 == (0 : Int)) then
      none
    else
    some ((x1.1.1, (x1.1.2.1, x1.1.2.2)), (Int.tmod (Go.IntKind.wrap Go.IntKind.i64 ((Go.IntKind.wrap Go.IntKind.i64 (x0.2 * (256 : Int))) + x1.2)) a1))
  else
  bif (a1 == (0 : Int)) then
    none
  else
  some ((x0.1.1, (x0.1.2.1, x0.1.2.2)), (Int.tmod x0.2 a1))
noncomputable def BR : Ent := ⟨FS, fun x => Ay x.1 x.2⟩
noncomputable def Ij : TX := ⟨tyTab, codTab, [], [4], [Iw], FS⟩
set_option maxHeartbeats 2000000 in
theorem PJ (a0 : (List (Int) × Int × Int)) (a1 : Int) : wtF Ij Tryz.f151 (a0, a1) = Ay a0 a1 := by kernel_rfl
theorem Ch : EntOK RR BR := Ab (X := Ij) ⟨tyOK, boolOK, eqOK⟩ (Ad (by exact ⟨⟨NA, rfl⟩, trivial⟩)) (Ai (by kernel_rfl)) ⟨Tryz.func151, rfl, by kernel_rfl, rfl⟩ (fun x => by exact PJ x.1 x.2)
noncomputable def AO (a0 : ((List Int) × (Int × Int))) (a1 : Int) : Option ((List (Int) × Int × Int) × Bool) :=
  ((Ay (a0.1, (a0.2.1, a0.2.2)) a1)).bind fun x0 =>
  some ((x0.1.1, (x0.1.2.1, x0.1.2.2)), (x0.2 == (0 : Int)))
noncomputable def C0 : Ent := ⟨Gf, fun x => AO x.1 x.2⟩
noncomputable def JG : TX := ⟨tyTab, codTab, [], [4], [BR], Gf⟩
set_option maxHeartbeats 2000000 in
theorem Qx (a0 : (List (Int) × Int × Int)) (a1 : Int) : wtF JG Tryz.f87 (a0, a1) = AO a0 a1 := by kernel_rfl
theorem DB : EntOK RR C0 := Ab (X := JG) ⟨tyOK, boolOK, eqOK⟩ (Ad (by exact ⟨⟨Ch, rfl⟩, trivial⟩)) (Ai (by kernel_rfl)) ⟨Tryz.func87, rfl, by kernel_rfl, rfl⟩ (fun x => by exact Qx x.1 x.2)
noncomputable def AT (a0 : ((List Int) × (Int × Int))) (a1 : (List Int)) : Option ((List (Int) × Int × Int) × Int) :=
  ((Ay (a0.1, (a0.2.1, a0.2.2)) (((List.length a1) : Nat) : Int))).bind fun x0 =>
  ((getI a1 x0.2)).bind fun x1 =>
  some ((x0.1.1, (x0.1.2.1, x0.1.2.2)), x1)
noncomputable def EY : Ent := ⟨EV, fun x => AT x.1 x.2⟩
noncomputable def HI : TX := ⟨tyTab, codTab, [], [4], [BR], EV⟩
set_option maxHeartbeats 2000000 in
theorem Ny (a0 : (List (Int) × Int × Int)) (a1 : List (Int)) : wtF HI Tryz.f152 (a0, a1) = AT a0 a1 := by kernel_rfl
theorem GK : EntOK RR EY := Ab (X := HI) ⟨tyOK, boolOK, eqOK⟩ (Ad (by exact ⟨⟨Ch, rfl⟩, trivial⟩)) (Ai (by kernel_rfl)) ⟨Tryz.func152, rfl, by kernel_rfl, rfl⟩ (fun x => by exact Ny x.1 x.2)
noncomputable def F9 (s0 : (List Int)) : Option ((List Int) ⊕ (List Int)) :=
  bif decide ((((List.length s0) : Nat) : Int) > (0 : Int)) then
    ((getI s0 (Go.IntKind.wrap Go.IntKind.i64 ((((List.length s0) : Nat) : Int) - (1 : Int))))).bind fun x0 =>
    bif (x0 == (0 : Int)) then
      ((subI (0 : Int) (Go.IntKind.wrap Go.IntKind.i64 ((((List.length s0) : Nat) : Int) - (1 : Int))) (List.length s0))).bind fun x1 =>
      some (Sum.inl (List.drop x1.1 (List.take x1.2 s0)))
    else
    some (Sum.inr s0)
  else
  some (Sum.inr s0)
noncomputable def Bc (a0 : (List Int)) : Option (List (Int)) :=
  (loopM (fun (s : (List Int)) => F9 s) a0).bind fun x0 =>
  bif (roomI (List.length x0) 8 1) then
    some x0
  else
  none
noncomputable def Dd : Ent := ⟨Ls, fun x => Bc x⟩
noncomputable def RW : TX := ⟨tyTab, codTab, [], [4], [], Ls⟩
set_option maxHeartbeats 2000000 in
theorem X1 (a0 : List (Int)) : wtF RW Tryz.f114 (a0) = Bc a0 := by kernel_rfl
theorem Db : EntOK RR Dd := Ab (X := RW) ⟨tyOK, boolOK, eqOK⟩ (Ad (by exact trivial)) (Ai (by kernel_rfl)) ⟨Tryz.func114, rfl, by kernel_rfl, rfl⟩ (fun x => by exact X1 x)
noncomputable def AE (a0 : Bool) (a1 : (List Int)) : Option (List (Int) × (Bool)) :=
  ((Bc a1)).bind fun x0 =>
  bif a0 then
    some (x0, decide ((((List.length x0) : Nat) : Int) > (0 : Int)))
  else
  some (x0, false)
noncomputable def Cb : Ent := ⟨Kd, fun x => AE x.1 x.2⟩
noncomputable def Pg : TX := ⟨tyTab, codTab, [], [4], [Dd], Kd⟩
set_option maxHeartbeats 2000000 in
theorem Ws (a0 : Bool) (a1 : List (Int)) : wtF Pg Tryz.f104 (a0, a1) = AE a0 a1 := by kernel_rfl
theorem B5 : EntOK RR Cb := Ab (X := Pg) ⟨tyOK, boolOK, eqOK⟩ (Ad (by exact ⟨⟨Db, rfl⟩, trivial⟩)) (Ai (by kernel_rfl)) ⟨Tryz.func104, rfl, by kernel_rfl, rfl⟩ (fun x => by exact Ws x.1 x.2)
noncomputable def Cf (s0 : ((List Int) × (Int × Int))) (s1 : (Bool × (List Int))) (s2 : (List Int)) (s3 : Int) : Option ((((List Int) × (Int × Int)) × ((Bool × (List Int)) × ((List Int) × Int))) ⊕ (((List Int) × (Int × Int)) × ((Bool × (List Int)) × (List Int)))) :=
  bif decide (s3 > (0 : Int)) then
    ((Ay (s0.1, (s0.2.1, s0.2.2)) (256 : Int))).bind fun x0 =>
    ((Ay (x0.1.1, (x0.1.2.1, x0.1.2.2)) (256 : Int))).bind fun x1 =>
    ((AT (x1.1.1, (x1.1.2.1, x1.1.2.2)) (List.cons (0 : Int) (List.cons (1 : Int) (List.cons (65535 : Int) (List.cons (32768 : Int) (List.cons (Go.IntKind.wrap Go.IntKind.i64 ((Go.IntKind.wrap Go.IntKind.i64 ((256 : Int) * x0.2)) + x1.2)) (List.cons (7 : Int) (List.nil : List Int))))))))).bind fun x2 =>
    ((appL 8 1 s2 (List.cons x2.2 (List.nil : List Int)))).bind fun x3 =>
    some (Sum.inl ((x2.1.1, (x2.1.2.1, x2.1.2.2)), ((s1.1, s1.2), (x3, (Go.IntKind.wrap Go.IntKind.i64 (s3 - (1 : Int)))))))
  else
  some (Sum.inr ((s0.1, (s0.2.1, s0.2.2)), ((s1.1, s1.2), s2)))
noncomputable def Cn (a0 : ((List Int) × (Int × Int))) : Option ((List (Int) × Int × Int) × (Bool × List (Int))) :=
  ((Ay (a0.1, (a0.2.1, a0.2.2)) (6 : Int))).bind fun x0 =>
  (((AO (x0.1.1, (x0.1.2.1, x0.1.2.2)) (12 : Int))).bind fun x1 =>
    bif x1.2 then
      ((AT (x1.1.1, (x1.1.2.1, x1.1.2.2)) (List.cons (20 : Int) (List.cons (39 : Int) (List.cons (40 : Int) (List.cons (41 : Int) (List.nil : List Int))))))).bind fun x2 =>
      some (Sum.inr ((x2.1.1, (x2.1.2.1, x2.1.2.2)), ((false, (List.nil : List Int)), x2.2)))
    else
    some (Sum.inr ((x1.1.1, (x1.1.2.1, x1.1.2.2)), ((false, (List.nil : List Int)), x0.2)))).bind fun x3 =>
  Sum.elim
    (fun x4 =>
    some x4)
    (fun x5 =>
    (loopM (fun (s : (((List Int) × (Int × Int)) × ((Bool × (List Int)) × ((List Int) × Int)))) => Cf s.1 s.2.1 s.2.2.1 s.2.2.2) ((x5.1.1, (x5.1.2.1, x5.1.2.2)), ((x5.2.1.1, x5.2.1.2), ((List.nil : List Int), x5.2.2)))).bind fun x6 =>
    ((AO (x6.1.1, (x6.1.2.1, x6.1.2.2)) (3 : Int))).bind fun x7 =>
    ((AE x7.2 x6.2.2)).bind fun x8 =>
    ((AO (x7.1.1, (x7.1.2.1, x7.1.2.2)) (40 : Int))).bind fun x9 =>
    bif x9.2 then
      ((AT (x9.1.1, (x9.1.2.1, x9.1.2.2)) (List.cons (0 : Int) (List.cons (-(1 : Int)) (List.cons (65536 : Int) (List.nil : List Int)))))).bind fun x10 =>
      ((appL 8 1 x8.1 (List.cons x10.2 (List.nil : List Int)))).bind fun x11 =>
      some ((x10.1.1, (x10.1.2.1, x10.1.2.2)), (x8.2, x11))
    else
    some ((x9.1.1, (x9.1.2.1, x9.1.2.2)), (x8.2, x8.1)))
    x3
noncomputable def JD : Ent := ⟨Gl, fun x => Cn x⟩
noncomputable def Jz : TX := ⟨tyTab, codTab, [], [4], [BR, C0, EY, Cb], Gl⟩
set_option maxHeartbeats 2000000 in
theorem Qr (a0 : (List (Int) × Int × Int)) : wtF Jz Tryz.f112 (a0) = Cn a0 := by kernel_rfl
theorem PX : EntOK RR JD := Ab (X := Jz) ⟨tyOK, boolOK, eqOK⟩ (Ad (by exact ⟨⟨Ch, rfl⟩, ⟨⟨DB, rfl⟩, ⟨⟨GK, rfl⟩, ⟨⟨B5, rfl⟩, trivial⟩⟩⟩⟩)) (Ai (by kernel_rfl)) ⟨Tryz.func112, rfl, by kernel_rfl, rfl⟩ (fun x => by exact Qr x)
noncomputable def F3 (a0 : Int) (a1 : Int) (a2 : Int) : Option (Bool) :=
  bif decide (a0 ≥ a1) then
    some (decide (a0 ≤ a2))
  else
  some false
noncomputable def ON : Ent := ⟨Od, fun x => F3 x.1 x.2.1 x.2.2⟩
noncomputable def Tl : TX := ⟨tyTab, codTab, [], [4], [], Od⟩
set_option maxHeartbeats 2000000 in
theorem ZL (a0 : Int) (a1 : Int) (a2 : Int) : wtF Tl Tryz.f102 (a0, a1, a2) = F3 a0 a1 a2 := by kernel_rfl
theorem R7 : EntOK RR ON := Ab (X := Tl) ⟨tyOK, boolOK, eqOK⟩ (Ad (by exact trivial)) (Ai (by kernel_rfl)) ⟨Tryz.func102, rfl, by kernel_rfl, rfl⟩ (fun x => by exact ZL x.1 x.2.1 x.2.2)
noncomputable def C1 (s0 : (Bool × (List Int))) (s1 : (List Int)) (s2 : Int) (s3 : Int) : Option (((Bool × (List Int)) × ((List Int) × (Int × Int))) ⊕ ((Bool × (List Int)) ⊕ Bool)) :=
  bif decide (s3 < s2) then
    ((getI s1 s3)).bind fun x0 =>
    ((F3 x0 (0 : Int) (65535 : Int))).bind fun x1 =>
    bif (!x1) then
      some (Sum.inr (Sum.inr false))
    else
    some (Sum.inl ((s0.1, s0.2), (s1, (s2, (Go.IntKind.wrap Go.IntKind.i64 (s3 + (1 : Int)))))))
  else
  some (Sum.inr (Sum.inl (s0.1, s0.2)))
noncomputable def B3 (a0 : (Bool × (List Int))) : Option (Bool) :=
  (loopM (fun (s : ((Bool × (List Int)) × ((List Int) × (Int × Int)))) => C1 s.1 s.2.1 s.2.2.1 s.2.2.2) ((a0.1, a0.2), (a0.2, ((((List.length a0.2) : Nat) : Int), (0 : Int))))).bind fun x0 =>
  Sum.elim
    (fun x1 =>
    bif ((((List.length x1.2) : Nat) : Int) == (0 : Int)) then
      some (!x1.1)
    else
    bif decide ((((List.length x1.2) : Nat) : Int) ≤ (40 : Int)) then
      ((getI x1.2 (Go.IntKind.wrap Go.IntKind.i64 ((((List.length x1.2) : Nat) : Int) - (1 : Int))))).bind fun x2 =>
      some (x2 != (0 : Int))
    else
    some false)
    (fun x3 =>
    some x3)
    x0
noncomputable def It : Ent := ⟨IX, fun x => B3 x⟩
noncomputable def Nr : TX := ⟨tyTab, codTab, [], [4], [ON], IX⟩
set_option maxHeartbeats 2000000 in
theorem TK (a0 : (Bool × List (Int))) : wtF Nr Tryz.f34 (a0) = B3 a0 := by kernel_rfl
theorem K2 : EntOK RR It := Ab (X := Nr) ⟨tyOK, boolOK, eqOK⟩ (Ad (by exact ⟨⟨R7, rfl⟩, trivial⟩)) (Ai (by kernel_rfl)) ⟨Tryz.func34, rfl, by kernel_rfl, rfl⟩ (fun x => by exact TK x)
noncomputable def BG (s0 : (List Int)) (s1 : (List Int)) (s2 : Int) : Option (((List Int) × ((List Int) × Int)) ⊕ (Unit ⊕ Int)) :=
  bif decide (s2 ≥ (0 : Int)) then
    ((getI s0 s2)).bind fun x0 =>
    ((getI s1 s2)).bind fun x1 =>
    bif decide (x0 < x1) then
      some (Sum.inr (Sum.inr (-(1 : Int))))
    else
    ((getI s0 s2)).bind fun x2 =>
    ((getI s1 s2)).bind fun x3 =>
    bif decide (x2 > x3) then
      some (Sum.inr (Sum.inr (1 : Int)))
    else
    some (Sum.inl (s0, (s1, (Go.IntKind.wrap Go.IntKind.i64 (s2 - (1 : Int))))))
  else
  some (Sum.inr (Sum.inl ()))
noncomputable def AY (a0 : (List Int)) (a1 : (List Int)) : Option (Int) :=
  bif ((((List.length a0) : Nat) : Int) != (((List.length a1) : Nat) : Int)) then
    bif decide ((((List.length a0) : Nat) : Int) < (((List.length a1) : Nat) : Int)) then
      some (-(1 : Int))
    else
    some (1 : Int)
  else
  (loopM (fun (s : ((List Int) × ((List Int) × Int))) => BG s.1 s.2.1 s.2.2) (a0, (a1, (Go.IntKind.wrap Go.IntKind.i64 ((((List.length a0) : Nat) : Int) - (1 : Int)))))).bind fun x0 =>
  Sum.elim
    (fun x1 =>
    some (0 : Int))
    (fun x2 =>
    some x2)
    x0
noncomputable def Fo : Ent := ⟨Mi, fun x => AY x.1 x.2⟩
noncomputable def Ry : TX := ⟨tyTab, codTab, [], [4], [], Mi⟩
set_option maxHeartbeats 2000000 in
theorem Xr (a0 : List (Int)) (a1 : List (Int)) : wtF Ry Tryz.f135 (a0, a1) = AY a0 a1 := by kernel_rfl
theorem F0 : EntOK RR Fo := Ab (X := Ry) ⟨tyOK, boolOK, eqOK⟩ (Ad (by exact trivial)) (Ai (by kernel_rfl)) ⟨Tryz.func135, rfl, by kernel_rfl, rfl⟩ (fun x => by exact Xr x.1 x.2)
noncomputable def CX (s0 : (List Int)) (s1 : (List Int)) (s2 : Int) (s3 : Int) (s4 : Int) : Option (((List Int) × ((List Int) × (Int × (Int × Int)))) ⊕ ((List Int) × Int)) :=
  bif decide (s4 ≥ (0 : Int)) then
    ((getI s1 s4)).bind fun x0 =>
    bif (s2 == (0 : Int)) then
      none
    else
    ((idxI s4 (List.length s0))).bind fun x1 =>
    ((getN s0 x1)).bind fun x2 =>
    bif (s2 == (0 : Int)) then
      none
    else
    some (Sum.inl ((List.set s0 x1 (Go.IntKind.wrap Go.IntKind.i64 (Int.tdiv (Go.IntKind.wrap Go.IntKind.i64 ((Go.IntKind.wrap Go.IntKind.i64 (s3 * (65536 : Int))) + x0)) s2))), (s1, (s2, ((Int.tmod (Go.IntKind.wrap Go.IntKind.i64 ((Go.IntKind.wrap Go.IntKind.i64 (s3 * (65536 : Int))) + x0)) s2), (Go.IntKind.wrap Go.IntKind.i64 (s4 - (1 : Int))))))))
  else
  some (Sum.inr (s0, s3))
noncomputable def Ew (a0 : (List Int)) (a1 : Int) : Option (List (Int) × List (Int)) :=
  ((lenI (((List.length a0) : Nat) : Int) 8 1)).bind fun x0 =>
  (loopM (fun (s : ((List Int) × ((List Int) × (Int × (Int × Int))))) => CX s.1 s.2.1 s.2.2.1 s.2.2.2.1 s.2.2.2.2) ((List.replicate x0 (0 : Int)), (a0, (a1, ((0 : Int), (Go.IntKind.wrap Go.IntKind.i64 ((((List.length a0) : Nat) : Int) - (1 : Int)))))))).bind fun x1 =>
  ((Bc x1.1)).bind fun x2 =>
  ((Bc (List.cons x1.2 (List.nil : List Int)))).bind fun x3 =>
  some (x2, x3)
noncomputable def MF : Ent := ⟨IH, fun x => Ew x.1 x.2⟩
noncomputable def MN : TX := ⟨tyTab, codTab, [], [4], [Dd], IH⟩
set_option maxHeartbeats 2000000 in
theorem Uk (a0 : List (Int)) (a1 : Int) : wtF MN Tryz.f214 (a0, a1) = Ew a0 a1 := by kernel_rfl
theorem S0 : EntOK RR MF := Ab (X := MN) ⟨tyOK, boolOK, eqOK⟩ (Ad (by exact ⟨⟨Db, rfl⟩, trivial⟩)) (Ai (by kernel_rfl)) ⟨Tryz.func214, rfl, by kernel_rfl, rfl⟩ (fun x => by exact Uk x.1 x.2)
noncomputable def HD (s0 : (List Int)) (s1 : Int) (s2 : (List Int)) (s3 : Int) (s4 : Int) : Option (((List Int) × (Int × ((List Int) × (Int × Int)))) ⊕ (List Int)) :=
  bif decide (s4 < s3) then
    ((getI s2 s4)).bind fun x0 =>
    bif decide ((Go.IntKind.wrap Go.IntKind.u64 s1) < (0 : Int)) then
      none
    else
    ((idxI s4 (List.length s0))).bind fun x1 =>
    ((getN s0 x1)).bind fun x2 =>
    ((idxI s4 (List.length s0))).bind fun x3 =>
    ((getN s0 x3)).bind fun x4 =>
    ((idxI (Go.IntKind.wrap Go.IntKind.i64 (s4 + (1 : Int))) (List.length (List.set s0 x3 (orI Go.IntKind.i64 x2 (Int.tmod (shlI Go.IntKind.i64 x0 (Go.IntKind.wrap Go.IntKind.u64 s1)) (65536 : Int))))))).bind fun x5 =>
    ((getN (List.set s0 x3 (orI Go.IntKind.i64 x2 (Int.tmod (shlI Go.IntKind.i64 x0 (Go.IntKind.wrap Go.IntKind.u64 s1)) (65536 : Int)))) x5)).bind fun x6 =>
    some (Sum.inl ((List.set (List.set s0 x3 (orI Go.IntKind.i64 x2 (Int.tmod (shlI Go.IntKind.i64 x0 (Go.IntKind.wrap Go.IntKind.u64 s1)) (65536 : Int)))) x5 (Go.IntKind.wrap Go.IntKind.i64 (Int.tdiv (shlI Go.IntKind.i64 x0 (Go.IntKind.wrap Go.IntKind.u64 s1)) (65536 : Int)))), (s1, (s2, (s3, (Go.IntKind.wrap Go.IntKind.i64 (s4 + (1 : Int))))))))
  else
  some (Sum.inr s0)
noncomputable def GV (a0 : (List Int)) (a1 : Int) : Option (List (Int)) :=
  ((lenI (Go.IntKind.wrap Go.IntKind.i64 ((((List.length a0) : Nat) : Int) + (1 : Int))) 8 1)).bind fun x0 =>
  (loopM (fun (s : ((List Int) × (Int × ((List Int) × (Int × Int))))) => HD s.1 s.2.1 s.2.2.1 s.2.2.2.1 s.2.2.2.2) ((List.replicate x0 (0 : Int)), (a1, (a0, ((((List.length a0) : Nat) : Int), (0 : Int)))))).bind fun x1 =>
  some x1
noncomputable def Tu : Ent := ⟨PI, fun x => GV x.1 x.2⟩
noncomputable def Ts : TX := ⟨tyTab, codTab, [], [4], [], PI⟩
set_option maxHeartbeats 2000000 in
theorem Z5 (a0 : List (Int)) (a1 : Int) : wtF Ts Tryz.f215 (a0, a1) = GV a0 a1 := by kernel_rfl
theorem YA : EntOK RR Tu := Ab (X := Ts) ⟨tyOK, boolOK, eqOK⟩ (Ad (by exact trivial)) (Ai (by kernel_rfl)) ⟨Tryz.func215, rfl, by kernel_rfl, rfl⟩ (fun x => by exact Z5 x.1 x.2)
noncomputable def Co (s0 : (List Int)) (s1 : (List Int)) (s2 : Int) (s3 : Int) (s4 : Int) (s5 : Int) : Option (((List Int) × ((List Int) × (Int × (Int × (Int × Int))))) ⊕ Int) :=
  (bif decide (s5 < (65536 : Int)) then
      bif decide (s4 ≥ (65536 : Int)) then
        some (Sum.inr (s0, (s1, (s2, (s3, (s4, s5))))))
      else
      ((getI s1 (Go.IntKind.wrap Go.IntKind.i64 (s3 - (2 : Int))))).bind fun x0 =>
      ((getI s0 (Go.IntKind.wrap Go.IntKind.i64 ((Go.IntKind.wrap Go.IntKind.i64 (s2 + s3)) - (2 : Int))))).bind fun x1 =>
      bif decide ((Go.IntKind.wrap Go.IntKind.i64 (s4 * x0)) > (Go.IntKind.wrap Go.IntKind.i64 ((Go.IntKind.wrap Go.IntKind.i64 (s5 * (65536 : Int))) + x1))) then
        some (Sum.inr (s0, (s1, (s2, (s3, (s4, s5))))))
      else
      some (Sum.inl (Sum.inr s4))
    else
    some (Sum.inl (Sum.inr s4))).bind fun x2 =>
  Sum.elim
    (fun x3 =>
    some x3)
    (fun x4 =>
    ((getI x4.2.1 (Go.IntKind.wrap Go.IntKind.i64 (x4.2.2.2.1 - (1 : Int))))).bind fun x5 =>
    some (Sum.inl (x4.1, (x4.2.1, (x4.2.2.1, (x4.2.2.2.1, ((Go.IntKind.wrap Go.IntKind.i64 (x4.2.2.2.2.1 - (1 : Int))), (Go.IntKind.wrap Go.IntKind.i64 (x4.2.2.2.2.2 + x5)))))))))
    x2
noncomputable def EO (a0 : (List Int)) (a1 : (List Int)) (a2 : Int) : Option (Int) :=
  ((getI a0 (Go.IntKind.wrap Go.IntKind.i64 (a2 + (((List.length a1) : Nat) : Int))))).bind fun x0 =>
  ((getI a0 (Go.IntKind.wrap Go.IntKind.i64 ((Go.IntKind.wrap Go.IntKind.i64 (a2 + (((List.length a1) : Nat) : Int))) - (1 : Int))))).bind fun x1 =>
  ((getI a1 (Go.IntKind.wrap Go.IntKind.i64 ((((List.length a1) : Nat) : Int) - (1 : Int))))).bind fun x2 =>
  bif (x2 == (0 : Int)) then
    none
  else
  ((getI a1 (Go.IntKind.wrap Go.IntKind.i64 ((((List.length a1) : Nat) : Int) - (1 : Int))))).bind fun x3 =>
  bif (x3 == (0 : Int)) then
    none
  else
  (loopM (fun (s : ((List Int) × ((List Int) × (Int × (Int × (Int × Int)))))) => Co s.1 s.2.1 s.2.2.1 s.2.2.2.1 s.2.2.2.2.1 s.2.2.2.2.2) (a0, (a1, (a2, ((((List.length a1) : Nat) : Int), ((Go.IntKind.wrap Go.IntKind.i64 (Int.tdiv (Go.IntKind.wrap Go.IntKind.i64 ((Go.IntKind.wrap Go.IntKind.i64 (x0 * (65536 : Int))) + x1)) x2)), (Int.tmod (Go.IntKind.wrap Go.IntKind.i64 ((Go.IntKind.wrap Go.IntKind.i64 (x0 * (65536 : Int))) + x1)) x3))))))).bind fun x4 =>
  some x4
noncomputable def MG : Ent := ⟨I5, fun x => EO x.1 x.2.1 x.2.2⟩
noncomputable def M5 : TX := ⟨tyTab, codTab, [], [4], [], I5⟩
set_option maxHeartbeats 2000000 in
theorem UJ (a0 : List (Int)) (a1 : List (Int)) (a2 : Int) : wtF M5 Tryz.f216 (a0, a1, a2) = EO a0 a1 a2 := by kernel_rfl
theorem Sy : EntOK RR MG := Ab (X := M5) ⟨tyOK, boolOK, eqOK⟩ (Ad (by exact trivial)) (Ai (by kernel_rfl)) ⟨Tryz.func216, rfl, by kernel_rfl, rfl⟩ (fun x => by exact UJ x.1 x.2.1 x.2.2)
noncomputable def Bh (a0 : (List Int)) (a1 : Int) : Option (Int) :=
  bif decide (a1 < (((List.length a0) : Nat) : Int)) then
    ((getI a0 a1)).bind fun x0 =>
    some x0
  else
  some (0 : Int)
noncomputable def Cw : Ent := ⟨Kg, fun x => Bh x.1 x.2⟩
noncomputable def OQ : TX := ⟨tyTab, codTab, [], [4], [], Kg⟩
set_option maxHeartbeats 2000000 in
theorem VT (a0 : List (Int)) (a1 : Int) : wtF OQ Tryz.f175 (a0, a1) = Bh a0 a1 := by kernel_rfl
theorem CA : EntOK RR Cw := Ab (X := OQ) ⟨tyOK, boolOK, eqOK⟩ (Ad (by exact trivial)) (Ai (by kernel_rfl)) ⟨Tryz.func175, rfl, by kernel_rfl, rfl⟩ (fun x => by exact VT x.1 x.2)
noncomputable def E7 (s0 : (List Int)) (s1 : (List Int)) (s2 : Int) (s3 : Int) (s4 : Int) (s5 : Int) : Option (((List Int) × ((List Int) × (Int × (Int × (Int × Int))))) ⊕ ((List Int) × Int)) :=
  bif decide (s5 ≤ (((List.length s1) : Nat) : Int)) then
    ((idxI (Go.IntKind.wrap Go.IntKind.i64 (s2 + s5)) (List.length s0))).bind fun x0 =>
    ((getN s0 x0)).bind fun x1 =>
    ((Bh s1 s5)).bind fun x2 =>
    (bif decide ((Go.IntKind.wrap Go.IntKind.i64 ((Go.IntKind.wrap Go.IntKind.i64 (x1 - (Go.IntKind.wrap Go.IntKind.i64 (s3 * x2)))) - s4)) < (0 : Int)) then
        some (Sum.inr (s0, (s1, (s2, (s3, ((Go.IntKind.wrap Go.IntKind.i64 (Int.tdiv (Go.IntKind.wrap Go.IntKind.i64 ((Go.IntKind.wrap Go.IntKind.i64 ((Go.IntKind.wrap Go.IntKind.i64 ((0 : Int) - (Go.IntKind.wrap Go.IntKind.i64 ((Go.IntKind.wrap Go.IntKind.i64 (x1 - (Go.IntKind.wrap Go.IntKind.i64 (s3 * x2)))) - s4)))) + (65536 : Int))) - (1 : Int))) (65536 : Int))), (s5, (Go.IntKind.wrap Go.IntKind.i64 ((Go.IntKind.wrap Go.IntKind.i64 ((Go.IntKind.wrap Go.IntKind.i64 (x1 - (Go.IntKind.wrap Go.IntKind.i64 (s3 * x2)))) - s4)) + (Go.IntKind.wrap Go.IntKind.i64 ((Go.IntKind.wrap Go.IntKind.i64 (Int.tdiv (Go.IntKind.wrap Go.IntKind.i64 ((Go.IntKind.wrap Go.IntKind.i64 ((Go.IntKind.wrap Go.IntKind.i64 ((0 : Int) - (Go.IntKind.wrap Go.IntKind.i64 ((Go.IntKind.wrap Go.IntKind.i64 (x1 - (Go.IntKind.wrap Go.IntKind.i64 (s3 * x2)))) - s4)))) + (65536 : Int))) - (1 : Int))) (65536 : Int))) * (65536 : Int))))))))))))
      else
      some (Sum.inr (s0, (s1, (s2, (s3, ((0 : Int), (s5, (Go.IntKind.wrap Go.IntKind.i64 ((Go.IntKind.wrap Go.IntKind.i64 (x1 - (Go.IntKind.wrap Go.IntKind.i64 (s3 * x2)))) - s4)))))))))).bind fun x3 =>
    Sum.elim
      (fun x4 =>
      some x4)
      (fun x5 =>
      ((idxI (Go.IntKind.wrap Go.IntKind.i64 (x5.2.2.1 + x5.2.2.2.2.2.1)) (List.length x5.1))).bind fun x6 =>
      ((getN x5.1 x6)).bind fun x7 =>
      some (Sum.inl ((List.set x5.1 x6 x5.2.2.2.2.2.2), (x5.2.1, (x5.2.2.1, (x5.2.2.2.1, (x5.2.2.2.2.1, (Go.IntKind.wrap Go.IntKind.i64 (x5.2.2.2.2.2.1 + (1 : Int))))))))))
      x3
  else
  some (Sum.inr (s0, s4))
noncomputable def Fy (a0 : (List Int)) (a1 : (List Int)) (a2 : Int) (a3 : Int) : Option (List (Int) × Int) :=
  (loopM (fun (s : ((List Int) × ((List Int) × (Int × (Int × (Int × Int)))))) => E7 s.1 s.2.1 s.2.2.1 s.2.2.2.1 s.2.2.2.2.1 s.2.2.2.2.2) (a0, (a1, (a2, (a3, ((0 : Int), (0 : Int))))))).bind fun x0 =>
  some (x0.1, x0.2)
noncomputable def Ow : Ent := ⟨J1, fun x => Fy x.1 x.2.1 x.2.2.1 x.2.2.2⟩
noncomputable def Pq : TX := ⟨tyTab, codTab, [], [4], [Cw], J1⟩
set_option maxHeartbeats 2000000 in
theorem Wy (a0 : List (Int)) (a1 : List (Int)) (a2 : Int) (a3 : Int) : wtF Pq Tryz.f217 (a0, a1, a2, a3) = Fy a0 a1 a2 a3 := by kernel_rfl
theorem TZ : EntOK RR Ow := Ab (X := Pq) ⟨tyOK, boolOK, eqOK⟩ (Ad (by exact ⟨⟨CA, rfl⟩, trivial⟩)) (Ai (by kernel_rfl)) ⟨Tryz.func217, rfl, by kernel_rfl, rfl⟩ (fun x => by exact Wy x.1 x.2.1 x.2.2.1 x.2.2.2)
noncomputable def Fa (s0 : (List Int)) (s1 : (List Int)) (s2 : Int) (s3 : Int) (s4 : Int) : Option (((List Int) × ((List Int) × (Int × (Int × Int)))) ⊕ (List Int)) :=
  bif decide (s4 ≤ (((List.length s1) : Nat) : Int)) then
    ((idxI (Go.IntKind.wrap Go.IntKind.i64 (s2 + s4)) (List.length s0))).bind fun x0 =>
    ((getN s0 x0)).bind fun x1 =>
    ((Bh s1 s4)).bind fun x2 =>
    ((idxI (Go.IntKind.wrap Go.IntKind.i64 (s2 + s4)) (List.length s0))).bind fun x3 =>
    ((getN s0 x3)).bind fun x4 =>
    some (Sum.inl ((List.set s0 x3 (Int.tmod (Go.IntKind.wrap Go.IntKind.i64 ((Go.IntKind.wrap Go.IntKind.i64 (x1 + x2)) + s3)) (65536 : Int))), (s1, (s2, ((Go.IntKind.wrap Go.IntKind.i64 (Int.tdiv (Go.IntKind.wrap Go.IntKind.i64 ((Go.IntKind.wrap Go.IntKind.i64 (x1 + x2)) + s3)) (65536 : Int))), (Go.IntKind.wrap Go.IntKind.i64 (s4 + (1 : Int))))))))
  else
  some (Sum.inr s0)
noncomputable def FA (a0 : (List Int)) (a1 : (List Int)) (a2 : Int) : Option (List (Int)) :=
  (loopM (fun (s : ((List Int) × ((List Int) × (Int × (Int × Int))))) => Fa s.1 s.2.1 s.2.2.1 s.2.2.2.1 s.2.2.2.2) (a0, (a1, (a2, ((0 : Int), (0 : Int)))))).bind fun x0 =>
  some x0
noncomputable def Pk : Ent := ⟨JN, fun x => FA x.1 x.2.1 x.2.2⟩
noncomputable def Qa : TX := ⟨tyTab, codTab, [], [4], [Cw], JN⟩
set_option maxHeartbeats 2000000 in
theorem VZ (a0 : List (Int)) (a1 : List (Int)) (a2 : Int) : wtF Qa Tryz.f218 (a0, a1, a2) = FA a0 a1 a2 := by kernel_rfl
theorem Ui : EntOK RR Pk := Ab (X := Qa) ⟨tyOK, boolOK, eqOK⟩ (Ad (by exact ⟨⟨CA, rfl⟩, trivial⟩)) (Ai (by kernel_rfl)) ⟨Tryz.func218, rfl, by kernel_rfl, rfl⟩ (fun x => by exact VZ x.1 x.2.1 x.2.2)
noncomputable def Fe (s0 : (List Int)) (s1 : (List Int)) (s2 : Int) (s3 : Int) (s4 : Int) : Option (((List Int) × ((List Int) × (Int × (Int × Int)))) ⊕ (List Int)) :=
  bif decide (s4 < s3) then
    ((getI s1 s4)).bind fun x0 =>
    ((Bh s1 (Go.IntKind.wrap Go.IntKind.i64 (s4 + (1 : Int))))).bind fun x1 =>
    bif decide ((Go.IntKind.wrap Go.IntKind.u64 s2) < (0 : Int)) then
      none
    else
    ((idxI s4 (List.length s0))).bind fun x2 =>
    ((getN s0 x2)).bind fun x3 =>
    some (Sum.inl ((List.set s0 x2 (Int.tmod (shrI Go.IntKind.i64 (orI Go.IntKind.i64 x0 (shlI Go.IntKind.i64 x1 (16 : Int))) (Go.IntKind.wrap Go.IntKind.u64 s2)) (65536 : Int))), (s1, (s2, (s3, (Go.IntKind.wrap Go.IntKind.i64 (s4 + (1 : Int))))))))
  else
  some (Sum.inr s0)
noncomputable def FI (a0 : (List Int)) (a1 : Int) : Option (List (Int)) :=
  ((lenI (((List.length a0) : Nat) : Int) 8 1)).bind fun x0 =>
  (loopM (fun (s : ((List Int) × ((List Int) × (Int × (Int × Int))))) => Fe s.1 s.2.1 s.2.2.1 s.2.2.2.1 s.2.2.2.2) ((List.replicate x0 (0 : Int)), (a0, (a1, ((((List.length a0) : Nat) : Int), (0 : Int)))))).bind fun x1 =>
  ((Bc x1)).bind fun x2 =>
  some x2
noncomputable def Pi : Ent := ⟨JW, fun x => FI x.1 x.2⟩
noncomputable def PT : TX := ⟨tyTab, codTab, [], [4], [Cw, Dd], JW⟩
set_option maxHeartbeats 2000000 in
theorem Wc (a0 : List (Int)) (a1 : Int) : wtF PT Tryz.f219 (a0, a1) = FI a0 a1 := by kernel_rfl
theorem UN : EntOK RR Pi := Ab (X := PT) ⟨tyOK, boolOK, eqOK⟩ (Ad (by exact ⟨⟨CA, rfl⟩, ⟨⟨Db, rfl⟩, trivial⟩⟩)) (Ai (by kernel_rfl)) ⟨Tryz.func219, rfl, by kernel_rfl, rfl⟩ (fun x => by exact Wc x.1 x.2)
noncomputable def BU (s0 : (List Int)) (s1 : (List Int)) (s2 : Int) : Option (((List Int) × ((List Int) × Int)) ⊕ ((List Int) × ((List Int) × Int))) :=
  ((getI s1 (Go.IntKind.wrap Go.IntKind.i64 ((((List.length s1) : Nat) : Int) - (1 : Int))))).bind fun x0 =>
  bif decide ((Go.IntKind.wrap Go.IntKind.u64 s2) < (0 : Int)) then
    none
  else
  bif decide ((shlI Go.IntKind.i64 x0 (Go.IntKind.wrap Go.IntKind.u64 s2)) < (32768 : Int)) then
    some (Sum.inl (s0, (s1, (Go.IntKind.wrap Go.IntKind.i64 (s2 + (1 : Int))))))
  else
  some (Sum.inr (s0, (s1, s2)))
noncomputable def Ba (s0 : (List Int)) (s1 : (List Int)) (s2 : (List Int)) (s3 : Int) (s4 : Int) : Option (((List Int) × ((List Int) × ((List Int) × (Int × Int)))) ⊕ ((List Int) × ((List Int) × Int))) :=
  bif decide (s4 ≥ (0 : Int)) then
    ((EO s0 s1 s4)).bind fun x0 =>
    ((Fy s0 s1 s4 x0)).bind fun x1 =>
    bif decide ((List.length x1.1) = (List.length s0)) then
      bif decide (x1.2 > (0 : Int)) then
        ((FA x1.1 s1 s4)).bind fun x2 =>
        bif decide ((List.length x2) = (List.length x1.1)) then
          ((idxI s4 (List.length s2))).bind fun x3 =>
          ((getN s2 x3)).bind fun x4 =>
          some (Sum.inl (x2, (s1, ((List.set s2 x3 (Go.IntKind.wrap Go.IntKind.i64 (x0 - (1 : Int)))), (s3, (Go.IntKind.wrap Go.IntKind.i64 (s4 - (1 : Int))))))))
        else
        none
      else
      ((idxI s4 (List.length s2))).bind fun x5 =>
      ((getN s2 x5)).bind fun x6 =>
      some (Sum.inl (x1.1, (s1, ((List.set s2 x5 x0), (s3, (Go.IntKind.wrap Go.IntKind.i64 (s4 - (1 : Int))))))))
    else
    none
  else
  some (Sum.inr (s0, (s2, s3)))
noncomputable def Bx (a0 : (List Int)) (a1 : (List Int)) : Option (List (Int) × List (Int)) :=
  ((Bc a0)).bind fun x0 =>
  ((AY x0 a1)).bind fun x1 =>
  bif decide (x1 < (0 : Int)) then
    some ((List.nil : List Int), x0)
  else
  bif ((((List.length a1) : Nat) : Int) == (1 : Int)) then
    ((getI a1 (0 : Int))).bind fun x2 =>
    ((Ew x0 x2)).bind fun x3 =>
    some (x3.1, x3.2)
  else
  (loopM (fun (s : ((List Int) × ((List Int) × Int))) => BU s.1 s.2.1 s.2.2) (x0, (a1, (0 : Int)))).bind fun x4 =>
  ((GV x4.1 x4.2.2)).bind fun x5 =>
  ((GV x4.2.1 x4.2.2)).bind fun x6 =>
  ((Bc x6)).bind fun x7 =>
  ((lenI (Go.IntKind.wrap Go.IntKind.i64 ((Go.IntKind.wrap Go.IntKind.i64 ((((List.length x4.1) : Nat) : Int) - (((List.length x4.2.1) : Nat) : Int))) + (1 : Int))) 8 1)).bind fun x8 =>
  (loopM (fun (s : ((List Int) × ((List Int) × ((List Int) × (Int × Int))))) => Ba s.1 s.2.1 s.2.2.1 s.2.2.2.1 s.2.2.2.2) (x5, (x7, ((List.replicate x8 (0 : Int)), (x4.2.2, (Go.IntKind.wrap Go.IntKind.i64 ((((List.length x4.1) : Nat) : Int) - (((List.length x4.2.1) : Nat) : Int)))))))).bind fun x9 =>
  ((Bc x9.2.1)).bind fun x10 =>
  ((Bc x9.1)).bind fun x11 =>
  ((FI x11 x9.2.2)).bind fun x12 =>
  some (x10, x12)
noncomputable def DK : Ent := ⟨FF, fun x => Bx x.1 x.2⟩
noncomputable def Ii : TX := ⟨tyTab, codTab, [], [4], [Dd, Fo, MF, Tu, MG, Ow, Pk, Pi], FF⟩
set_option maxHeartbeats 2000000 in
theorem OZ (a0 : List (Int)) (a1 : List (Int)) : wtF Ii Tryz.f174 (a0, a1) = Bx a0 a1 := by kernel_rfl
theorem EZ : EntOK RR DK := Ab (X := Ii) ⟨tyOK, boolOK, eqOK⟩ (Ad (by exact ⟨⟨Db, rfl⟩, ⟨⟨F0, rfl⟩, ⟨⟨S0, rfl⟩, ⟨⟨YA, rfl⟩, ⟨⟨Sy, rfl⟩, ⟨⟨TZ, rfl⟩, ⟨⟨Ui, rfl⟩, ⟨⟨UN, rfl⟩, trivial⟩⟩⟩⟩⟩⟩⟩⟩)) (Ai (by kernel_rfl)) ⟨Tryz.func174, rfl, by kernel_rfl, rfl⟩ (fun x => by exact OZ x.1 x.2)
noncomputable def F8 (s0 : (List Int)) (s1 : (List Int)) : Option (((List Int) × (List Int)) ⊕ (List Int)) :=
  bif decide ((((List.length s1) : Nat) : Int) > (0 : Int)) then
    ((Bx s0 s1)).bind fun x0 =>
    some (Sum.inl (s1, x0.2))
  else
  some (Sum.inr s0)
noncomputable def Ff (a0 : (List Int)) (a1 : (List Int)) : Option (List (Int)) :=
  (loopM (fun (s : ((List Int) × (List Int))) => F8 s.1 s.2) (a0, a1)).bind fun x0 =>
  ((Bc x0)).bind fun x1 =>
  some x1
noncomputable def Ms : Ent := ⟨L2, fun x => Ff x.1 x.2⟩
noncomputable def Q6 : TX := ⟨tyTab, codTab, [], [4], [DK, Dd], L2⟩
set_option maxHeartbeats 2000000 in
theorem Ya (a0 : List (Int)) (a1 : List (Int)) : wtF Q6 Tryz.f136 (a0, a1) = Ff a0 a1 := by kernel_rfl
theorem PM : EntOK RR Ms := Ab (X := Q6) ⟨tyOK, boolOK, eqOK⟩ (Ad (by exact ⟨⟨EZ, rfl⟩, ⟨⟨Db, rfl⟩, trivial⟩⟩)) (Ai (by kernel_rfl)) ⟨Tryz.func136, rfl, by kernel_rfl, rfl⟩ (fun x => by exact Ya x.1 x.2)
noncomputable def Fg (a0 : (Bool × (List Int))) (a1 : (Bool × (List Int))) : Option ((Bool × List (Int)) × (Bool × List (Int))) :=
  ((Bx a0.2 a1.2)).bind fun x0 =>
  ((AE (!(a0.1 == a1.1)) x0.1)).bind fun x1 =>
  ((AE a0.1 x0.2)).bind fun x2 =>
  some ((x1.2, x1.1), (x2.2, x2.1))
noncomputable def R4 : Ent := ⟨Lz, fun x => Fg x.1 x.2⟩
noncomputable def Q7 : TX := ⟨tyTab, codTab, [], [4], [DK, Cb], Lz⟩
set_option maxHeartbeats 2000000 in
theorem XQ (a0 : (Bool × List (Int))) (a1 : (Bool × List (Int))) : wtF Q7 Tryz.f186 (a0, a1) = Fg a0 a1 := by kernel_rfl
theorem VG : EntOK RR R4 := Ab (X := Q7) ⟨tyOK, boolOK, eqOK⟩ (Ad (by exact ⟨⟨EZ, rfl⟩, ⟨⟨B5, rfl⟩, trivial⟩⟩)) (Ai (by kernel_rfl)) ⟨Tryz.func186, rfl, by kernel_rfl, rfl⟩ (fun x => by exact XQ x.1 x.2)
noncomputable def Ee (a0 : (Bool × (List Int))) : Option ((Bool × List (Int))) :=
  ((AE (!a0.1) a0.2)).bind fun x0 =>
  some (x0.2, x0.1)
noncomputable def Mb : Ent := ⟨Lq, fun x => Ee x⟩
noncomputable def RK : TX := ⟨tyTab, codTab, [], [4], [Cb], Lq⟩
set_option maxHeartbeats 2000000 in
theorem XO (a0 : (Bool × List (Int))) : wtF RK Tryz.f168 (a0) = Ee a0 := by kernel_rfl
theorem OI : EntOK RR Mb := Ab (X := RK) ⟨tyOK, boolOK, eqOK⟩ (Ad (by exact ⟨⟨B5, rfl⟩, trivial⟩)) (Ai (by kernel_rfl)) ⟨Tryz.func168, rfl, by kernel_rfl, rfl⟩ (fun x => by exact XO x)
noncomputable def B9 (a0 : (Bool × (List Int))) (a1 : (Bool × (List Int))) : Option ((Bool × List (Int) × Bool × List (Int))) :=
  ((Ff a0.2 a1.2)).bind fun x0 =>
  ((AE false x0)).bind fun x1 =>
  ((Fg (a0.1, a0.2) (x1.2, x1.1))).bind fun x2 =>
  ((Fg (a1.1, a1.2) (x1.2, x1.1))).bind fun x3 =>
  bif x3.1.1 then
    ((Ee (x2.1.1, x2.1.2))).bind fun x4 =>
    ((Ee (x3.1.1, x3.1.2))).bind fun x5 =>
    some (x4.1, (x4.2, (x5.1, x5.2)))
  else
  some (x2.1.1, (x2.1.2, (x3.1.1, x3.1.2)))
noncomputable def D5 : Ent := ⟨J5, fun x => B9 x.1 x.2⟩
noncomputable def Pr : TX := ⟨tyTab, codTab, [], [4], [Ms, Cb, R4, Mb], J5⟩
set_option maxHeartbeats 2000000 in
theorem Wl (a0 : (Bool × List (Int))) (a1 : (Bool × List (Int))) : wtF Pr Tryz.f138 (a0, a1) = B9 a0 a1 := by kernel_rfl
theorem EK : EntOK RR D5 := Ab (X := Pr) ⟨tyOK, boolOK, eqOK⟩ (Ad (by exact ⟨⟨PM, rfl⟩, ⟨⟨B5, rfl⟩, ⟨⟨VG, rfl⟩, ⟨⟨OI, rfl⟩, trivial⟩⟩⟩⟩)) (Ai (by kernel_rfl)) ⟨Tryz.func138, rfl, by kernel_rfl, rfl⟩ (fun x => by exact Wl x.1 x.2)
noncomputable def F6 (s0 : (Bool × (List Int))) (s1 : (List Int)) (s2 : Int) (s3 : Int) : Option (((Bool × (List Int)) × ((List Int) × (Int × Int))) ⊕ ((Bool × (List Int)) × ((List Int) × Int))) :=
  bif (s3 != (0 : Int)) then
    bif decide ((Int.tmod s3 (65536 : Int)) < (0 : Int)) then
      ((appL 8 1 s1 (List.cons (Go.IntKind.wrap Go.IntKind.i64 ((0 : Int) - (Int.tmod s3 (65536 : Int)))) (List.nil : List Int)))).bind fun x0 =>
      some (Sum.inl ((s0.1, s0.2), (x0, (s2, (Go.IntKind.wrap Go.IntKind.i64 (Int.tdiv s3 (65536 : Int)))))))
    else
    ((appL 8 1 s1 (List.cons (Int.tmod s3 (65536 : Int)) (List.nil : List Int)))).bind fun x1 =>
    some (Sum.inl ((s0.1, s0.2), (x1, (s2, (Go.IntKind.wrap Go.IntKind.i64 (Int.tdiv s3 (65536 : Int)))))))
  else
  some (Sum.inr ((s0.1, s0.2), (s1, s2)))
noncomputable def Fi (a0 : Int) : Option ((Bool × List (Int))) :=
  (loopM (fun (s : ((Bool × (List Int)) × ((List Int) × (Int × Int)))) => F6 s.1 s.2.1 s.2.2.1 s.2.2.2) ((false, (List.nil : List Int)), ((List.nil : List Int), (a0, a0)))).bind fun x0 =>
  ((AE (decide (x0.2.2 < (0 : Int))) x0.2.1)).bind fun x1 =>
  some (x1.2, x1.1)
noncomputable def Rb : Ent := ⟨Lx, fun x => Fi x⟩
noncomputable def QT : TX := ⟨tyTab, codTab, [], [4], [Cb], Lx⟩
set_option maxHeartbeats 2000000 in
theorem XB (a0 : Int) : wtF QT Tryz.f38 (a0) = Fi a0 := by kernel_rfl
theorem Wx : EntOK RR Rb := Ab (X := QT) ⟨tyOK, boolOK, eqOK⟩ (Ad (by exact ⟨⟨B5, rfl⟩, trivial⟩)) (Ai (by kernel_rfl)) ⟨Tryz.func38, rfl, by kernel_rfl, rfl⟩ (fun x => by exact XB x)
noncomputable def Ea (a0 : Int) (a1 : Int) : Option ((Bool × List (Int) × Bool × List (Int)) × Bool) :=
  ((F3 a0 (-(4611686018427387904 : Int)) (4611686018427387904 : Int))).bind fun x0 =>
  bif (!x0) then
    some ((false, ((List.nil : List Int), (false, (List.nil : List Int)))), false)
  else
  ((F3 a1 (-(4611686018427387904 : Int)) (4611686018427387904 : Int))).bind fun x1 =>
  bif (!x1) then
    some ((false, ((List.nil : List Int), (false, (List.nil : List Int)))), false)
  else
  bif (a1 == (0 : Int)) then
    some ((false, ((List.nil : List Int), (false, (List.nil : List Int)))), false)
  else
  ((Fi a0)).bind fun x2 =>
  ((Fi a1)).bind fun x3 =>
  ((B9 (x2.1, x2.2) (x3.1, x3.2))).bind fun x4 =>
  some ((x4.1, (x4.2.1, (x4.2.2.1, x4.2.2.2))), true)
noncomputable def Me : Ent := ⟨Mo, fun x => Ea x.1 x.2⟩
noncomputable def Rs : TX := ⟨tyTab, codTab, [], [4], [ON, Rb, D5], Mo⟩
set_option maxHeartbeats 2000000 in
theorem Ye (a0 : Int) (a1 : Int) : wtF Rs Tryz.f62 (a0, a1) = Ea a0 a1 := by kernel_rfl
theorem P9 : EntOK RR Me := Ab (X := Rs) ⟨tyOK, boolOK, eqOK⟩ (Ad (by exact ⟨⟨R7, rfl⟩, ⟨⟨Wx, rfl⟩, ⟨⟨EK, rfl⟩, trivial⟩⟩⟩)) (Ai (by kernel_rfl)) ⟨Tryz.func62, rfl, by kernel_rfl, rfl⟩ (fun x => by exact Ye x.1 x.2)
noncomputable def BK (a0 : ((List Int) × (Int × Int))) : Option ((List (Int) × Int × Int) × (Bool × List (Int) × Bool × List (Int))) :=
  ((AO (a0.1, (a0.2.1, a0.2.2)) (12 : Int))).bind fun x0 =>
  bif x0.2 then
    ((Cn (x0.1.1, (x0.1.2.1, x0.1.2.2)))).bind fun x1 =>
    ((Cn (x1.1.1, (x1.1.2.1, x1.1.2.2)))).bind fun x2 =>
    ((B3 (x1.2.1, x1.2.2))).bind fun x3 =>
    bif x3 then
      ((B3 (x2.2.1, x2.2.2))).bind fun x4 =>
      bif x4 then
        bif decide ((((List.length x2.2.2) : Nat) : Int) > (0 : Int)) then
          ((B9 (x1.2.1, x1.2.2) (x2.2.1, x2.2.2))).bind fun x5 =>
          some ((x2.1.1, (x2.1.2.1, x2.1.2.2)), (x5.1, (x5.2.1, (x5.2.2.1, x5.2.2.2))))
        else
        some ((x2.1.1, (x2.1.2.1, x2.1.2.2)), (x1.2.1, (x1.2.2, (x2.2.1, x2.2.2))))
      else
      some ((x2.1.1, (x2.1.2.1, x2.1.2.2)), (x1.2.1, (x1.2.2, (x2.2.1, x2.2.2))))
    else
    some ((x2.1.1, (x2.1.2.1, x2.1.2.2)), (x1.2.1, (x1.2.2, (x2.2.1, x2.2.2))))
  else
  ((Ay (x0.1.1, (x0.1.2.1, x0.1.2.2)) (41 : Int))).bind fun x6 =>
  ((Ay (x6.1.1, (x6.1.2.1, x6.1.2.2)) (12 : Int))).bind fun x7 =>
  ((Ea (Go.IntKind.wrap Go.IntKind.i64 (x6.2 - (20 : Int))) (Go.IntKind.wrap Go.IntKind.i64 ((1 : Int) + x7.2)))).bind fun x8 =>
  some ((x7.1.1, (x7.1.2.1, x7.1.2.2)), (x8.1.1, (x8.1.2.1, (x8.1.2.2.1, x8.1.2.2.2))))
noncomputable def Gj : Ent := ⟨Gn, fun x => BK x⟩
noncomputable def JB : TX := ⟨tyTab, codTab, [], [4], [C0, JD, It, D5, BR, Me], Gn⟩
set_option maxHeartbeats 2000000 in
theorem Qm (a0 : (List (Int) × Int × Int)) : wtF JB Tryz.f179 (a0) = BK a0 := by kernel_rfl
theorem HQ : EntOK RR Gj := Ab (X := JB) ⟨tyOK, boolOK, eqOK⟩ (Ad (by exact ⟨⟨DB, rfl⟩, ⟨⟨PX, rfl⟩, ⟨⟨K2, rfl⟩, ⟨⟨EK, rfl⟩, ⟨⟨Ch, rfl⟩, ⟨⟨P9, rfl⟩, trivial⟩⟩⟩⟩⟩⟩)) (Ai (by kernel_rfl)) ⟨Tryz.func179, rfl, by kernel_rfl, rfl⟩ (fun x => by exact Qm x)
noncomputable def Bq (a0 : (List Int)) : Option ((Bool × List (Int) × Bool × List (Int)) × (Bool × List (Int) × Bool × List (Int))) :=
  ((BK (a0, ((0 : Int), (0 : Int))))).bind fun x0 =>
  ((AO (x0.1.1, (x0.1.2.1, x0.1.2.2)) (6 : Int))).bind fun x1 =>
  bif x1.2 then
    some ((x0.2.1, (x0.2.2.1, (x0.2.2.2.1, x0.2.2.2.2))), (x0.2.1, (x0.2.2.1, (x0.2.2.2.1, x0.2.2.2.2))))
  else
  ((BK (x1.1.1, (x1.1.2.1, x1.1.2.2)))).bind fun x2 =>
  some ((x0.2.1, (x0.2.2.1, (x0.2.2.2.1, x0.2.2.2.2))), (x2.2.1, (x2.2.2.1, (x2.2.2.2.1, x2.2.2.2.2))))
noncomputable def FN : Ent := ⟨C7, fun x => Bq x⟩
noncomputable def FT : TX := ⟨tyTab, codTab, [], [4], [Gj, C0], C7⟩
set_option maxHeartbeats 2000000 in
theorem JZ (a0 : List (Int)) : wtF FT Tryz.f117 (a0) = Bq a0 := by kernel_rfl
theorem Jw : EntOK RR FN := Ab (X := FT) ⟨tyOK, boolOK, eqOK⟩ (Ad (by exact ⟨⟨HQ, rfl⟩, ⟨⟨DB, rfl⟩, trivial⟩⟩)) (Ai (by kernel_rfl)) ⟨Tryz.func117, rfl, by kernel_rfl, rfl⟩ (fun x => by exact JZ x)
noncomputable def B2 (a0 : (List Int)) : Option ((Bool × List (Int) × Bool × List (Int)) × (Bool × List (Int) × Bool × List (Int))) :=
  ((Bq a0)).bind fun x0 =>
  some ((x0.1.1, (x0.1.2.1, (x0.1.2.2.1, x0.1.2.2.2))), (x0.2.1, (x0.2.2.1, (x0.2.2.2.1, x0.2.2.2.2))))
noncomputable def IL : Ent := ⟨Fp, fun x => B2 x⟩
noncomputable def HP : TX := ⟨tyTab, codTab, [], [4], [FN], Fp⟩
set_option maxHeartbeats 2000000 in
theorem P4 (a0 : List (Int)) : wtF HP Tryz.f46 (a0) = B2 a0 := by kernel_rfl
theorem NH : EntOK RR IL := Ab (X := HP) ⟨tyOK, boolOK, eqOK⟩ (Ad (by exact ⟨⟨Jw, rfl⟩, trivial⟩)) (Ai (by kernel_rfl)) ⟨Tryz.func46, rfl, by kernel_rfl, rfl⟩ (fun x => by exact P4 x)
noncomputable def C4 (a0 : Int) (a1 : Int) (a2 : Int) : Option (Bool) :=
  bif decide (a0 ≥ a1) then
    some (decide (a0 ≤ a2))
  else
  some false
noncomputable def JT : Ent := ⟨JV, fun x => C4 x.1 x.2.1 x.2.2⟩
noncomputable def Ob : TX := ⟨tyTab, codTab, [], [4], [], JV⟩
set_option maxHeartbeats 2000000 in
theorem We (a0 : Int) (a1 : Int) (a2 : Int) : wtF Ob Tryz.f77 (a0, a1, a2) = C4 a0 a1 a2 := by kernel_rfl
theorem M9 : EntOK RR JT := Ab (X := Ob) ⟨tyOK, boolOK, eqOK⟩ (Ad (by exact trivial)) (Ai (by kernel_rfl)) ⟨Tryz.func77, rfl, by kernel_rfl, rfl⟩ (fun x => by exact We x.1 x.2.1 x.2.2)
noncomputable def CU (a0 : Int) : Option (Bool) :=
  ((C4 a0 (0 : Int) (65535 : Int))).bind fun x0 =>
  some (!x0)
noncomputable def Jy : Ent := ⟨Gh, fun x => CU x⟩
noncomputable def Jx : TX := ⟨tyTab, codTab, [], [4], [JT], Gh⟩
set_option maxHeartbeats 2000000 in
theorem Qk (a0 : Int) : wtF Jx Tryz.f101 (a0) = CU a0 := by kernel_rfl
theorem Po : EntOK RR Jy := Ab (X := Jx) ⟨tyOK, boolOK, eqOK⟩ (Ad (by exact ⟨⟨M9, rfl⟩, trivial⟩)) (Ai (by kernel_rfl)) ⟨Tryz.func101, rfl, by kernel_rfl, rfl⟩ (fun x => by exact Qk x)
noncomputable def AA (s0 : (List Int)) (s1 : Int) (s2 : Int) : Option (((List Int) × (Int × Int)) ⊕ (Unit ⊕ Int)) :=
  bif decide (s2 < s1) then
    ((getI s0 s2)).bind fun x0 =>
    ((CU x0)).bind fun x1 =>
    bif x1 then
      some (Sum.inr (Sum.inr s2))
    else
    some (Sum.inl (s0, (s1, (Go.IntKind.wrap Go.IntKind.i64 (s2 + (1 : Int))))))
  else
  some (Sum.inr (Sum.inl ()))
noncomputable def A0 (a0 : (List Int)) : Option (Int) :=
  (loopM (fun (s : ((List Int) × (Int × Int))) => AA s.1 s.2.1 s.2.2) (a0, ((((List.length a0) : Nat) : Int), (0 : Int)))).bind fun x0 =>
  Sum.elim
    (fun x1 =>
    some (-(1 : Int)))
    (fun x2 =>
    some x2)
    x0
noncomputable def Cq : Ent := ⟨Bm, fun x => A0 x⟩
noncomputable def Cr : TX := ⟨tyTab, codTab, [], [4], [Jy], Bm⟩
set_option maxHeartbeats 2000000 in
theorem E8 (a0 : List (Int)) : wtF Cr Tryz.f170 (a0) = A0 a0 := by kernel_rfl
theorem EX : EntOK RR Cq := Ab (X := Cr) ⟨tyOK, boolOK, eqOK⟩ (Ad (by exact ⟨⟨Po, rfl⟩, trivial⟩)) (Ai (by kernel_rfl)) ⟨Tryz.func170, rfl, by kernel_rfl, rfl⟩ (fun x => by exact E8 x)
noncomputable def Ak (a0 : (List Int)) : Option (Bool) :=
  ((A0 a0)).bind fun x0 =>
  some (decide (x0 ≥ (0 : Int)))
noncomputable def BZ : Ent := ⟨Bb, fun x => Ak x⟩
noncomputable def BQ : TX := ⟨tyTab, codTab, [], [4], [Cq], Bb⟩
set_option maxHeartbeats 2000000 in
theorem Eg (a0 : List (Int)) : wtF BQ Tryz.f100 (a0) = Ak a0 := by kernel_rfl
theorem D3 : EntOK RR BZ := Ab (X := BQ) ⟨tyOK, boolOK, eqOK⟩ (Ad (by exact ⟨⟨EX, rfl⟩, trivial⟩)) (Ai (by kernel_rfl)) ⟨Tryz.func100, rfl, by kernel_rfl, rfl⟩ (fun x => by exact Eg x)
noncomputable def EH (a0 : (Bool × (List Int))) : Option (Bool) :=
  bif decide ((((List.length a0.2) : Nat) : Int) > (40 : Int)) then
    some false
  else
  bif ((((List.length a0.2) : Nat) : Int) == (0 : Int)) then
    bif a0.1 then
      some false
    else
    bif decide ((((List.length a0.2) : Nat) : Int) > (0 : Int)) then
      ((getI a0.2 (Go.IntKind.wrap Go.IntKind.i64 ((((List.length a0.2) : Nat) : Int) - (1 : Int))))).bind fun x0 =>
      bif (x0 == (0 : Int)) then
        some false
      else
      ((Ak a0.2)).bind fun x1 =>
      some (!x1)
    else
    ((Ak a0.2)).bind fun x2 =>
    some (!x2)
  else
  bif decide ((((List.length a0.2) : Nat) : Int) > (0 : Int)) then
    ((getI a0.2 (Go.IntKind.wrap Go.IntKind.i64 ((((List.length a0.2) : Nat) : Int) - (1 : Int))))).bind fun x3 =>
    bif (x3 == (0 : Int)) then
      some false
    else
    ((Ak a0.2)).bind fun x4 =>
    some (!x4)
  else
  ((Ak a0.2)).bind fun x5 =>
  some (!x5)
noncomputable def MV : Ent := ⟨ID, fun x => EH x⟩
noncomputable def Mx : TX := ⟨tyTab, codTab, [], [4], [BZ], ID⟩
set_option maxHeartbeats 2000000 in
theorem Uv (a0 : (Bool × List (Int))) : wtF Mx Tryz.f33 (a0) = EH a0 := by kernel_rfl
theorem SD : EntOK RR MV := Ab (X := Mx) ⟨tyOK, boolOK, eqOK⟩ (Ad (by exact ⟨⟨D3, rfl⟩, trivial⟩)) (Ai (by kernel_rfl)) ⟨Tryz.func33, rfl, by kernel_rfl, rfl⟩ (fun x => by exact Uv x)
noncomputable def DU (a0 : (Bool × (List Int))) : Option (Bool) :=
  ((EH (a0.1, a0.2))).bind fun x0 =>
  some (!x0)
noncomputable def K0 : Ent := ⟨Hu, fun x => DU x⟩
noncomputable def Kw : TX := ⟨tyTab, codTab, [], [4], [MV], Hu⟩
set_option maxHeartbeats 2000000 in
theorem Sb (a0 : (Bool × List (Int))) : wtF Kw Tryz.f163 (a0) = DU a0 := by kernel_rfl
theorem Qi : EntOK RR K0 := Ab (X := Kw) ⟨tyOK, boolOK, eqOK⟩ (Ad (by exact ⟨⟨SD, rfl⟩, trivial⟩)) (Ai (by kernel_rfl)) ⟨Tryz.func163, rfl, by kernel_rfl, rfl⟩ (fun x => by exact Sb x)
noncomputable def Ar (s0 : (List (Bool × (List Int)))) (s1 : Int) (s2 : Int) : Option (((List (Bool × (List Int))) × (Int × Int)) ⊕ (Unit ⊕ Int)) :=
  bif decide (s2 < s1) then
    ((getI s0 s2)).bind fun x0 =>
    ((DU (x0.1, x0.2))).bind fun x1 =>
    bif x1 then
      some (Sum.inr (Sum.inr s2))
    else
    some (Sum.inl (s0, (s1, (Go.IntKind.wrap Go.IntKind.i64 (s2 + (1 : Int))))))
  else
  some (Sum.inr (Sum.inl ()))
noncomputable def AL (a0 : (List (Bool × (List Int)))) : Option (Int) :=
  (loopM (fun (s : ((List (Bool × (List Int))) × (Int × Int))) => Ar s.1 s.2.1 s.2.2) (a0, ((((List.length a0) : Nat) : Int), (0 : Int)))).bind fun x0 =>
  Sum.elim
    (fun x1 =>
    some (-(1 : Int)))
    (fun x2 =>
    some x2)
    x0
noncomputable def BN : Ent := ⟨A8, fun x => AL x⟩
noncomputable def BP : TX := ⟨tyTab, codTab, [], [4], [K0], A8⟩
set_option maxHeartbeats 2000000 in
theorem D1 (a0 : List ((Bool × List (Int)))) : wtF BP Tryz.f209 (a0) = AL a0 := by kernel_rfl
theorem DY : EntOK RR BN := Ab (X := BP) ⟨tyOK, boolOK, eqOK⟩ (Ad (by exact ⟨⟨Qi, rfl⟩, trivial⟩)) (Ai (by kernel_rfl)) ⟨Tryz.func209, rfl, by kernel_rfl, rfl⟩ (fun x => by exact D1 x)
noncomputable def AD (a0 : (List (Bool × (List Int)))) : Option (Bool) :=
  ((AL a0)).bind fun x0 =>
  some (decide (x0 ≥ (0 : Int)))
noncomputable def Bs : Ent := ⟨AU, fun x => AD x⟩
noncomputable def Br : TX := ⟨tyTab, codTab, [], [4], [BN], AU⟩
set_option maxHeartbeats 2000000 in
theorem C9 (a0 : List ((Bool × List (Int)))) : wtF Br Tryz.f162 (a0) = AD a0 := by kernel_rfl
theorem CZ : EntOK RR Bs := Ab (X := Br) ⟨tyOK, boolOK, eqOK⟩ (Ad (by exact ⟨⟨DY, rfl⟩, trivial⟩)) (Ai (by kernel_rfl)) ⟨Tryz.func162, rfl, by kernel_rfl, rfl⟩ (fun x => by exact C9 x)
noncomputable def Ef (a0 : (List (Bool × (List Int)))) : Option (Bool) :=
  ((AD a0)).bind fun x0 =>
  some (!x0)
noncomputable def O4 : Ent := ⟨JL, fun x => Ef x⟩
noncomputable def OM : TX := ⟨tyTab, codTab, [], [4], [Bs], JL⟩
set_option maxHeartbeats 2000000 in
theorem Wj (a0 : List ((Bool × List (Int)))) : wtF OM Tryz.f91 (a0) = Ef a0 := by kernel_rfl
theorem TI : EntOK RR O4 := Ab (X := OM) ⟨tyOK, boolOK, eqOK⟩ (Ad (by exact ⟨⟨CZ, rfl⟩, trivial⟩)) (Ai (by kernel_rfl)) ⟨Tryz.func91, rfl, by kernel_rfl, rfl⟩ (fun x => by exact Wj x)
noncomputable def AK (a0 : (Bool × (List Int))) : Option (Int) :=
  bif ((((List.length a0.2) : Nat) : Int) == (0 : Int)) then
    some (0 : Int)
  else
  bif a0.1 then
    some (-(1 : Int))
  else
  some (1 : Int)
noncomputable def DH : Ent := ⟨Hf, fun x => AK x⟩
noncomputable def Le : TX := ⟨tyTab, codTab, [], [4], [], Hf⟩
set_option maxHeartbeats 2000000 in
theorem R9 (a0 : (Bool × List (Int))) : wtF Le Tryz.f133 (a0) = AK a0 := by kernel_rfl
theorem Eo : EntOK RR DH := Ab (X := Le) ⟨tyOK, boolOK, eqOK⟩ (Ad (by exact trivial)) (Ai (by kernel_rfl)) ⟨Tryz.func133, rfl, by kernel_rfl, rfl⟩ (fun x => by exact R9 x)
noncomputable def Ci (a0 : Int) : Option (Bool) :=
  some (a0 != a0)
noncomputable def HJ : Ent := ⟨EQ, fun x => Ci x⟩
noncomputable def HH : TX := ⟨tyTab, codTab, [], [4], [], EQ⟩
set_option maxHeartbeats 2000000 in
theorem NC (a0 : Int) : wtF HH Tryz.f210 (a0) = Ci a0 := by kernel_rfl
theorem LE : EntOK RR HJ := Ab (X := HH) ⟨tyOK, boolOK, eqOK⟩ (Ad (by exact trivial)) (Ai (by kernel_rfl)) ⟨Tryz.func210, rfl, by kernel_rfl, rfl⟩ (fun x => by exact NC x)
noncomputable def A5 (a0 : Int) (a1 : Int) : Option (Int) :=
  ((Ci a0)).bind fun x0 =>
  ((Ci a1)).bind fun x1 =>
  bif x0 then
    bif x1 then
      some (0 : Int)
    else
    some (-(1 : Int))
  else
  bif x1 then
    some (1 : Int)
  else
  bif decide (a0 < a1) then
    some (-(1 : Int))
  else
  bif decide (a0 > a1) then
    some (1 : Int)
  else
  some (0 : Int)
noncomputable def DJ : Ent := ⟨DQ, fun x => A5 x.1 x.2⟩
noncomputable def Gd : TX := ⟨tyTab, codTab, [], [4], [HJ], DQ⟩
set_option maxHeartbeats 2000000 in
theorem KA (a0 : Int) (a1 : Int) : wtF Gd Tryz.f169 (a0, a1) = A5 a0 a1 := by kernel_rfl
theorem FX : EntOK RR DJ := Ab (X := Gd) ⟨tyOK, boolOK, eqOK⟩ (Ad (by exact ⟨⟨LE, rfl⟩, trivial⟩)) (Ai (by kernel_rfl)) ⟨Tryz.func169, rfl, by kernel_rfl, rfl⟩ (fun x => by exact KA x.1 x.2)
noncomputable def AF (s0 : (List Int)) (s1 : (List Int)) (s2 : Int) : Option (((List Int) × ((List Int) × Int)) ⊕ (Unit ⊕ Int)) :=
  bif decide (s2 ≥ (0 : Int)) then
    ((getI s0 s2)).bind fun x0 =>
    ((getI s1 s2)).bind fun x1 =>
    bif (x0 != x1) then
      ((getI s0 s2)).bind fun x2 =>
      ((getI s1 s2)).bind fun x3 =>
      ((A5 x2 x3)).bind fun x4 =>
      some (Sum.inr (Sum.inr x4))
    else
    some (Sum.inl (s0, (s1, (Go.IntKind.wrap Go.IntKind.i64 (s2 - (1 : Int))))))
  else
  some (Sum.inr (Sum.inl ()))
noncomputable def AZ (a0 : (List Int)) (a1 : (List Int)) : Option (Int) :=
  bif ((((List.length a0) : Nat) : Int) != (((List.length a1) : Nat) : Int)) then
    ((A5 (((List.length a0) : Nat) : Int) (((List.length a1) : Nat) : Int))).bind fun x0 =>
    some x0
  else
  (loopM (fun (s : ((List Int) × ((List Int) × Int))) => AF s.1 s.2.1 s.2.2) (a0, (a1, (Go.IntKind.wrap Go.IntKind.i64 ((((List.length a0) : Nat) : Int) - (1 : Int)))))).bind fun x1 =>
  Sum.elim
    (fun x2 =>
    some (0 : Int))
    (fun x3 =>
    some x3)
    x1
noncomputable def CL : Ent := ⟨D8, fun x => AZ x.1 x.2⟩
noncomputable def Gv : TX := ⟨tyTab, codTab, [], [4], [DJ], D8⟩
set_option maxHeartbeats 2000000 in
theorem Lr (a0 : List (Int)) (a1 : List (Int)) : wtF Gv Tryz.f105 (a0, a1) = AZ a0 a1 := by kernel_rfl
theorem Dy : EntOK RR CL := Ab (X := Gv) ⟨tyOK, boolOK, eqOK⟩ (Ad (by exact ⟨⟨FX, rfl⟩, trivial⟩)) (Ai (by kernel_rfl)) ⟨Tryz.func105, rfl, by kernel_rfl, rfl⟩ (fun x => by exact Lr x.1 x.2)
noncomputable def Jb (s0 : (List Int)) (s1 : Int) : Option (((List Int) × Int) ⊕ ((List Int) × Int)) :=
  bif decide (s1 > (0 : Int)) then
    ((getI s0 (Go.IntKind.wrap Go.IntKind.i64 (s1 - (1 : Int))))).bind fun x0 =>
    bif (x0 == (0 : Int)) then
      some (Sum.inl (s0, (Go.IntKind.wrap Go.IntKind.i64 (s1 - (1 : Int)))))
    else
    some (Sum.inr (s0, s1))
  else
  some (Sum.inr (s0, s1))
noncomputable def Ej (a0 : (List Int)) : Option (List (Int)) :=
  (loopM (fun (s : ((List Int) × Int)) => Jb s.1 s.2) (a0, (((List.length a0) : Nat) : Int))).bind fun x0 =>
  ((subI (0 : Int) x0.2 (List.length x0.1))).bind fun x1 =>
  some (List.drop x1.1 (List.take x1.2 x0.1))
noncomputable def K3 : Ent := ⟨Sc, fun x => Ej x⟩
noncomputable def W7 : TX := ⟨tyTab, codTab, [], [4], [], Sc⟩
set_option maxHeartbeats 2000000 in
theorem Aa2 (a0 : List (Int)) : wtF W7 Tryz.f178 (a0) = Ej a0 := by kernel_rfl
theorem Kp : EntOK RR K3 := Ab (X := W7) ⟨tyOK, boolOK, eqOK⟩ (Ad (by exact trivial)) (Ai (by kernel_rfl)) ⟨Tryz.func178, rfl, by kernel_rfl, rfl⟩ (fun x => by exact Aa2 x)
noncomputable def Cy (s0 : (List Int)) (s1 : (List Int)) (s2 : Int) (s3 : Int) (s4 : Int) : Option (((List Int) × ((List Int) × (Int × (Int × Int)))) ⊕ ((List Int) × Int)) :=
  bif decide (s4 ≥ (0 : Int)) then
    ((getI s1 s4)).bind fun x0 =>
    bif (s2 == (0 : Int)) then
      none
    else
    ((idxI s4 (List.length s0))).bind fun x1 =>
    ((getN s0 x1)).bind fun x2 =>
    bif (s2 == (0 : Int)) then
      none
    else
    some (Sum.inl ((List.set s0 x1 (Go.IntKind.wrap Go.IntKind.i64 (Int.tdiv (Go.IntKind.wrap Go.IntKind.i64 ((Go.IntKind.wrap Go.IntKind.i64 (s3 * (65536 : Int))) + x0)) s2))), (s1, (s2, ((Int.tmod (Go.IntKind.wrap Go.IntKind.i64 ((Go.IntKind.wrap Go.IntKind.i64 (s3 * (65536 : Int))) + x0)) s2), (Go.IntKind.wrap Go.IntKind.i64 (s4 - (1 : Int))))))))
  else
  some (Sum.inr (s0, s3))
noncomputable def B8 (a0 : (List Int)) (a1 : Int) : Option (List (Int) × Int) :=
  ((lenI (((List.length a0) : Nat) : Int) 8 1)).bind fun x0 =>
  (loopM (fun (s : ((List Int) × ((List Int) × (Int × (Int × Int))))) => Cy s.1 s.2.1 s.2.2.1 s.2.2.2.1 s.2.2.2.2) ((List.replicate x0 (0 : Int)), (a0, (a1, ((0 : Int), (Go.IntKind.wrap Go.IntKind.i64 ((((List.length a0) : Nat) : Int) - (1 : Int)))))))).bind fun x1 =>
  ((Ej x1.1)).bind fun x2 =>
  some (x2, x1.2)
noncomputable def Hc : Ent := ⟨G5, fun x => B8 x.1 x.2⟩
noncomputable def Ko : TX := ⟨tyTab, codTab, [], [4], [K3], G5⟩
set_option maxHeartbeats 2000000 in
theorem Td (a0 : List (Int)) (a1 : Int) : wtF Ko Tryz.f171 (a0, a1) = B8 a0 a1 := by kernel_rfl
theorem JC : EntOK RR Hc := Ab (X := Ko) ⟨tyOK, boolOK, eqOK⟩ (Ad (by exact ⟨⟨Kp, rfl⟩, trivial⟩)) (Ai (by kernel_rfl)) ⟨Tryz.func171, rfl, by kernel_rfl, rfl⟩ (fun x => by exact Td x.1 x.2)
noncomputable def A1 (a0 : (List Int)) : Option (List (Int)) :=
  ((neL a0)).bind fun x0 =>
  bif (roomI (List.length a0) 8 1) then
    some a0
  else
  none
noncomputable def Fz : Ent := ⟨AW, fun x => A1 x⟩
noncomputable def Dr : TX := ⟨tyTab, codTab, [], [4], [], AW⟩
set_option maxHeartbeats 2000000 in
theorem GU (a0 : List (Int)) : wtF Dr Tryz.f177 a0 = A1 a0 := by kernel_rfl
theorem F4 : EntOK (Runs Tryz.prog cfC noExt) Fz := Ab (X := Dr) ⟨tyOK, boolOK, eqOK⟩ (ZZ rfl) (Ai (by kernel_rfl)) ⟨Tryz.func177, rfl, by kernel_rfl, rfl⟩ (fun x => by exact GU x)
noncomputable def AV (a0 : List (Int)) : Option (List (Int)) := orNil A1 a0
noncomputable def BT : Ent := ⟨AW, fun x => AV x⟩
theorem CY : EntOK RR BT := Vw F4 (.head _) fun _ _ _ _ _ h => Or.inl h
noncomputable def AQ (a0 : Bool) (a1 : (List Int)) : Option (List (Int) × (Bool)) :=
  ((Ej a1)).bind fun x0 =>
  ((AV x0)).bind fun x1 =>
  bif a0 then
    some (x1, decide ((((List.length x1) : Nat) : Int) > (0 : Int)))
  else
  some (x1, false)
noncomputable def De : Ent := ⟨LI, fun x => AQ x.1 x.2⟩
noncomputable def Rt : TX := ⟨tyTab, codTab, [], [4], [K3, BT], LI⟩
set_option maxHeartbeats 2000000 in
theorem X0 (a0 : Bool) (a1 : List (Int)) : wtF Rt Tryz.f111 (a0, a1) = AQ a0 a1 := by kernel_rfl
theorem C5 : EntOK RR De := Ab (X := Rt) ⟨tyOK, boolOK, eqOK⟩ (Ad (by exact ⟨⟨Kp, rfl⟩, ⟨⟨CY, rfl⟩, trivial⟩⟩)) (Ai (by kernel_rfl)) ⟨Tryz.func111, rfl, by kernel_rfl, rfl⟩ (fun x => by exact X0 x.1 x.2)
noncomputable def Gc (s0 : (Bool × (List Int))) (s1 : (List Int)) (s2 : Bool) (s3 : Int) : Option (((Bool × (List Int)) × ((List Int) × (Bool × Int))) ⊕ ((Bool × (List Int)) × ((List Int) × Bool))) :=
  bif decide (s3 > (0 : Int)) then
    ((appL 8 1 s1 (List.cons (Go.IntKind.wrap Go.IntKind.i64 (Int.tmod s3 (65536 : Int))) (List.nil : List Int)))).bind fun x0 =>
    some (Sum.inl ((s0.1, s0.2), (x0, (s2, (Go.IntKind.wrap Go.IntKind.u64 (Int.tdiv s3 (65536 : Int)))))))
  else
  some (Sum.inr ((s0.1, s0.2), (s1, s2)))
noncomputable def BW (a0 : Int) : Option ((Bool × List (Int))) :=
  (bif decide (a0 < (0 : Int)) then
      some (Sum.inr ((false, (List.nil : List Int)), (decide (a0 < (0 : Int)), (Go.IntKind.wrap Go.IntKind.u64 ((0 : Int) - (Go.IntKind.wrap Go.IntKind.u64 a0))))))
    else
    some (Sum.inr ((false, (List.nil : List Int)), (decide (a0 < (0 : Int)), (Go.IntKind.wrap Go.IntKind.u64 a0))))).bind fun x0 =>
  Sum.elim
    (fun x1 =>
    some x1)
    (fun x2 =>
    (loopM (fun (s : ((Bool × (List Int)) × ((List Int) × (Bool × Int)))) => Gc s.1 s.2.1 s.2.2.1 s.2.2.2) ((x2.1.1, x2.1.2), ((List.nil : List Int), (x2.2.1, x2.2.2)))).bind fun x3 =>
    some (x3.2.2, x3.2.1))
    x0
noncomputable def Gy : Ent := ⟨L6, fun x => BW x⟩
noncomputable def Rx : TX := ⟨tyTab, codTab, [], [4], [], L6⟩
set_option maxHeartbeats 2000000 in
theorem Yl (a0 : Int) : wtF Rx Tryz.f37 (a0) = BW a0 := by kernel_rfl
theorem Hz : EntOK RR Gy := Ab (X := Rx) ⟨tyOK, boolOK, eqOK⟩ (Ad (by exact trivial)) (Ai (by kernel_rfl)) ⟨Tryz.func37, rfl, by kernel_rfl, rfl⟩ (fun x => by exact Yl x)
noncomputable def CW (s0 : (Bool × (List Int))) (s1 : (Bool × (List Int))) (s2 : (Bool × (List Int))) (s3 : (List Int)) (s4 : Int) (s5 : Int) (s6 : Int) (s7 : (List Int)) (s8 : Int) (s9 : Int) (s10 : (List Int)) (s11 : Int) (s12 : Int) : Option (((Bool × (List Int)) × ((Bool × (List Int)) × ((Bool × (List Int)) × ((List Int) × (Int × (Int × (Int × ((List Int) × (Int × (Int × ((List Int) × (Int × Int)))))))))))) ⊕ ((Bool × (List Int)) × ((Bool × (List Int)) × ((Bool × (List Int)) × ((List Int) × (Int × (Int × ((List Int) × (Int × Int))))))))) :=
  bif decide (s12 < s11) then
    ((getI s10 s12)).bind fun x0 =>
    ((idxI (Go.IntKind.wrap Go.IntKind.i64 (s4 + s12)) (List.length s3))).bind fun x1 =>
    ((getN s3 x1)).bind fun x2 =>
    ((idxI (Go.IntKind.wrap Go.IntKind.i64 (s4 + s12)) (List.length s3))).bind fun x3 =>
    ((getN s3 x3)).bind fun x4 =>
    some (Sum.inl ((s0.1, s0.2), ((s1.1, s1.2), ((s2.1, s2.2), ((List.set s3 x3 (Int.tmod (Go.IntKind.wrap Go.IntKind.i64 (s6 + (Go.IntKind.wrap Go.IntKind.i64 (x2 + (Go.IntKind.wrap Go.IntKind.i64 (s5 * x0)))))) (65536 : Int))), (s4, (s5, ((Go.IntKind.wrap Go.IntKind.i64 (Int.tdiv (Go.IntKind.wrap Go.IntKind.i64 (s6 + (Go.IntKind.wrap Go.IntKind.i64 (x2 + (Go.IntKind.wrap Go.IntKind.i64 (s5 * x0)))))) (65536 : Int))), (s7, (s8, (s9, (s10, (s11, (Go.IntKind.wrap Go.IntKind.i64 (s12 + (1 : Int))))))))))))))))
  else
  some (Sum.inr ((s0.1, s0.2), ((s1.1, s1.2), ((s2.1, s2.2), (s3, (s4, (s6, (s7, (s8, s9)))))))))
noncomputable def En (s0 : (Bool × (List Int))) (s1 : (Bool × (List Int))) (s2 : (Bool × (List Int))) (s3 : (List Int)) (s4 : (List Int)) (s5 : Int) (s6 : Int) : Option (((Bool × (List Int)) × ((Bool × (List Int)) × ((Bool × (List Int)) × ((List Int) × ((List Int) × (Int × Int)))))) ⊕ ((Bool × (List Int)) × ((Bool × (List Int)) × ((Bool × (List Int)) × (List Int))))) :=
  bif decide (s6 < s5) then
    ((getI s4 s6)).bind fun x0 =>
    (loopM (fun (s : ((Bool × (List Int)) × ((Bool × (List Int)) × ((Bool × (List Int)) × ((List Int) × (Int × (Int × (Int × ((List Int) × (Int × (Int × ((List Int) × (Int × Int))))))))))))) => CW s.1 s.2.1 s.2.2.1 s.2.2.2.1 s.2.2.2.2.1 s.2.2.2.2.2.1 s.2.2.2.2.2.2.1 s.2.2.2.2.2.2.2.1 s.2.2.2.2.2.2.2.2.1 s.2.2.2.2.2.2.2.2.2.1 s.2.2.2.2.2.2.2.2.2.2.1 s.2.2.2.2.2.2.2.2.2.2.2.1 s.2.2.2.2.2.2.2.2.2.2.2.2) ((s0.1, s0.2), ((s1.1, s1.2), ((s2.1, s2.2), (s3, (s6, (x0, ((0 : Int), (s4, (s5, (s6, (s1.2, ((((List.length s1.2) : Nat) : Int), (0 : Int)))))))))))))).bind fun x1 =>
    ((idxI (Go.IntKind.wrap Go.IntKind.i64 (x1.2.2.2.2.1 + (((List.length x1.2.1.2) : Nat) : Int))) (List.length x1.2.2.2.1))).bind fun x2 =>
    ((getN x1.2.2.2.1 x2)).bind fun x3 =>
    ((idxI (Go.IntKind.wrap Go.IntKind.i64 (x1.2.2.2.2.1 + (((List.length x1.2.1.2) : Nat) : Int))) (List.length x1.2.2.2.1))).bind fun x4 =>
    ((getN x1.2.2.2.1 x4)).bind fun x5 =>
    some (Sum.inl ((x1.1.1, x1.1.2), ((x1.2.1.1, x1.2.1.2), ((x1.2.2.1.1, x1.2.2.1.2), ((List.set x1.2.2.2.1 x4 (Go.IntKind.wrap Go.IntKind.i64 (x3 + x1.2.2.2.2.2.1))), (x1.2.2.2.2.2.2.1, (x1.2.2.2.2.2.2.2.1, (Go.IntKind.wrap Go.IntKind.i64 (x1.2.2.2.2.2.2.2.2 + (1 : Int))))))))))
  else
  some (Sum.inr ((s0.1, s0.2), ((s1.1, s1.2), ((s2.1, s2.2), s3))))
noncomputable def AN (a0 : (Bool × (List Int))) (a1 : (Bool × (List Int))) : Option (List (Int) × (Bool)) :=
  ((lenI (Go.IntKind.wrap Go.IntKind.i64 ((((List.length a0.2) : Nat) : Int) + (((List.length a1.2) : Nat) : Int))) 8 1)).bind fun x0 =>
  (loopM (fun (s : ((Bool × (List Int)) × ((Bool × (List Int)) × ((Bool × (List Int)) × ((List Int) × ((List Int) × (Int × Int))))))) => En s.1 s.2.1 s.2.2.1 s.2.2.2.1 s.2.2.2.2.1 s.2.2.2.2.2.1 s.2.2.2.2.2.2) ((a0.1, a0.2), ((a1.1, a1.2), ((false, (List.nil : List Int)), ((List.replicate x0 (0 : Int)), (a0.2, ((((List.length a0.2) : Nat) : Int), (0 : Int)))))))).bind fun x1 =>
  ((AQ (!(x1.1.1 == x1.2.1.1)) x1.2.2.2)).bind fun x2 =>
  some (x2.1, x2.2)
noncomputable def Dv : Ent := ⟨HT, fun x => AN x.1 x.2⟩
noncomputable def MK : TX := ⟨tyTab, codTab, [], [4], [De], HT⟩
set_option maxHeartbeats 2000000 in
theorem T2 (a0 : (Bool × List (Int))) (a1 : (Bool × List (Int))) : wtF MK Tryz.f110 (a0, a1) = AN a0 a1 := by kernel_rfl
theorem DR : EntOK RR Dv := Ab (X := MK) ⟨tyOK, boolOK, eqOK⟩ (Ad (by exact ⟨⟨C5, rfl⟩, trivial⟩)) (Ai (by kernel_rfl)) ⟨Tryz.func110, rfl, by kernel_rfl, rfl⟩ (fun x => by exact T2 x.1 x.2)
noncomputable def Iy (s0 : (List Int)) (s1 : (List Int)) (s2 : (List Int)) (s3 : Int) (s4 : Int) : Option (((List Int) × ((List Int) × ((List Int) × (Int × Int)))) ⊕ ((List Int) × ((List Int) × (Int × Int)))) :=
  bif decide ((((List.length s0) : Nat) : Int) < (Go.IntKind.wrap Go.IntKind.i64 ((((List.length s2) : Nat) : Int) + (1 : Int)))) then
    ((appL 8 1 s0 (List.cons (0 : Int) (List.nil : List Int)))).bind fun x0 =>
    some (Sum.inl (x0, (s1, (s2, (s3, s4)))))
  else
  some (Sum.inr (s0, (s1, (s3, s4))))
noncomputable def Bt (s0 : (List Int)) (s1 : (List Int)) (s2 : (List Int)) (s3 : Int) (s4 : Int) (s5 : Int) (s6 : Int) (s7 : Int) : Option (((List Int) × ((List Int) × ((List Int) × (Int × (Int × (Int × (Int × Int))))))) ⊕ ((List Int) × ((List Int) × ((List Int) × (Int × (Int × (Int × Int))))))) :=
  (bif decide (s6 ≥ (65536 : Int)) then
      some (Sum.inr (s0, (s1, (s2, (s3, (s4, (s5, (s6, s7))))))))
    else
    bif decide (s7 < (65536 : Int)) then
      ((idxI (Go.IntKind.wrap Go.IntKind.i64 (s3 - (2 : Int))) (List.length s1))).bind fun x0 =>
      ((getN s1 x0)).bind fun x1 =>
      ((idxI (Go.IntKind.wrap Go.IntKind.i64 ((Go.IntKind.wrap Go.IntKind.i64 (s5 + s3)) - (2 : Int))) (List.length s0))).bind fun x2 =>
      ((getN s0 x2)).bind fun x3 =>
      bif decide ((Go.IntKind.wrap Go.IntKind.i64 (s6 * x1)) > (Go.IntKind.wrap Go.IntKind.i64 ((Go.IntKind.wrap Go.IntKind.i64 (s7 * (65536 : Int))) + x3))) then
        some (Sum.inr (s0, (s1, (s2, (s3, (s4, (s5, (s6, s7))))))))
      else
      some (Sum.inl (Sum.inr (s0, (s1, (s2, (s3, (s4, (s5, s6))))))))
    else
    some (Sum.inl (Sum.inr (s0, (s1, (s2, (s3, (s4, (s5, s6))))))))).bind fun x4 =>
  Sum.elim
    (fun x5 =>
    some x5)
    (fun x6 =>
    ((idxI (Go.IntKind.wrap Go.IntKind.i64 (x6.2.2.2.1 - (1 : Int))) (List.length x6.2.1))).bind fun x7 =>
    ((getN x6.2.1 x7)).bind fun x8 =>
    some (Sum.inl (x6.1, (x6.2.1, (x6.2.2.1, (x6.2.2.2.1, (x6.2.2.2.2.1, (x6.2.2.2.2.2.1, ((Go.IntKind.wrap Go.IntKind.i64 (x6.2.2.2.2.2.2.1 - (1 : Int))), (Go.IntKind.wrap Go.IntKind.i64 (x6.2.2.2.2.2.2.2 + x8)))))))))))
    x4
noncomputable def Cv (s0 : (List Int)) (s1 : (List Int)) (s2 : (List Int)) (s3 : Int) (s4 : Int) (s5 : Int) (s6 : Int) (s7 : Int) (s8 : Int) (s9 : Int) : Option (((List Int) × ((List Int) × ((List Int) × (Int × (Int × (Int × (Int × (Int × (Int × Int))))))))) ⊕ ((List Int) × ((List Int) × ((List Int) × (Int × (Int × (Int × (Int × Int)))))))) :=
  bif decide (s9 < s8) then
    ((idxI (Go.IntKind.wrap Go.IntKind.i64 (s5 + s9)) (List.length s0))).bind fun x0 =>
    ((getN s0 x0)).bind fun x1 =>
    ((idxI s9 (List.length s1))).bind fun x2 =>
    ((getN s1 x2)).bind fun x3 =>
    (bif decide ((Go.IntKind.wrap Go.IntKind.i64 ((Go.IntKind.wrap Go.IntKind.i64 (x1 - (Go.IntKind.wrap Go.IntKind.i64 (s6 * x3)))) - s7)) < (0 : Int)) then
        some (Sum.inr (s0, (s1, (s2, (s3, (s4, (s5, (s6, ((Go.IntKind.wrap Go.IntKind.i64 (Int.tdiv (Go.IntKind.wrap Go.IntKind.i64 ((Go.IntKind.wrap Go.IntKind.i64 ((Go.IntKind.wrap Go.IntKind.i64 ((0 : Int) - (Go.IntKind.wrap Go.IntKind.i64 ((Go.IntKind.wrap Go.IntKind.i64 (x1 - (Go.IntKind.wrap Go.IntKind.i64 (s6 * x3)))) - s7)))) + (65536 : Int))) - (1 : Int))) (65536 : Int))), (s9, ((Go.IntKind.wrap Go.IntKind.i64 ((Go.IntKind.wrap Go.IntKind.i64 ((Go.IntKind.wrap Go.IntKind.i64 (x1 - (Go.IntKind.wrap Go.IntKind.i64 (s6 * x3)))) - s7)) + (Go.IntKind.wrap Go.IntKind.i64 ((Go.IntKind.wrap Go.IntKind.i64 (Int.tdiv (Go.IntKind.wrap Go.IntKind.i64 ((Go.IntKind.wrap Go.IntKind.i64 ((Go.IntKind.wrap Go.IntKind.i64 ((0 : Int) - (Go.IntKind.wrap Go.IntKind.i64 ((Go.IntKind.wrap Go.IntKind.i64 (x1 - (Go.IntKind.wrap Go.IntKind.i64 (s6 * x3)))) - s7)))) + (65536 : Int))) - (1 : Int))) (65536 : Int))) * (65536 : Int))))), (s8, s9))))))))))))
      else
      some (Sum.inr (s0, (s1, (s2, (s3, (s4, (s5, (s6, ((0 : Int), (s9, ((Go.IntKind.wrap Go.IntKind.i64 ((Go.IntKind.wrap Go.IntKind.i64 (x1 - (Go.IntKind.wrap Go.IntKind.i64 (s6 * x3)))) - s7)), (s8, s9))))))))))))).bind fun x4 =>
    Sum.elim
      (fun x5 =>
      some x5)
      (fun x6 =>
      ((idxI (Go.IntKind.wrap Go.IntKind.i64 (x6.2.2.2.2.2.1 + x6.2.2.2.2.2.2.2.2.1)) (List.length x6.1))).bind fun x7 =>
      ((getN x6.1 x7)).bind fun x8 =>
      some (Sum.inl ((List.set x6.1 x7 x6.2.2.2.2.2.2.2.2.2.1), (x6.2.1, (x6.2.2.1, (x6.2.2.2.1, (x6.2.2.2.2.1, (x6.2.2.2.2.2.1, (x6.2.2.2.2.2.2.1, (x6.2.2.2.2.2.2.2.1, (x6.2.2.2.2.2.2.2.2.2.2.1, (Go.IntKind.wrap Go.IntKind.i64 (x6.2.2.2.2.2.2.2.2.2.2.2 + (1 : Int))))))))))))))
      x4
  else
  some (Sum.inr (s0, (s1, (s2, (s3, (s4, (s5, (s6, s7))))))))
noncomputable def Cz (s0 : (List Int)) (s1 : (List Int)) (s2 : (List Int)) (s3 : Int) (s4 : Int) (s5 : Int) (s6 : Int) (s7 : Int) (s8 : Int) (s9 : Int) : Option (((List Int) × ((List Int) × ((List Int) × (Int × (Int × (Int × (Int × (Int × (Int × Int))))))))) ⊕ ((List Int) × ((List Int) × ((List Int) × (Int × (Int × (Int × (Int × Int)))))))) :=
  bif decide (s9 < s8) then
    ((idxI (Go.IntKind.wrap Go.IntKind.i64 (s5 + s9)) (List.length s0))).bind fun x0 =>
    ((getN s0 x0)).bind fun x1 =>
    ((idxI s9 (List.length s1))).bind fun x2 =>
    ((getN s1 x2)).bind fun x3 =>
    ((idxI (Go.IntKind.wrap Go.IntKind.i64 (s5 + s9)) (List.length s0))).bind fun x4 =>
    ((getN s0 x4)).bind fun x5 =>
    some (Sum.inl ((List.set s0 x4 (Int.tmod (Go.IntKind.wrap Go.IntKind.i64 (s7 + (Go.IntKind.wrap Go.IntKind.i64 (x1 + x3)))) (65536 : Int))), (s1, (s2, (s3, (s4, (s5, (s6, ((Go.IntKind.wrap Go.IntKind.i64 (Int.tdiv (Go.IntKind.wrap Go.IntKind.i64 (s7 + (Go.IntKind.wrap Go.IntKind.i64 (x1 + x3)))) (65536 : Int))), (s8, (Go.IntKind.wrap Go.IntKind.i64 (s9 + (1 : Int)))))))))))))
  else
  some (Sum.inr (s0, (s1, (s2, (s3, (s4, (s5, (s6, s7))))))))
noncomputable def Bw (s0 : (List Int)) (s1 : (List Int)) (s2 : (List Int)) (s3 : Int) (s4 : Int) (s5 : Int) : Option (((List Int) × ((List Int) × ((List Int) × (Int × (Int × Int))))) ⊕ ((List Int) × ((List Int) × (Int × Int)))) :=
  bif decide (s5 ≥ (0 : Int)) then
    ((idxI (Go.IntKind.wrap Go.IntKind.i64 (s5 + s3)) (List.length s0))).bind fun x0 =>
    ((getN s0 x0)).bind fun x1 =>
    ((idxI (Go.IntKind.wrap Go.IntKind.i64 ((Go.IntKind.wrap Go.IntKind.i64 (s5 + s3)) - (1 : Int))) (List.length s0))).bind fun x2 =>
    ((getN s0 x2)).bind fun x3 =>
    ((idxI (Go.IntKind.wrap Go.IntKind.i64 (s3 - (1 : Int))) (List.length s1))).bind fun x4 =>
    ((getN s1 x4)).bind fun x5 =>
    bif (x5 == (0 : Int)) then
      none
    else
    ((idxI (Go.IntKind.wrap Go.IntKind.i64 (s3 - (1 : Int))) (List.length s1))).bind fun x6 =>
    ((getN s1 x6)).bind fun x7 =>
    bif (x7 == (0 : Int)) then
      none
    else
    (loopM (fun (s : ((List Int) × ((List Int) × ((List Int) × (Int × (Int × (Int × (Int × Int)))))))) => Bt s.1 s.2.1 s.2.2.1 s.2.2.2.1 s.2.2.2.2.1 s.2.2.2.2.2.1 s.2.2.2.2.2.2.1 s.2.2.2.2.2.2.2) (s0, (s1, (s2, (s3, (s4, (s5, ((Go.IntKind.wrap Go.IntKind.i64 (Int.tdiv (Go.IntKind.wrap Go.IntKind.i64 ((Go.IntKind.wrap Go.IntKind.i64 (x1 * (65536 : Int))) + x3)) x5)), (Int.tmod (Go.IntKind.wrap Go.IntKind.i64 ((Go.IntKind.wrap Go.IntKind.i64 (x1 * (65536 : Int))) + x3)) x7))))))))).bind fun x8 =>
    (loopM (fun (s : ((List Int) × ((List Int) × ((List Int) × (Int × (Int × (Int × (Int × (Int × (Int × Int)))))))))) => Cv s.1 s.2.1 s.2.2.1 s.2.2.2.1 s.2.2.2.2.1 s.2.2.2.2.2.1 s.2.2.2.2.2.2.1 s.2.2.2.2.2.2.2.1 s.2.2.2.2.2.2.2.2.1 s.2.2.2.2.2.2.2.2.2) (x8.1, (x8.2.1, (x8.2.2.1, (x8.2.2.2.1, (x8.2.2.2.2.1, (x8.2.2.2.2.2.1, (x8.2.2.2.2.2.2, ((0 : Int), (x8.2.2.2.1, (0 : Int))))))))))).bind fun x9 =>
    ((idxI (Go.IntKind.wrap Go.IntKind.i64 (x9.2.2.2.2.2.1 + x9.2.2.2.1)) (List.length x9.1))).bind fun x10 =>
    ((getN x9.1 x10)).bind fun x11 =>
    ((idxI (Go.IntKind.wrap Go.IntKind.i64 (x9.2.2.2.2.2.1 + x9.2.2.2.1)) (List.length x9.1))).bind fun x12 =>
    ((getN x9.1 x12)).bind fun x13 =>
    ((idxI (Go.IntKind.wrap Go.IntKind.i64 (x9.2.2.2.2.2.1 + x9.2.2.2.1)) (List.length (List.set x9.1 x12 (Go.IntKind.wrap Go.IntKind.i64 (x11 - x9.2.2.2.2.2.2.2)))))).bind fun x14 =>
    ((getN (List.set x9.1 x12 (Go.IntKind.wrap Go.IntKind.i64 (x11 - x9.2.2.2.2.2.2.2))) x14)).bind fun x15 =>
    bif decide (x15 < (0 : Int)) then
      (loopM (fun (s : ((List Int) × ((List Int) × ((List Int) × (Int × (Int × (Int × (Int × (Int × (Int × Int)))))))))) => Cz s.1 s.2.1 s.2.2.1 s.2.2.2.1 s.2.2.2.2.1 s.2.2.2.2.2.1 s.2.2.2.2.2.2.1 s.2.2.2.2.2.2.2.1 s.2.2.2.2.2.2.2.2.1 s.2.2.2.2.2.2.2.2.2) ((List.set x9.1 x12 (Go.IntKind.wrap Go.IntKind.i64 (x11 - x9.2.2.2.2.2.2.2))), (x9.2.1, (x9.2.2.1, (x9.2.2.2.1, (x9.2.2.2.2.1, (x9.2.2.2.2.2.1, ((Go.IntKind.wrap Go.IntKind.i64 (x9.2.2.2.2.2.2.1 - (1 : Int))), ((0 : Int), (x9.2.2.2.1, (0 : Int))))))))))).bind fun x16 =>
      ((idxI (Go.IntKind.wrap Go.IntKind.i64 (x16.2.2.2.2.2.1 + x16.2.2.2.1)) (List.length x16.1))).bind fun x17 =>
      ((getN x16.1 x17)).bind fun x18 =>
      ((idxI (Go.IntKind.wrap Go.IntKind.i64 (x16.2.2.2.2.2.1 + x16.2.2.2.1)) (List.length x16.1))).bind fun x19 =>
      ((getN x16.1 x19)).bind fun x20 =>
      ((idxI x16.2.2.2.2.2.1 (List.length x16.2.2.1))).bind fun x21 =>
      ((getN x16.2.2.1 x21)).bind fun x22 =>
      some (Sum.inl ((List.set x16.1 x19 (Go.IntKind.wrap Go.IntKind.i64 (x18 + x16.2.2.2.2.2.2.2))), (x16.2.1, ((List.set x16.2.2.1 x21 x16.2.2.2.2.2.2.1), (x16.2.2.2.1, (x16.2.2.2.2.1, (Go.IntKind.wrap Go.IntKind.i64 (x16.2.2.2.2.2.1 - (1 : Int)))))))))
    else
    ((idxI x9.2.2.2.2.2.1 (List.length x9.2.2.1))).bind fun x23 =>
    ((getN x9.2.2.1 x23)).bind fun x24 =>
    some (Sum.inl ((List.set x9.1 x12 (Go.IntKind.wrap Go.IntKind.i64 (x11 - x9.2.2.2.2.2.2.2))), (x9.2.1, ((List.set x9.2.2.1 x23 x9.2.2.2.2.2.2.1), (x9.2.2.2.1, (x9.2.2.2.2.1, (Go.IntKind.wrap Go.IntKind.i64 (x9.2.2.2.2.2.1 - (1 : Int)))))))))
  else
  some (Sum.inr (s0, (s2, (s3, s4))))
noncomputable def CI (a0 : (List Int)) (a1 : (List Int)) : Option (List (Int) × List (Int)) :=
  ((AZ a0 a1)).bind fun x0 =>
  bif decide (x0 < (0 : Int)) then
    some ((List.nil : List Int), a0)
  else
  bif ((((List.length a1) : Nat) : Int) == (1 : Int)) then
    ((getI a1 (0 : Int))).bind fun x1 =>
    ((B8 a0 x1)).bind fun x2 =>
    ((Ej (List.cons x2.2 (List.nil : List Int)))).bind fun x3 =>
    some (x2.1, x3)
  else
  ((getI a1 (Go.IntKind.wrap Go.IntKind.i64 ((((List.length a1) : Nat) : Int) - (1 : Int))))).bind fun x4 =>
  bif ((Go.IntKind.wrap Go.IntKind.i64 (x4 + (1 : Int))) == (0 : Int)) then
    none
  else
  ((AQ false a0)).bind fun x5 =>
  ((BW (Go.IntKind.wrap Go.IntKind.i64 (Int.tdiv (65536 : Int) (Go.IntKind.wrap Go.IntKind.i64 (x4 + (1 : Int))))))).bind fun x6 =>
  ((AN (x5.2, x5.1) (x6.1, x6.2))).bind fun x7 =>
  ((appL 8 1 x7.1 (List.cons (0 : Int) (List.nil : List Int)))).bind fun x8 =>
  ((AQ false a1)).bind fun x9 =>
  ((BW (Go.IntKind.wrap Go.IntKind.i64 (Int.tdiv (65536 : Int) (Go.IntKind.wrap Go.IntKind.i64 (x4 + (1 : Int))))))).bind fun x10 =>
  ((AN (x9.2, x9.1) (x10.1, x10.2))).bind fun x11 =>
  (loopM (fun (s : ((List Int) × ((List Int) × ((List Int) × (Int × Int))))) => Iy s.1 s.2.1 s.2.2.1 s.2.2.2.1 s.2.2.2.2) (x8, (x11.1, (a0, ((((List.length a1) : Nat) : Int), (Go.IntKind.wrap Go.IntKind.i64 (Int.tdiv (65536 : Int) (Go.IntKind.wrap Go.IntKind.i64 (x4 + (1 : Int)))))))))).bind fun x12 =>
  ((lenI (Go.IntKind.wrap Go.IntKind.i64 ((((List.length x12.1) : Nat) : Int) - x12.2.2.1)) 8 1)).bind fun x13 =>
  (loopM (fun (s : ((List Int) × ((List Int) × ((List Int) × (Int × (Int × Int)))))) => Bw s.1 s.2.1 s.2.2.1 s.2.2.2.1 s.2.2.2.2.1 s.2.2.2.2.2) (x12.1, (x12.2.1, ((List.replicate x13 (0 : Int)), (x12.2.2.1, (x12.2.2.2, (Go.IntKind.wrap Go.IntKind.i64 ((Go.IntKind.wrap Go.IntKind.i64 ((((List.length x12.1) : Nat) : Int) - x12.2.2.1)) - (1 : Int))))))))).bind fun x14 =>
  ((subI (0 : Int) x14.2.2.1 (List.length x14.1))).bind fun x15 =>
  ((Ej (List.drop x15.1 (List.take (x15.1 + (x15.2 - x15.1)) x14.1)))).bind fun x16 =>
  ((B8 x16 x14.2.2.2)).bind fun x17 =>
  ((Ej x14.2.1)).bind fun x18 =>
  some (x18, x17.1)
noncomputable def Ho : Ent := ⟨Hh, fun x => CI x.1 x.2⟩
noncomputable def Ln : TX := ⟨tyTab, codTab, [], [4], [CL, Hc, K3, De, Gy, Dv], Hh⟩
set_option maxHeartbeats 2000000 in
theorem Su (a0 : List (Int)) (a1 : List (Int)) : wtF Ln Tryz.f184 (a0, a1) = CI a0 a1 := by kernel_rfl
theorem JE : EntOK RR Ho := Ab (X := Ln) ⟨tyOK, boolOK, eqOK⟩ (Ad (by exact ⟨⟨Dy, rfl⟩, ⟨⟨JC, rfl⟩, ⟨⟨Kp, rfl⟩, ⟨⟨C5, rfl⟩, ⟨⟨Hz, rfl⟩, ⟨⟨DR, rfl⟩, trivial⟩⟩⟩⟩⟩⟩)) (Ai (by kernel_rfl)) ⟨Tryz.func184, rfl, by kernel_rfl, rfl⟩ (fun x => by exact Su x.1 x.2)
noncomputable def Ek (s0 : (Bool × (List Int))) (s1 : (List Int)) (s2 : (List Int)) : Option (((Bool × (List Int)) × ((List Int) × (List Int))) ⊕ ((Bool × (List Int)) × (List Int))) :=
  bif decide ((((List.length s2) : Nat) : Int) > (0 : Int)) then
    ((CI s1 s2)).bind fun x0 =>
    some (Sum.inl ((s0.1, s0.2), (s2, x0.2)))
  else
  some (Sum.inr ((s0.1, s0.2), s1))
noncomputable def Dk (a0 : (Bool × (List Int))) (a1 : (Bool × (List Int))) : Option ((Bool × List (Int))) :=
  (loopM (fun (s : ((Bool × (List Int)) × ((List Int) × (List Int)))) => Ek s.1 s.2.1 s.2.2) ((false, (List.nil : List Int)), (a0.2, a1.2))).bind fun x0 =>
  ((AQ false x0.2)).bind fun x1 =>
  some (x1.2, x1.1)
noncomputable def Ir : Ent := ⟨HW, fun x => Dk x.1 x.2⟩
noncomputable def Nv : TX := ⟨tyTab, codTab, [], [4], [Ho, De], HW⟩
set_option maxHeartbeats 2000000 in
theorem UE (a0 : (Bool × List (Int))) (a1 : (Bool × List (Int))) : wtF Nv Tryz.f134 (a0, a1) = Dk a0 a1 := by kernel_rfl
theorem Ks : EntOK RR Ir := Ab (X := Nv) ⟨tyOK, boolOK, eqOK⟩ (Ad (by exact ⟨⟨JE, rfl⟩, ⟨⟨C5, rfl⟩, trivial⟩⟩)) (Ai (by kernel_rfl)) ⟨Tryz.func134, rfl, by kernel_rfl, rfl⟩ (fun x => by exact UE x.1 x.2)
noncomputable def Bz (a0 : (Bool × (List Int))) (a1 : (Bool × (List Int))) : Option (Int) :=
  ((AK (a0.1, a0.2))).bind fun x0 =>
  ((AK (a1.1, a1.2))).bind fun x1 =>
  bif (x0 != x1) then
    ((AK (a0.1, a0.2))).bind fun x2 =>
    ((AK (a1.1, a1.2))).bind fun x3 =>
    ((A5 x2 x3)).bind fun x4 =>
    some x4
  else
  ((AK (a0.1, a0.2))).bind fun x5 =>
  ((AZ a0.2 a1.2)).bind fun x6 =>
  some (Go.IntKind.wrap Go.IntKind.i64 (x5 * x6))
noncomputable def DM : Ent := ⟨FO, fun x => Bz x.1 x.2⟩
noncomputable def Ih : TX := ⟨tyTab, codTab, [], [4], [DH, DJ, CL], FO⟩
set_option maxHeartbeats 2000000 in
theorem Pb (a0 : (Bool × List (Int))) (a1 : (Bool × List (Int))) : wtF Ih Tryz.f98 (a0, a1) = Bz a0 a1 := by kernel_rfl
theorem EP : EntOK RR DM := Ab (X := Ih) ⟨tyOK, boolOK, eqOK⟩ (Ad (by exact ⟨⟨Eo, rfl⟩, ⟨⟨FX, rfl⟩, ⟨⟨Dy, rfl⟩, trivial⟩⟩⟩)) (Ai (by kernel_rfl)) ⟨Tryz.func98, rfl, by kernel_rfl, rfl⟩ (fun x => by exact Pb x.1 x.2)
noncomputable def An (a0 : (Bool × ((List Int) × (Bool × (List Int))))) : Option (Bool) :=
  ((Ef (List.cons (a0.1, a0.2.1) (List.cons (a0.2.2.1, a0.2.2.2) (List.nil : List (Bool × (List Int))))))).bind fun x0 =>
  bif x0 then
    ((AK (a0.2.2.1, a0.2.2.2))).bind fun x1 =>
    bif decide (x1 > (0 : Int)) then
      ((Dk (a0.1, a0.2.1) (a0.2.2.1, a0.2.2.2))).bind fun x2 =>
      ((BW (1 : Int))).bind fun x3 =>
      ((Bz (x2.1, x2.2) (x3.1, x3.2))).bind fun x4 =>
      some (x4 == (0 : Int))
    else
    some false
  else
  some false
noncomputable def F7 : Ent := ⟨HR, fun x => An x⟩
noncomputable def Nn : TX := ⟨tyTab, codTab, [], [4], [O4, DH, Ir, Gy, DM], HR⟩
set_option maxHeartbeats 2000000 in
theorem TJ (a0 : (Bool × List (Int) × Bool × List (Int))) : wtF Nn Tryz.f58 (a0) = An a0 := by kernel_rfl
theorem Hm : EntOK RR F7 := Ab (X := Nn) ⟨tyOK, boolOK, eqOK⟩ (Ad (by exact ⟨⟨TI, rfl⟩, ⟨⟨Eo, rfl⟩, ⟨⟨Ks, rfl⟩, ⟨⟨Hz, rfl⟩, ⟨⟨EP, rfl⟩, trivial⟩⟩⟩⟩⟩)) (Ai (by kernel_rfl)) ⟨Tryz.func58, rfl, by kernel_rfl, rfl⟩ (fun x => by exact TJ x)
noncomputable def El (s0 : (List ((Bool × (List Int)) × (Bool × (List Int))))) (s1 : Int) (s2 : Int) : Option (((List ((Bool × (List Int)) × (Bool × (List Int)))) × (Int × Int)) ⊕ (Unit ⊕ Bool)) :=
  bif decide (s2 < s1) then
    ((getI s0 s2)).bind fun x0 =>
    ((An (x0.1.1, (x0.1.2, (x0.2.1, x0.2.2))))).bind fun x1 =>
    bif (!x1) then
      some (Sum.inr (Sum.inr false))
    else
    some (Sum.inl (s0, (s1, (Go.IntKind.wrap Go.IntKind.i64 (s2 + (1 : Int))))))
  else
  some (Sum.inr (Sum.inl ()))
noncomputable def Bk (a0 : (List ((Bool × (List Int)) × (Bool × (List Int))))) : Option (Bool) :=
  (loopM (fun (s : ((List ((Bool × (List Int)) × (Bool × (List Int)))) × (Int × Int))) => El s.1 s.2.1 s.2.2) (a0, ((((List.length a0) : Nat) : Int), (0 : Int)))).bind fun x0 =>
  Sum.elim
    (fun x1 =>
    some true)
    (fun x2 =>
    some x2)
    x0
noncomputable def Dq : Ent := ⟨II, fun x => Bk x⟩
noncomputable def MB : TX := ⟨tyTab, codTab, [], [4], [F7], II⟩
set_option maxHeartbeats 2000000 in
theorem TC (a0 : List (((Bool × List (Int)) × (Bool × List (Int))))) : wtF MB Tryz.f118 (a0) = Bk a0 := by kernel_rfl
theorem DN : EntOK RR Dq := Ab (X := MB) ⟨tyOK, boolOK, eqOK⟩ (Ad (by exact ⟨⟨Hm, rfl⟩, trivial⟩)) (Ai (by kernel_rfl)) ⟨Tryz.func118, rfl, by kernel_rfl, rfl⟩ (fun x => by exact TC x)
noncomputable def Cx (s0 : (List Int)) (s1 : (List Int)) (s2 : (List Int)) (s3 : Int) (s4 : Int) : Option (((List Int) × ((List Int) × ((List Int) × (Int × Int)))) ⊕ (List Int)) :=
  (bif decide (s4 < (maxL (List.cons (((List.length s1) : Nat) : Int) (List.cons (((List.length s2) : Nat) : Int) (List.nil : List Int))))) then
      some (Sum.inr (s0, (s1, (s2, (s3, s4)))))
    else
    bif decide (s3 > (0 : Int)) then
      some (Sum.inr (s0, (s1, (s2, (s3, s4)))))
    else
    some (Sum.inl (Sum.inr s0))).bind fun x0 =>
  Sum.elim
    (fun x1 =>
    some x1)
    (fun x2 =>
    (bif decide (x2.2.2.2.2 < (((List.length x2.2.1) : Nat) : Int)) then
        ((getI x2.2.1 x2.2.2.2.2)).bind fun x3 =>
        some (Sum.inr (x2.1, (x2.2.1, (x2.2.2.1, ((Go.IntKind.wrap Go.IntKind.i64 (x2.2.2.2.1 + x3)), x2.2.2.2.2)))))
      else
      some (Sum.inr (x2.1, (x2.2.1, (x2.2.2.1, (x2.2.2.2.1, x2.2.2.2.2)))))).bind fun x4 =>
    Sum.elim
      (fun x5 =>
      some x5)
      (fun x6 =>
      (bif decide (x6.2.2.2.2 < (((List.length x6.2.2.1) : Nat) : Int)) then
          ((getI x6.2.2.1 x6.2.2.2.2)).bind fun x7 =>
          some (Sum.inr (x6.1, (x6.2.1, (x6.2.2.1, ((Go.IntKind.wrap Go.IntKind.i64 (x6.2.2.2.1 + x7)), x6.2.2.2.2)))))
        else
        some (Sum.inr (x6.1, (x6.2.1, (x6.2.2.1, (x6.2.2.2.1, x6.2.2.2.2)))))).bind fun x8 =>
      Sum.elim
        (fun x9 =>
        some x9)
        (fun x10 =>
        ((appL 8 1 x10.1 (List.cons (Int.tmod x10.2.2.2.1 (65536 : Int)) (List.nil : List Int)))).bind fun x11 =>
        some (Sum.inl (x11, (x10.2.1, (x10.2.2.1, ((Go.IntKind.wrap Go.IntKind.i64 (Int.tdiv x10.2.2.2.1 (65536 : Int))), (Go.IntKind.wrap Go.IntKind.i64 (x10.2.2.2.2 + (1 : Int)))))))))
        x8)
      x4)
    x0
noncomputable def Dx (a0 : (List Int)) (a1 : (List Int)) : Option (List (Int)) :=
  (loopM (fun (s : ((List Int) × ((List Int) × ((List Int) × (Int × Int))))) => Cx s.1 s.2.1 s.2.2.1 s.2.2.2.1 s.2.2.2.2) ((List.nil : List Int), (a0, (a1, ((0 : Int), (0 : Int)))))).bind fun x0 =>
  some x0
noncomputable def KR : Ent := ⟨Hj, fun x => Dx x.1 x.2⟩
noncomputable def KO : TX := ⟨tyTab, codTab, [], [4], [], Hj⟩
set_option maxHeartbeats 2000000 in
theorem S7 (a0 : List (Int)) (a1 : List (Int)) : wtF KO Tryz.f164 (a0, a1) = Dx a0 a1 := by kernel_rfl
theorem Qv : EntOK RR KR := Ab (X := KO) ⟨tyOK, boolOK, eqOK⟩ (Ad (by exact trivial)) (Ai (by kernel_rfl)) ⟨Tryz.func164, rfl, by kernel_rfl, rfl⟩ (fun x => by exact S7 x.1 x.2)
noncomputable def DA (s0 : (List Int)) (s1 : (List Int)) (s2 : Int) (s3 : Int) (s4 : Int) : Option (((List Int) × ((List Int) × (Int × (Int × Int)))) ⊕ (List Int)) :=
  bif decide (s4 < s3) then
    ((idxI s4 (List.length s0))).bind fun x0 =>
    ((getN s0 x0)).bind fun x1 =>
    ((idxI s4 (List.length s0))).bind fun x2 =>
    ((getN s0 x2)).bind fun x3 =>
    (bif decide (s4 < (((List.length s1) : Nat) : Int)) then
        ((idxI s4 (List.length (List.set s0 x2 (Go.IntKind.wrap Go.IntKind.i64 (x1 - s2)))))).bind fun x4 =>
        ((getN (List.set s0 x2 (Go.IntKind.wrap Go.IntKind.i64 (x1 - s2))) x4)).bind fun x5 =>
        ((getI s1 s4)).bind fun x6 =>
        ((idxI s4 (List.length (List.set s0 x2 (Go.IntKind.wrap Go.IntKind.i64 (x1 - s2)))))).bind fun x7 =>
        ((getN (List.set s0 x2 (Go.IntKind.wrap Go.IntKind.i64 (x1 - s2))) x7)).bind fun x8 =>
        some (Sum.inr ((List.set (List.set s0 x2 (Go.IntKind.wrap Go.IntKind.i64 (x1 - s2))) x7 (Go.IntKind.wrap Go.IntKind.i64 (x5 - x6))), (s1, (s4, (s3, s4)))))
      else
      some (Sum.inr ((List.set s0 x2 (Go.IntKind.wrap Go.IntKind.i64 (x1 - s2))), (s1, (s4, (s3, s4)))))).bind fun x9 =>
    Sum.elim
      (fun x10 =>
      some x10)
      (fun x11 =>
      ((idxI x11.2.2.1 (List.length x11.1))).bind fun x12 =>
      ((getN x11.1 x12)).bind fun x13 =>
      bif decide (x13 < (0 : Int)) then
        ((idxI x11.2.2.1 (List.length x11.1))).bind fun x14 =>
        ((getN x11.1 x14)).bind fun x15 =>
        ((idxI x11.2.2.1 (List.length x11.1))).bind fun x16 =>
        ((getN x11.1 x16)).bind fun x17 =>
        some (Sum.inl ((List.set x11.1 x16 (Go.IntKind.wrap Go.IntKind.i64 (x15 + (65536 : Int)))), (x11.2.1, ((1 : Int), (x11.2.2.2.1, (Go.IntKind.wrap Go.IntKind.i64 (x11.2.2.2.2 + (1 : Int))))))))
      else
      some (Sum.inl (x11.1, (x11.2.1, ((0 : Int), (x11.2.2.2.1, (Go.IntKind.wrap Go.IntKind.i64 (x11.2.2.2.2 + (1 : Int)))))))))
      x9
  else
  some (Sum.inr s0)
noncomputable def CQ (a0 : (List Int)) (a1 : (List Int)) : Option (List (Int)) :=
  ((AV a0)).bind fun x0 =>
  (loopM (fun (s : ((List Int) × ((List Int) × (Int × (Int × Int))))) => DA s.1 s.2.1 s.2.2.1 s.2.2.2.1 s.2.2.2.2) (x0, (a1, ((0 : Int), ((((List.length x0) : Nat) : Int), (0 : Int)))))).bind fun x1 =>
  ((Ej x1)).bind fun x2 =>
  some x2
noncomputable def KN : Ent := ⟨G8, fun x => CQ x.1 x.2⟩
noncomputable def KD : TX := ⟨tyTab, codTab, [], [4], [BT, K3], G8⟩
set_option maxHeartbeats 2000000 in
theorem Sv (a0 : List (Int)) (a1 : List (Int)) : wtF KD Tryz.f165 (a0, a1) = CQ a0 a1 := by kernel_rfl
theorem Qe : EntOK RR KN := Ab (X := KD) ⟨tyOK, boolOK, eqOK⟩ (Ad (by exact ⟨⟨CY, rfl⟩, ⟨⟨Kp, rfl⟩, trivial⟩⟩)) (Ai (by kernel_rfl)) ⟨Tryz.func165, rfl, by kernel_rfl, rfl⟩ (fun x => by exact Sv x.1 x.2)
noncomputable def ED (a0 : (Bool × (List Int))) (a1 : (Bool × (List Int))) : Option ((Bool × List (Int))) :=
  bif (a0.1 == a1.1) then
    ((Dx a0.2 a1.2)).bind fun x0 =>
    ((AQ a0.1 x0)).bind fun x1 =>
    some (x1.2, x1.1)
  else
  ((AZ a0.2 a1.2)).bind fun x2 =>
  bif decide (x2 ≥ (0 : Int)) then
    ((CQ a0.2 a1.2)).bind fun x3 =>
    ((AQ a0.1 x3)).bind fun x4 =>
    some (x4.2, x4.1)
  else
  ((CQ a1.2 a0.2)).bind fun x5 =>
  ((AQ a1.1 x5)).bind fun x6 =>
  some (x6.2, x6.1)
noncomputable def ME : Ent := ⟨IT, fun x => ED x.1 x.2⟩
noncomputable def MJ : TX := ⟨tyTab, codTab, [], [4], [KR, De, CL, KN], IT⟩
set_option maxHeartbeats 2000000 in
theorem Vg (a0 : (Bool × List (Int))) (a1 : (Bool × List (Int))) : wtF MJ Tryz.f93 (a0, a1) = ED a0 a1 := by kernel_rfl
theorem SG : EntOK RR ME := Ab (X := MJ) ⟨tyOK, boolOK, eqOK⟩ (Ad (by exact ⟨⟨Qv, rfl⟩, ⟨⟨C5, rfl⟩, ⟨⟨Dy, rfl⟩, ⟨⟨Qe, rfl⟩, trivial⟩⟩⟩⟩)) (Ai (by kernel_rfl)) ⟨Tryz.func93, rfl, by kernel_rfl, rfl⟩ (fun x => by exact Vg x.1 x.2)
noncomputable def Dh (a0 : (Bool × (List Int))) : Option ((Bool × List (Int))) :=
  ((AQ (!a0.1) a0.2)).bind fun x0 =>
  some (x0.2, x0.1)
noncomputable def IK : Ent := ⟨HZ, fun x => Dh x⟩
noncomputable def MC : TX := ⟨tyTab, codTab, [], [4], [De], HZ⟩
set_option maxHeartbeats 2000000 in
theorem UD (a0 : (Bool × List (Int))) : wtF MC Tryz.f167 (a0) = Dh a0 := by kernel_rfl
theorem KZ : EntOK RR IK := Ab (X := MC) ⟨tyOK, boolOK, eqOK⟩ (Ad (by exact ⟨⟨C5, rfl⟩, trivial⟩)) (Ai (by kernel_rfl)) ⟨Tryz.func167, rfl, by kernel_rfl, rfl⟩ (fun x => by exact UD x)
noncomputable def Di (a0 : (Bool × (List Int))) (a1 : (Bool × (List Int))) : Option ((Bool × List (Int)) × (Bool × List (Int))) :=
  ((CI a0.2 a1.2)).bind fun x0 =>
  ((AQ (!(a0.1 == a1.1)) x0.1)).bind fun x1 =>
  ((AQ a0.1 x0.2)).bind fun x2 =>
  some ((x1.2, x1.1), (x2.2, x2.1))
noncomputable def M1 : Ent := ⟨IQ, fun x => Di x.1 x.2⟩
noncomputable def Mz : TX := ⟨tyTab, codTab, [], [4], [Ho, De], IQ⟩
set_option maxHeartbeats 2000000 in
theorem UW (a0 : (Bool × List (Int))) (a1 : (Bool × List (Int))) : wtF Mz Tryz.f185 (a0, a1) = Di a0 a1 := by kernel_rfl
theorem So : EntOK RR M1 := Ab (X := Mz) ⟨tyOK, boolOK, eqOK⟩ (Ad (by exact ⟨⟨JE, rfl⟩, ⟨⟨C5, rfl⟩, trivial⟩⟩)) (Ai (by kernel_rfl)) ⟨Tryz.func185, rfl, by kernel_rfl, rfl⟩ (fun x => by exact UW x.1 x.2)
noncomputable def Dj (a0 : (Bool × (List Int))) (a1 : (Bool × (List Int))) : Option ((Bool × List (Int) × Bool × List (Int))) :=
  ((Dk (a0.1, a0.2) (a1.1, a1.2))).bind fun x0 =>
  (bif a1.1 then
      ((Dh (x0.1, x0.2))).bind fun x1 =>
      some (Sum.inr ((a0.1, a0.2), ((a1.1, a1.2), ((false, ((List.nil : List Int), (false, (List.nil : List Int)))), (x1.1, x1.2)))))
    else
    some (Sum.inr ((a0.1, a0.2), ((a1.1, a1.2), ((false, ((List.nil : List Int), (false, (List.nil : List Int)))), (x0.1, x0.2)))))).bind fun x2 =>
  Sum.elim
    (fun x3 =>
    some x3)
    (fun x4 =>
    ((Di (x4.1.1, x4.1.2) (x4.2.2.2.1, x4.2.2.2.2))).bind fun x5 =>
    ((Di (x4.2.1.1, x4.2.1.2) (x4.2.2.2.1, x4.2.2.2.2))).bind fun x6 =>
    some (x5.1.1, (x5.1.2, (x6.1.1, x6.1.2))))
    x2
noncomputable def Gt : Ent := ⟨LK, fun x => Dj x.1 x.2⟩
noncomputable def QW : TX := ⟨tyTab, codTab, [], [4], [Ir, IK, M1], LK⟩
set_option maxHeartbeats 2000000 in
theorem XC (a0 : (Bool × List (Int))) (a1 : (Bool × List (Int))) : wtF QW Tryz.f137 (a0, a1) = Dj a0 a1 := by kernel_rfl
theorem Hv : EntOK RR Gt := Ab (X := QW) ⟨tyOK, boolOK, eqOK⟩ (Ad (by exact ⟨⟨Ks, rfl⟩, ⟨⟨KZ, rfl⟩, ⟨⟨So, rfl⟩, trivial⟩⟩⟩)) (Ai (by kernel_rfl)) ⟨Tryz.func137, rfl, by kernel_rfl, rfl⟩ (fun x => by exact XC x.1 x.2)
noncomputable def Dc (a0 : (Bool × ((List Int) × (Bool × (List Int))))) (a1 : (Bool × ((List Int) × (Bool × (List Int))))) : Option ((Bool × List (Int) × Bool × List (Int))) :=
  ((AN (a0.1, a0.2.1) (a1.2.2.1, a1.2.2.2))).bind fun x0 =>
  ((AN (a1.1, a1.2.1) (a0.2.2.1, a0.2.2.2))).bind fun x1 =>
  ((ED (x0.2, x0.1) (x1.2, x1.1))).bind fun x2 =>
  ((AN (a0.2.2.1, a0.2.2.2) (a1.2.2.1, a1.2.2.2))).bind fun x3 =>
  ((Dj (x2.1, x2.2) (x3.2, x3.1))).bind fun x4 =>
  some (x4.1, (x4.2.1, (x4.2.2.1, x4.2.2.2)))
noncomputable def Id : Ent := ⟨Io, fun x => Dc x.1 x.2⟩
noncomputable def Nj : TX := ⟨tyTab, codTab, [], [4], [Dv, ME, Gt], Io⟩
set_option maxHeartbeats 2000000 in
theorem Uf (a0 : (Bool × List (Int) × Bool × List (Int))) (a1 : (Bool × List (Int) × Bool × List (Int))) : wtF Nj Tryz.f120 (a0, a1) = Dc a0 a1 := by kernel_rfl
theorem KU : EntOK RR Id := Ab (X := Nj) ⟨tyOK, boolOK, eqOK⟩ (Ad (by exact ⟨⟨DR, rfl⟩, ⟨⟨SG, rfl⟩, ⟨⟨Hv, rfl⟩, trivial⟩⟩⟩)) (Ai (by kernel_rfl)) ⟨Tryz.func120, rfl, by kernel_rfl, rfl⟩ (fun x => by exact Uf x.1 x.2)
noncomputable def Cg (a0 : (Bool × ((List Int) × (Bool × (List Int))))) (a1 : Int) : Option (Bool) :=
  bif decide ((((List.length a0.2.1) : Nat) : Int) ≤ a1) then
    some (decide ((((List.length a0.2.2.2) : Nat) : Int) ≤ a1))
  else
  some false
noncomputable def HK : Ent := ⟨ET, fun x => Cg x.1 x.2⟩
noncomputable def HO : TX := ⟨tyTab, codTab, [], [4], [], ET⟩
set_option maxHeartbeats 2000000 in
theorem NM (a0 : (Bool × List (Int) × Bool × List (Int))) (a1 : Int) : wtF HO Tryz.f180 (a0, a1) = Cg a0 a1 := by kernel_rfl
theorem L0 : EntOK RR HK := Ab (X := HO) ⟨tyOK, boolOK, eqOK⟩ (Ad (by exact trivial)) (Ai (by kernel_rfl)) ⟨Tryz.func180, rfl, by kernel_rfl, rfl⟩ (fun x => by exact NM x.1 x.2)
noncomputable def Bj (a0 : (Bool × ((List Int) × (Bool × (List Int))))) : Option ((Bool × List (Int) × Bool × List (Int)) × Bool) :=
  ((Cg (a0.1, (a0.2.1, (a0.2.2.1, a0.2.2.2))) (40 : Int))).bind fun x0 =>
  bif (!x0) then
    some ((false, ((List.nil : List Int), (false, (List.nil : List Int)))), false)
  else
  some ((a0.1, (a0.2.1, (a0.2.2.1, a0.2.2.2))), true)
noncomputable def CF : Ent := ⟨FP, fun x => Bj x⟩
noncomputable def IY : TX := ⟨tyTab, codTab, [], [4], [HK], FP⟩
set_option maxHeartbeats 2000000 in
theorem Py (a0 : (Bool × List (Int) × Bool × List (Int))) : wtF IY Tryz.f119 (a0) = Bj a0 := by kernel_rfl
theorem C3 : EntOK RR CF := Ab (X := IY) ⟨tyOK, boolOK, eqOK⟩ (Ad (by exact ⟨⟨L0, rfl⟩, trivial⟩)) (Ai (by kernel_rfl)) ⟨Tryz.func119, rfl, by kernel_rfl, rfl⟩ (fun x => by exact Py x)
noncomputable def A2 (a0 : (Bool × ((List Int) × (Bool × (List Int))))) (a1 : (Bool × ((List Int) × (Bool × (List Int))))) : Option ((Bool × List (Int) × Bool × List (Int)) × Bool) :=
  ((Bk (List.cons ((a0.1, a0.2.1), (a0.2.2.1, a0.2.2.2)) (List.cons ((a1.1, a1.2.1), (a1.2.2.1, a1.2.2.2)) (List.nil : List ((Bool × (List Int)) × (Bool × (List Int)))))))).bind fun x0 =>
  bif (!x0) then
    some ((false, ((List.nil : List Int), (false, (List.nil : List Int)))), false)
  else
  ((Dc (a0.1, (a0.2.1, (a0.2.2.1, a0.2.2.2))) (a1.1, (a1.2.1, (a1.2.2.1, a1.2.2.2))))).bind fun x1 =>
  ((Bj (x1.1, (x1.2.1, (x1.2.2.1, x1.2.2.2))))).bind fun x2 =>
  some ((x2.1.1, (x2.1.2.1, (x2.1.2.2.1, x2.1.2.2.2))), x2.2)
noncomputable def PF : Ent := ⟨J2, fun x => A2 x.1 x.2⟩
noncomputable def Oa : TX := ⟨tyTab, codTab, [], [4], [Dq, Id, CF], J2⟩
set_option maxHeartbeats 2000000 in
theorem VH (a0 : (Bool × List (Int) × Bool × List (Int))) (a1 : (Bool × List (Int) × Bool × List (Int))) : wtF Oa Tryz.f47 (a0, a1) = A2 a0 a1 := by kernel_rfl
theorem Uy : EntOK RR PF := Ab (X := Oa) ⟨tyOK, boolOK, eqOK⟩ (Ad (by exact ⟨⟨DN, rfl⟩, ⟨⟨KU, rfl⟩, ⟨⟨C3, rfl⟩, trivial⟩⟩⟩)) (Ai (by kernel_rfl)) ⟨Tryz.func47, rfl, by kernel_rfl, rfl⟩ (fun x => by exact VH x.1 x.2)
noncomputable def BC (a0 : (Bool × ((List Int) × (Bool × (List Int))))) : Option (Bool) :=
  ((B3 (a0.1, a0.2.1))).bind fun x0 =>
  bif (!x0) then
    some false
  else
  ((B3 (a0.2.2.1, a0.2.2.2))).bind fun x1 =>
  bif (!x1) then
    some false
  else
  bif a0.2.2.1 then
    some false
  else
  bif ((((List.length a0.2.2.2) : Nat) : Int) == (0 : Int)) then
    some false
  else
  ((Ff a0.2.1 a0.2.2.2)).bind fun x2 =>
  ((AY x2 (List.cons (1 : Int) (List.nil : List Int)))).bind fun x3 =>
  some (x3 == (0 : Int))
noncomputable def Gb : Ent := ⟨HY, fun x => BC x⟩
noncomputable def Mu : TX := ⟨tyTab, codTab, [], [4], [It, Ms, Fo], HY⟩
set_option maxHeartbeats 2000000 in
theorem Ub (a0 : (Bool × List (Int) × Bool × List (Int))) : wtF Mu Tryz.f59 (a0) = BC a0 := by kernel_rfl
theorem Hi : EntOK RR Gb := Ab (X := Mu) ⟨tyOK, boolOK, eqOK⟩ (Ad (by exact ⟨⟨K2, rfl⟩, ⟨⟨PM, rfl⟩, ⟨⟨F0, rfl⟩, trivial⟩⟩⟩)) (Ai (by kernel_rfl)) ⟨Tryz.func59, rfl, by kernel_rfl, rfl⟩ (fun x => by exact Ub x)
noncomputable def BL (a0 : (Bool × ((List Int) × (Bool × (List Int))))) (a1 : (Bool × ((List Int) × (Bool × (List Int))))) : Option (Bool) :=
  ((BC (a0.1, (a0.2.1, (a0.2.2.1, a0.2.2.2))))).bind fun x0 =>
  bif x0 then
    ((BC (a1.1, (a1.2.1, (a1.2.2.1, a1.2.2.2))))).bind fun x1 =>
    some x1
  else
  some false
noncomputable def Ed : Ent := ⟨JK, fun x => BL x.1 x.2⟩
noncomputable def Ot : TX := ⟨tyTab, codTab, [], [4], [Gb], JK⟩
set_option maxHeartbeats 2000000 in
theorem Wz (a0 : (Bool × List (Int) × Bool × List (Int))) (a1 : (Bool × List (Int) × Bool × List (Int))) : wtF Ot Tryz.f121 (a0, a1) = BL a0 a1 := by kernel_rfl
theorem EM : EntOK RR Ed := Ab (X := Ot) ⟨tyOK, boolOK, eqOK⟩ (Ad (by exact ⟨⟨Hi, rfl⟩, trivial⟩)) (Ai (by kernel_rfl)) ⟨Tryz.func121, rfl, by kernel_rfl, rfl⟩ (fun x => by exact Wz x.1 x.2)
noncomputable def BV (s0 : (List Int)) (s1 : (List Int)) (s2 : Int) (s3 : Int) (s4 : Int) (s5 : Int) (s6 : (List Int)) (s7 : Int) (s8 : Int) : Option (((List Int) × ((List Int) × (Int × (Int × (Int × (Int × ((List Int) × (Int × Int)))))))) ⊕ ((List Int) × ((List Int) × ((List Int) × (Int × Int))))) :=
  (bif decide (s5 < (((List.length s1) : Nat) : Int)) then
      some (Sum.inr (s0, (s1, (s2, (s3, (s4, (s5, (s6, (s7, s8)))))))))
    else
    bif decide (s4 > (0 : Int)) then
      some (Sum.inr (s0, (s1, (s2, (s3, (s4, (s5, (s6, (s7, s8)))))))))
    else
    some (Sum.inl (Sum.inr (s0, (s1, (s6, (s7, s8))))))).bind fun x0 =>
  Sum.elim
    (fun x1 =>
    some x1)
    (fun x2 =>
    ((idxI (Go.IntKind.wrap Go.IntKind.i64 (x2.2.2.1 + x2.2.2.2.2.2.1)) (List.length x2.1))).bind fun x3 =>
    ((getN x2.1 x3)).bind fun x4 =>
    ((Bh x2.2.1 x2.2.2.2.2.2.1)).bind fun x5 =>
    ((idxI (Go.IntKind.wrap Go.IntKind.i64 (x2.2.2.1 + x2.2.2.2.2.2.1)) (List.length x2.1))).bind fun x6 =>
    ((getN x2.1 x6)).bind fun x7 =>
    some (Sum.inl ((List.set x2.1 x6 (Int.tmod (Go.IntKind.wrap Go.IntKind.i64 ((Go.IntKind.wrap Go.IntKind.i64 (x4 + (Go.IntKind.wrap Go.IntKind.i64 (x2.2.2.2.1 * x5)))) + x2.2.2.2.2.1)) (65536 : Int))), (x2.2.1, (x2.2.2.1, (x2.2.2.2.1, ((Go.IntKind.wrap Go.IntKind.i64 (Int.tdiv (Go.IntKind.wrap Go.IntKind.i64 ((Go.IntKind.wrap Go.IntKind.i64 (x4 + (Go.IntKind.wrap Go.IntKind.i64 (x2.2.2.2.1 * x5)))) + x2.2.2.2.2.1)) (65536 : Int))), ((Go.IntKind.wrap Go.IntKind.i64 (x2.2.2.2.2.2.1 + (1 : Int))), (x2.2.2.2.2.2.2.1, (x2.2.2.2.2.2.2.2.1, x2.2.2.2.2.2.2.2.2))))))))))
    x0
noncomputable def CO (s0 : (List Int)) (s1 : (List Int)) (s2 : (List Int)) (s3 : Int) (s4 : Int) : Option (((List Int) × ((List Int) × ((List Int) × (Int × Int)))) ⊕ (List Int)) :=
  bif decide (s4 < s3) then
    ((getI s2 s4)).bind fun x0 =>
    (loopM (fun (s : ((List Int) × ((List Int) × (Int × (Int × (Int × (Int × ((List Int) × (Int × Int))))))))) => BV s.1 s.2.1 s.2.2.1 s.2.2.2.1 s.2.2.2.2.1 s.2.2.2.2.2.1 s.2.2.2.2.2.2.1 s.2.2.2.2.2.2.2.1 s.2.2.2.2.2.2.2.2) (s0, (s1, (s4, (x0, ((0 : Int), ((0 : Int), (s2, (s3, s4))))))))).bind fun x1 =>
    some (Sum.inl (x1.1, (x1.2.1, (x1.2.2.1, (x1.2.2.2.1, (Go.IntKind.wrap Go.IntKind.i64 (x1.2.2.2.2 + (1 : Int))))))))
  else
  some (Sum.inr s0)
noncomputable def CC (a0 : (List Int)) (a1 : (List Int)) : Option (List (Int)) :=
  ((lenI (Go.IntKind.wrap Go.IntKind.i64 ((Go.IntKind.wrap Go.IntKind.i64 ((((List.length a0) : Nat) : Int) + (((List.length a1) : Nat) : Int))) + (1 : Int))) 8 1)).bind fun x0 =>
  (loopM (fun (s : ((List Int) × ((List Int) × ((List Int) × (Int × Int))))) => CO s.1 s.2.1 s.2.2.1 s.2.2.2.1 s.2.2.2.2) ((List.replicate x0 (0 : Int)), (a1, (a0, ((((List.length a0) : Nat) : Int), (0 : Int)))))).bind fun x1 =>
  ((Bc x1)).bind fun x2 =>
  some x2
noncomputable def I0 : Ent := ⟨FB, fun x => CC x.1 x.2⟩
noncomputable def IC : TX := ⟨tyTab, codTab, [], [4], [Cw, Dd], FB⟩
set_option maxHeartbeats 2000000 in
theorem P2 (a0 : List (Int)) (a1 : List (Int)) : wtF IC Tryz.f116 (a0, a1) = CC a0 a1 := by kernel_rfl
theorem NI : EntOK RR I0 := Ab (X := IC) ⟨tyOK, boolOK, eqOK⟩ (Ad (by exact ⟨⟨CA, rfl⟩, ⟨⟨Db, rfl⟩, trivial⟩⟩)) (Ai (by kernel_rfl)) ⟨Tryz.func116, rfl, by kernel_rfl, rfl⟩ (fun x => by exact P2 x.1 x.2)
noncomputable def Bo (a0 : (Bool × (List Int))) (a1 : (Bool × (List Int))) : Option ((Bool × List (Int))) :=
  ((CC a0.2 a1.2)).bind fun x0 =>
  ((AE (!(a0.1 == a1.1)) x0)).bind fun x1 =>
  some (x1.2, x1.1)
noncomputable def GS : Ent := ⟨Ma, fun x => Bo x.1 x.2⟩
noncomputable def QF : TX := ⟨tyTab, codTab, [], [4], [I0, Cb], Ma⟩
set_option maxHeartbeats 2000000 in
theorem X7 (a0 : (Bool × List (Int))) (a1 : (Bool × List (Int))) : wtF QF Tryz.f181 (a0, a1) = Bo a0 a1 := by kernel_rfl
theorem G9 : EntOK RR GS := Ab (X := QF) ⟨tyOK, boolOK, eqOK⟩ (Ad (by exact ⟨⟨NI, rfl⟩, ⟨⟨B5, rfl⟩, trivial⟩⟩)) (Ai (by kernel_rfl)) ⟨Tryz.func181, rfl, by kernel_rfl, rfl⟩ (fun x => by exact X7 x.1 x.2)
noncomputable def B0 (s0 : (List Int)) (s1 : (List Int)) (s2 : (List Int)) (s3 : Int) (s4 : Int) : Option (((List Int) × ((List Int) × ((List Int) × (Int × Int)))) ⊕ (List Int)) :=
  (bif decide (s4 < (((List.length s1) : Nat) : Int)) then
      some (Sum.inr (s0, (s1, (s2, (s3, s4)))))
    else
    bif decide (s4 < (((List.length s2) : Nat) : Int)) then
      some (Sum.inr (s0, (s1, (s2, (s3, s4)))))
    else
    bif decide (s3 > (0 : Int)) then
      some (Sum.inr (s0, (s1, (s2, (s3, s4)))))
    else
    some (Sum.inl (Sum.inr s0))).bind fun x0 =>
  Sum.elim
    (fun x1 =>
    some x1)
    (fun x2 =>
    ((Bh x2.2.1 x2.2.2.2.2)).bind fun x3 =>
    ((Bh x2.2.2.1 x2.2.2.2.2)).bind fun x4 =>
    ((appL 8 1 x2.1 (List.cons (Int.tmod (Go.IntKind.wrap Go.IntKind.i64 ((Go.IntKind.wrap Go.IntKind.i64 (x3 + x4)) + x2.2.2.2.1)) (65536 : Int)) (List.nil : List Int)))).bind fun x5 =>
    some (Sum.inl (x5, (x2.2.1, (x2.2.2.1, ((Go.IntKind.wrap Go.IntKind.i64 (Int.tdiv (Go.IntKind.wrap Go.IntKind.i64 ((Go.IntKind.wrap Go.IntKind.i64 (x3 + x4)) + x2.2.2.2.1)) (65536 : Int))), (Go.IntKind.wrap Go.IntKind.i64 (x2.2.2.2.2 + (1 : Int)))))))))
    x0
noncomputable def CH (a0 : (List Int)) (a1 : (List Int)) : Option (List (Int)) :=
  (loopM (fun (s : ((List Int) × ((List Int) × ((List Int) × (Int × Int))))) => B0 s.1 s.2.1 s.2.2.1 s.2.2.2.1 s.2.2.2.2) ((List.nil : List Int), (a0, (a1, ((0 : Int), (0 : Int)))))).bind fun x0 =>
  some x0
noncomputable def IA : Ent := ⟨FH, fun x => CH x.1 x.2⟩
noncomputable def I2 : TX := ⟨tyTab, codTab, [], [4], [Cw], FH⟩
set_option maxHeartbeats 2000000 in
theorem O2 (a0 : List (Int)) (a1 : List (Int)) : wtF I2 Tryz.f115 (a0, a1) = CH a0 a1 := by kernel_rfl
theorem NE : EntOK RR IA := Ab (X := I2) ⟨tyOK, boolOK, eqOK⟩ (Ad (by exact ⟨⟨CA, rfl⟩, trivial⟩)) (Ai (by kernel_rfl)) ⟨Tryz.func115, rfl, by kernel_rfl, rfl⟩ (fun x => by exact O2 x.1 x.2)
noncomputable def CN (s0 : (List Int)) (s1 : (List Int)) (s2 : (List Int)) (s3 : Int) (s4 : Int) (s5 : Int) : Option (((List Int) × ((List Int) × ((List Int) × (Int × (Int × Int))))) ⊕ (List Int)) :=
  bif decide (s5 < s4) then
    ((getI s1 s5)).bind fun x0 =>
    ((Bh s2 s5)).bind fun x1 =>
    bif decide ((Go.IntKind.wrap Go.IntKind.i64 ((Go.IntKind.wrap Go.IntKind.i64 (x0 - x1)) - s3)) < (0 : Int)) then
      ((appL 8 1 s0 (List.cons (Go.IntKind.wrap Go.IntKind.i64 ((Go.IntKind.wrap Go.IntKind.i64 ((Go.IntKind.wrap Go.IntKind.i64 (x0 - x1)) - s3)) + (65536 : Int))) (List.nil : List Int)))).bind fun x2 =>
      some (Sum.inl (x2, (s1, (s2, ((1 : Int), (s4, (Go.IntKind.wrap Go.IntKind.i64 (s5 + (1 : Int)))))))))
    else
    ((appL 8 1 s0 (List.cons (Go.IntKind.wrap Go.IntKind.i64 ((Go.IntKind.wrap Go.IntKind.i64 (x0 - x1)) - s3)) (List.nil : List Int)))).bind fun x3 =>
    some (Sum.inl (x3, (s1, (s2, ((0 : Int), (s4, (Go.IntKind.wrap Go.IntKind.i64 (s5 + (1 : Int)))))))))
  else
  some (Sum.inr s0)
noncomputable def BS (a0 : (List Int)) (a1 : (List Int)) : Option (List (Int)) :=
  (loopM (fun (s : ((List Int) × ((List Int) × ((List Int) × (Int × (Int × Int)))))) => CN s.1 s.2.1 s.2.2.1 s.2.2.2.1 s.2.2.2.2.1 s.2.2.2.2.2) ((List.nil : List Int), (a0, (a1, ((0 : Int), ((((List.length a0) : Nat) : Int), (0 : Int))))))).bind fun x0 =>
  ((Bc x0)).bind fun x1 =>
  some x1
noncomputable def IM : Ent := ⟨Fv, fun x => BS x.1 x.2⟩
noncomputable def Iv : TX := ⟨tyTab, codTab, [], [4], [Cw, Dd], Fv⟩
set_option maxHeartbeats 2000000 in
theorem PO (a0 : List (Int)) (a1 : List (Int)) : wtF Iv Tryz.f166 (a0, a1) = BS a0 a1 := by kernel_rfl
theorem NO : EntOK RR IM := Ab (X := Iv) ⟨tyOK, boolOK, eqOK⟩ (Ad (by exact ⟨⟨CA, rfl⟩, ⟨⟨Db, rfl⟩, trivial⟩⟩)) (Ai (by kernel_rfl)) ⟨Tryz.func166, rfl, by kernel_rfl, rfl⟩ (fun x => by exact PO x.1 x.2)
noncomputable def Gs (a0 : (Bool × (List Int))) (a1 : (Bool × (List Int))) : Option ((Bool × List (Int))) :=
  bif (a0.1 == a1.1) then
    ((CH a0.2 a1.2)).bind fun x0 =>
    ((AE a0.1 x0)).bind fun x1 =>
    some (x1.2, x1.1)
  else
  ((AY a0.2 a1.2)).bind fun x2 =>
  bif decide (x2 ≥ (0 : Int)) then
    ((BS a0.2 a1.2)).bind fun x3 =>
    ((AE a0.1 x3)).bind fun x4 =>
    some (x4.2, x4.1)
  else
  ((BS a1.2 a0.2)).bind fun x5 =>
  ((AE a1.1 x5)).bind fun x6 =>
  some (x6.2, x6.1)
noncomputable def QJ : Ent := ⟨LM, fun x => Gs x.1 x.2⟩
noncomputable def QI : TX := ⟨tyTab, codTab, [], [4], [IA, Cb, Fo, IM], LM⟩
set_option maxHeartbeats 2000000 in
theorem Yx (a0 : (Bool × List (Int))) (a1 : (Bool × List (Int))) : wtF QI Tryz.f95 (a0, a1) = Gs a0 a1 := by kernel_rfl
theorem VQ : EntOK RR QJ := Ab (X := QI) ⟨tyOK, boolOK, eqOK⟩ (Ad (by exact ⟨⟨NE, rfl⟩, ⟨⟨B5, rfl⟩, ⟨⟨F0, rfl⟩, ⟨⟨NO, rfl⟩, trivial⟩⟩⟩⟩)) (Ai (by kernel_rfl)) ⟨Tryz.func95, rfl, by kernel_rfl, rfl⟩ (fun x => by exact Yx x.1 x.2)
noncomputable def Fj (a0 : (Bool × ((List Int) × (Bool × (List Int))))) (a1 : (Bool × ((List Int) × (Bool × (List Int))))) : Option ((Bool × List (Int) × Bool × List (Int))) :=
  ((Bo (a0.1, a0.2.1) (a1.2.2.1, a1.2.2.2))).bind fun x0 =>
  ((Bo (a1.1, a1.2.1) (a0.2.2.1, a0.2.2.2))).bind fun x1 =>
  ((Gs (x0.1, x0.2) (x1.1, x1.2))).bind fun x2 =>
  ((Bo (a0.2.2.1, a0.2.2.2) (a1.2.2.1, a1.2.2.2))).bind fun x3 =>
  ((B9 (x2.1, x2.2) (x3.1, x3.2))).bind fun x4 =>
  some (x4.1, (x4.2.1, (x4.2.2.1, x4.2.2.2)))
noncomputable def LR : Ent := ⟨Ly, fun x => Fj x.1 x.2⟩
noncomputable def QY : TX := ⟨tyTab, codTab, [], [4], [GS, QJ, D5], Ly⟩
set_option maxHeartbeats 2000000 in
theorem X8 (a0 : (Bool × List (Int) × Bool × List (Int))) (a1 : (Bool × List (Int) × Bool × List (Int))) : wtF QY Tryz.f123 (a0, a1) = Fj a0 a1 := by kernel_rfl
theorem P5 : EntOK RR LR := Ab (X := QY) ⟨tyOK, boolOK, eqOK⟩ (Ad (by exact ⟨⟨G9, rfl⟩, ⟨⟨VQ, rfl⟩, ⟨⟨EK, rfl⟩, trivial⟩⟩⟩)) (Ai (by kernel_rfl)) ⟨Tryz.func123, rfl, by kernel_rfl, rfl⟩ (fun x => by exact X8 x.1 x.2)
noncomputable def CB (a0 : (Bool × ((List Int) × (Bool × (List Int))))) : Option ((Bool × List (Int) × Bool × List (Int)) × Bool) :=
  bif decide ((((List.length a0.2.1) : Nat) : Int) > (40 : Int)) then
    some ((false, ((List.nil : List Int), (false, (List.nil : List Int)))), false)
  else
  bif decide ((((List.length a0.2.2.2) : Nat) : Int) > (40 : Int)) then
    some ((false, ((List.nil : List Int), (false, (List.nil : List Int)))), false)
  else
  ((AE a0.1 a0.2.1)).bind fun x0 =>
  ((AE false a0.2.2.2)).bind fun x1 =>
  some ((x0.2, (x0.1, (x1.2, x1.1))), true)
noncomputable def FR : Ent := ⟨JS, fun x => CB x⟩
noncomputable def Om : TX := ⟨tyTab, codTab, [], [4], [Cb], JS⟩
set_option maxHeartbeats 2000000 in
theorem VD (a0 : (Bool × List (Int) × Bool × List (Int))) : wtF Om Tryz.f122 (a0) = CB a0 := by kernel_rfl
theorem Ga : EntOK RR FR := Ab (X := Om) ⟨tyOK, boolOK, eqOK⟩ (Ad (by exact ⟨⟨B5, rfl⟩, trivial⟩)) (Ai (by kernel_rfl)) ⟨Tryz.func122, rfl, by kernel_rfl, rfl⟩ (fun x => by exact VD x)
noncomputable def Ca (a0 : (Bool × ((List Int) × (Bool × (List Int))))) (a1 : (Bool × ((List Int) × (Bool × (List Int))))) : Option ((Bool × List (Int) × Bool × List (Int)) × Bool) :=
  ((BL (a0.1, (a0.2.1, (a0.2.2.1, a0.2.2.2))) (a1.1, (a1.2.1, (a1.2.2.1, a1.2.2.2))))).bind fun x0 =>
  bif (!x0) then
    some ((false, ((List.nil : List Int), (false, (List.nil : List Int)))), false)
  else
  ((Fj (a0.1, (a0.2.1, (a0.2.2.1, a0.2.2.2))) (a1.1, (a1.2.1, (a1.2.2.1, a1.2.2.2))))).bind fun x1 =>
  ((CB (x1.1, (x1.2.1, (x1.2.2.1, x1.2.2.2))))).bind fun x2 =>
  some ((x2.1.1, (x2.1.2.1, (x2.1.2.2.1, x2.1.2.2.2))), x2.2)
noncomputable def PG : Ent := ⟨JJ, fun x => Ca x.1 x.2⟩
noncomputable def Pf : TX := ⟨tyTab, codTab, [], [4], [Ed, LR, FR], JJ⟩
set_option maxHeartbeats 2000000 in
theorem Vo (a0 : (Bool × List (Int) × Bool × List (Int))) (a1 : (Bool × List (Int) × Bool × List (Int))) : wtF Pf Tryz.f48 (a0, a1) = Ca a0 a1 := by kernel_rfl
theorem Ux : EntOK RR PG := Ab (X := Pf) ⟨tyOK, boolOK, eqOK⟩ (Ad (by exact ⟨⟨EM, rfl⟩, ⟨⟨P5, rfl⟩, ⟨⟨Ga, rfl⟩, trivial⟩⟩⟩)) (Ai (by kernel_rfl)) ⟨Tryz.func48, rfl, by kernel_rfl, rfl⟩ (fun x => by exact Vo x.1 x.2)
noncomputable def Eu (a0 : (Bool × ((List Int) × (Bool × (List Int))))) : Option ((Bool × List (Int) × Bool × List (Int))) :=
  ((Dh (a0.1, a0.2.1))).bind fun x0 =>
  ((AQ false a0.2.2.2)).bind fun x1 =>
  some (x0.1, (x0.2, (x1.2, x1.1)))
noncomputable def M0 : Ent := ⟨Ic, fun x => Eu x⟩
noncomputable def Mv : TX := ⟨tyTab, codTab, [], [4], [IK, De], Ic⟩
set_option maxHeartbeats 2000000 in
theorem Tz (a0 : (Bool × List (Int) × Bool × List (Int))) : wtF Mv Tryz.f182 (a0) = Eu a0 := by kernel_rfl
theorem Sq : EntOK RR M0 := Ab (X := Mv) ⟨tyOK, boolOK, eqOK⟩ (Ad (by exact ⟨⟨KZ, rfl⟩, ⟨⟨C5, rfl⟩, trivial⟩⟩)) (Ai (by kernel_rfl)) ⟨Tryz.func182, rfl, by kernel_rfl, rfl⟩ (fun x => by exact Tz x)
noncomputable def EF (a0 : (Bool × ((List Int) × (Bool × (List Int))))) (a1 : (Bool × ((List Int) × (Bool × (List Int))))) : Option ((Bool × List (Int) × Bool × List (Int))) :=
  ((Eu (a1.1, (a1.2.1, (a1.2.2.1, a1.2.2.2))))).bind fun x0 =>
  ((Dc (a0.1, (a0.2.1, (a0.2.2.1, a0.2.2.2))) (x0.1, (x0.2.1, (x0.2.2.1, x0.2.2.2))))).bind fun x1 =>
  some (x1.1, (x1.2.1, (x1.2.2.1, x1.2.2.2)))
noncomputable def MR : Ent := ⟨H7, fun x => EF x.1 x.2⟩
noncomputable def ML : TX := ⟨tyTab, codTab, [], [4], [M0, Id], H7⟩
set_option maxHeartbeats 2000000 in
theorem TD (a0 : (Bool × List (Int) × Bool × List (Int))) (a1 : (Bool × List (Int) × Bool × List (Int))) : wtF ML Tryz.f124 (a0, a1) = EF a0 a1 := by kernel_rfl
theorem SO : EntOK RR MR := Ab (X := ML) ⟨tyOK, boolOK, eqOK⟩ (Ad (by exact ⟨⟨Sq, rfl⟩, ⟨⟨KU, rfl⟩, trivial⟩⟩)) (Ai (by kernel_rfl)) ⟨Tryz.func124, rfl, by kernel_rfl, rfl⟩ (fun x => by exact TD x.1 x.2)
noncomputable def A6 (a0 : (Bool × ((List Int) × (Bool × (List Int))))) (a1 : (Bool × ((List Int) × (Bool × (List Int))))) : Option ((Bool × List (Int) × Bool × List (Int)) × Bool) :=
  ((Bk (List.cons ((a0.1, a0.2.1), (a0.2.2.1, a0.2.2.2)) (List.cons ((a1.1, a1.2.1), (a1.2.2.1, a1.2.2.2)) (List.nil : List ((Bool × (List Int)) × (Bool × (List Int)))))))).bind fun x0 =>
  bif (!x0) then
    some ((false, ((List.nil : List Int), (false, (List.nil : List Int)))), false)
  else
  ((EF (a0.1, (a0.2.1, (a0.2.2.1, a0.2.2.2))) (a1.1, (a1.2.1, (a1.2.2.1, a1.2.2.2))))).bind fun x1 =>
  ((Bj (x1.1, (x1.2.1, (x1.2.2.1, x1.2.2.2))))).bind fun x2 =>
  some ((x2.1.1, (x2.1.2.1, (x2.1.2.2.1, x2.1.2.2.2))), x2.2)
noncomputable def PU : Ent := ⟨Kk, fun x => A6 x.1 x.2⟩
noncomputable def Ol : TX := ⟨tyTab, codTab, [], [4], [Dq, MR, CF], Kk⟩
set_option maxHeartbeats 2000000 in
theorem V6 (a0 : (Bool × List (Int) × Bool × List (Int))) (a1 : (Bool × List (Int) × Bool × List (Int))) : wtF Ol Tryz.f49 (a0, a1) = A6 a0 a1 := by kernel_rfl
theorem UO : EntOK RR PU := Ab (X := Ol) ⟨tyOK, boolOK, eqOK⟩ (Ad (by exact ⟨⟨DN, rfl⟩, ⟨⟨SO, rfl⟩, ⟨⟨C3, rfl⟩, trivial⟩⟩⟩)) (Ai (by kernel_rfl)) ⟨Tryz.func49, rfl, by kernel_rfl, rfl⟩ (fun x => by exact V6 x.1 x.2)
noncomputable def Gq (a0 : (Bool × ((List Int) × (Bool × (List Int))))) : Option ((Bool × List (Int) × Bool × List (Int))) :=
  ((Ee (a0.1, a0.2.1))).bind fun x0 =>
  some (x0.1, (x0.2, (a0.2.2.1, a0.2.2.2)))
noncomputable def RL : Ent := ⟨Mq, fun x => Gq x⟩
noncomputable def RQ : TX := ⟨tyTab, codTab, [], [4], [Mb], Mq⟩
set_option maxHeartbeats 2000000 in
theorem Xq (a0 : (Bool × List (Int) × Bool × List (Int))) : wtF RQ Tryz.f183 (a0) = Gq a0 := by kernel_rfl
theorem Vu : EntOK RR RL := Ab (X := RQ) ⟨tyOK, boolOK, eqOK⟩ (Ad (by exact ⟨⟨OI, rfl⟩, trivial⟩)) (Ai (by kernel_rfl)) ⟨Tryz.func183, rfl, by kernel_rfl, rfl⟩ (fun x => by exact Xq x)
noncomputable def GQ (a0 : (Bool × ((List Int) × (Bool × (List Int))))) (a1 : (Bool × ((List Int) × (Bool × (List Int))))) : Option ((Bool × List (Int) × Bool × List (Int))) :=
  ((Gq (a1.1, (a1.2.1, (a1.2.2.1, a1.2.2.2))))).bind fun x0 =>
  ((Fj (a0.1, (a0.2.1, (a0.2.2.1, a0.2.2.2))) (x0.1, (x0.2.1, (x0.2.2.1, x0.2.2.2))))).bind fun x1 =>
  some (x1.1, (x1.2.1, (x1.2.2.1, x1.2.2.2)))
noncomputable def QU : Ent := ⟨LO, fun x => GQ x.1 x.2⟩
noncomputable def Rl : TX := ⟨tyTab, codTab, [], [4], [RL, LR], LO⟩
set_option maxHeartbeats 2000000 in
theorem X6 (a0 : (Bool × List (Int) × Bool × List (Int))) (a1 : (Bool × List (Int) × Bool × List (Int))) : wtF Rl Tryz.f125 (a0, a1) = GQ a0 a1 := by kernel_rfl
theorem Vm : EntOK RR QU := Ab (X := Rl) ⟨tyOK, boolOK, eqOK⟩ (Ad (by exact ⟨⟨Vu, rfl⟩, ⟨⟨P5, rfl⟩, trivial⟩⟩)) (Ai (by kernel_rfl)) ⟨Tryz.func125, rfl, by kernel_rfl, rfl⟩ (fun x => by exact X6 x.1 x.2)
noncomputable def B7 (a0 : (Bool × ((List Int) × (Bool × (List Int))))) (a1 : (Bool × ((List Int) × (Bool × (List Int))))) : Option ((Bool × List (Int) × Bool × List (Int)) × Bool) :=
  ((BL (a0.1, (a0.2.1, (a0.2.2.1, a0.2.2.2))) (a1.1, (a1.2.1, (a1.2.2.1, a1.2.2.2))))).bind fun x0 =>
  bif (!x0) then
    some ((false, ((List.nil : List Int), (false, (List.nil : List Int)))), false)
  else
  ((GQ (a0.1, (a0.2.1, (a0.2.2.1, a0.2.2.2))) (a1.1, (a1.2.1, (a1.2.2.1, a1.2.2.2))))).bind fun x1 =>
  ((CB (x1.1, (x1.2.1, (x1.2.2.1, x1.2.2.2))))).bind fun x2 =>
  some ((x2.1.1, (x2.1.2.1, (x2.1.2.2.1, x2.1.2.2.2))), x2.2)
noncomputable def N5 : Ent := ⟨JY, fun x => B7 x.1 x.2⟩
noncomputable def Pv : TX := ⟨tyTab, codTab, [], [4], [Ed, QU, FR], JY⟩
set_option maxHeartbeats 2000000 in
theorem WA (a0 : (Bool × List (Int) × Bool × List (Int))) (a1 : (Bool × List (Int) × Bool × List (Int))) : wtF Pv Tryz.f50 (a0, a1) = B7 a0 a1 := by kernel_rfl
theorem T3 : EntOK RR N5 := Ab (X := Pv) ⟨tyOK, boolOK, eqOK⟩ (Ad (by exact ⟨⟨EM, rfl⟩, ⟨⟨Vm, rfl⟩, ⟨⟨Ga, rfl⟩, trivial⟩⟩⟩)) (Ai (by kernel_rfl)) ⟨Tryz.func50, rfl, by kernel_rfl, rfl⟩ (fun x => by exact WA x.1 x.2)
noncomputable def EE (a0 : (Bool × ((List Int) × (Bool × (List Int))))) (a1 : (Bool × ((List Int) × (Bool × (List Int))))) : Option ((Bool × List (Int) × Bool × List (Int))) :=
  ((AN (a0.1, a0.2.1) (a1.1, a1.2.1))).bind fun x0 =>
  ((AN (a0.2.2.1, a0.2.2.2) (a1.2.2.1, a1.2.2.2))).bind fun x1 =>
  ((Dj (x0.2, x0.1) (x1.2, x1.1))).bind fun x2 =>
  some (x2.1, (x2.2.1, (x2.2.2.1, x2.2.2.2)))
noncomputable def Nm : Ent := ⟨IE, fun x => EE x.1 x.2⟩
noncomputable def Ns : TX := ⟨tyTab, codTab, [], [4], [Dv, Gt], IE⟩
set_option maxHeartbeats 2000000 in
theorem Uz (a0 : (Bool × List (Int) × Bool × List (Int))) (a1 : (Bool × List (Int) × Bool × List (Int))) : wtF Ns Tryz.f126 (a0, a1) = EE a0 a1 := by kernel_rfl
theorem Ss : EntOK RR Nm := Ab (X := Ns) ⟨tyOK, boolOK, eqOK⟩ (Ad (by exact ⟨⟨DR, rfl⟩, ⟨⟨Hv, rfl⟩, trivial⟩⟩)) (Ai (by kernel_rfl)) ⟨Tryz.func126, rfl, by kernel_rfl, rfl⟩ (fun x => by exact Uz x.1 x.2)
noncomputable def AM (a0 : (Bool × ((List Int) × (Bool × (List Int))))) (a1 : (Bool × ((List Int) × (Bool × (List Int))))) : Option ((Bool × List (Int) × Bool × List (Int)) × Bool) :=
  ((Bk (List.cons ((a0.1, a0.2.1), (a0.2.2.1, a0.2.2.2)) (List.cons ((a1.1, a1.2.1), (a1.2.2.1, a1.2.2.2)) (List.nil : List ((Bool × (List Int)) × (Bool × (List Int)))))))).bind fun x0 =>
  bif (!x0) then
    some ((false, ((List.nil : List Int), (false, (List.nil : List Int)))), false)
  else
  ((EE (a0.1, (a0.2.1, (a0.2.2.1, a0.2.2.2))) (a1.1, (a1.2.1, (a1.2.2.1, a1.2.2.2))))).bind fun x1 =>
  ((Bj (x1.1, (x1.2.1, (x1.2.2.1, x1.2.2.2))))).bind fun x2 =>
  some ((x2.1.1, (x2.1.2.1, (x2.1.2.2.1, x2.1.2.2.2))), x2.2)
noncomputable def Ps : Ent := ⟨JR, fun x => AM x.1 x.2⟩
noncomputable def Oo : TX := ⟨tyTab, codTab, [], [4], [Dq, Nm, CF], JR⟩
set_option maxHeartbeats 2000000 in
theorem VV (a0 : (Bool × List (Int) × Bool × List (Int))) (a1 : (Bool × List (Int) × Bool × List (Int))) : wtF Oo Tryz.f51 (a0, a1) = AM a0 a1 := by kernel_rfl
theorem U8 : EntOK RR Ps := Ab (X := Oo) ⟨tyOK, boolOK, eqOK⟩ (Ad (by exact ⟨⟨DN, rfl⟩, ⟨⟨Ss, rfl⟩, ⟨⟨C3, rfl⟩, trivial⟩⟩⟩)) (Ai (by kernel_rfl)) ⟨Tryz.func51, rfl, by kernel_rfl, rfl⟩ (fun x => by exact VV x.1 x.2)
noncomputable def GF (a0 : (Bool × ((List Int) × (Bool × (List Int))))) (a1 : (Bool × ((List Int) × (Bool × (List Int))))) : Option ((Bool × List (Int) × Bool × List (Int))) :=
  ((Bo (a0.1, a0.2.1) (a1.1, a1.2.1))).bind fun x0 =>
  ((Bo (a0.2.2.1, a0.2.2.2) (a1.2.2.1, a1.2.2.2))).bind fun x1 =>
  ((B9 (x0.1, x0.2) (x1.1, x1.2))).bind fun x2 =>
  some (x2.1, (x2.2.1, (x2.2.2.1, x2.2.2.2)))
noncomputable def Q1 : Ent := ⟨Lu, fun x => GF x.1 x.2⟩
noncomputable def Rd : TX := ⟨tyTab, codTab, [], [4], [GS, D5], Lu⟩
set_option maxHeartbeats 2000000 in
theorem Yc (a0 : (Bool × List (Int) × Bool × List (Int))) (a1 : (Bool × List (Int) × Bool × List (Int))) : wtF Rd Tryz.f127 (a0, a1) = GF a0 a1 := by kernel_rfl
theorem Wd : EntOK RR Q1 := Ab (X := Rd) ⟨tyOK, boolOK, eqOK⟩ (Ad (by exact ⟨⟨G9, rfl⟩, ⟨⟨EK, rfl⟩, trivial⟩⟩)) (Ai (by kernel_rfl)) ⟨Tryz.func127, rfl, by kernel_rfl, rfl⟩ (fun x => by exact Yc x.1 x.2)
noncomputable def B6 (a0 : (Bool × ((List Int) × (Bool × (List Int))))) (a1 : (Bool × ((List Int) × (Bool × (List Int))))) : Option ((Bool × List (Int) × Bool × List (Int)) × Bool) :=
  ((BL (a0.1, (a0.2.1, (a0.2.2.1, a0.2.2.2))) (a1.1, (a1.2.1, (a1.2.2.1, a1.2.2.2))))).bind fun x0 =>
  bif (!x0) then
    some ((false, ((List.nil : List Int), (false, (List.nil : List Int)))), false)
  else
  ((GF (a0.1, (a0.2.1, (a0.2.2.1, a0.2.2.2))) (a1.1, (a1.2.1, (a1.2.2.1, a1.2.2.2))))).bind fun x1 =>
  ((CB (x1.1, (x1.2.1, (x1.2.2.1, x1.2.2.2))))).bind fun x2 =>
  some ((x2.1.1, (x2.1.2.1, (x2.1.2.2.1, x2.1.2.2.2))), x2.2)
noncomputable def O1 : Ent := ⟨JP, fun x => B6 x.1 x.2⟩
noncomputable def PR : TX := ⟨tyTab, codTab, [], [4], [Ed, Q1, FR], JP⟩
set_option maxHeartbeats 2000000 in
theorem VP (a0 : (Bool × List (Int) × Bool × List (Int))) (a1 : (Bool × List (Int) × Bool × List (Int))) : wtF PR Tryz.f52 (a0, a1) = B6 a0 a1 := by kernel_rfl
theorem T4 : EntOK RR O1 := Ab (X := PR) ⟨tyOK, boolOK, eqOK⟩ (Ad (by exact ⟨⟨EM, rfl⟩, ⟨⟨Wd, rfl⟩, ⟨⟨Ga, rfl⟩, trivial⟩⟩⟩)) (Ai (by kernel_rfl)) ⟨Tryz.func52, rfl, by kernel_rfl, rfl⟩ (fun x => by exact VP x.1 x.2)
noncomputable def DP (a0 : (Bool × ((List Int) × (Bool × (List Int))))) : Option (Int) :=
  ((AK (a0.1, a0.2.1))).bind fun x0 =>
  some x0
noncomputable def KT : Ent := ⟨Hb, fun x => DP x⟩
noncomputable def Kn : TX := ⟨tyTab, codTab, [], [4], [DH], Hb⟩
set_option maxHeartbeats 2000000 in
theorem Sd (a0 : (Bool × List (Int) × Bool × List (Int))) : wtF Kn Tryz.f128 (a0) = DP a0 := by kernel_rfl
theorem Qo : EntOK RR KT := Ab (X := Kn) ⟨tyOK, boolOK, eqOK⟩ (Ad (by exact ⟨⟨Eo, rfl⟩, trivial⟩)) (Ai (by kernel_rfl)) ⟨Tryz.func128, rfl, by kernel_rfl, rfl⟩ (fun x => by exact Sd x)
noncomputable def EG (a0 : (Bool × ((List Int) × (Bool × (List Int))))) (a1 : (Bool × ((List Int) × (Bool × (List Int))))) : Option ((Bool × List (Int) × Bool × List (Int))) :=
  ((AN (a0.1, a0.2.1) (a1.2.2.1, a1.2.2.2))).bind fun x0 =>
  ((AN (a0.2.2.1, a0.2.2.2) (a1.1, a1.2.1))).bind fun x1 =>
  ((Dj (x0.2, x0.1) (x1.2, x1.1))).bind fun x2 =>
  some (x2.1, (x2.2.1, (x2.2.2.1, x2.2.2.2)))
noncomputable def MP : Ent := ⟨I1, fun x => EG x.1 x.2⟩
noncomputable def Np : TX := ⟨tyTab, codTab, [], [4], [Dv, Gt], I1⟩
set_option maxHeartbeats 2000000 in
theorem UP (a0 : (Bool × List (Int) × Bool × List (Int))) (a1 : (Bool × List (Int) × Bool × List (Int))) : wtF Np Tryz.f129 (a0, a1) = EG a0 a1 := by kernel_rfl
theorem SK : EntOK RR MP := Ab (X := Np) ⟨tyOK, boolOK, eqOK⟩ (Ad (by exact ⟨⟨DR, rfl⟩, ⟨⟨Hv, rfl⟩, trivial⟩⟩)) (Ai (by kernel_rfl)) ⟨Tryz.func129, rfl, by kernel_rfl, rfl⟩ (fun x => by exact UP x.1 x.2)
noncomputable def BI (a0 : (Bool × ((List Int) × (Bool × (List Int))))) (a1 : (Bool × ((List Int) × (Bool × (List Int))))) : Option ((Bool × List (Int) × Bool × List (Int)) × Bool) :=
  ((Bk (List.cons ((a0.1, a0.2.1), (a0.2.2.1, a0.2.2.2)) (List.cons ((a1.1, a1.2.1), (a1.2.2.1, a1.2.2.2)) (List.nil : List ((Bool × (List Int)) × (Bool × (List Int)))))))).bind fun x0 =>
  bif (!x0) then
    some ((false, ((List.nil : List Int), (false, (List.nil : List Int)))), false)
  else
  ((DP (a1.1, (a1.2.1, (a1.2.2.1, a1.2.2.2))))).bind fun x1 =>
  bif (x1 == (0 : Int)) then
    some ((false, ((List.nil : List Int), (false, (List.nil : List Int)))), false)
  else
  ((EG (a0.1, (a0.2.1, (a0.2.2.1, a0.2.2.2))) (a1.1, (a1.2.1, (a1.2.2.1, a1.2.2.2))))).bind fun x2 =>
  ((Bj (x2.1, (x2.2.1, (x2.2.2.1, x2.2.2.2))))).bind fun x3 =>
  some ((x3.1.1, (x3.1.2.1, (x3.1.2.2.1, x3.1.2.2.2))), x3.2)
noncomputable def Ou : Ent := ⟨JX, fun x => BI x.1 x.2⟩
noncomputable def N6 : TX := ⟨tyTab, codTab, [], [4], [Dq, KT, MP, CF], JX⟩
set_option maxHeartbeats 2000000 in
theorem Vl (a0 : (Bool × List (Int) × Bool × List (Int))) (a1 : (Bool × List (Int) × Bool × List (Int))) : wtF N6 Tryz.f53 (a0, a1) = BI a0 a1 := by kernel_rfl
theorem UY : EntOK RR Ou := Ab (X := N6) ⟨tyOK, boolOK, eqOK⟩ (Ad (by exact ⟨⟨DN, rfl⟩, ⟨⟨Qo, rfl⟩, ⟨⟨SK, rfl⟩, ⟨⟨C3, rfl⟩, trivial⟩⟩⟩⟩)) (Ai (by kernel_rfl)) ⟨Tryz.func53, rfl, by kernel_rfl, rfl⟩ (fun x => by exact Vl x.1 x.2)
noncomputable def GX (a0 : (Bool × ((List Int) × (Bool × (List Int))))) (a1 : (Bool × ((List Int) × (Bool × (List Int))))) : Option ((Bool × List (Int) × Bool × List (Int))) :=
  ((Bo (a0.1, a0.2.1) (a1.2.2.1, a1.2.2.2))).bind fun x0 =>
  ((Bo (a0.2.2.1, a0.2.2.2) (a1.1, a1.2.1))).bind fun x1 =>
  ((B9 (x0.1, x0.2) (x1.1, x1.2))).bind fun x2 =>
  some (x2.1, (x2.2.1, (x2.2.2.1, x2.2.2.2)))
noncomputable def RM : Ent := ⟨L1, fun x => GX x.1 x.2⟩
noncomputable def RJ : TX := ⟨tyTab, codTab, [], [4], [GS, D5], L1⟩
set_option maxHeartbeats 2000000 in
theorem Yb (a0 : (Bool × List (Int) × Bool × List (Int))) (a1 : (Bool × List (Int) × Bool × List (Int))) : wtF RJ Tryz.f130 (a0, a1) = GX a0 a1 := by kernel_rfl
theorem Vh : EntOK RR RM := Ab (X := RJ) ⟨tyOK, boolOK, eqOK⟩ (Ad (by exact ⟨⟨G9, rfl⟩, ⟨⟨EK, rfl⟩, trivial⟩⟩)) (Ai (by kernel_rfl)) ⟨Tryz.func130, rfl, by kernel_rfl, rfl⟩ (fun x => by exact Yb x.1 x.2)
noncomputable def BJ (a0 : (Bool × ((List Int) × (Bool × (List Int))))) (a1 : (Bool × ((List Int) × (Bool × (List Int))))) : Option ((Bool × List (Int) × Bool × List (Int)) × Bool) :=
  ((BL (a0.1, (a0.2.1, (a0.2.2.1, a0.2.2.2))) (a1.1, (a1.2.1, (a1.2.2.1, a1.2.2.2))))).bind fun x0 =>
  bif (!x0) then
    some ((false, ((List.nil : List Int), (false, (List.nil : List Int)))), false)
  else
  bif ((((List.length a1.2.1) : Nat) : Int) == (0 : Int)) then
    some ((false, ((List.nil : List Int), (false, (List.nil : List Int)))), false)
  else
  ((GX (a0.1, (a0.2.1, (a0.2.2.1, a0.2.2.2))) (a1.1, (a1.2.1, (a1.2.2.1, a1.2.2.2))))).bind fun x1 =>
  ((CB (x1.1, (x1.2.1, (x1.2.2.1, x1.2.2.2))))).bind fun x2 =>
  some ((x2.1.1, (x2.1.2.1, (x2.1.2.2.1, x2.1.2.2.2))), x2.2)
noncomputable def OB : Ent := ⟨JO, fun x => BJ x.1 x.2⟩
noncomputable def PN : TX := ⟨tyTab, codTab, [], [4], [Ed, RM, FR], JO⟩
set_option maxHeartbeats 2000000 in
theorem Vx (a0 : (Bool × List (Int) × Bool × List (Int))) (a1 : (Bool × List (Int) × Bool × List (Int))) : wtF PN Tryz.f54 (a0, a1) = BJ a0 a1 := by kernel_rfl
theorem Ve : EntOK RR OB := Ab (X := PN) ⟨tyOK, boolOK, eqOK⟩ (Ad (by exact ⟨⟨EM, rfl⟩, ⟨⟨Vh, rfl⟩, ⟨⟨Ga, rfl⟩, trivial⟩⟩⟩)) (Ai (by kernel_rfl)) ⟨Tryz.func54, rfl, by kernel_rfl, rfl⟩ (fun x => by exact Vx x.1 x.2)
noncomputable def CG (a0 : (Bool × ((List Int) × (Bool × (List Int))))) (a1 : (Bool × ((List Int) × (Bool × (List Int))))) : Option (Int) :=
  ((AN (a0.1, a0.2.1) (a1.2.2.1, a1.2.2.2))).bind fun x0 =>
  ((AN (a1.1, a1.2.1) (a0.2.2.1, a0.2.2.2))).bind fun x1 =>
  ((Bz (x0.2, x0.1) (x1.2, x1.1))).bind fun x2 =>
  some x2
noncomputable def HU : Ent := ⟨FL, fun x => CG x.1 x.2⟩
noncomputable def IP : TX := ⟨tyTab, codTab, [], [4], [Dv, DM], FL⟩
set_option maxHeartbeats 2000000 in
theorem Oz (a0 : (Bool × List (Int) × Bool × List (Int))) (a1 : (Bool × List (Int) × Bool × List (Int))) : wtF IP Tryz.f131 (a0, a1) = CG a0 a1 := by kernel_rfl
theorem Nz : EntOK RR HU := Ab (X := IP) ⟨tyOK, boolOK, eqOK⟩ (Ad (by exact ⟨⟨DR, rfl⟩, ⟨⟨EP, rfl⟩, trivial⟩⟩)) (Ai (by kernel_rfl)) ⟨Tryz.func131, rfl, by kernel_rfl, rfl⟩ (fun x => by exact Oz x.1 x.2)
noncomputable def A4 (a0 : (Bool × ((List Int) × (Bool × (List Int))))) (a1 : (Bool × ((List Int) × (Bool × (List Int))))) : Option (Int × Bool) :=
  ((Bk (List.cons ((a0.1, a0.2.1), (a0.2.2.1, a0.2.2.2)) (List.cons ((a1.1, a1.2.1), (a1.2.2.1, a1.2.2.2)) (List.nil : List ((Bool × (List Int)) × (Bool × (List Int)))))))).bind fun x0 =>
  bif (!x0) then
    some ((0 : Int), false)
  else
  ((CG (a0.1, (a0.2.1, (a0.2.2.1, a0.2.2.2))) (a1.1, (a1.2.1, (a1.2.2.1, a1.2.2.2))))).bind fun x1 =>
  some (x1, true)
noncomputable def Ia : Ent := ⟨Fu, fun x => A4 x.1 x.2⟩
noncomputable def IU : TX := ⟨tyTab, codTab, [], [4], [Dq, HU], Fu⟩
set_option maxHeartbeats 2000000 in
theorem OK (a0 : (Bool × List (Int) × Bool × List (Int))) (a1 : (Bool × List (Int) × Bool × List (Int))) : wtF IU Tryz.f55 (a0, a1) = A4 a0 a1 := by kernel_rfl
theorem NL : EntOK RR Ia := Ab (X := IU) ⟨tyOK, boolOK, eqOK⟩ (Ad (by exact ⟨⟨DN, rfl⟩, ⟨⟨Nz, rfl⟩, trivial⟩⟩)) (Ai (by kernel_rfl)) ⟨Tryz.func55, rfl, by kernel_rfl, rfl⟩ (fun x => by exact OK x.1 x.2)
noncomputable def Dz (a0 : (Bool × (List Int))) (a1 : (Bool × (List Int))) : Option (Int) :=
  bif a0.1 then
    bif (!a1.1) then
      some (-(1 : Int))
    else
    bif (!a0.1) then
      bif a1.1 then
        some (1 : Int)
      else
      bif a0.1 then
        ((AY a1.2 a0.2)).bind fun x0 =>
        some x0
      else
      ((AY a0.2 a1.2)).bind fun x1 =>
      some x1
    else
    bif a0.1 then
      ((AY a1.2 a0.2)).bind fun x2 =>
      some x2
    else
    ((AY a0.2 a1.2)).bind fun x3 =>
    some x3
  else
  bif (!a0.1) then
    bif a1.1 then
      some (1 : Int)
    else
    bif a0.1 then
      ((AY a1.2 a0.2)).bind fun x4 =>
      some x4
    else
    ((AY a0.2 a1.2)).bind fun x5 =>
    some x5
  else
  bif a0.1 then
    ((AY a1.2 a0.2)).bind fun x6 =>
    some x6
  else
  ((AY a0.2 a1.2)).bind fun x7 =>
  some x7
noncomputable def K4 : Ent := ⟨HB, fun x => Dz x.1 x.2⟩
noncomputable def KL : TX := ⟨tyTab, codTab, [], [4], [Fo], HB⟩
set_option maxHeartbeats 2000000 in
theorem SE (a0 : (Bool × List (Int))) (a1 : (Bool × List (Int))) : wtF KL Tryz.f99 (a0, a1) = Dz a0 a1 := by kernel_rfl
theorem Qu : EntOK RR K4 := Ab (X := KL) ⟨tyOK, boolOK, eqOK⟩ (Ad (by exact ⟨⟨F0, rfl⟩, trivial⟩)) (Ai (by kernel_rfl)) ⟨Tryz.func99, rfl, by kernel_rfl, rfl⟩ (fun x => by exact SE x.1 x.2)
noncomputable def GJ (a0 : (Bool × ((List Int) × (Bool × (List Int))))) (a1 : (Bool × ((List Int) × (Bool × (List Int))))) : Option (Int) :=
  ((Bo (a0.1, a0.2.1) (a1.2.2.1, a1.2.2.2))).bind fun x0 =>
  ((Bo (a1.1, a1.2.1) (a0.2.2.1, a0.2.2.2))).bind fun x1 =>
  ((Dz (x0.1, x0.2) (x1.1, x1.2))).bind fun x2 =>
  some x2
noncomputable def Q4 : Ent := ⟨LH, fun x => GJ x.1 x.2⟩
noncomputable def QL : TX := ⟨tyTab, codTab, [], [4], [GS, K4], LH⟩
set_option maxHeartbeats 2000000 in
theorem XL (a0 : (Bool × List (Int) × Bool × List (Int))) (a1 : (Bool × List (Int) × Bool × List (Int))) : wtF QL Tryz.f132 (a0, a1) = GJ a0 a1 := by kernel_rfl
theorem Wo : EntOK RR Q4 := Ab (X := QL) ⟨tyOK, boolOK, eqOK⟩ (Ad (by exact ⟨⟨G9, rfl⟩, ⟨⟨Qu, rfl⟩, trivial⟩⟩)) (Ai (by kernel_rfl)) ⟨Tryz.func132, rfl, by kernel_rfl, rfl⟩ (fun x => by exact XL x.1 x.2)
noncomputable def A3 (a0 : (Bool × ((List Int) × (Bool × (List Int))))) (a1 : (Bool × ((List Int) × (Bool × (List Int))))) : Option (Int × Bool) :=
  ((BL (a0.1, (a0.2.1, (a0.2.2.1, a0.2.2.2))) (a1.1, (a1.2.1, (a1.2.2.1, a1.2.2.2))))).bind fun x0 =>
  bif (!x0) then
    some ((0 : Int), false)
  else
  ((GJ (a0.1, (a0.2.1, (a0.2.2.1, a0.2.2.2))) (a1.1, (a1.2.1, (a1.2.2.1, a1.2.2.2))))).bind fun x1 =>
  some (x1, true)
noncomputable def H6 : Ent := ⟨FC, fun x => A3 x.1 x.2⟩
noncomputable def IJ : TX := ⟨tyTab, codTab, [], [4], [Ed, Q4], FC⟩
set_option maxHeartbeats 2000000 in
theorem Pj (a0 : (Bool × List (Int) × Bool × List (Int))) (a1 : (Bool × List (Int) × Bool × List (Int))) : wtF IJ Tryz.f56 (a0, a1) = A3 a0 a1 := by kernel_rfl
theorem NP : EntOK RR H6 := Ab (X := IJ) ⟨tyOK, boolOK, eqOK⟩ (Ad (by exact ⟨⟨EM, rfl⟩, ⟨⟨Wo, rfl⟩, trivial⟩⟩)) (Ai (by kernel_rfl)) ⟨Tryz.func56, rfl, by kernel_rfl, rfl⟩ (fun x => by exact Pj x.1 x.2)
noncomputable def DD (s0 : (List Int)) (s1 : (List Int)) (s2 : Int) (s3 : Int) : Option (((List Int) × ((List Int) × (Int × Int))) ⊕ (Unit ⊕ Bool)) :=
  bif decide (s3 < s2) then
    ((getI s0 s3)).bind fun x0 =>
    ((getI s1 s3)).bind fun x1 =>
    bif (x0 != x1) then
      some (Sum.inr (Sum.inr false))
    else
    some (Sum.inl (s0, (s1, (s2, (Go.IntKind.wrap Go.IntKind.i64 (s3 + (1 : Int)))))))
  else
  some (Sum.inr (Sum.inl ()))
noncomputable def DL (a0 : (List Int)) (a1 : (List Int)) : Option (Bool) :=
  bif ((((List.length a0) : Nat) : Int) != (((List.length a1) : Nat) : Int)) then
    some false
  else
  (loopM (fun (s : ((List Int) × ((List Int) × (Int × Int)))) => DD s.1 s.2.1 s.2.2.1 s.2.2.2) (a0, (a1, ((((List.length a0) : Nat) : Int), (0 : Int))))).bind fun x0 =>
  Sum.elim
    (fun x1 =>
    some true)
    (fun x2 =>
    some x2)
    x0
noncomputable def Lg : Ent := ⟨Hd, fun x => DL x.1 x.2⟩
noncomputable def KH : TX := ⟨tyTab, codTab, [], [4], [], Hd⟩
set_option maxHeartbeats 2000000 in
theorem SU (a0 : List (Int)) (a1 : List (Int)) : wtF KH Tryz.f13 (a0, a1) = DL a0 a1 := by kernel_rfl
theorem Qs : EntOK RR Lg := Ab (X := KH) ⟨tyOK, boolOK, eqOK⟩ (Ad (by exact trivial)) (Ai (by kernel_rfl)) ⟨Tryz.func13, rfl, by kernel_rfl, rfl⟩ (fun x => by exact SU x.1 x.2)
noncomputable def Dl (a0 : (Bool × (List Int))) (a1 : (Bool × (List Int))) : Option (Bool) :=
  bif (a0.1 == a1.1) then
    ((DL a0.2 a1.2)).bind fun x0 =>
    some x0
  else
  some false
noncomputable def MI : Ent := ⟨I4, fun x => Dl x.1 x.2⟩
noncomputable def MY : TX := ⟨tyTab, codTab, [], [4], [Lg], I4⟩
set_option maxHeartbeats 2000000 in
theorem Ua (a0 : (Bool × List (Int))) (a1 : (Bool × List (Int))) : wtF MY Tryz.f32 (a0, a1) = Dl a0 a1 := by kernel_rfl
theorem ST : EntOK RR MI := Ab (X := MY) ⟨tyOK, boolOK, eqOK⟩ (Ad (by exact ⟨⟨Qs, rfl⟩, trivial⟩)) (Ai (by kernel_rfl)) ⟨Tryz.func32, rfl, by kernel_rfl, rfl⟩ (fun x => by exact Ua x.1 x.2)
noncomputable def Ae (a0 : (Bool × ((List Int) × (Bool × (List Int))))) (a1 : (Bool × ((List Int) × (Bool × (List Int))))) : Option (Bool) :=
  ((Dl (a0.1, a0.2.1) (a1.1, a1.2.1))).bind fun x0 =>
  bif x0 then
    ((Dl (a0.2.2.1, a0.2.2.2) (a1.2.2.1, a1.2.2.2))).bind fun x1 =>
    some x1
  else
  some false
noncomputable def MH : Ent := ⟨H2, fun x => Ae x.1 x.2⟩
noncomputable def MD : TX := ⟨tyTab, codTab, [], [4], [MI], H2⟩
set_option maxHeartbeats 2000000 in
theorem Tr (a0 : (Bool × List (Int) × Bool × List (Int))) (a1 : (Bool × List (Int) × Bool × List (Int))) : wtF MD Tryz.f57 (a0, a1) = Ae a0 a1 := by kernel_rfl
theorem Si : EntOK RR MH := Ab (X := MD) ⟨tyOK, boolOK, eqOK⟩ (Ad (by exact ⟨⟨ST, rfl⟩, trivial⟩)) (Ai (by kernel_rfl)) ⟨Tryz.func57, rfl, by kernel_rfl, rfl⟩ (fun x => by exact Tr x.1 x.2)
noncomputable def Bp (a0 : ((List Int) × (Int × Int))) : Option ((List (Int) × Int × Int) × Int) :=
  ((AO (a0.1, (a0.2.1, a0.2.2)) (2 : Int))).bind fun x0 =>
  bif x0.2 then
    ((AT (x0.1.1, (x0.1.2.1, x0.1.2.2)) (List.cons (0 : Int) (List.cons (1 : Int) (List.cons (-(1 : Int)) (List.cons (65535 : Int) (List.cons (65536 : Int) (List.cons (-(65536 : Int)) (List.cons (4611686018427387904 : Int) (List.cons (-(4611686018427387904 : Int)) (List.cons (4611686018427387905 : Int) (List.cons (-(9223372036854775808 : Int)) (List.cons (9223372036854775807 : Int) (List.nil : List Int)))))))))))))).bind fun x1 =>
    some ((x1.1.1, (x1.1.2.1, x1.1.2.2)), x1.2)
  else
  ((Ay (x0.1.1, (x0.1.2.1, x0.1.2.2)) (256 : Int))).bind fun x2 =>
  ((Ay (x2.1.1, (x2.1.2.1, x2.1.2.2)) (50 : Int))).bind fun x3 =>
  bif decide ((Go.IntKind.wrap Go.IntKind.u64 x3.2) < (0 : Int)) then
    none
  else
  some ((x3.1.1, (x3.1.2.1, x3.1.2.2)), (shlI Go.IntKind.i64 (Go.IntKind.wrap Go.IntKind.i64 (x2.2 - (128 : Int))) (Go.IntKind.wrap Go.IntKind.u64 x3.2)))
noncomputable def Gx : Ent := ⟨Ec, fun x => Bp x⟩
noncomputable def GI : TX := ⟨tyTab, codTab, [], [4], [C0, EY, BR], Ec⟩
set_option maxHeartbeats 2000000 in
theorem Mj (a0 : (List (Int) × Int × Int)) : wtF GI Tryz.f103 (a0) = Bp a0 := by kernel_rfl
theorem K5 : EntOK RR Gx := Ab (X := GI) ⟨tyOK, boolOK, eqOK⟩ (Ad (by exact ⟨⟨DB, rfl⟩, ⟨⟨GK, rfl⟩, ⟨⟨Ch, rfl⟩, trivial⟩⟩⟩)) (Ai (by kernel_rfl)) ⟨Tryz.func103, rfl, by kernel_rfl, rfl⟩ (fun x => by exact Mj x)
noncomputable def Cj (a0 : (List Int)) : Option (Int × Int) :=
  ((Bp (a0, ((0 : Int), (0 : Int))))).bind fun x0 =>
  ((Bp (x0.1.1, (x0.1.2.1, x0.1.2.2)))).bind fun x1 =>
  some (x0.2, x1.2)
noncomputable def JH : Ent := ⟨Gk, fun x => Cj x⟩
noncomputable def JA : TX := ⟨tyTab, codTab, [], [4], [Gx], Gk⟩
set_option maxHeartbeats 2000000 in
theorem Qp (a0 : List (Int)) : wtF JA Tryz.f60 (a0) = Cj a0 := by kernel_rfl
theorem Pp : EntOK RR JH := Ab (X := JA) ⟨tyOK, boolOK, eqOK⟩ (Ad (by exact ⟨⟨K5, rfl⟩, trivial⟩)) (Ai (by kernel_rfl)) ⟨Tryz.func60, rfl, by kernel_rfl, rfl⟩ (fun x => by exact Qp x)
noncomputable def Fl (a0 : Int) (a1 : Int) : Option ((Bool × List (Int) × Bool × List (Int)) × Bool) :=
  bif (a1 == (0 : Int)) then
    some ((false, ((List.nil : List Int), (false, (List.nil : List Int)))), false)
  else
  ((C4 a0 (-(4611686018427387904 : Int)) (4611686018427387904 : Int))).bind fun x0 =>
  bif (!x0) then
    some ((false, ((List.nil : List Int), (false, (List.nil : List Int)))), false)
  else
  ((C4 a1 (-(4611686018427387904 : Int)) (4611686018427387904 : Int))).bind fun x1 =>
  bif (!x1) then
    some ((false, ((List.nil : List Int), (false, (List.nil : List Int)))), false)
  else
  ((BW a0)).bind fun x2 =>
  ((BW a1)).bind fun x3 =>
  ((Dj (x2.1, x2.2) (x3.1, x3.2))).bind fun x4 =>
  some ((x4.1, (x4.2.1, (x4.2.2.1, x4.2.2.2))), true)
noncomputable def R6 : Ent := ⟨L4, fun x => Fl x.1 x.2⟩
noncomputable def Rq : TX := ⟨tyTab, codTab, [], [4], [JT, Gy, Gt], L4⟩
set_option maxHeartbeats 2000000 in
theorem Yv (a0 : Int) (a1 : Int) : wtF Rq Tryz.f61 (a0, a1) = Fl a0 a1 := by kernel_rfl
theorem Vs : EntOK RR R6 := Ab (X := Rq) ⟨tyOK, boolOK, eqOK⟩ (Ad (by exact ⟨⟨M9, rfl⟩, ⟨⟨Hz, rfl⟩, ⟨⟨Hv, rfl⟩, trivial⟩⟩⟩)) (Ai (by kernel_rfl)) ⟨Tryz.func61, rfl, by kernel_rfl, rfl⟩ (fun x => by exact Yv x.1 x.2)
noncomputable def Ce (a0 : (List Int)) : Option ((Bool × List (Int) × Bool × List (Int))) :=
  ((BK (a0, ((0 : Int), (0 : Int))))).bind fun x0 =>
  some (x0.2.1, (x0.2.2.1, (x0.2.2.2.1, x0.2.2.2.2)))
noncomputable def HN : Ent := ⟨EU, fun x => Ce x⟩
noncomputable def HL : TX := ⟨tyTab, codTab, [], [4], [Gj], EU⟩
set_option maxHeartbeats 2000000 in
theorem NF (a0 : List (Int)) : wtF HL Tryz.f139 (a0) = Ce a0 := by kernel_rfl
theorem LJ : EntOK RR HN := Ab (X := HL) ⟨tyOK, boolOK, eqOK⟩ (Ad (by exact ⟨⟨HQ, rfl⟩, trivial⟩)) (Ai (by kernel_rfl)) ⟨Tryz.func139, rfl, by kernel_rfl, rfl⟩ (fun x => by exact NF x)
noncomputable def BB (a0 : (List Int)) : Option ((Bool × List (Int) × Bool × List (Int))) :=
  ((Ce a0)).bind fun x0 =>
  some (x0.1, (x0.2.1, (x0.2.2.1, x0.2.2.2)))
noncomputable def HM : Ent := ⟨ES, fun x => BB x⟩
noncomputable def HF : TX := ⟨tyTab, codTab, [], [4], [HN], ES⟩
set_option maxHeartbeats 2000000 in
theorem NG (a0 : List (Int)) : wtF HF Tryz.f63 (a0) = BB a0 := by kernel_rfl
theorem Mt : EntOK RR HM := Ab (X := HF) ⟨tyOK, boolOK, eqOK⟩ (Ad (by exact ⟨⟨LJ, rfl⟩, trivial⟩)) (Ai (by kernel_rfl)) ⟨Tryz.func63, rfl, by kernel_rfl, rfl⟩ (fun x => by exact NG x)
noncomputable def DZ (a0 : Int) : Option (List UInt8) := PY a0
noncomputable def IS : Ent := ⟨H5, fun x => DZ x⟩
theorem NK : EntOK RR IS := YI fun _ _ _ _ _ h => Or.inr (Or.inl h)
noncomputable def CP (a0 : List UInt8) (a1 : Int) : Option (List UInt8) := TS a0 a1
noncomputable def Gw : Ent := ⟨Gr, fun x => CP x.1 x.2⟩
theorem K6 : EntOK RR Gw := Aa5 fun _ _ _ _ _ h => Or.inr (Or.inr (Or.inl h))
noncomputable def Al (s0 : (List (List UInt8))) (s1 : (Nat × Nat)) (s2 : Int) (s3 : Int) : Option (((List (List UInt8)) × ((Nat × Nat) × (Int × Int))) ⊕ (List (List UInt8))) :=
  bif decide (s2 < s3) then
    ((idxI s3 s1.2)).bind fun x0 =>
    ((getN s0 (s1.1 + x0))).bind fun x1 =>
    ((idxI s2 s1.2)).bind fun x2 =>
    ((getN s0 (s1.1 + x2))).bind fun x3 =>
    ((idxI s2 s1.2)).bind fun x4 =>
    ((getN s0 (s1.1 + x4))).bind fun x5 =>
    ((idxI s3 s1.2)).bind fun x6 =>
    ((getN (List.set s0 (s1.1 + x4) x1) (s1.1 + x6))).bind fun x7 =>
    some (Sum.inl ((List.set (List.set s0 (s1.1 + x4) x1) (s1.1 + x6) x3), ((s1.1, s1.2), ((Go.IntKind.wrap Go.IntKind.i64 (s2 + (1 : Int))), (Go.IntKind.wrap Go.IntKind.i64 (s3 - (1 : Int)))))))
  else
  some (Sum.inr s0)
noncomputable def Ap (a0 : (List (List UInt8))) (a1 : (Nat × Nat)) : Option (List (List UInt8)) :=
  (loopM (fun (s : ((List (List UInt8)) × ((Nat × Nat) × (Int × Int)))) => Al s.1 s.2.1 s.2.2.1 s.2.2.2) (a0, ((a1.1, a1.2), ((0 : Int), (Go.IntKind.wrap Go.IntKind.i64 (((a1.2 : Nat) : Int) - (1 : Int))))))).bind fun x0 =>
  some x0
noncomputable def BM : Ent := ⟨A9, fun x => Ap x.1 x.2⟩
noncomputable def BO : TX := ⟨tyTab, codTab, [], [4], [], A9⟩
set_option maxHeartbeats 2000000 in
theorem D2 (a0 : List (List UInt8)) (a1 : (Nat × Nat)) : wtF BO Tryz.f173 (a0, a1) = Ap a0 a1 := by kernel_rfl
theorem Dw : EntOK RR BM := Ab (X := BO) ⟨tyOK, boolOK, eqOK⟩ (Ad (by exact trivial)) (Ai (by kernel_rfl)) ⟨Tryz.func173, rfl, by kernel_rfl, rfl⟩ (fun x => by exact D2 x.1 x.2)
noncomputable def Ct (a0 : List (List UInt8)) (a1 : List UInt8) : Option (List UInt8) := OT a0 a1
noncomputable def Iu : Ent := ⟨Ix, fun x => Ct x.1 x.2⟩
theorem ND : EntOK RR Iu := YH fun _ _ _ _ _ h => Or.inr (Or.inr (Or.inr (h)))
noncomputable def AR (s0 : (Bool × (List Int))) (s1 : (List (List UInt8))) (s2 : (List Int)) : Option (((Bool × (List Int)) × ((List (List UInt8)) × (List Int))) ⊕ ((Bool × (List Int)) × (List (List UInt8)))) :=
  bif decide ((((List.length s2) : Nat) : Int) > (0 : Int)) then
    ((B8 s2 (10000 : Int))).bind fun x0 =>
    ((DZ x0.2)).bind fun x1 =>
    bif decide ((((List.length x0.1) : Nat) : Int) > (0 : Int)) then
      ((CP (List.cons 48 (List.nil : List UInt8)) (Go.IntKind.wrap Go.IntKind.i64 ((4 : Int) - (((List.length x1) : Nat) : Int))))).bind fun x2 =>
      ((catS x2 x1)).bind fun x3 =>
      ((appL 16 1 s1 (List.cons x3 (List.nil : List (List UInt8))))).bind fun x4 =>
      some (Sum.inl ((s0.1, s0.2), (x4, x0.1)))
    else
    ((appL 16 1 s1 (List.cons x1 (List.nil : List (List UInt8))))).bind fun x5 =>
    some (Sum.inl ((s0.1, s0.2), (x5, x0.1)))
  else
  some (Sum.inr ((s0.1, s0.2), s1))
noncomputable def Cc (a0 : (Bool × (List Int))) : Option (List UInt8) :=
  ((AK (a0.1, a0.2))).bind fun x0 =>
  bif (x0 == (0 : Int)) then
    some (List.cons 48 (List.nil : List UInt8))
  else
  (loopM (fun (s : ((Bool × (List Int)) × ((List (List UInt8)) × (List Int)))) => AR s.1 s.2.1 s.2.2) ((a0.1, a0.2), ((List.nil : List (List UInt8)), a0.2))).bind fun x1 =>
  bif x1.1.1 then
    ((appL 16 1 x1.2 (List.cons (List.cons 45 (List.nil : List UInt8)) (List.nil : List (List UInt8))))).bind fun x2 =>
    ((Ap x2 (0, (List.length x2)))).bind fun x3 =>
    bif decide ((List.length x3) = (List.length x2)) then
      ((Ct x3 (List.nil : List UInt8))).bind fun x4 =>
      some x4
    else
    none
  else
  ((Ap x1.2 (0, (List.length x1.2)))).bind fun x5 =>
  bif decide ((List.length x5) = (List.length x1.2)) then
    ((Ct x5 (List.nil : List UInt8))).bind fun x6 =>
    some x6
  else
  none
noncomputable def Lb : Ent := ⟨Hk, fun x => Cc x⟩
noncomputable def Kz : TX := ⟨tyTab, codTab, [], [4], [DH, Hc, IS, Gw, BM, Iu], Hk⟩
set_option maxHeartbeats 2000000 in
theorem SW (a0 : (Bool × List (Int))) : wtF Kz Tryz.f107 (a0) = Cc a0 := by kernel_rfl
theorem Qj : EntOK RR Lb := Ab (X := Kz) ⟨tyOK, boolOK, eqOK⟩ (Ad (by exact ⟨⟨Eo, rfl⟩, ⟨⟨JC, rfl⟩, ⟨⟨NK, rfl⟩, ⟨⟨K6, rfl⟩, ⟨⟨Dw, rfl⟩, ⟨⟨ND, rfl⟩, trivial⟩⟩⟩⟩⟩⟩)) (Ai (by kernel_rfl)) ⟨Tryz.func107, rfl, by kernel_rfl, rfl⟩ (fun x => by exact SW x)
noncomputable def D0 (a0 : (Bool × ((List Int) × (Bool × (List Int))))) : Option (List UInt8) :=
  ((BW (1 : Int))).bind fun x0 =>
  ((Bz (a0.2.2.1, a0.2.2.2) (x0.1, x0.2))).bind fun x1 =>
  bif (x1 == (0 : Int)) then
    ((Cc (a0.1, a0.2.1))).bind fun x2 =>
    some x2
  else
  ((Cc (a0.1, a0.2.1))).bind fun x3 =>
  ((catS x3 (List.cons 47 (List.nil : List UInt8)))).bind fun x4 =>
  ((Cc (a0.2.2.1, a0.2.2.2))).bind fun x5 =>
  ((catS x4 x5)).bind fun x6 =>
  some x6
noncomputable def Kt : Ent := ⟨Hs, fun x => D0 x⟩
noncomputable def K8 : TX := ⟨tyTab, codTab, [], [4], [Gy, DM, Lb], Hs⟩
set_option maxHeartbeats 2000000 in
theorem Sn (a0 : (Bool × List (Int) × Bool × List (Int))) : wtF K8 Tryz.f140 (a0) = D0 a0 := by kernel_rfl
theorem Qh : EntOK RR Kt := Ab (X := K8) ⟨tyOK, boolOK, eqOK⟩ (Ad (by exact ⟨⟨Hz, rfl⟩, ⟨⟨EP, rfl⟩, ⟨⟨Qj, rfl⟩, trivial⟩⟩⟩)) (Ai (by kernel_rfl)) ⟨Tryz.func140, rfl, by kernel_rfl, rfl⟩ (fun x => by exact Sn x)
noncomputable def BE (a0 : (Bool × ((List Int) × (Bool × (List Int))))) : Option (List UInt8 × Bool) :=
  ((An (a0.1, (a0.2.1, (a0.2.2.1, a0.2.2.2))))).bind fun x0 =>
  bif (!x0) then
    some ((List.nil : List UInt8), false)
  else
  ((D0 (a0.1, (a0.2.1, (a0.2.2.1, a0.2.2.2))))).bind fun x1 =>
  some (x1, true)
noncomputable def MT : Ent := ⟨H3, fun x => BE x⟩
noncomputable def MA : TX := ⟨tyTab, codTab, [], [4], [F7, Kt], H3⟩
set_option maxHeartbeats 2000000 in
theorem UC (a0 : (Bool × List (Int) × Bool × List (Int))) : wtF MA Tryz.f64 (a0) = BE a0 := by kernel_rfl
theorem Sj : EntOK RR MT := Ab (X := MA) ⟨tyOK, boolOK, eqOK⟩ (Ad (by exact ⟨⟨Hm, rfl⟩, ⟨⟨Qh, rfl⟩, trivial⟩⟩)) (Ai (by kernel_rfl)) ⟨Tryz.func64, rfl, by kernel_rfl, rfl⟩ (fun x => by exact UC x)
noncomputable def L7 (self : (Int) → Option (List UInt8)) (a0 : Int) : Option (List UInt8) :=
  bif decide (a0 < (10 : Int)) then
    some (strOf (List.cons (Go.IntKind.wrap Go.IntKind.u8 (Go.IntKind.wrap Go.IntKind.i64 ((48 : Int) + a0))) (List.nil : List Int)))
  else
  ((self (Go.IntKind.wrap Go.IntKind.i64 (Int.tdiv a0 (10 : Int))))).bind fun x0 =>
  ((catS x0 (strOf (List.cons (Go.IntKind.wrap Go.IntKind.u8 (Go.IntKind.wrap Go.IntKind.i64 ((48 : Int) + (Int.tmod a0 (10 : Int))))) (List.nil : List Int))))).bind fun x1 =>
  some x1
noncomputable def D4 : Nat → (Int) → Option (List UInt8)
  | 0 => fun _ => none
  | n + 1 => L7 (D4 n)
noncomputable def PD (self : (Int) → Option (List UInt8)) : Ent := ⟨Jp, fun x => self x⟩
noncomputable def Rf (self : (Int) → Option (List UInt8)) : TX := ⟨tyTab, codTab, [], [4], [PD self], Jp⟩
set_option maxHeartbeats 2000000 in
theorem XJ (self : (Int) → Option (List UInt8)) (a0 : Int) : wtF (Rf self) Tryz.f156 (a0) = L7 self a0 := by kernel_rfl
theorem Nu : ∀ n, EntOK RR (PD (D4 n))
  | 0 => fun x y _ _ _ h => by cases h
  | n + 1 => Ab (X := Rf (D4 n)) ⟨tyOK, boolOK, eqOK⟩ (Ad (by exact ⟨⟨Nu n, rfl⟩, trivial⟩)) (Ai (by kernel_rfl)) ⟨Tryz.func156, rfl, by kernel_rfl, rfl⟩ (fun x => by exact XJ (D4 n) x)
noncomputable def Jk (a0 : Int) : Option (List UInt8) := D4 (a0.toNat + 1) a0
noncomputable def Rh : Ent := ⟨Jp, fun x => Jk x⟩
theorem V1 : EntOK RR Rh := fun x => Nu _ x
noncomputable def Bi (s0 : (Bool × (List Int))) (s1 : (List UInt8)) (s2 : (List Int)) : Option (((Bool × (List Int)) × ((List UInt8) × (List Int))) ⊕ ((Bool × (List Int)) × (List UInt8))) :=
  bif decide ((((List.length s2) : Nat) : Int) > (0 : Int)) then
    ((Bx s2 (List.cons (10 : Int) (List.nil : List Int)))).bind fun x0 =>
    ((Bh x0.2 (0 : Int))).bind fun x1 =>
    ((Jk x1)).bind fun x2 =>
    ((catS x2 s1)).bind fun x3 =>
    some (Sum.inl ((s0.1, s0.2), (x3, x0.1)))
  else
  some (Sum.inr ((s0.1, s0.2), s1))
noncomputable def Da (a0 : (Bool × (List Int))) : Option (List UInt8) :=
  bif ((((List.length a0.2) : Nat) : Int) == (0 : Int)) then
    some (List.cons 48 (List.nil : List UInt8))
  else
  (loopM (fun (s : ((Bool × (List Int)) × ((List UInt8) × (List Int)))) => Bi s.1 s.2.1 s.2.2) ((a0.1, a0.2), ((List.nil : List UInt8), a0.2))).bind fun x0 =>
  bif x0.1.1 then
    ((catS (List.cons 45 (List.nil : List UInt8)) x0.2)).bind fun x1 =>
    some x1
  else
  some x0.2
noncomputable def OE : Ent := ⟨J3, fun x => Da x⟩
noncomputable def N8 : TX := ⟨tyTab, codTab, [], [4], [DK, Cw, Rh], J3⟩
set_option maxHeartbeats 2000000 in
theorem VS (a0 : (Bool × List (Int))) : wtF N8 Tryz.f108 (a0) = Da a0 := by kernel_rfl
theorem TH : EntOK RR OE := Ab (X := N8) ⟨tyOK, boolOK, eqOK⟩ (Ad (by exact ⟨⟨EZ, rfl⟩, ⟨⟨CA, rfl⟩, ⟨⟨V1, rfl⟩, trivial⟩⟩⟩)) (Ai (by kernel_rfl)) ⟨Tryz.func108, rfl, by kernel_rfl, rfl⟩ (fun x => by exact VS x)
noncomputable def FW (a0 : (Bool × ((List Int) × (Bool × (List Int))))) : Option (List UInt8) :=
  ((AY a0.2.2.2 (List.cons (1 : Int) (List.nil : List Int)))).bind fun x0 =>
  bif (x0 == (0 : Int)) then
    ((Da (a0.1, a0.2.1))).bind fun x1 =>
    some x1
  else
  ((Da (a0.1, a0.2.1))).bind fun x2 =>
  ((catS x2 (List.cons 47 (List.nil : List UInt8)))).bind fun x3 =>
  ((Da (a0.2.2.1, a0.2.2.2))).bind fun x4 =>
  ((catS x3 x4)).bind fun x5 =>
  some x5
noncomputable def OW : Ent := ⟨J0, fun x => FW x⟩
noncomputable def P6 : TX := ⟨tyTab, codTab, [], [4], [Fo, OE], J0⟩
set_option maxHeartbeats 2000000 in
theorem Wq (a0 : (Bool × List (Int) × Bool × List (Int))) : wtF P6 Tryz.f141 (a0) = FW a0 := by kernel_rfl
theorem UF : EntOK RR OW := Ab (X := P6) ⟨tyOK, boolOK, eqOK⟩ (Ad (by exact ⟨⟨F0, rfl⟩, ⟨⟨TH, rfl⟩, trivial⟩⟩)) (Ai (by kernel_rfl)) ⟨Tryz.func141, rfl, by kernel_rfl, rfl⟩ (fun x => by exact Wq x)
noncomputable def BH (a0 : (Bool × ((List Int) × (Bool × (List Int))))) : Option (List UInt8 × Bool) :=
  ((BC (a0.1, (a0.2.1, (a0.2.2.1, a0.2.2.2))))).bind fun x0 =>
  bif (!x0) then
    some ((List.nil : List UInt8), false)
  else
  ((FW (a0.1, (a0.2.1, (a0.2.2.1, a0.2.2.2))))).bind fun x1 =>
  some (x1, true)
noncomputable def Nh : Ent := ⟨H8, fun x => BH x⟩
noncomputable def Nk : TX := ⟨tyTab, codTab, [], [4], [Gb, OW], H8⟩
set_option maxHeartbeats 2000000 in
theorem TQ (a0 : (Bool × List (Int) × Bool × List (Int))) : wtF Nk Tryz.f65 (a0) = BH a0 := by kernel_rfl
theorem Tc : EntOK RR Nh := Ab (X := Nk) ⟨tyOK, boolOK, eqOK⟩ (Ad (by exact ⟨⟨Hi, rfl⟩, ⟨⟨UF, rfl⟩, trivial⟩⟩)) (Ai (by kernel_rfl)) ⟨Tryz.func65, rfl, by kernel_rfl, rfl⟩ (fun x => by exact TQ x)
end Go.Proofs.YtgfchmagglhohaaGreatDoor.Ev

end
