/- The evaluator, part 5: EvXi EvP EvC EvL EvLb EvR. -/
import Derived.Test.YtnhibkgoinnmcaaDoorEvMd
import Derived.IntWalk
import Derived.Below
import Derived.Lib.LaidTab
import Derived.Lib.ItoaMem
import Derived.Lib.AppendIntMem
import Derived.Lib.Itoa
import Derived.Lib.Join
import Derived.Lib.Split
import Derived.Lib.SplitLaws
import Derived.Lib.IndexMore
import Derived.Lib.Strings
import Derived.Lib.AtoiAll
import Derived.Lib.AtoiErrMem
import Derived.SizedLaws
import Derived.HandedShaped
import Derived.LaidMore
import Derived.Shelf.Vars
import Derived.Stop.LaidErr

/-! #### EvXi -/
section
/- A law's row, where a parameter is a struct. -/
namespace Go.Proofs.YtnhibkgoinnmcaaDoor.Ev
open Go Go.RowKit
set_option linter.unusedVariables false
set_option linter.unusedSimpArgs false
set_option linter.unusedSectionVars false

/-- The cells of a struct, one by one. -/
def flatS : Sh → List Sh
  | .pair a b => flatS a ++ flatS b
  | s => [s]
def aOf : Sh → AS
  | .pair a b => .agg ((flatS (.pair a b)).map acOf)
  | s => .cell (acOf s)
def parS : Nat → List Sh → List Item
  | _, [] => []
  | i, s :: l => .slot i (aOf s) :: parS (i + 1) l

theorem flat_one : ∀ (s : Sh), (flatS s).all oneS = true
  | .pair a b => by simp only [flatS, List.all_append, flat_one a, flat_one b, Bool.and_self]
  | .int _ | .str | .bool | .sl _ _ => rfl

def WFCs : (l : List Sh) → denC (l.map acOf) → Prop
  | [], _ => True
  | s :: l, d => WFC s (hdC (acOf s) (l.map acOf) d) ∧ WFCs l (tlC (acOf s) (l.map acOf) d)
def WFA : (s : Sh) → (aOf s).den → Prop
  | .pair a b, d => WFCs (flatS (.pair a b)) d
  | .int k, n => WFC (.int k) n
  | .str, n => WFC .str n
  | .bool, n => WFC .bool n
  | .sl b e, n => WFC (.sl b e) n
def WFQ : (i : Nat) → (l : List Sh) → denI (parS i l) → Prop
  | _, [], _ => True
  | i, s :: l, d => WFA s (hdI (.slot i (aOf s)) (parS (i + 1) l) d) ∧ WFQ (i + 1) l (tlI (.slot i (aOf s)) (parS (i + 1) l) d)

theorem DVs.append : ∀ {a b : List Sh} {xs ys : List V}, DVs a xs → DVs b ys → DVs (a ++ b) (xs ++ ys)
  | [], _, [], _, _, h => h
  | _ :: a, _, _ :: xs, _, h1, h2 => ⟨h1.1, DVs.append h1.2 h2⟩
  | [], _, _ :: _, _, h, _ => h.elim
  | _ :: _, _, [], _, h, _ => h.elim
theorem dv_flat : ∀ {s : Sh} {xs : List V}, DV s xs → DVs (flatS s) xs
  | .pair a b, xs, h => by
    obtain ⟨l, r, rfl, h1, h2⟩ := h
    exact (dv_flat h1).append (dv_flat h2)
  | .int k, xs, h => by obtain ⟨n, rfl, hn⟩ := h; exact ⟨⟨n, rfl, hn⟩, trivial⟩
  | .str, xs, h => by obtain ⟨n, rfl, hn⟩ := h; exact ⟨⟨n, rfl, hn⟩, trivial⟩
  | .bool, xs, h => by obtain ⟨n, rfl⟩ := h; exact ⟨⟨n, rfl⟩, trivial⟩
  | .sl n e, xs, h => by obtain ⟨rows, rfl, hn⟩ := h; exact ⟨⟨rows, rfl, hn⟩, trivial⟩

/-- A cell of data is no struct. -/
theorem enc_cell {s : Sh} {d : (acOf s).den} {hp : THp} {x : V} (h : RV2 hp (encC (acOf s) d) x) : RV0 hp (encC (acOf s) d) x := by
  cases s <;> exact h
theorem dvs_cells : ∀ {l : List Sh} {xs : List V}, l.all oneS = true → DVs l xs → ∃ d : denC (l.map acOf), WFCs l d ∧ ∀ hp, RC (RV0 hp) (encCs (l.map acOf) d) xs
  | [], [], _, _ => ⟨(), trivial, fun hp => trivial⟩
  | s :: l, x :: xs, ho, h => by
    simp only [List.all_cons, Bool.and_eq_true] at ho
    obtain ⟨a, h1, h2⟩ := dv_cell ho.1 h.1
    obtain ⟨d, h3, h4⟩ := dvs_cells ho.2 h.2
    refine ⟨consC (acOf s) (l.map acOf) a d, ⟨?_, ?_⟩, fun hp => ?_⟩
    · rw [hdC_cons]; exact h1
    · rw [tlC_cons]; exact h3
    · show RC (RV0 hp) (encC (acOf s) (hdC (acOf s) (l.map acOf) (consC (acOf s) (l.map acOf) a d)) :: encCs (l.map acOf) (tlC (acOf s) (l.map acOf) (consC (acOf s) (l.map acOf) a d))) (x :: xs)
      rw [hdC_cons, tlC_cons]
      exact ⟨enc_cell (h2 hp), h4 hp⟩
  | [], _ :: _, _, h => h.elim
  | _ :: _, [], _, h => h.elim

/-- What is handed over for a parameter. -/
def DA : Sh → V → Prop
  | .pair a b, x => ∃ xs, x = .agg xs ∧ DV (.pair a b) xs
  | s, x => DV s [x]
def DAs : List Sh → List V → Prop
  | [], [] => True
  | s :: l, x :: xs => DA s x ∧ DAs l xs
  | _, _ => False
theorem DAs.length : ∀ {l : List Sh} {xs : List V}, DAs l xs → xs.length = l.length
  | [], [], _ => rfl
  | _ :: l, _ :: xs, h => by simp [DAs.length h.2]
  | [], _ :: _, h => h.elim
  | _ :: _, [], h => h.elim

theorem da_arg {s : Sh} {x : V} (h : DA s x) : ∃ d : (aOf s).den, WFA s d ∧ ∀ hp, RV2 hp (encSV (aOf s) d) x := by
  cases s with
  | pair a b =>
    obtain ⟨xs, rfl, h⟩ := h
    obtain ⟨d, h1, h2⟩ := dvs_cells (flat_one (.pair a b)) (dv_flat h)
    exact ⟨d, h1, fun hp => ⟨xs, rfl, h2 hp⟩⟩
  | int k => exact dv_cell (s := .int k) rfl h
  | str => exact dv_cell (s := .str) rfl h
  | bool => exact dv_cell (s := .bool) rfl h
  | sl n e => exact dv_cell (s := .sl n e) rfl h

theorem parS_rel : ∀ (l : List Sh) (i : Nat) {xs : List V}, DAs l xs → ∃ d : denI (parS i l), WFQ i l d ∧ (∀ k, (encI k (parS i l) d).2 = []) ∧ ∀ k hp, RT hp (encI k (parS i l) d).1 (lk .any (enum i xs))
  | [], i, [], _ => ⟨(), trivial, fun _ => rfl, fun k hp t => trivial⟩
  | s :: l, i, x :: xs, h => by
    obtain ⟨a, h1, h2⟩ := da_arg h.1
    obtain ⟨d, h3, h4, h5⟩ := parS_rel l (i + 1) h.2
    refine ⟨consI (.slot i (aOf s)) (parS (i + 1) l) a d, ⟨?_, ?_⟩, fun k => ?_, fun k hp => ?_⟩
    · rw [hd_cons (.slot i (aOf s))]; exact h1
    · rw [tl_cons (.slot i (aOf s))]; exact h3
    · simp only [parS, encI]
      rw [tl_cons (.slot i (aOf s))]
      exact h4 k
    · simp only [parS, encI]
      rw [tl_cons (.slot i (aOf s)), hd_cons (.slot i (aOf s))]
      intro t
      show RV2 hp (getV ((i, encSV (aOf s) a) :: _) t) (if t = i then x else lk .any (enum (i + 1) xs) t)
      rw [getV_cons]
      split
      · exact h2 hp
      · exact h5 k hp t
  | [], _, _ :: _, h => h.elim
  | _ :: _, _, [], h => h.elim

theorem parS_len : ∀ (l : List Sh) (i : Nat), (slotsI (parS i l)).length = l.length
  | [], _ => rfl
  | s :: l, i => by simp [parS, slotsI, parS_len l (i + 1)]

/-! ### the values -/
abbrev TA (w : World) (x : V) (y : Value) : Prop := Rep w (fun b => b < w.heap.size) x y ∨ ∃ cs us, x = .agg cs ∧ y = .agg us ∧ Told w cs us.toList
theorem repS_refs0 {w : World} {G : Nat → Prop} {x : V} {y : Value} (h : Rep w G x y) : refs0 x = [] := by cases h <;> rfl
theorem repS_refs1 {w : World} {G : Nat → Prop} {x : V} {y : Value} (h : Rep w G x y) : refs1 x = [] := by cases h <;> rfl
theorem ta_refs {w : World} {xs : List V} {cs : List Value} (h : VL (TA w) xs cs) : xs.flatMap refs1 = [] := by
  rw [List.flatMap_eq_nil_iff]
  intro x hx
  obtain ⟨i, hi⟩ := List.getElem?_of_mem hx
  obtain ⟨y, _, hr⟩ := h.get i x hi
  rcases hr with hr | ⟨cs', us, rfl, _, ht⟩
  · exact repS_refs1 hr
  · show cs'.flatMap refs0 = []
    rw [List.flatMap_eq_nil_iff]
    intro z hz
    obtain ⟨j, hj⟩ := List.getElem?_of_mem hz
    obtain ⟨u, _, hu⟩ := ht.get j z hj
    exact repS_refs0 hu
theorem rep_vr0 {w : World} {E : Env} {hp : Hp} {G : Nat → Prop} {x : V} {y : Value} (h : Rep w G x y) : VR0 w E hp G x y := by
  cases h with
  | v _ hs => exact .v _ hs
  | em a => exact .em a
  | er0 => exact .er0
  | er1 t x => exact .er1 t x
  | im0 a cap => exact .im0 a cap
  | im b off cap size rows f h1 h2 h3 h4 h5 h6 h7 => exact .im b off cap size rows f h1 h2 h3 h4 h5 h6 h7
theorem rep_vr1 {w : World} {E : Env} {hp : Hp} {G : Nat → Prop} {x : V} {y : Value} (h : Rep w G x y) : VR1 w E hp G x y := by
  cases h with
  | v _ hs => exact .v _ hs
  | em a => exact .em a
  | er0 => exact .er0
  | er1 t x => exact .er1 t x
  | im0 a cap => exact .im0 a cap
  | im b off cap size rows f h1 h2 h3 h4 h5 h6 h7 => exact .im b off cap size rows f h1 h2 h3 h4 h5 h6 h7

section
variable {P : Program} {J : Tabs}
theorem law_callsS {w : World} {cf : Cfg} {ext : Rel} (hm : P.follows .mixedOrders = true) (hext : ∀ g args blks r blks', ext g args blks r blks' → CSpec P J g args blks r blks') (hJ : ∀ x ∈ J, w.heap[x.1]? = some x.2) {g : FuncId} {xs : List V} {vals : Array Value}
    (hv : VL (TA w) xs vals.toList) (h : Runs P cf ext g xs [] (.v (.bool true)) []) : Calls P g vals w fun e w' => e = .returned (.bool true) ∧ Below w.heap.size w w' := by
  obtain ⟨k, h⟩ := h
  have hs := runs_spec hm hext k g xs [] _ [] h
  have hno : ∀ E b, ¬ Own E (lkB []) b := fun E b ⟨id, k, hk, _⟩ => by simp [lkB] at hk
  have hI : HpInv w (Own ⟨fun _ => none, fun _ _ => False⟩ (lkB [])) (fun b => b < w.heap.size) ⟨fun _ => none, fun _ _ => False⟩ (fun b => b < w.heap.size) (lkB []) w :=
    ⟨Fr.refl _ w, fun b hb => ⟨hb, .inl hb⟩, fun b _ => hno _ b, fun b h => absurd h (hno _ b), fun id k id' k' hk => by simp [lkB] at hk, fun id k b hk => by simp [lkB] at hk, fun id k hk => by simp [lkB] at hk⟩
  have hids : idsOK xs [] = true := by unfold idsOK; rw [ta_refs hv]; rfl
  refine (hs.calls hids w _ _ vals (fun x hx => ⟨hJ x hx, hno _ _⟩) hI (hv.mono fun x _ y hx => by
    rcases hx with hx | ⟨cs, us, rfl, rfl, ht⟩
    · exact rep_vr1 hx
    · exact ⟨us, rfl, ht.mono fun z _ u hz => rep_vr0 hz⟩)).mono ?_
  rintro e w' ⟨y, E', G', rfl, hI', hy, _⟩
  have hyt : y = .bool true := (vr2_v hy).1
  subst hyt
  exact ⟨rfl, hI'.fr.os, hI'.fr.tape, hI'.fr.output, hI'.fr.size, fun b hb => hI'.fr.block b hb (hno _ b)⟩

theorem told_argsS {H : Type} {enc : TypeId × Value → H} {W : World} : ∀ {ts : List TypeId} {l : List Sh} {vs : List Value} {ds : List (DataW H)} {p : List MemPlace}, FitsL P ts l → DataW.TrodAll enc P W 0 (fun _ => true) true ts vs ds p →
    (∀ (j : Nat) t v, ts[j]? = some t → vs[j]? = some v → ∃ base, Value.okWide P W .any base t v) → (∀ n ∈ DataW.weightsEach P ts ds, n ≤ reachBytes) → ∃ xs, DAs l xs ∧ VL (TA W) xs vs
  | [], [], vs, ds, p, _, h, _, _ => by
    obtain ⟨rfl, rfl, rfl⟩ := ChangeShapes.trodAll_nil h
    exact ⟨[], trivial, trivial⟩
  | t :: ts, s :: l, vs, ds, p, hf, h, hv, hw => by
    obtain ⟨v, vs', d, ds', p1, q, rfl, rfl, rfl, ⟨fuel, h1⟩, h2⟩ := ChangeShapes.trodAll_cons h
    obtain ⟨xs, q1, q2, q3⟩ := trod_told fuel t s _ _ hf.1 h1 fun n hn => hw n (by simp [DataW.weightsEach, hn])
    obtain ⟨ys, q4, q5⟩ := told_argsS hf.2 h2 (fun j t v h1 h2 => hv (j + 1) t v (by simpa using h1) (by simpa using h2)) fun n hn => hw n (by simp [DataW.weightsEach, hn])
    obtain ⟨base, hok⟩ := hv 0 t v rfl rfl
    by_cases hone : oneS s = true
    · have hs1 : s.size = 1 := by cases s <;> first | rfl | (cases hone)
      obtain ⟨x, rfl⟩ := List.length_eq_one_iff.1 (by rw [q2, hs1])
      have hc : v.cells.toList = [v] := by
        cases hf.1 with
        | int ht => simp only [Value.okWide, ht, Cell.okWide] at hok; cases v <;> simp_all [Cell.ok, Value.cells]
        | str ht => simp only [Value.okWide, ht, Cell.okWide] at hok; cases v <;> simp_all [Cell.ok, Value.cells]
        | bool ht => simp only [Value.okWide, ht, Cell.okWide] at hok; cases v <;> simp_all [Cell.ok, Value.cells]
        | sl ht => obtain ⟨a, n, c, rfl⟩ := WideShapes.okWide_slice ht hok; rfl
        | st => cases hone
      rw [hc] at q3
      refine ⟨x :: ys, ⟨?_, q4⟩, .inl q3.1, q5⟩
      cases s <;> first | exact q1 | (cases hone)
    · cases s with
      | pair a b =>
        cases hf.1 with
        | st ht hce hfs =>
          obtain ⟨us, rfl, _⟩ := WideShapes.okWide_struct ht hok
          exact ⟨.agg xs :: ys, ⟨⟨xs, rfl, q1⟩, q4⟩, .inr ⟨xs, us, rfl, rfl, q3⟩, q5⟩
      | _ => exact absurd rfl hone
  | [], _ :: _, _, _, _, h, _, _, _ => h.elim
  | _ :: _, [], _, _, _, h, _, _, _ => h.elim

theorem law_trueS {cf : Cfg} {ext : Rel} {g : FuncId} {shs : List Sh} {heads joins : List (Nat × List Item)} {outs : List (Nat × List (Ex × List Item))} {F : denI (parS 0 shs) → Option Bool}
    (hm : P.follows .mixedOrders = true) (hext : ∀ g args blks r blks', ext g args blks r blks' → CSpec P J g args blks r blks')
    (hE : EntOK (Runs P cf ext) ⟨⟨g, 0, parS 0 shs, [.slot 0 (.cell .bool)], heads, outs, joins⟩, F⟩) (hD : ∀ d, decSt 0 (parS 0 shs) (encSt (parS 0 shs) d) = some d) (hF : ∀ d, WFQ 0 shs d → F d = some true)
    {w : World} (hJ : ∀ x ∈ J, w.heap[x.1]? = some x.2) {xs : List V} {vals : Array Value} (hx : DAs shs xs) (hv : VL (TA w) xs vals.toList) : Calls P g vals w fun e w' => e = .returned (.bool true) ∧ Below w.heap.size w w' := by
  obtain ⟨d, h1, h2, h3⟩ := parS_rel shs 0 hx
  have hrefs := ta_refs hv
  obtain ⟨r, blks', q1, q2⟩ := hE d true xs [] (encSt (parS 0 shs) d) (hF d h1) ⟨h3 0 _, (fun id b hb => by
    rw [show (encSt (parS 0 shs) d).hp = (encI 0 (parS 0 shs) d).2 from rfl, h2] at hb
    exact absurd hb (by simp [getB])), rfl⟩ (hD d) (by unfold idsOK; rw [hrefs]; rfl) (by rw [hx.length]; exact (parS_len shs 0).symm) (by rw [hrefs]; rfl) (fun _ => rfl)
  have hr : r = .v (.bool true) := q2.val
  have hb : blks' = [] := List.eq_nil_of_length_eq_zero q2.len
  subst hr
  subst hb
  exact law_callsS hm hext hJ hv q1

theorem law_contractS {H : Type} {enc : TypeId × Value → H} {cf : Cfg} {ext : Rel} {g : FuncId} {shs : List Sh} {heads joins : List (Nat × List Item)} {outs : List (Nat × List (Ex × List Item))} {F : denI (parS 0 shs) → Option Bool} {fn : Func} {s : ChangeSpec} {ts : List TypeId} {rt : TypeId}
    (hm : P.follows .mixedOrders = true) (hext : ∀ g args blks r blks', ext g args blks r blks' → CSpec P J g args blks r blks')
    (hE : EntOK (Runs P cf ext) ⟨⟨g, 0, parS 0 shs, [.slot 0 (.cell .bool)], heads, outs, joins⟩, F⟩) (hD : ∀ d, decSt 0 (parS 0 shs) (encSt (parS 0 shs) d) = some d) (hF : ∀ d, WFQ 0 shs d → F d = some true)
    (hp : fn.params.toList = ts) (hr : fn.resultTypes.toList = [rt]) (hrt : P.underlying rt = some .bool) (hf : FitsL P ts shs) (hl : laidOutB P = true) (hread : ∀ t ∈ ts, P.readableRec t = true ∧ t < P.types.size) (hvars : s.vars = [])
    (hs : ∀ ds : List (DataW H), ds.length = ts.length → s.fn H (ds ++ []) = { results := [.lit (.bool true)], args := ds, vars := [] })
    {W : World} (hJ : ∀ x ∈ J, W.heap[x.1]? = some x.2) {base : Nat} {args : Array Value} {ds gs : List (DataW H)} {before : List MemPlace}
    (hval : ∀ (j : Nat) t v, fn.params[j]? = some t → args[j]? = some v → Value.okWide P W .any base t v) (hW : DataW.Whole enc P fn.params.toList s.vars false W args.toList ds gs before)
    (hsz : (DataW.weightsEach P (fn.params.toList ++ s.plain.varTypes P) (ds ++ gs)).all (· ≤ reachBytes) = true) :
    Calls P g args W fun e W' => ∃ v, e = .returned v ∧ s.post enc P fn false true false false W args v W' := by
  have hW' := hW
  obtain ⟨p, q, hA, hV, rfl, hfz, hnd⟩ := hW
  rw [hvars] at hV
  obtain ⟨rfl, rfl⟩ := ChangeShapes.trodVars_none hV
  rw [hp] at hA
  have hlen : ∀ {ts : List TypeId} {vs : List Value} {ds : List (DataW H)} {p : List MemPlace}, DataW.TrodAll enc P W 0 (fun _ => true) true ts vs ds p → ds.length = ts.length := by
    intro ts
    induction ts with
    | nil => intro vs ds p h; obtain ⟨_, rfl, _⟩ := ChangeShapes.trodAll_nil h; rfl
    | cons t ts ih => intro vs ds p h; obtain ⟨v, vs', d, ds', p1, q, rfl, rfl, rfl, h1, h2⟩ := ChangeShapes.trodAll_cons h; simp [ih h2]
  have hdl := hlen hA
  have hwt : ∀ n ∈ DataW.weightsEach P ts ds, n ≤ reachBytes := by
    intro n hn
    have hmem : ∀ (a b : List TypeId) (c d : List (DataW H)), ∀ n ∈ DataW.weightsEach P a c, c.length = a.length → n ∈ DataW.weightsEach P (a ++ b) (c ++ d) := by
      intro a
      induction a with
      | nil => intro b c d n hn hl; cases c <;> simp [DataW.weightsEach] at hn hl
      | cons t a ih =>
        intro b c d n hn hl
        cases c with
        | nil => simp [DataW.weightsEach] at hn
        | cons x c =>
          simp only [DataW.weightsEach, List.mem_append, List.cons_append] at hn ⊢
          rcases hn with hn | hn
          · exact .inl hn
          · exact .inr (ih b c d n hn (by simpa using hl))
    rw [hp] at hsz
    have := List.all_eq_true.1 hsz n (hmem ts _ ds _ n hn hdl)
    simpa using this
  obtain ⟨xs, h1, h2⟩ := told_argsS hf hA (fun j t v h1 h2 => ⟨base, hval j t v (by rw [← hp] at h1; simpa using h1) (by simpa using h2)⟩) hwt
  refine (law_trueS hm hext hE hD hF hJ h1 h2).mono fun e W' ⟨he, bel⟩ => ?_
  subst he
  obtain ⟨q', hq⟩ := trod_below hl bel hread hA
  refine ⟨_, rfl, ds, [], _, [], q', [], hW', ?_, ?_, ?_, bel.frame _, fun h => by cases h⟩
  · rw [hs ds hdl, hr]
    have : ((Value.bool true).resultList fn.resultTypes.size) = [.bool true] := by
      have : fn.resultTypes.size = 1 := by rw [← Array.length_toList, hr]; rfl
      rw [this]; rfl
    rw [this]
    exact ChangeShapes.trodAll_mk1 (shut_bool hrt true)
  · rw [hs ds hdl, hp]
    exact hq
  · rw [hs ds hdl, hvars]
    rfl
end
end Go.Proofs.YtnhibkgoinnmcaaDoor.Ev
end

/-! #### EvP -/
section
/- Plain facts about the typed texts' words. -/
namespace Go.Proofs.YtnhibkgoinnmcaaDoor.Ev
open Go
set_option linter.unusedVariables false
set_option linter.unusedSimpArgs false

theorem wrapI {n : Int} (h1 : -9223372036854775808 ≤ n) (h2 : n ≤ 9223372036854775807) : IntKind.wrap .i64 n = n := by rw [IntKind.wrap_i64]; omega

theorem wrapI' (n : Int) : -9223372036854775808 ≤ IntKind.wrap .i64 n ∧ IntKind.wrap .i64 n ≤ 9223372036854775807 := by rw [IntKind.wrap_i64]; omega

section
variable {σ τ ρ ρ' : Type} {f : σ → Option (σ ⊕ ρ)} {g : τ → Option (τ ⊕ ρ')}

theorem loop_go {s s' : σ} (h : f s = some (.inl s')) : loopM f s = loopM f s' := by rw [loopM_eq, h]; rfl
theorem loop_end {s : σ} {r : ρ} (h : f s = some (.inr r)) : loopM f s = some r := by rw [loopM_eq, h]; rfl

/-- A loop that comes to an end. -/
theorem loop_one {I : σ → Prop} {R : ρ → Prop} (m : σ → Nat) (h : ∀ s, I s → (∃ s', f s = some (.inl s') ∧ I s' ∧ m s' < m s) ∨ ∃ r, f s = some (.inr r) ∧ R r) : ∀ s, I s → ∃ r, loopM f s = some r ∧ R r := by
  have : ∀ n s, m s < n → I s → ∃ r, loopM f s = some r ∧ R r := by
    intro n
    induction n with
    | zero => intro s h; omega
    | succ n ih =>
      intro s hn hs
      rcases h s hs with ⟨s', h1, h2, h3⟩ | ⟨r, h1, h2⟩
      · obtain ⟨r, h4, h5⟩ := ih s' (by omega) h2
        exact ⟨r, by rw [loop_go h1, h4], h5⟩
      · exact ⟨r, loop_end h1, h2⟩
  exact fun s hs => this (m s + 1) s (by omega) hs

/-- Two loops side by side. -/
theorem loop_two {I : σ → τ → Prop} {R : ρ → ρ' → Prop} (m : σ → Nat) (h : ∀ s t, I s t → (∃ s' t', f s = some (.inl s') ∧ g t = some (.inl t') ∧ I s' t' ∧ m s' < m s) ∨ ∃ r r', f s = some (.inr r) ∧ g t = some (.inr r') ∧ R r r') :
    ∀ s t, I s t → ∃ r r', loopM f s = some r ∧ loopM g t = some r' ∧ R r r' := by
  have : ∀ n s t, m s < n → I s t → ∃ r r', loopM f s = some r ∧ loopM g t = some r' ∧ R r r' := by
    intro n
    induction n with
    | zero => intro s t h; omega
    | succ n ih =>
      intro s t hn hs
      rcases h s t hs with ⟨s', t', h1, h1', h2, h3⟩ | ⟨r, r', h1, h1', h2⟩
      · obtain ⟨r, r', h4, h4', h5⟩ := ih s' t' (by omega) h2
        exact ⟨r, r', by rw [loop_go h1, h4], by rw [loop_go h1', h4'], h5⟩
      · exact ⟨r, r', loop_end h1, loop_end h1', h2⟩
  exact fun s t hs => this (m s + 1) s t (by omega) hs
end

section
variable {α β γ : Type}
theorem getI_nat (l : List α) (i : Nat) : getI l (i : Int) = l[i]? := by
  unfold getI
  rw [if_pos (by omega)]
  simp

theorem getI_lt {l : List α} {i : Int} (h0 : 0 ≤ i) (h1 : i < l.length) : ∃ a, getI l i = some a ∧ l[i.toNat]? = some a := by
  unfold getI
  rw [if_pos h0]
  have : i.toNat < l.length := by omega
  exact ⟨l[i.toNat], List.getElem?_eq_getElem this, List.getElem?_eq_getElem this⟩

theorem idxI_nat {i n : Nat} (h : i < n) : idxI (i : Int) n = some i := by
  unfold idxI
  rw [if_pos (by omega)]
  simp

theorem lenI_nat {n b s : Nat} (h1 : n * b ≤ maxBytes) (h2 : n * s ≤ maxBytes) : lenI (n : Int) b s = some n := by
  unfold lenI
  rw [if_pos (by simp; omega)]
  simp

def copyB (G : α → Option β) (H : β → γ) : List α × List γ × Int → Option ((List α × List γ × Int) ⊕ List γ) := fun s => bif decide (s.2.2 < ((s.1.length : Nat) : Int)) then (getI s.1 s.2.2).bind fun x0 => (G x0).bind fun x1 => (idxI s.2.2 s.2.1.length).bind fun x2 => (getN s.2.1 x2).bind fun _ => some (Sum.inl (s.1, s.2.1.set x2 (H x1), IntKind.wrap .i64 (s.2.2 + 1))) else some (.inr s.2.1)
def sameB (E : α → α → Option Bool) : List α × List α × Int → Option ((List α × List α × Int) ⊕ (Unit ⊕ Bool)) := fun s => bif decide (s.2.2 < ((s.1.length : Nat) : Int)) then (getI s.1 s.2.2).bind fun x0 => (getI s.2.1 s.2.2).bind fun x1 => (E x0 x1).bind fun x2 => bif (!x2) then some (.inr (.inr false)) else some (Sum.inl (s.1, s.2.1, IntKind.wrap .i64 (s.2.2 + 1))) else some (.inr (.inl ()))

/-- A list that is copied, element by element. -/
theorem copy_loop {G : α → Option β} {g : α → γ} {H : β → γ} {z : γ} {l : List α} (hl : l.length < 4611686018427387904) (hG : ∀ a ∈ l, ∃ b, G a = some b ∧ H b = g a) :
    loopM (copyB G H) (l, List.replicate l.length z, 0) = some (l.map g) := by
  obtain ⟨r, h1, h2⟩ := loop_one (f := copyB G H)
    (I := fun s => ∃ (k : Nat) (acc : List γ), s = (l, acc, (k : Int)) ∧ k ≤ l.length ∧ acc.length = l.length ∧ ∀ j : Nat, j < k → acc[j]? = (l.map g)[j]?) (R := fun r => r = l.map g) (fun s => (((s.1.length : Nat) : Int) - s.2.2).toNat) (by
      rintro s ⟨k, acc, rfl, hk, hacc, hj⟩
      by_cases hlt : k < l.length
      · left
        have e1 : l[k]? = some l[k] := List.getElem?_eq_getElem hlt
        obtain ⟨b, hb, hbg⟩ := hG l[k] (List.getElem_mem hlt)
        have e2 : getN acc k = some acc[k] := List.getElem?_eq_getElem (by omega)
        refine ⟨(l, acc.set k (H b), ((k + 1 : Nat) : Int)), ?_, ⟨k + 1, _, rfl, hlt, by simp [hacc], fun j hj' => ?_⟩, ?_⟩
        · unfold copyB
          simp only [getI_nat, e1, Option.bind_some, hb, hacc, idxI_nat hlt, e2]
          rw [wrapI (by omega) (by omega)]
          have : decide ((k : Int) < (l.length : Int)) = true := by simpa using hlt
          rw [this]; rfl
        · rw [List.getElem?_set]
          by_cases hjk : k = j
          · subst hjk
            rw [if_pos rfl, if_pos (by omega), List.getElem?_map, e1, hbg]
            rfl
          · rw [if_neg hjk]; exact hj j (by omega)
        · simp only; omega
      · right
        refine ⟨acc, ?_, ?_⟩
        · have : decide ((k : Int) < (l.length : Int)) = false := by simpa using hlt
          unfold copyB
          simp only [this, cond_false]
        · apply List.ext_getElem?
          intro j
          by_cases hjl : j < k
          · exact hj j hjl
          · rw [List.getElem?_eq_none (by omega), List.getElem?_eq_none (by simp; omega)])
    (l, List.replicate l.length z, 0) ⟨0, _, rfl, by omega, by simp, fun j hj => by omega⟩
  rw [h1, h2]

/-- Two lists that are compared, element by element. -/
theorem same_loop {E : α → α → Option Bool} {l m : List α} (hl : l.length < 4611686018427387904) (hlm : m.length = l.length) (hE : ∀ a ∈ l, ∀ b ∈ m, ∃ t : Bool, E a b = some t ∧ (t = true ↔ a = b)) :
    ∃ r : Unit ⊕ Bool, loopM (sameB E) (l, m, 0) = some r ∧
      (l = m → r = .inl ()) ∧ (l ≠ m → r = .inr false) := by
  refine loop_one (f := sameB E)
    (I := fun s => ∃ k : Nat, s = (l, m, (k : Int)) ∧ k ≤ l.length ∧ ∀ j : Nat, j < k → l[j]? = m[j]?) (fun s => (((s.1.length : Nat) : Int) - s.2.2).toNat) ?_ (l, m, 0) ⟨0, rfl, by omega, fun j hj => by omega⟩
  rintro s ⟨k, rfl, hk, hj⟩
  by_cases hlt : k < l.length
  · have e1 : l[k]? = some l[k] := List.getElem?_eq_getElem hlt
    have e2 : m[k]? = some (m[k]'(by omega)) := List.getElem?_eq_getElem (by omega)
    obtain ⟨t, h1, h2⟩ := hE l[k] (List.getElem_mem hlt) (m[k]'(by omega)) (List.getElem_mem (by omega))
    have hd : decide ((k : Int) < (l.length : Int)) = true := by simpa using hlt
    cases t with
    | true =>
      left
      refine ⟨(l, m, ((k + 1 : Nat) : Int)), ?_, ⟨k + 1, rfl, hlt, fun j hj' => ?_⟩, ?_⟩
      · unfold sameB
        simp only [getI_nat, e1, e2, Option.bind_some, h1, hd]
        rw [wrapI (by omega) (by omega)]
        rfl
      · by_cases hjk : j = k
        · subst hjk; rw [e1, e2, h2.1 rfl]
        · exact hj j (by omega)
      · simp only; omega
    | false =>
      right
      refine ⟨.inr false, ?_, fun he => ?_, fun _ => rfl⟩
      · unfold sameB
        simp only [getI_nat, e1, e2, Option.bind_some, h1, hd]
        rfl
      · subst he
        have := h2.2 rfl
        cases this
  · right
    refine ⟨.inl (), ?_, fun _ => rfl, fun hne => ?_⟩
    · have : decide ((k : Int) < (l.length : Int)) = false := by simpa using hlt
      unfold sameB
      simp only [this, cond_false]
    · exfalso
      apply hne
      apply List.ext_getElem?
      intro j
      by_cases hjl : j < k
      · exact hj j hjl
      · rw [List.getElem?_eq_none (by omega), List.getElem?_eq_none (by omega)]
end

section
variable {α σ ρ : Type} {body : σ → Option (σ ⊕ ρ)}
/-- A loop that looks at each element and stops at the first that fails. -/
theorem all_loop {l : List α} {st : Nat → σ} {p : α → Bool} {fin : ρ} {bad : Nat → ρ} (hgo : ∀ k a, l[k]? = some a → p a = true → body (st k) = some (.inl (st (k + 1)))) (hbad : ∀ k a, l[k]? = some a → p a = false → body (st k) = some (.inr (bad k))) (hend : body (st l.length) = some (.inr fin)) :
    (l.all p = true → loopM body (st 0) = some fin) ∧ (l.all p = false → ∃ k, k < l.length ∧ loopM body (st 0) = some (bad k)) := by
  have key : ∀ (n k : Nat), k + n = l.length → ((l.drop k).all p = true → loopM body (st k) = some fin) ∧ ((l.drop k).all p = false → ∃ j, j < l.length ∧ loopM body (st k) = some (bad j)) := by
    intro n
    induction n with
    | zero =>
      intro k hk
      have : k = l.length := by omega
      subst this
      rw [List.drop_length]
      exact ⟨fun _ => loop_end hend, (fun h => by cases h)⟩
    | succ n ih =>
      intro k hk
      have hlt : k < l.length := by omega
      have hd : l.drop k = l[k] :: l.drop (k + 1) := List.drop_eq_getElem_cons hlt
      have he : l[k]? = some l[k] := List.getElem?_eq_getElem hlt
      rw [hd, List.all_cons]
      cases hp : p l[k] with
      | true =>
        have h1 := hgo k _ he hp
        obtain ⟨q1, q2⟩ := ih (k + 1) (by omega)
        rw [Bool.true_and, loop_go h1]
        exact ⟨q1, q2⟩
      | false =>
        rw [Bool.false_and]
        exact ⟨(fun h => by cases h), fun _ => ⟨k, hlt, loop_end (hbad k _ he hp)⟩⟩
  have := key l.length 0 (by omega)
  rwa [List.drop_zero] at this
end

/-! ### rows that are marked, and looked at again -/
section
def markIB : List Int × Int × Int → Option ((List Int × Int × Int) ⊕ (List Int × Int)) := fun s => bif decide (s.2.2 < ((s.1.length : Nat) : Int)) then (idxI s.2.2 s.1.length).bind fun x0 => (getN s.1 x0).bind fun _ => some (Sum.inl (s.1.set x0 s.2.1, IntKind.wrap .i64 (s.2.1 + 1), IntKind.wrap .i64 (s.2.2 + 1))) else some (.inr (s.1, s.2.1))
def heldIB : List Int × Int × Int → Option ((List Int × Int × Int) ⊕ (Int ⊕ Int)) := fun s => bif decide (s.2.2 < ((s.1.length : Nat) : Int)) then (getI s.1 s.2.2).bind fun x0 => bif (x0 != s.2.1) then some (Sum.inr (Sum.inr (-1))) else some (Sum.inl (s.1, IntKind.wrap .i64 (s.2.1 + 1), IntKind.wrap .i64 (s.2.2 + 1))) else some (.inr (.inl s.2.1))
def markPB : List (Int × Int) × Int × Int → Option ((List (Int × Int) × Int × Int) ⊕ (List (Int × Int) × Int)) := fun s => bif decide (s.2.2 < ((s.1.length : Nat) : Int)) then
    (idxI s.2.2 s.1.length).bind fun x0 => (getN s.1 x0).bind fun x1 => (idxI s.2.2 (s.1.set x0 (s.2.1, x1.2)).length).bind fun x2 => (getN (s.1.set x0 (s.2.1, x1.2)) x2).bind fun x3 =>
      some (Sum.inl ((s.1.set x0 (s.2.1, x1.2)).set x2 (x3.1, IntKind.wrap .i64 (s.2.1 + 1)), IntKind.wrap .i64 (IntKind.wrap .i64 (s.2.1 + 1) + 1), IntKind.wrap .i64 (s.2.2 + 1)))
  else some (.inr (s.1, s.2.1))
def heldPB : List (Int × Int) × Int × Int → Option ((List (Int × Int) × Int × Int) ⊕ (Int ⊕ Int)) := fun s => bif decide (s.2.2 < ((s.1.length : Nat) : Int)) then
    (getI s.1 s.2.2).bind fun x0 => bif (x0.1 != s.2.1) then some (Sum.inr (Sum.inr (-1))) else
    (getI s.1 s.2.2).bind fun x1 => bif (x1.2 != IntKind.wrap .i64 (s.2.1 + 1)) then some (Sum.inr (Sum.inr (-1))) else
    some (Sum.inl (s.1, IntKind.wrap .i64 (IntKind.wrap .i64 (s.2.1 + 1) + 1), IntKind.wrap .i64 (s.2.2 + 1)))
  else some (.inr (.inl s.2.1))

def markI (b : Int) (n : Nat) : List Int := (List.range n).map fun (j : Nat) => b + (j : Int)
def markP (b : Int) (n : Nat) : List (Int × Int) := (List.range n).map fun (j : Nat) => (b + 2 * (j : Int), b + 2 * (j : Int) + 1)

theorem wrap1 {k : Nat} (h : k < 4611686018427387904) : IntKind.wrap .i64 ((k : Int) + 1) = ((k + 1 : Nat) : Int) := by rw [wrapI (by omega) (by omega)]; omega

theorem markI_loop {l : List Int} {b : Int} (hl : l.length < 1099511627776) (hb0 : 0 ≤ b) (hb : b < 1099511627776) : loopM markIB (l, b, 0) = some (markI b l.length, b + l.length) := by
  obtain ⟨r, h1, h2⟩ := loop_one (f := markIB) (I := fun s => ∃ (k : Nat) (acc : List Int), s = (acc, b + (k : Int), (k : Int)) ∧ k ≤ l.length ∧ acc.length = l.length ∧ ∀ j : Nat, j < k → acc[j]? = some (b + (j : Int))) (R := fun r => r = (markI b l.length, b + (l.length : Int))) (fun s => (((s.1.length : Nat) : Int) - s.2.2).toNat) (by
      rintro s ⟨k, acc, rfl, hk, hacc, hj⟩
      unfold markIB
      by_cases hlt : k < l.length
      · left
        have hd : decide ((k : Int) < ((acc.length : Nat) : Int)) = true := by rw [hacc]; simpa using hlt
        have e2 : getN acc k = some acc[k] := List.getElem?_eq_getElem (by omega)
        refine ⟨(acc.set k (b + (k : Int)), b + ((k + 1 : Nat) : Int), ((k + 1 : Nat) : Int)), ?_, ⟨k + 1, _, rfl, hlt, by simp [hacc], fun j hj' => ?_⟩, ?_⟩
        · simp only [hd, cond_true, idxI_nat (show k < acc.length by omega), Option.bind_some, e2, wrap1 (show k < 4611686018427387904 by omega)]
          rw [wrapI (by omega) (by omega)]
          simp [Int.add_assoc]
        · rw [List.getElem?_set]
          by_cases hjk : k = j
          · subst hjk; rw [if_pos rfl, if_pos (by omega)]
          · rw [if_neg hjk]; exact hj j (by omega)
        · simp only [List.length_set]; omega
      · right
        have hkl : k = l.length := by omega
        subst hkl
        have hd : decide ((l.length : Int) < ((acc.length : Nat) : Int)) = false := by rw [hacc]; simp
        refine ⟨(acc, b + (l.length : Int)), by simp only [hd, cond_false], ?_⟩
        congr 1
        apply List.ext_getElem?
        intro j
        unfold markI
        by_cases hjl : j < l.length
        · rw [hj j hjl, List.getElem?_map, List.getElem?_range hjl]; rfl
        · rw [List.getElem?_eq_none (by omega), List.getElem?_eq_none (by simp; omega)])
    (l, b, 0) ⟨0, l, by simp, by omega, rfl, fun j hj => by omega⟩
  rw [h1, h2]

theorem heldI_loop {n : Nat} {b : Int} (hl : n < 1099511627776) (hb0 : 0 ≤ b) (hb : b < 1099511627776) : loopM heldIB (markI b n, b, 0) = some (.inl (b + n)) := by
  have hlen : (markI b n).length = n := by simp [markI]
  obtain ⟨r, h1, h2⟩ := loop_one (f := heldIB) (I := fun s => ∃ (k : Nat), s = (markI b n, b + (k : Int), (k : Int)) ∧ k ≤ n) (R := fun r => r = .inl (b + (n : Int))) (fun s => (((s.1.length : Nat) : Int) - s.2.2).toNat) (by
      rintro s ⟨k, rfl, hk⟩
      unfold heldIB
      by_cases hlt : k < n
      · left
        have hd : decide ((k : Int) < (((markI b n).length : Nat) : Int)) = true := by rw [hlen]; simpa using hlt
        have e1 : (markI b n)[k]? = some (b + (k : Int)) := by unfold markI; rw [List.getElem?_map, List.getElem?_range hlt]; rfl
        refine ⟨(markI b n, b + ((k + 1 : Nat) : Int), ((k + 1 : Nat) : Int)), ?_, ⟨k + 1, rfl, hlt⟩, by simp only; omega⟩
        simp only [hd, cond_true, getI_nat, e1, Option.bind_some, wrap1 (show k < 4611686018427387904 by omega), bne_self_eq_false, cond_false]
        rw [wrapI (by omega) (by omega)]
        simp [Int.add_assoc]
      · right
        have hkl : k = n := by omega
        subst hkl
        have hd : decide ((k : Int) < (((markI b k).length : Nat) : Int)) = false := by rw [hlen]; simp
        exact ⟨_, by simp only [hd, cond_false], rfl⟩)
    (markI b n, b, 0) ⟨0, by simp, by omega⟩
  rw [h1, h2]

theorem markP_loop {l : List (Int × Int)} {b : Int} (hl : l.length < 1099511627776) (hb0 : 0 ≤ b) (hb : b < 1099511627776) : loopM markPB (l, b, 0) = some (markP b l.length, b + 2 * l.length) := by
  obtain ⟨r, h1, h2⟩ := loop_one (f := markPB) (I := fun s => ∃ (k : Nat) (acc : List (Int × Int)), s = (acc, b + 2 * (k : Int), (k : Int)) ∧ k ≤ l.length ∧ acc.length = l.length ∧ ∀ j : Nat, j < k → acc[j]? = some (b + 2 * (j : Int), b + 2 * (j : Int) + 1)) (R := fun r => r = (markP b l.length, b + 2 * (l.length : Int))) (fun s => (((s.1.length : Nat) : Int) - s.2.2).toNat) (by
      rintro s ⟨k, acc, rfl, hk, hacc, hj⟩
      unfold markPB
      by_cases hlt : k < l.length
      · left
        have hd : decide ((k : Int) < ((acc.length : Nat) : Int)) = true := by rw [hacc]; simpa using hlt
        have e2 : getN acc k = some acc[k] := List.getElem?_eq_getElem (by omega)
        generalize acc[k] = a at e2
        have e3 : getN (acc.set k (b + 2 * (k : Int), a.2)) k = some (b + 2 * (k : Int), a.2) := by unfold getN; rw [List.getElem?_set_self (by omega)]
        refine ⟨(acc.set k (b + 2 * (k : Int), b + 2 * (k : Int) + 1), b + 2 * ((k + 1 : Nat) : Int), ((k + 1 : Nat) : Int)), ?_, ⟨k + 1, _, rfl, hlt, by simp [hacc], fun j hj' => ?_⟩, ?_⟩
        · simp only [hd, cond_true, idxI_nat (show k < acc.length by omega), Option.bind_some, e2, e3, wrap1 (show k < 4611686018427387904 by omega), List.length_set, List.set_set]
          rw [show IntKind.wrap .i64 (b + 2 * (k : Int) + 1) = b + 2 * (k : Int) + 1 from wrapI (by omega) (by omega), show IntKind.wrap .i64 (b + 2 * (k : Int) + 1 + 1) = b + 2 * ((k + 1 : Nat) : Int) by rw [wrapI (by omega) (by omega)]; omega]
        · rw [List.getElem?_set]
          by_cases hjk : k = j
          · subst hjk; rw [if_pos rfl, if_pos (by omega)]
          · rw [if_neg hjk]; exact hj j (by omega)
        · simp only [List.length_set]; omega
      · right
        have hkl : k = l.length := by omega
        subst hkl
        have hd : decide ((l.length : Int) < ((acc.length : Nat) : Int)) = false := by rw [hacc]; simp
        refine ⟨(acc, b + 2 * (l.length : Int)), by simp only [hd, cond_false], ?_⟩
        congr 1
        apply List.ext_getElem?
        intro j
        unfold markP
        by_cases hjl : j < l.length
        · rw [hj j hjl, List.getElem?_map, List.getElem?_range hjl]; rfl
        · rw [List.getElem?_eq_none (by omega), List.getElem?_eq_none (by simp; omega)])
    (l, b, 0) ⟨0, l, by simp, by omega, rfl, fun j hj => by omega⟩
  rw [h1, h2]

theorem heldP_loop {n : Nat} {b : Int} (hl : n < 1099511627776) (hb0 : 0 ≤ b) (hb : b < 1099511627776) : loopM heldPB (markP b n, b, 0) = some (.inl (b + 2 * n)) := by
  have hlen : (markP b n).length = n := by simp [markP]
  obtain ⟨r, h1, h2⟩ := loop_one (f := heldPB) (I := fun s => ∃ (k : Nat), s = (markP b n, b + 2 * (k : Int), (k : Int)) ∧ k ≤ n) (R := fun r => r = .inl (b + 2 * (n : Int))) (fun s => (((s.1.length : Nat) : Int) - s.2.2).toNat) (by
      rintro s ⟨k, rfl, hk⟩
      unfold heldPB
      by_cases hlt : k < n
      · left
        have hd : decide ((k : Int) < (((markP b n).length : Nat) : Int)) = true := by rw [hlen]; simpa using hlt
        have e1 : (markP b n)[k]? = some (b + 2 * (k : Int), b + 2 * (k : Int) + 1) := by unfold markP; rw [List.getElem?_map, List.getElem?_range hlt]; rfl
        refine ⟨(markP b n, b + 2 * ((k + 1 : Nat) : Int), ((k + 1 : Nat) : Int)), ?_, ⟨k + 1, rfl, hlt⟩, by simp only; omega⟩
        simp only [hd, cond_true, getI_nat, e1, Option.bind_some, wrap1 (show k < 4611686018427387904 by omega), bne_self_eq_false, cond_false]
        rw [show IntKind.wrap .i64 (b + 2 * (k : Int) + 1) = b + 2 * (k : Int) + 1 from wrapI (by omega) (by omega), show IntKind.wrap .i64 (b + 2 * (k : Int) + 1 + 1) = b + 2 * ((k + 1 : Nat) : Int) by rw [wrapI (by omega) (by omega)]; omega]
        simp only [bne_self_eq_false, cond_false]
      · right
        have hkl : k = n := by omega
        subst hkl
        have hd : decide ((k : Int) < (((markP b k).length : Nat) : Int)) = false := by rw [hlen]; simp
        exact ⟨_, by simp only [hd, cond_false], rfl⟩)
    (markP b n, b, 0) ⟨0, by simp, by omega⟩
  rw [h1, h2]
end

theorem appL_is {β : Type} {b s : Nat} {l m : List β} (h1 : (l.length + m.length) * b ≤ maxBytes) (h2 : (l.length + m.length) * s ≤ maxBytes) : appL b s l m = some (l ++ m) := by
  unfold appL
  rw [if_pos ⟨h1, h2⟩]
end Go.Proofs.YtnhibkgoinnmcaaDoor.Ev
end

/-! #### EvC -/
section
/- slices.Clone: it asks whether its slice is nil. -/
namespace Go.Proofs.YtnhibkgoinnmcaaDoor.Ev
open Go
set_option linter.unusedVariables false
set_option linter.unusedSimpArgs false

variable {P : Program} {J : Tabs}

def nilS : Value := .slice none 0 0
/-- The body of slices.Clone, at a type of slices. -/
def cloneBody (t tb : TypeId) : Code :=
  .seq (.region 0 #[⟨some 2, .assign (.const nilS), t, "slices.go:355", #[], none⟩] false)
    (.seq (.seq (.region 1 #[⟨some 3, .move (.tmp 0), t, "slices.go:357", #[], none⟩, ⟨some 4, .binOp .eql t (.tmp 3) (.const nilS) t, tb, "slices.go:357", #[⟨0, .data⟩], none⟩] false)
        (.cond (.tmp 4) (.seq (.region 2 #[⟨some 2, .assign (.const nilS), t, "slices.go:358", #[], none⟩] false) .ret) .skip))
      (.seq (.region 3 #[⟨some 5, .buildSlice t 0 #[], t, "slices.go:362", #[], none⟩, ⟨some 6, .move (.tmp 0), t, "slices.go:362", #[], none⟩,
          ⟨some 7, .call ⟨.builtin .append, #[.tmp 5, .tmp 6], #[t, t]⟩, t, "slices.go:362", #[⟨0, .data⟩, ⟨1, .data⟩], none⟩,
          ⟨some 2, .assign (.tmp 7), t, "slices.go:362", #[⟨2, .data⟩, ⟨2, .chain⟩, ⟨0, .phase⟩, ⟨1, .phase⟩, ⟨2, .phase⟩], none⟩] false) .ret))

/-- How its results are laid. -/
def cfN (e size : Nat) (deep : Bool) : Cfg := { live := fun _ _ => [], out := fun _ _ _ => [], join := fun _ _ => none, res := fun _ => [.one (.own e size deep)], par := fun _ => [(0, .one .keep)], rts := fun _ => [], byref := fun _ => [], isExt := fun _ => false }

theorem clone_nil {g : FuncId} {fn : Func} {t tb e : TypeId} {d de : TyD} (hfn : P.funcs[g]? = some fn) (hb : fn.body = some (cloneBody t tb)) (hok : bodyOK fn (cloneBody t tb) 1 = true) (hr : fn.results.toList = [.tmp 2])
    (hd : tyOf P t = some d) (he : d.elem = some e) (hde : tyOf P e = some de) (hst : isStr P t = false) (a : Option Addr) (c : Nat) :
    Runs P (cfN e de.size (de.zero.all isVB)) (fun _ _ _ _ _ => False) g [.v (.slice a 0 c)] [] (.ar 0 0 0) [arrOf e de.size (de.zero.all isVB) []] := by
  refine Runs.intro rfl hfn hb hok rfl ?_
  rw [hr]
  have hsl : isSl P t = true := by unfold isSl; rw [hd]; simp [he]
  cases a with
  | none =>
    simp [canon, normS, normV, normC, caseO, entry, enum, lk, upd, canon0, close, refs2, refs1, refs0, ren2, ren1, ren0, lkB, blksOf, cloneBody, we, reo, weOps, opAt, isR, weOp, nevT, nilEq, opnd, Ev.put, drawn, ofConst, ofCell, nilS, hsl, meet, caseB, toVal, cfN, outs, rootsOK, resVs, resV, normR, rootVs, outL, out1, idx, renB, arrOf, refsB]
  | some a =>
    simp [canon, normS, normV, normC, caseO, entry, enum, lk, upd, canon0, close, refs2, refs1, refs0, ren2, ren1, ren0, lkB, blksOf, cloneBody, we, reo, weOps, opAt, isR, weOp, nevT, nilEq, opnd, Ev.put, drawn, ofConst, ofCell, nilS, hsl, meet, caseB, toVal, cfN, outs, rootsOK, resVs, resV, normR, rootVs, outL, out1, idx, renB, arrOf, refsB, weBuildSlice, hd, he, hde, weAppend, srcRows, nodupB]

/-- What is known of an instance: the function, its elements' type, their size, whether they are flat. -/
structure CloneOK (P : Program) (x : FuncId × TypeId × Nat × Bool) : Prop where
  ok : ∃ (fn : Func) (t tb : TypeId) (d de : TyD), P.funcs[x.1]? = some fn ∧ fn.body = some (cloneBody t tb) ∧ bodyOK fn (cloneBody t tb) 1 = true ∧ fn.results.toList = [.tmp 2] ∧
    tyOf P t = some d ∧ d.elem = some x.2.1 ∧ tyOf P x.2.1 = some de ∧ isStr P t = false ∧ de.size = x.2.2.1 ∧ de.zero.all isVB = x.2.2.2

theorem clone_spec0 (hm : P.follows .mixedOrders = true) {x : FuncId × TypeId × Nat × Bool} (h : CloneOK P x) {v : V} (hv : v = .em ∨ v = .im []) : CSpec P J x.1 [v] [] (.ar 0 0 0) [arrOf x.2.1 x.2.2.1 x.2.2.2 []] := by
  obtain ⟨fn, t, tb, d, de, h1, h2, h3, h4, h5, h6, h7, h8, h9, h10⟩ := h.ok
  have key : ∀ (a : Option Addr) (c : Nat), CSpec P J x.1 [.v (.slice a 0 c)] [] (.ar 0 0 0) [arrOf x.2.1 x.2.2.1 x.2.2.2 []] := by
    intro a c
    obtain ⟨k, hk⟩ := clone_nil h1 h2 h3 h4 h5 h6 h7 h8 a c
    rw [← h9, ← h10]
    exact runs_spec hm (fun _ _ _ _ _ h => h.elim) k _ _ _ _ _ hk
  refine ⟨(key none 0).enter, fun _ w A E vals hT hI hvl => ?_⟩
  obtain ⟨y, hy⟩ : ∃ y, vals.toList = [y] := by
    match hl : vals.toList with
    | [] => rw [hl] at hvl; exact hvl.elim
    | [y] => exact ⟨y, rfl⟩
    | _ :: _ :: _ => rw [hl] at hvl; exact hvl.2.elim
  rw [hy] at hvl
  have hv1 := hvl.1
  obtain ⟨a, c, hyc⟩ : ∃ a c, y = .slice a 0 c := by
    rcases hv with rfl | rfl
    · have hv1 : Rep w A .em y := hv1
      cases hv1 with
      | em a => exact ⟨a, 0, rfl⟩
    · have hv1 : Rep w A (.im []) y := hv1
      cases hv1 with
      | im0 a c => exact ⟨a, c, rfl⟩
      | im b off cap => exact ⟨some ⟨b, off, none⟩, cap, rfl⟩
  subst hyc
  have hk := (key a c).calls rfl w A E vals hT hI (by rw [hy]; exact ⟨.v _ rfl, trivial⟩)
  refine hk.mono fun e w' he => ?_
  obtain ⟨y', E', G', q1, q2, q3, q4⟩ := he
  refine ⟨y', E', G', q1, q2, q3, fun j hj => ?_⟩
  rcases hv with rfl | rfl <;> simp [refs1, refs0] at hj

/-- The contracts of slices.Clone: what the evaluator finds of slices that are not empty, and the empty ones. -/
def cloneRel (Rc : Rel) (tab : List (FuncId × TypeId × Nat × Bool)) : Rel := fun g args blks r blks' =>
  Rc g args blks r blks' ∨ ∃ x ∈ tab, g = x.1 ∧ (args = [.em] ∨ args = [.im []]) ∧ blks = [] ∧ r = .ar 0 0 0 ∧ blks' = [arrOf x.2.1 x.2.2.1 x.2.2.2 []]

theorem cloneRel_spec {cf : Cfg} {tab : List (FuncId × TypeId × Nat × Bool)} (hm : P.follows .mixedOrders = true) (ht : ∀ x ∈ tab, CloneOK P x) :
    ∀ g args blks r blks', cloneRel (Runs P cf fun _ _ _ _ _ => False) tab g args blks r blks' → CSpec P J g args blks r blks' := by
  intro g args blks r blks' h
  rcases h with ⟨k, hk⟩ | ⟨x, hx, rfl, ha, rfl, rfl, rfl⟩
  · exact runs_spec hm (fun _ _ _ _ _ h => h.elim) k _ _ _ _ _ hk
  · rcases ha with rfl | rfl
    · exact clone_spec0 hm (ht x hx) (.inl rfl)
    · exact clone_spec0 hm (ht x hx) (.inr rfl)

theorem dec_im {t : Ty} {st : TSt} {x : denI [.slot 0 (.cell (.im t))]} (h : decSt 0 [.slot 0 (.cell (.im t))] st = some x) : asLh st.hp t (getV st.tm 0) = some (show List t.den from x) := by
  unfold decSt at h
  split at h
  case isFalse => cases h
  simp only [keepT, blksI, tmS, tmC, tnS, tnV, tnC] at h
  cases ha : asLh st.hp t (getV st.tm 0) with
  | none => rw [ha] at h; cases h
  | some l =>
    rw [ha] at h
    simp only [Nat.zero_le, Nat.ble_eq, if_true] at h
    have hc : ∀ c, canonT 0 (slotsI [.slot 0 (.cell (.im t))]) { tm := (0, .im t l) :: st.tm, hp := freezeT st.hp (frV (getV st.tm 0)), c := c } = some { tm := [(0, .im t l)], hp := [], c := 1 } := fun c => rfl
    rw [hc] at h
    simp only [rdI, rdS, rdC, Nat.beq_refl, if_true, dite_true] at h
    rw [← Option.some.inj h]
    rfl

/-- What is done with a list that is not empty; the empty one is handed back. -/
def orNil {α β : Type} (F : List α → Option (List β)) (l : List α) : Option (List β) := match l with | [] => some [] | a :: l => F (a :: l)

theorem clone_ent' {ext : Rel} {cf : Cfg} {Rc : Rel} {tab : List (FuncId × TypeId × Nat × Bool)} {g : FuncId} {e : TypeId} {deep : Bool} {t : Ty} {heads joins : List (Nat × List Item)} {outs : List (Nat × List (Ex × List Item))} {F : List t.den → Option (List t.den)}
    (h : EntOK Rc ⟨⟨g, 0, [.slot 0 (.cell (.im t))], [.blk (.arr e deep t), .slot 0 (.ref 0 false)], heads, outs, joins⟩, F⟩) (hmem : (g, e, t.size, deep) ∈ tab) (hext : ∀ g args blks r blks', cloneRel Rc tab g args blks r blks' → ext g args blks r blks') :
    EntOK (Runs P cf ext) ⟨⟨g, 0, [.slot 0 (.cell (.im t))], [.blk (.arr e deep t), .slot 0 (.ref 0 false)], heads, outs, joins⟩, fun l => orNil F l⟩ := by
  intro x y args blks st hF hs hd hid hlen href hb0
  have ha := dec_im hd
  cases hx : (show List t.den from x) with
  | cons a l =>
    have hx' : x = (show denI [.slot 0 (.cell (.im t))] from (a :: l : List t.den)) := hx
    subst hx'
    obtain ⟨r, blks', q1, q2⟩ := h _ y args blks st hF hs hd hid hlen href hb0
    exact ⟨r, blks', Runs.ext (hext _ _ _ _ _ (.inl q1)), q2⟩
  | nil =>
    have hx' : x = (show denI [.slot 0 (.cell (.im t))] from ([] : List t.den)) := hx
    subst hx'
    have hy : y = (show denI [.blk (.arr e deep t), .slot 0 (.ref 0 false)] from ([] : List t.den)) := (Option.some.inj hF).symm
    subst hy
    -- what is handed in
    obtain ⟨v, rfl⟩ : ∃ v, args = [v] := by
      match args, hlen with
      | [v], _ => exact ⟨v, rfl⟩
    have hrefs : ([v] : List V).flatMap refs1 = [] := by
      cases hr : ([v] : List V).flatMap refs1 with
      | nil => rfl
      | cons i l => rw [hr] at href; simp [List.eraseDups_cons] at href
    have hv := hs.tm 0
    have hv : RV2 st.hp (getV st.tm 0) v := hv
    have hcase : v = .em ∨ v = .im [] := by
      generalize getV st.tm 0 = u at ha hv
      cases u with
      | em => exact .inl hv
      | im t' l =>
        simp only [asLh, asL] at ha
        rcases hv with ⟨_, hv⟩ | ⟨rows, hv, hl⟩
        · exact .inl hv
        · split at ha
          · rename_i ht
            subst ht
            have h0 : l = [] := by have := Option.some.inj ha; exact this
            subst h0
            have : rows = [] := List.eq_nil_of_length_eq_zero (by have := hl.1; simpa using this)
            subst this
            exact .inr hv
          · cases ha
      | ow id =>
        obtain ⟨n, rfl, _⟩ := hv
        simp [refs1, refs0] at hrefs
      | ar id lo n =>
        have hv : v = .ar id lo n := hv
        subst hv
        simp [refs1, refs0] at hrefs
      | _ => simp [asLh, asL] at ha
    have hblks : blks = [] := hb0 rfl
    subst hblks
    refine ⟨.ar 0 0 0, [arrOf e t.size deep []], Runs.ext (hext _ _ _ _ _ (.inr ⟨_, hmem, rfl, ?_, rfl, rfl, rfl⟩)), ?_, ?_, rfl⟩
    · rcases hcase with rfl | rfl
      · exact .inl rfl
      · exact .inr rfl
    · exact ⟨0, rfl, fun b hb => by cases hb; rfl⟩
    · intro id b hb
      have hb : getB [(0, some (TB.arr e deep t []))] id = some b := hb
      simp only [getB] at hb
      cases hi : Nat.beq id 0 with
      | false => rw [hi] at hb; cases hb
      | true =>
        rw [hi] at hb
        have hb : some (TB.arr e deep t []) = some b := hb
        cases hb
        have : id = 0 := Nat.eq_of_beq_eq_true hi
        subst this
        exact ⟨_, rfl, rfl, rfl, rfl, rfl, RLx.nil⟩
theorem clone_ent {cf : Cfg} {Rc : Rel} {tab : List (FuncId × TypeId × Nat × Bool)} {g : FuncId} {e : TypeId} {deep : Bool} {t : Ty} {heads joins : List (Nat × List Item)} {outs : List (Nat × List (Ex × List Item))} {F : List t.den → Option (List t.den)}
    (h : EntOK Rc ⟨⟨g, 0, [.slot 0 (.cell (.im t))], [.blk (.arr e deep t), .slot 0 (.ref 0 false)], heads, outs, joins⟩, F⟩) (hmem : (g, e, t.size, deep) ∈ tab) :
    EntOK (Runs P cf (cloneRel Rc tab)) ⟨⟨g, 0, [.slot 0 (.cell (.im t))], [.blk (.arr e deep t), .slot 0 (.ref 0 false)], heads, outs, joins⟩, fun l => orNil F l⟩ := clone_ent' h hmem fun _ _ _ _ _ h => h
end Go.Proofs.YtnhibkgoinnmcaaDoor.Ev
end

/-! #### EvL -/
section
/- Contracts of Go's library, as the evaluator takes them: what is handed in, what is handed out. -/
namespace Go.Proofs.YtnhibkgoinnmcaaDoor.Ev
open Go Go.RowKit
set_option linter.unusedVariables false
set_option linter.unusedSimpArgs false

/-- A cell's value, as it is handed in. -/
def ArgC : (c : AC) → c.den → V → Prop
  | .int k, n, v => v = .v (.int k n)
  | .bool, b, v => v = .v (.bool b)
  | .str, s, v => v = .v (.string ⟨s.toArray⟩)
  | .err, b, v => v = .er b
  | .im t, l, v => (l = [] ∧ v = .em) ∨ ∃ rows, v = .im rows ∧ RLx (RE t) l rows
  | .at _, _, _ => False

section
variable {hp hp' : THp} {u v : SV} {a : V} {b n : Nat} {c : AC}

theorem tn_arg (hc : c.isU = false) (h : tnC (tmC [] c) u hp b = some (v, hp', n)) (hr : RV2 hp u a) (ha : refs1 a = []) : hp' = hp ∧ ∀ f d, rdC c (renS1 f v) = some d → ArgC c d a := by
  cases c with
  | «at» j => cases hc
  | im t =>
    simp only [tmC, tnC] at h
    cases hl : asLh hp t u with
    | none => rw [hl] at h; cases h
    | some l =>
      rw [hl] at h
      simp only [Option.some.injEq, Prod.mk.injEq] at h
      obtain ⟨rfl, rfl, _⟩ := h
      have key : frV u = [] ∧ ArgC (.im t) l a := by
        cases u with
        | em =>
          simp only [asLh, asL, Option.some.injEq] at hl
          subst hl
          exact ⟨rfl, .inl ⟨rfl, hr⟩⟩
        | im t' l' =>
          simp only [asLh, asL] at hl
          split at hl
          · rename_i ht
            subst ht
            have hl : l' = l := Option.some.inj hl
            subst hl
            exact ⟨rfl, hr⟩
          · cases hl
        | ow id =>
          obtain ⟨m, rfl, _⟩ := hr
          simp [refs1, refs0] at ha
        | ar id lo m =>
          have hr : a = .ar id lo m := hr
          subst hr
          simp [refs1, refs0] at ha
        | _ => simp [asLh, asL] at hl
      refine ⟨by rw [key.1]; rfl, fun f d hd => ?_⟩
      simp only [renS1, renS0, rdC, dite_true] at hd
      have hd : l = d := Option.some.inj hd
      subst hd
      exact key.2
  | int k =>
    simp only [tmC, tnC, Option.some.injEq, Prod.mk.injEq] at h
    obtain ⟨rfl, rfl, _⟩ := h
    refine ⟨rfl, fun f d hd => ?_⟩
    cases u with
    | int k' m =>
      simp only [renS1, renS0, rdC] at hd
      split at hd
      · rename_i hk; subst hk; cases hd; exact hr
      · cases hd
    | ow id => simp only [renS1, renS0] at hd; split at hd <;> cases hd
    | ar id lo m => simp only [renS1, renS0] at hd; split at hd <;> cases hd
    | rf id r c => simp only [renS1, renS0] at hd; split at hd <;> cases hd
    | cl g caps => cases hd
    | _ => cases hd
  | bool =>
    simp only [tmC, tnC, Option.some.injEq, Prod.mk.injEq] at h
    obtain ⟨rfl, rfl, _⟩ := h
    refine ⟨rfl, fun f d hd => ?_⟩
    cases u with
    | bool m => cases hd; exact hr
    | ow id => simp only [renS1, renS0] at hd; split at hd <;> cases hd
    | ar id lo m => simp only [renS1, renS0] at hd; split at hd <;> cases hd
    | rf id r c => simp only [renS1, renS0] at hd; split at hd <;> cases hd
    | cl g caps => cases hd
    | _ => cases hd
  | str =>
    simp only [tmC, tnC, Option.some.injEq, Prod.mk.injEq] at h
    obtain ⟨rfl, rfl, _⟩ := h
    refine ⟨rfl, fun f d hd => ?_⟩
    cases u with
    | str m => cases hd; exact hr
    | ow id => simp only [renS1, renS0] at hd; split at hd <;> cases hd
    | ar id lo m => simp only [renS1, renS0] at hd; split at hd <;> cases hd
    | rf id r c => simp only [renS1, renS0] at hd; split at hd <;> cases hd
    | cl g caps => cases hd
    | _ => cases hd
  | err =>
    simp only [tmC, tnC, Option.some.injEq, Prod.mk.injEq] at h
    obtain ⟨rfl, rfl, _⟩ := h
    refine ⟨rfl, fun f d hd => ?_⟩
    cases u with
    | er m => cases hd; exact hr
    | ow id => simp only [renS1, renS0] at hd; split at hd <;> cases hd
    | ar id lo m => simp only [renS1, renS0] at hd; split at hd <;> cases hd
    | rf id r c => simp only [renS1, renS0] at hd; split at hd <;> cases hd
    | cl g caps => cases hd
    | _ => cases hd
end

/-- One argument. -/
theorem dec1 {c : AC} {st : TSt} {x : denI [.slot 0 (.cell c)]} {a : V} (hc : c.isU = false) (h : decSt 0 [.slot 0 (.cell c)] st = some x) (hr : RV2 st.hp (getV st.tm 0) a) (ha : refs1 a = []) :
    ∃ d, x = consI (.slot 0 (.cell c)) [] d () ∧ ArgC c d a := by
  unfold decSt at h
  split at h
  case isFalse => cases h
  simp only [keepT, blksI, tmS, tnS, tnV] at h
  cases h1 : tnC (tmC [] c) (getV st.tm 0) st.hp (16 * st.c) with
  | none => rw [h1] at h; cases h
  | some z =>
    obtain ⟨v, hp1, n⟩ := z
    rw [h1] at h
    simp only at h
    split at h
    case h_2 => cases h
    rename_i st1 hle
    split at hle
    case isFalse => cases hle
    cases hle
    obtain ⟨rfl, h2⟩ := tn_arg hc h1 hr ha
    split at h
    case h_2 => cases h
    rename_i st2 hst2
    unfold canonT at hst2
    split at hst2
    case isFalse => cases hst2
    split at hst2
    case h_2 => cases hst2
    rename_i o ho
    split at hst2
    case isFalse => cases hst2
    have hst2 := Option.some.inj hst2
    subst hst2
    simp only [slotsI, List.map_cons, List.map_nil, getV, Nat.beq_refl, cond_true] at h
    cases hhp : renHp st.hp (idxT o) 0 o with
    | cons y l => rw [hhp] at h; simp only [rdI, Nat.beq_refl, if_true] at h; split at h <;> cases h
    | nil =>
      rw [hhp] at h
      simp only [rdI, Nat.beq_refl, if_true, rdS] at h
      split at h
      · rename_i d hd
        exact ⟨d, (Option.some.inj h).symm, h2 _ _ hd⟩
      · cases h

/-- Two arguments. -/
theorem dec2 {c c' : AC} {st : TSt} {x : denI [.slot 0 (.cell c), .slot 1 (.cell c')]} {a a' : V} (hc : c.isU = false) (hc' : c'.isU = false) (h : decSt 0 [.slot 0 (.cell c), .slot 1 (.cell c')] st = some x)
    (hr : RV2 st.hp (getV st.tm 0) a) (hr' : RV2 st.hp (getV st.tm 1) a') (ha : refs1 a = []) (ha' : refs1 a' = []) :
    ∃ d d', x = consI (.slot 0 (.cell c)) [.slot 1 (.cell c')] d (consI (.slot 1 (.cell c')) [] d' ()) ∧ ArgC c d a ∧ ArgC c' d' a' := by
  unfold decSt at h
  split at h
  case isFalse => cases h
  simp only [keepT, blksI, tmS, tnS, tnV] at h
  cases h1 : tnC (tmC [] c) (getV st.tm 0) st.hp (16 * st.c) with
  | none => rw [h1] at h; cases h
  | some z =>
    obtain ⟨v, hp1, n⟩ := z
    rw [h1] at h
    simp only at h
    obtain ⟨rfl, h2⟩ := tn_arg hc h1 hr ha
    split at h
    case h_2 => cases h
    rename_i st1 hle
    split at hle
    case isFalse => cases hle
    have hg : getV ((0, v) :: st.tm) 1 = getV st.tm 1 := rfl
    rw [hg] at hle
    cases h3 : tnC (tmC [] c') (getV st.tm 1) st.hp (16 * (st.c + 1)) with
    | none => rw [h3] at hle; cases hle
    | some z =>
      obtain ⟨v', hp2, n'⟩ := z
      rw [h3] at hle
      simp only at hle
      obtain ⟨rfl, h4⟩ := tn_arg hc' h3 hr' ha'
      split at hle
      case isFalse => cases hle
      cases hle
      split at h
      case h_2 => cases h
      rename_i st2 hst2
      unfold canonT at hst2
      split at hst2
      case isFalse => cases hst2
      split at hst2
      case h_2 => cases hst2
      rename_i o ho
      split at hst2
      case isFalse => cases hst2
      have hst2 := Option.some.inj hst2
      subst hst2
      have g0 : getV ((1, v') :: (0, v) :: st.tm) 0 = v := rfl
      have g1 : getV ((1, v') :: (0, v) :: st.tm) 1 = v' := rfl
      simp only [slotsI, List.map_cons, List.map_nil, g0, g1] at h
      cases hhp : renHp st.hp (idxT o) 0 o with
      | cons y l =>
        rw [hhp] at h
        cases e1 : rdS (.cell c) (renS1 (idxT o) v) with
        | none => simp [rdI, e1] at h
        | some d => cases e2 : rdS (.cell c') (renS1 (idxT o) v') with
          | none => simp [rdI, e1, e2] at h
          | some d' => simp [rdI, e1, e2] at h
      | nil =>
        rw [hhp] at h
        cases e1 : rdS (.cell c) (renS1 (idxT o) v) with
        | none => simp [rdI, e1] at h
        | some d => cases e2 : rdS (.cell c') (renS1 (idxT o) v') with
          | none => simp [rdI, e1, e2] at h
          | some d' =>
            simp only [rdI, e1, e2, Nat.beq_refl, if_true, Option.some.injEq] at h
            exact ⟨d, d', h.symm, h2 _ _ e1, h4 _ _ e2⟩

section
variable {P : Program} {J : Tabs} {cf : Cfg} {ext : Rel}

theorem refs_none {args : List V} (h : (args.flatMap refs1).eraseDups.length = 0) : ∀ v ∈ args, refs1 v = [] := by
  have h0 : args.flatMap refs1 = [] := by
    cases hr : args.flatMap refs1 with
    | nil => rfl
    | cons i l => rw [hr] at h; simp [List.eraseDups_cons] at h
  intro v hv
  rw [List.flatMap_eq_nil_iff] at h0
  exact h0 v hv

/-- A function of one argument that is a contract. -/
theorem lib_ent1 {g : FuncId} {c : AC} {res : List Item} {F : denI [.slot 0 (.cell c)] → Option (denI res)} (hc : c.isU = false)
    (h : ∀ d y a, ArgC c d a → F (consI (.slot 0 (.cell c)) [] d ()) = some y → ∃ r blks', ext g [a] [] r blks' ∧ ResRel res y r blks') :
    EntOK (Runs P cf ext) ⟨⟨g, 0, [.slot 0 (.cell c)], res, [], [], []⟩, F⟩ := by
  intro x y args blks st hF hs hd hid hlen href hb0
  match args, hlen with
  | [a], _ =>
    have hb : blks = [] := hb0 rfl
    subst hb
    have hn := refs_none href
    have h0 : RV2 st.hp (getV st.tm 0) a := hs.tm 0
    obtain ⟨d, rfl, hA⟩ := dec1 hc hd h0 (hn a (by simp))
    obtain ⟨r, blks', h1, h2⟩ := h d y a hA hF
    exact ⟨r, blks', Runs.ext h1, h2⟩

/-- A function of two arguments that is a contract. -/
theorem lib_ent2 {g : FuncId} {c c' : AC} {res : List Item} {F : denI [.slot 0 (.cell c), .slot 1 (.cell c')] → Option (denI res)} (hc : c.isU = false) (hc' : c'.isU = false)
    (h : ∀ d d' y a a', ArgC c d a → ArgC c' d' a' → F (consI (.slot 0 (.cell c)) [.slot 1 (.cell c')] d (consI (.slot 1 (.cell c')) [] d' ())) = some y → ∃ r blks', ext g [a, a'] [] r blks' ∧ ResRel res y r blks') :
    EntOK (Runs P cf ext) ⟨⟨g, 0, [.slot 0 (.cell c), .slot 1 (.cell c')], res, [], [], []⟩, F⟩ := by
  intro x y args blks st hF hs hd hid hlen href hb0
  match args, hlen with
  | [a, a'], _ =>
    have hb : blks = [] := hb0 rfl
    subst hb
    have hn := refs_none href
    have h0 : RV2 st.hp (getV st.tm 0) a := hs.tm 0
    have h1 : RV2 st.hp (getV st.tm 1) a' := hs.tm 1
    obtain ⟨d, d', rfl, hA, hA'⟩ := dec2 hc hc' hd h0 h1 (hn a (by simp)) (hn a' (by simp))
    obtain ⟨r, blks', h1, h2⟩ := h d d' y a a' hA hA' hF
    exact ⟨r, blks', Runs.ext h1, h2⟩

/-! ### contracts -/
def Ent0 (P : Program) (g : FuncId) : Prop := ∃ fn, P.funcs[g]? = some fn ∧ okEnter fn = true ∧ fn.body.isSome = true

theorem own_none {E : Env} {b : Nat} : ¬ Own E (lkB []) b := fun ⟨id, k, hk, _⟩ => by simp [lkB] at hk

theorem inv_below {w w' : World} {A : Nat → Prop} {E : Env} (hI : HpInv w (Own E (lkB [])) A E A (lkB []) w) (h : Below w.heap.size w w') : HpInv w (Own E (lkB [])) A E A (lkB []) w' := by
  refine ⟨⟨h.os, h.tape, h.output, h.size, fun b hb _ => h.block b hb, fun b cur ty fz hb => ⟨cur, fz, ?_, rfl⟩⟩, fun b hb => ?_, fun b _ => own_none, fun b hb => absurd hb own_none, fun id k id' k' hk => by simp [lkB] at hk, fun id k b hk => by simp [lkB] at hk, fun id k hk => by simp [lkB] at hk⟩
  · rw [h.block b (Array.getElem?_eq_some_iff.1 hb).1]; exact hb
  · have h1 := hI.g1 b hb
    have := h.size
    exact ⟨by omega, h1.2⟩

/-- A call that hands out no block. -/
theorem cspec_plain {g : FuncId} {args : List V} {r : V} (hent : Ent0 P g)
    (h : ∀ (w : World) (A : Nat → Prop) (E : Env) (vals : List Value), (∀ x ∈ J, w.heap[x.1]? = some x.2) → (∀ b, A b → b < w.heap.size) → VL (VR1 w E (lkB []) A) args vals →
      Calls P g vals.toArray w fun e w' => ∃ y, e = .returned y ∧ Below w.heap.size w w' ∧ VR2 w' E (lkB []) A r y) : CSpec P J g args [] r [] := by
  refine ⟨hent, fun _ w A E vals hT hI hvl => ?_⟩
  refine (show Calls P g vals w _ from (h w A E vals.toList (fun x hx => (hT x hx).1) (fun b hb => (hI.g1 b hb).1) hvl)).mono ?_
  rintro e w' ⟨y, rfl, hb, hv⟩
  exact ⟨y, E, A, rfl, inv_below hI hb, hv, fun j _ k' hk => by simp at hk⟩

/-- A call that hands out one new slice. -/
theorem cspec_slice {g : FuncId} {args : List V} {e size : Nat} {deep : Bool} {rows : List (List V)} (hent : Ent0 P g) (h0 : 0 < size) (hna : args.flatMap refs1 = [])
    (h : ∀ (w : World) (A : Nat → Prop) (E : Env) (vals : List Value), (∀ x ∈ J, w.heap[x.1]? = some x.2) → (∀ b, A b → b < w.heap.size) → VL (VR1 w E (lkB []) A) args vals →
      Calls P g vals.toArray w fun ee w' => ∃ (b cap : Nat) (cur : Array Value), ee = .returned (.slice (some ⟨b, 0, none⟩) rows.length cap) ∧ Below w.heap.size w w' ∧ w.heap.size ≤ b ∧ b < w'.heap.size ∧ w'.heap[b]? = some (.cells cur e (0, 0)) ∧
        cur.size = cap * size ∧ cap ≤ maxLen ∧ rows.length ≤ cap ∧ (∀ (i : Nat) (row : List V), rows[i]? = some row → row.length = size) ∧
        ∀ (i j : Nat) (row : List V) (x : V), rows[i]? = some row → row[j]? = some x → ∃ u, cur[i * size + j]? = some u ∧ ∀ G, Rep w' G x u) : CSpec P J g args [] (.ar 0 0 rows.length) [arrOf e size deep rows] := by
  refine ⟨hent, fun _ w A E vals hT hI hvl => ?_⟩
  refine (show Calls P g vals w _ from (h w A E vals.toList (fun x hx => (hT x hx).1) (fun b hb => (hI.g1 b hb).1) hvl)).mono ?_
  rintro ee w' ⟨b, cap, cur, rfl, hb, hbn, hbs, hbk, hsz, hcap, hle, hrl, hre⟩
  have hk0 : ∀ id k, lkB [arrOf e size deep rows] id = some k → id = 0 ∧ k = arrOf e size deep rows := by
    intro id k hk
    cases id with
    | zero => simp [lkB] at hk; exact ⟨rfl, hk.symm⟩
    | succ id => simp [lkB] at hk
  have hown : ∀ x, Own ⟨fun i => if i = 0 then some b else none, fun _ _ => False⟩ (lkB [arrOf e size deep rows]) x → x = b := by
    rintro x ⟨id, k, hk, _, hx⟩
    obtain ⟨rfl, rfl⟩ := hk0 id k hk
    rcases hx with hx | hx
    · simpa using hx.symm
    · exact hx.elim
  have hI' := inv_below hI hb
  refine ⟨_, ⟨fun i => if i = 0 then some b else none, fun _ _ => False⟩, A, rfl, ⟨hI'.fr, hI'.g1, fun x hx ho => ?_, fun x ho => ?_, fun id k id' k' hk _ hk' _ _ _ _ => ?_, fun id k x _ _ _ hn => hn, fun id k hk => ?_⟩, ?_, fun j hj k' hk' => ?_⟩
  · rw [hown x ho] at hx
    have := (hI.g1 b hx).1
    omega
  · rw [hown x ho]
    exact ⟨hbs, .inr hbn⟩
  · rw [(hk0 id k hk).1, (hk0 id' k' hk').1]
  · obtain ⟨rfl, rfl⟩ := hk0 id k hk
    exact .inr ⟨b, cur, cap, rfl, hbk, h0, hsz, hcap, hle, hrl, fun i j row x h1 h2 => by
      obtain ⟨u, h3, h4⟩ := hre i j row x h1 h2
      exact ⟨u, h3, h4 _⟩⟩
  · refine ⟨some ⟨b, 0, none⟩, cap, rfl, fun k hk => ?_⟩
    have hk : some (arrOf e size deep rows) = some k := hk
    cases hk
    refine ⟨by simp [arrOf], by simp [arrOf], .inr ⟨b, cur, e, (0, 0), rfl, by simp, hle, hbk, by simp [arrOf]; exact hsz⟩⟩
  · rw [hna] at hj; cases hj
end
end Go.Proofs.YtnhibkgoinnmcaaDoor.Ev
end

/-! #### EvLb -/
section
/- Contracts of Go's library: strconv.Itoa. -/
namespace Go.Proofs.YtnhibkgoinnmcaaDoor.Ev
open Go Go.RowKit
set_option linter.unusedVariables false
set_option linter.unusedSimpArgs false

section
variable {P : Program} {J : Tabs} {cf : Cfg} {ext : Rel} {g : FuncId}

/-- Where the tables stand, a variable holds these numbers. -/
def JTab (P : Program) (J : Tabs) (name : String) (k : IntKind) (zs : List Int) : Prop := ∀ w : World, (∀ x ∈ J, w.heap[x.1]? = some x.2) → Lib.TabIs P w name k zs

theorem vl1_v {w : World} {E : Env} {A : Nat → Prop} {x : Value} {ys : List Value} (h : VL (VR1 w E (lkB []) A) [.v x] ys) : ys = [x] := by
  match ys, h with
  | [y], h =>
    have h1 : Rep w A (.v x) y := h.1
    cases h1
    rfl
  | [], h => exact h.elim
  | _ :: _ :: _, h => exact h.2.elim
theorem vl2_v {w : World} {E : Env} {A : Nat → Prop} {x x' : Value} {ys : List Value} (h : VL (VR1 w E (lkB []) A) [.v x, .v x'] ys) : ys = [x, x'] := by
  match ys, h with
  | [y, z], h =>
    have h1 : Rep w A (.v x) y := h.1
    have h2 : Rep w A (.v x') z := h.2.1
    cases h1
    cases h2
    rfl
  | [], h => exact h.elim
  | [_], h => exact h.2.elim
  | _ :: _ :: _ :: _, h => exact h.2.2.elim

/-! ### strconv.Itoa -/
def F_itoa (n : Int) : Option Str := if -9223372036854775808 ≤ n ∧ n ≤ 9223372036854775807 then some (Lib.itoa n) else none
def itoaRel (g : FuncId) : Rel := fun g' args blks r blks' => g' = g ∧ ∃ n : Int, -9223372036854775808 ≤ n ∧ n ≤ 9223372036854775807 ∧ args = [.v (.int .i64 n)] ∧ blks = [] ∧ r = .v (.string ⟨(Lib.itoa n).toArray⟩) ∧ blks' = []
def itoaA (g : FuncId) : FAnn := ⟨g, 0, [.slot 0 (.cell (.int .i64))], [.slot 0 (.cell .str)], [], [], []⟩

theorem itoa_spec (hent : Ent0 P g) (hc : ∀ (n : Int) (h0 : -9223372036854775808 ≤ n) (h1 : n ≤ 9223372036854775807) (w : World) (htab : Lib.TabIs P w "internal/strconv.uint64pow10" .u64 Lib.pow10Tab),
    Calls P g #[.int .i64 n] w fun e w' => e = .returned (.string ⟨(Lib.itoa n).toArray⟩) ∧ ∃ k os, w' = Sort.grow (w.drewN k) os) (hJ : JTab P J "internal/strconv.uint64pow10" .u64 Lib.pow10Tab) :
    ∀ g' args blks r blks', itoaRel g g' args blks r blks' → CSpec P J g' args blks r blks' := by
  rintro g' args blks r blks' ⟨rfl, n, h0, h1, rfl, rfl, rfl, rfl⟩
  refine cspec_plain hent fun w A E vals hT hA hvl => ?_
  rw [vl1_v hvl]
  refine (hc n h0 h1 w (hJ w hT)).mono ?_
  rintro e w' ⟨rfl, k, os, rfl⟩
  exact ⟨_, rfl, Lib.below_grow _ w (Nat.le_refl _) k os, .v _ rfl⟩
theorem itoa_ent (hx : ∀ g' args blks r blks', itoaRel g g' args blks r blks' → ext g' args blks r blks') : EntOK (Runs P cf ext) ⟨itoaA g, F_itoa⟩ := by
  refine lib_ent1 rfl fun d y a ha hF => ?_
  have hF : F_itoa d = some y := hF
  unfold F_itoa at hF
  split at hF
  · rename_i h
    cases hF
    have ha : a = .v (.int .i64 d) := ha
    exact ⟨_, [], hx _ _ _ _ _ ⟨rfl, d, h.1, h.2, by rw [ha], rfl, rfl, rfl⟩, rfl, fun id b hb => by simp [encI, getB] at hb, rfl⟩
  · cases hF

/-! ### strings.CutPrefix, strings.Cut, strings.Contains -/
def JMax (J : Tabs) (k : Nat) : Prop := ∀ w : World, (∀ x ∈ J, w.heap[x.1]? = some x.2) → ∃ m : Int, w.cell? ⟨k, 0, none⟩ = some (.int .i64 m)

def F_cutp (s p : Str) : Option (Str × Bool) := some (Lib.trimPrefix s p, Lib.hasPrefix s p)
def cutpRel (g : FuncId) : Rel := fun g' args blks r blks' => g' = g ∧ ∃ s p : Str, args = [.v (.string ⟨s.toArray⟩), .v (.string ⟨p.toArray⟩)] ∧ blks = [] ∧ r = .tup [.v (.string ⟨(Lib.trimPrefix s p).toArray⟩), .v (.bool (Lib.hasPrefix s p))] ∧ blks' = []
def cutpA (g : FuncId) : FAnn := ⟨g, 0, [.slot 0 (.cell .str), .slot 1 (.cell .str)], [.slot 0 (.cell .str), .slot 1 (.cell .bool)], [], [], []⟩
theorem cutp_spec (hent : Ent0 P g) (hc : ∀ (s p : ByteArray) (w : World), Calls P g #[.string s, .string p] w fun e w' => e = .returned (.tuple #[.string ⟨(Lib.trimPrefix s.data.toList p.data.toList).toArray⟩, .bool (Lib.hasPrefix s.data.toList p.data.toList)]) ∧ w' = w) :
    ∀ g' args blks r blks', cutpRel g g' args blks r blks' → CSpec P J g' args blks r blks' := by
  rintro g' args blks r blks' ⟨rfl, s, p, rfl, rfl, rfl, rfl⟩
  refine cspec_plain hent fun w A E vals hT hA hvl => ?_
  rw [vl2_v hvl]
  refine (hc ⟨s.toArray⟩ ⟨p.toArray⟩ w).mono ?_
  rintro e w' ⟨rfl, rfl⟩
  exact ⟨_, rfl, Below.refl _ _, _, rfl, .v _ rfl, .v _ rfl, trivial⟩
theorem cutp_ent (hx : ∀ g' args blks r blks', cutpRel g g' args blks r blks' → ext g' args blks r blks') : EntOK (Runs P cf ext) ⟨cutpA g, fun x => F_cutp x.1 x.2⟩ := by
  refine lib_ent2 rfl rfl fun d d' y a a' ha ha' hF => ?_
  have hF : F_cutp d d' = some y := hF
  cases hF
  have ha : a = .v (.string ⟨(show Str from d).toArray⟩) := ha
  have ha' : a' = .v (.string ⟨(show Str from d').toArray⟩) := ha'
  exact ⟨_, [], hx _ _ _ _ _ ⟨rfl, d, d', by rw [ha, ha'], rfl, rfl, rfl⟩, ⟨_, rfl, rfl, rfl, trivial⟩, fun id b hb => by simp [encI, getB] at hb, rfl⟩

def F_cut (s sep : Str) : Option (Str × Str × Bool) := if s.length < 4294967281 then some (Lib.cut s sep) else none
def cutRel (g : FuncId) : Rel := fun g' args blks r blks' => g' = g ∧ ∃ s p : Str, s.length < 4294967281 ∧ args = [.v (.string ⟨s.toArray⟩), .v (.string ⟨p.toArray⟩)] ∧ blks = [] ∧
  r = .tup [.v (.string ⟨(Lib.cut s p).1.toArray⟩), .v (.string ⟨(Lib.cut s p).2.1.toArray⟩), .v (.bool (Lib.cut s p).2.2)] ∧ blks' = []
def cutA (g : FuncId) : FAnn := ⟨g, 0, [.slot 0 (.cell .str), .slot 1 (.cell .str)], [.slot 0 (.cell .str), .slot 1 (.cell .str), .slot 2 (.cell .bool)], [], [], []⟩
theorem cut_spec {k : Nat} (hent : Ent0 P g) (hc : ∀ (s sep : ByteArray) (m : Int) (w : World) (hs : s.size < 4294967281) (hm : w.cell? ⟨k, 0, none⟩ = some (.int .i64 m)),
    Calls P g #[.string s, .string sep] w fun e w' => e = .returned (.tuple #[.string ⟨(Lib.cut s.data.toList sep.data.toList).1.toArray⟩, .string ⟨(Lib.cut s.data.toList sep.data.toList).2.1.toArray⟩, .bool (Lib.cut s.data.toList sep.data.toList).2.2]) ∧ ∃ n, w' = w.drewN n) (hJ : JMax J k) :
    ∀ g' args blks r blks', cutRel g g' args blks r blks' → CSpec P J g' args blks r blks' := by
  rintro g' args blks r blks' ⟨rfl, s, p, hs, rfl, rfl, rfl, rfl⟩
  refine cspec_plain hent fun w A E vals hT hA hvl => ?_
  rw [vl2_v hvl]
  obtain ⟨m, hm⟩ := hJ w hT
  refine (hc ⟨s.toArray⟩ ⟨p.toArray⟩ m w (by simpa [ByteArray.size] using hs) hm).mono ?_
  rintro e w' ⟨rfl, n, rfl⟩
  exact ⟨_, rfl, ⟨rfl, rfl, rfl, Nat.le_refl _, fun _ _ => rfl⟩, _, rfl, .v _ rfl, .v _ rfl, .v _ rfl, trivial⟩
theorem cut_ent (hx : ∀ g' args blks r blks', cutRel g g' args blks r blks' → ext g' args blks r blks') : EntOK (Runs P cf ext) ⟨cutA g, fun x => F_cut x.1 x.2⟩ := by
  refine lib_ent2 rfl rfl fun d d' y a a' ha ha' hF => ?_
  have hF : F_cut d d' = some y := hF
  unfold F_cut at hF
  split at hF
  · rename_i h
    cases hF
    have ha : a = .v (.string ⟨(show Str from d).toArray⟩) := ha
    have ha' : a' = .v (.string ⟨(show Str from d').toArray⟩) := ha'
    exact ⟨_, [], hx _ _ _ _ _ ⟨rfl, d, d', h, by rw [ha, ha'], rfl, rfl, rfl⟩, ⟨_, rfl, rfl, rfl, rfl, trivial⟩, fun id b hb => by simp [encI, getB] at hb, rfl⟩
  · cases hF

def F_contains (s sub : Str) : Option Bool := if s.length < 4294967281 then some (Lib.contains s sub) else none
def containsRel (g : FuncId) : Rel := fun g' args blks r blks' => g' = g ∧ ∃ s p : Str, s.length < 4294967281 ∧ args = [.v (.string ⟨s.toArray⟩), .v (.string ⟨p.toArray⟩)] ∧ blks = [] ∧ r = .v (.bool (Lib.contains s p)) ∧ blks' = []
def containsA (g : FuncId) : FAnn := ⟨g, 0, [.slot 0 (.cell .str), .slot 1 (.cell .str)], [.slot 0 (.cell .bool)], [], [], []⟩
theorem contains_spec {k : Nat} (hent : Ent0 P g) (hc : ∀ (s sub : ByteArray) (m : Int) (w : World) (hs : s.size < 4294967281) (hm : w.cell? ⟨k, 0, none⟩ = some (.int .i64 m)),
    Calls P g #[.string s, .string sub] w fun e w' => e = .returned (.bool (Lib.contains s.data.toList sub.data.toList)) ∧ w' = w) (hJ : JMax J k) :
    ∀ g' args blks r blks', containsRel g g' args blks r blks' → CSpec P J g' args blks r blks' := by
  rintro g' args blks r blks' ⟨rfl, s, p, hs, rfl, rfl, rfl, rfl⟩
  refine cspec_plain hent fun w A E vals hT hA hvl => ?_
  rw [vl2_v hvl]
  obtain ⟨m, hm⟩ := hJ w hT
  refine (hc ⟨s.toArray⟩ ⟨p.toArray⟩ m w (by simpa [ByteArray.size] using hs) hm).mono ?_
  rintro e w' ⟨rfl, rfl⟩
  exact ⟨_, rfl, Below.refl _ _, .v _ rfl⟩
theorem contains_ent (hx : ∀ g' args blks r blks', containsRel g g' args blks r blks' → ext g' args blks r blks') : EntOK (Runs P cf ext) ⟨containsA g, fun x => F_contains x.1 x.2⟩ := by
  refine lib_ent2 rfl rfl fun d d' y a a' ha ha' hF => ?_
  have hF : F_contains d d' = some y := hF
  unfold F_contains at hF
  split at hF
  · rename_i h
    cases hF
    have ha : a = .v (.string ⟨(show Str from d).toArray⟩) := ha
    have ha' : a' = .v (.string ⟨(show Str from d').toArray⟩) := ha'
    exact ⟨_, [], hx _ _ _ _ _ ⟨rfl, d, d', h, by rw [ha, ha'], rfl, rfl, rfl⟩, rfl, fun id b hb => by simp [encI, getB] at hb, rfl⟩
  · cases hF

/-! ### strings.Split -/
/-- The parts of a text. -/
def splitS (s sep : Str) : List Str := (Lib.splitB ⟨sep.toArray⟩ 0 (Lib.countB ⟨s.toArray⟩ ⟨sep.toArray⟩) ⟨s.toArray⟩).map fun b => b.data.toList
def F_split (s sep : Str) : Option (List Str) := if s.length < 4294967281 ∧ 1 ≤ sep.length then some (splitS s sep) else none
def splitRel (g : FuncId) (e : TypeId) : Rel := fun g' args blks r blks' => g' = g ∧ ∃ s p : Str, s.length < 4294967281 ∧ 1 ≤ p.length ∧ args = [.v (.string ⟨s.toArray⟩), .v (.string ⟨p.toArray⟩)] ∧ blks = [] ∧
  r = .ar 0 0 ((splitS s p).map fun x => [V.v (.string ⟨x.toArray⟩)]).length ∧ blks' = [arrOf e 1 true ((splitS s p).map fun x => [V.v (.string ⟨x.toArray⟩)])]
def splitA (g : FuncId) (e : TypeId) : FAnn := ⟨g, 0, [.slot 0 (.cell .str), .slot 1 (.cell .str)], [.blk (.arr e true .str), .slot 0 (.ref 0 false)], [], [], []⟩
theorem split_spec {k : Nat} {e : TypeId} (hent : Ent0 P g) (hc : ∀ (s sep : ByteArray) (m : Int) (w : World) (hs : s.size < 4294967281) (hm : w.cell? ⟨k, 0, none⟩ = some (.int .i64 m)) (h1 : 1 ≤ sep.size),
    Calls P g #[.string s, .string sep] w fun ee w' => ee = .returned (.slice (some ⟨w.heap.size, 0, none⟩) (Lib.countB s sep + 1) (Lib.countB s sep + 1)) ∧ w' = w.alloc (.cells ((Lib.splitB sep 0 (Lib.countB s sep) s).map Value.string).toArray e)) (hJ : JMax J k) :
    ∀ g' args blks r blks', splitRel g e g' args blks r blks' → CSpec P J g' args blks r blks' := by
  rintro g' args blks r blks' ⟨rfl, s, p, hs, hp, rfl, rfl, rfl, rfl⟩
  refine cspec_slice hent (by decide) rfl fun w A E vals hT hA hvl => ?_
  rw [vl2_v hvl]
  obtain ⟨m, hm⟩ := hJ w hT
  refine (hc ⟨s.toArray⟩ ⟨p.toArray⟩ m w (by simpa [ByteArray.size] using hs) hm (by simpa [ByteArray.size] using hp)).mono ?_
  rintro ee w' ⟨rfl, rfl⟩
  have h1 : 1 ≤ (⟨p.toArray⟩ : ByteArray).size := by simpa [ByteArray.size] using hp
  have hl := Lib.splitB_all ⟨p.toArray⟩ h1 0 _ ⟨s.toArray⟩ rfl
  have hk := Lib.countB_le ⟨p.toArray⟩ h1 _ ⟨s.toArray⟩ (Nat.le_refl _)
  have hk' : Lib.countB ⟨s.toArray⟩ ⟨p.toArray⟩ ≤ s.length := by simpa [ByteArray.size] using hk
  have hrl : ((splitS s p).map fun x => [V.v (.string ⟨x.toArray⟩)]).length = Lib.countB ⟨s.toArray⟩ ⟨p.toArray⟩ + 1 := by unfold splitS; simp [hl]
  refine ⟨w.heap.size, Lib.countB ⟨s.toArray⟩ ⟨p.toArray⟩ + 1, ((Lib.splitB ⟨p.toArray⟩ 0 (Lib.countB ⟨s.toArray⟩ ⟨p.toArray⟩) ⟨s.toArray⟩).map Value.string).toArray, by rw [hrl], (Below.refl _ w).alloc (Nat.le_refl _) _, Nat.le_refl _, by simp, by unfold World.alloc; simp, by simp [hl], by unfold maxLen; omega, by omega, fun i row hr => ?_, fun i j row x hr hx => ?_⟩
  · rw [List.getElem?_map] at hr
    cases hz : (splitS s p)[i]? with
    | none => rw [hz] at hr; cases hr
    | some z => rw [hz] at hr; cases hr; rfl
  · rw [List.getElem?_map] at hr
    cases hz : (splitS s p)[i]? with
    | none => rw [hz] at hr; cases hr
    | some z =>
      rw [hz] at hr
      cases hr
      cases j with
      | succ j => simp at hx
      | zero =>
        simp at hx
        subst hx
        unfold splitS at hz
        rw [List.getElem?_map, Option.map_eq_some_iff] at hz
        obtain ⟨b, hb, rfl⟩ := hz
        refine ⟨.string b, ?_, fun G => ?_⟩
        · simp [hb]
        · exact .v _ rfl
theorem split_ent {e : TypeId} (hx : ∀ g' args blks r blks', splitRel g e g' args blks r blks' → ext g' args blks r blks') : EntOK (Runs P cf ext) ⟨splitA g e, fun x => F_split x.1 x.2⟩ := by
  refine lib_ent2 rfl rfl fun d d' y a a' ha ha' hF => ?_
  have hF : F_split d d' = some y := hF
  unfold F_split at hF
  split at hF
  · rename_i h
    cases hF
    have ha : a = .v (.string ⟨(show Str from d).toArray⟩) := ha
    have ha' : a' = .v (.string ⟨(show Str from d').toArray⟩) := ha'
    refine ⟨_, _, hx _ _ _ _ _ ⟨rfl, d, d', h.1, h.2, by rw [ha, ha'], rfl, rfl, rfl⟩, ⟨_, rfl, fun b hb => ?_⟩, fun id b hb => ?_, rfl⟩
    · have hb : some (TB.arr e true .str (splitS d d')) = some b := hb
      cases hb
      simp [blen]
    · have hb : getB [(0, some (TB.arr e true .str (splitS d d')))] id = some b := hb
      simp only [getB] at hb
      cases hi : Nat.beq id 0 with
      | false => rw [hi] at hb; cases hb
      | true =>
        rw [hi] at hb
        have hb : some (TB.arr e true .str (splitS d d')) = some b := hb
        cases hb
        have : id = 0 := Nat.eq_of_beq_eq_true hi
        subst this
        refine ⟨_, rfl, rfl, rfl, rfl, rfl, by simp [arrOf], fun i x row h1 h2 => ?_⟩
        have h2 : ((splitS d d').map fun x => [V.v (.string ⟨x.toArray⟩)])[i]? = some row := h2
        have h1 : (splitS d d')[i]? = some x := h1
        rw [List.getElem?_map, h1] at h2
        cases h2
        rfl
  · cases hF

/-! ### strings.Join -/
def F_join (l : List Str) (sep : Str) : Option Str := if l.length ≤ 140737488355328 ∧ (Lib.join l sep).length ≤ 140737488355328 then some (Lib.join l sep) else none
def joinRel (g : FuncId) : Rel := fun g' args blks r blks' => g' = g ∧ ∃ (l : List Str) (sep : Str) (a : V), l.length ≤ 140737488355328 ∧ (Lib.join l sep).length ≤ 140737488355328 ∧ ArgC (.im .str) l a ∧ args = [a, .v (.string ⟨sep.toArray⟩)] ∧ blks = [] ∧
  r = .v (.string ⟨(Lib.join l sep).toArray⟩) ∧ blks' = []
def joinA (g : FuncId) : FAnn := ⟨g, 0, [.slot 0 (.cell (.im .str)), .slot 1 (.cell .str)], [.slot 0 (.cell .str)], [], [], []⟩
theorem join_spec (hent : Ent0 P g) (hc0 : ∀ (a : Option Addr) (c : Nat) (sep : ByteArray) (w : World), Calls P g #[.slice a 0 c, .string sep] w fun e w' => e = .returned (.string ⟨#[]⟩) ∧ w' = w)
    (hc : ∀ (bk o c : Nat) (xs : List ByteArray) (sep : ByteArray) (w : World) (hcells : ∀ (j : Nat) x, xs[j]? = some x → w.cell? ⟨bk, o + j, none⟩ = some (.string x)) (hbk : bk < w.heap.size) (hN : xs.length ≤ 140737488355328) (hcap : xs.length ≤ c) (hlen : (Lib.join (xs.map (·.data.toList)) sep.data.toList).length ≤ 140737488355328),
      Calls P g #[.slice (some ⟨bk, o, none⟩) xs.length c, .string sep] w fun e w' => e = .returned (.string ⟨(Lib.join (xs.map (·.data.toList)) sep.data.toList).toArray⟩) ∧ Below w.heap.size w w') :
    ∀ g' args blks r blks', joinRel g g' args blks r blks' → CSpec P J g' args blks r blks' := by
  rintro g' args blks r blks' ⟨rfl, l, sep, a, hl1, hl2, ha, rfl, rfl, rfl, rfl⟩
  refine cspec_plain hent fun w A E vals hT hA hvl => ?_
  obtain ⟨y, rfl, hy⟩ : ∃ y, vals = [y, .string ⟨sep.toArray⟩] ∧ VR1 w E (lkB []) A a y := by
    match vals, hvl with
    | [y, z], h =>
      have h2 : Rep w A (.v (.string ⟨sep.toArray⟩)) z := h.2.1
      cases h2
      exact ⟨y, rfl, h.1⟩
    | [], h => exact h.elim
    | [_], h => exact h.2.elim
    | _ :: _ :: _ :: _, h => exact h.2.2.elim
  have empty : ∀ (a : Option Addr) (c : Nat), l = [] → Calls P g' [Value.slice a 0 c, .string ⟨sep.toArray⟩].toArray w fun e w' => ∃ y, e = .returned y ∧ Below w.heap.size w w' ∧ VR2 w' E (lkB []) A (.v (.string ⟨(Lib.join l sep).toArray⟩)) y := by
    intro a c h0
    subst h0
    refine (hc0 a c ⟨sep.toArray⟩ w).mono ?_
    rintro e w' ⟨rfl, rfl⟩
    exact ⟨_, rfl, Below.refl _ _, .v _ rfl⟩
  rcases ha with ⟨h0, rfl⟩ | ⟨rows, rfl, hrows⟩
  · have hy : Rep w A .em y := hy
    cases hy with
    | em a => exact empty a 0 h0
  · have hy : Rep w A (.im rows) y := hy
    cases hy with
    | im0 a cap => exact empty a cap (List.eq_nil_of_length_eq_zero (by have := hrows.1; simpa using this.symm))
    | im b off cap size rows f hb hs hcap hcm hrl hcell hrep =>
      have hone : ∀ (i : Nat) (s : Str), l[i]? = some s → rows[i]? = some [V.v (.string ⟨s.toArray⟩)] := by
        intro i s hi
        obtain ⟨row, h1, h2⟩ := hrows.get hi
        rw [h1]
        have h2 : row = _ := h2
        rw [h2]
      have hsz : l ≠ [] → size = 1 := by
        intro hne
        match l, hne, hone with
        | s :: l', _, hone =>
          have := hrl 0 _ (hone 0 s rfl)
          simpa using this.symm
      by_cases h0 : l = []
      · have hr0 : rows.length = 0 := by have := hrows.1; rw [h0] at this; simpa using this
        rw [hr0]
        exact empty _ cap h0
      · have hs1 := hsz h0
        subst hs1
        have hmap : (l.map fun s => (⟨s.toArray⟩ : ByteArray)).map (fun b => b.data.toList) = l := by simp [Function.comp_def]
        have hll : (l.map fun s => (⟨s.toArray⟩ : ByteArray)).length = rows.length := by simp [hrows.1]
        have key := hc b off cap (l.map fun s => ⟨s.toArray⟩) ⟨sep.toArray⟩ w (fun j x hx => by
          rw [List.getElem?_map, Option.map_eq_some_iff] at hx
          obtain ⟨s, h1, rfl⟩ := hx
          have h2 := hone j s h1
          have h3 := hcell j 0 _ _ h2 rfl
          have h4 := hrep j 0 _ _ h2 rfl
          rw [Nat.mul_one, Nat.add_zero] at h3
          rw [h3]
          generalize f j 0 = z at h4
          cases h4
          rfl) (hA b hb) (by rw [hll]; have := hrows.1; omega) (by rw [hll]; exact hcap) (by rw [hmap]; simpa using hl2)
        rw [hll, hmap] at key
        refine key.mono ?_
        rintro e w' ⟨rfl, hbl⟩
        exact ⟨_, rfl, hbl, .v _ rfl⟩
theorem join_ent (hx : ∀ g' args blks r blks', joinRel g g' args blks r blks' → ext g' args blks r blks') : EntOK (Runs P cf ext) ⟨joinA g, fun x => F_join x.1 x.2⟩ := by
  refine lib_ent2 rfl rfl fun d d' y a a' ha ha' hF => ?_
  have hF : F_join d d' = some y := hF
  unfold F_join at hF
  split at hF
  · rename_i h
    cases hF
    have ha' : a' = .v (.string ⟨(show Str from d').toArray⟩) := ha'
    exact ⟨_, [], hx _ _ _ _ _ ⟨rfl, d, d', a, h.1, h.2, ha, by rw [ha'], rfl, rfl, rfl⟩, rfl, fun id b hb => by simp [encI, getB] at hb, rfl⟩
  · cases hF

/-! ### strconv.Atoi -/
def JVar (P : Program) (J : Tabs) (name : String) : Prop := ∀ w : World, (∀ x ∈ J, w.heap[x.1]? = some x.2) → ∃ tp p, w.var? P name = some #[.iface tp p]
def atoiV (s : Str) : Int × Bool := match Lib.atoiAll s with | .ok v => (v, false) | .range => (Lib.atoiSat s, true) | _ => (0, true)
def F_atoi (s : Str) : Option (Int × Bool) := if s.length ≤ 281474976710656 then some (atoiV s) else none
def atoiRel (g : FuncId) : Rel := fun g' args blks r blks' => g' = g ∧ ∃ s : Str, s.length ≤ 281474976710656 ∧ args = [.v (.string ⟨s.toArray⟩)] ∧ blks = [] ∧ r = .tup [.v (.int .i64 (atoiV s).1), .er (atoiV s).2] ∧ blks' = []
def atoiA (g : FuncId) : FAnn := ⟨g, 0, [.slot 0 (.cell .str)], [.slot 0 (.cell (.int .i64)), .slot 1 (.cell .err)], [], [], []⟩
theorem atoi_spec {t5 t1 t2 : TypeId} (hent : Ent0 P g) (hok : ∀ (s : ByteArray) (hmax : s.size ≤ 9223372036854775806) (v : Int) (h : Lib.atoiAll s.data.toList = .ok v) (w : World),
      Calls P g #[.string s] w fun e w' => e = .returned (.tuple #[.int .i64 v, .nilIface]) ∧ (w' = w ∨ ∃ t, w' = Lib.bytesWorld w t5 t))
    (hsy : ∀ (s : ByteArray) (hlim : s.size ≤ 281474976710656) (h : Lib.atoiAll s.data.toList = Lib.atoiAll []) (tp : TypeId) (p : Value) (w : World) (hvar : w.var? P "strconv.ErrSyntax" = some #[.iface tp p]),
      Calls P g #[.string s] w fun e w' => ∃ N, e = .returned (.tuple #[.int .i64 0, .iface t1 (.pointer (some ⟨N, 0, none⟩))]) ∧ w.heap.size ≤ N ∧ w'.heap[N]? = some (.cells #[.string ⟨#[65, 116, 111, 105]⟩, .string s, .iface tp p] t2 (0, 0)) ∧ Below w.heap.size w w')
    (hrg : ∀ (s : ByteArray) (hlim : s.size ≤ 281474976710656) (h : Lib.atoiAll s.data.toList = .range) (tp : TypeId) (p : Value) (w : World) (hvar : w.var? P "strconv.ErrRange" = some #[.iface tp p]),
      Calls P g #[.string s] w fun e w' => ∃ N, e = .returned (.tuple #[.int .i64 (Lib.atoiSat s.data.toList), .iface t1 (.pointer (some ⟨N, 0, none⟩))]) ∧ w.heap.size ≤ N ∧ w'.heap[N]? = some (.cells #[.string ⟨#[65, 116, 111, 105]⟩, .string s, .iface tp p] t2 (0, 0)) ∧ Below w.heap.size w w')
    (hJ1 : JVar P J "strconv.ErrSyntax") (hJ2 : JVar P J "strconv.ErrRange") :
    ∀ g' args blks r blks', atoiRel g g' args blks r blks' → CSpec P J g' args blks r blks' := by
  rintro g' args blks r blks' ⟨rfl, s, hs, rfl, rfl, rfl, rfl⟩
  refine cspec_plain hent fun w A E vals hT hA hvl => ?_
  rw [vl1_v hvl]
  have hs' : (⟨s.toArray⟩ : ByteArray).size ≤ 281474976710656 := by simpa [ByteArray.size] using hs
  cases hz : Lib.atoiAll s
  case ok v =>
    have e0 : atoiV s = (v, false) := by unfold atoiV; rw [hz]
    rw [e0]
    refine (hok ⟨s.toArray⟩ (by omega) v (by simpa using hz) w).mono ?_
    rintro e w' ⟨rfl, hw⟩
    refine ⟨_, rfl, ?_, _, rfl, .v _ rfl, .er0, trivial⟩
    rcases hw with rfl | ⟨t, rfl⟩
    · exact Below.refl _ _
    · exact Lib.bytesWorld_below w _ t
  case range =>
    have e0 : atoiV s = (Lib.atoiSat s, true) := by unfold atoiV; rw [hz]
    rw [e0]
    obtain ⟨tp, p, hv⟩ := hJ2 w hT
    refine (hrg ⟨s.toArray⟩ hs' (by simpa using hz) tp p w hv).mono ?_
    rintro e w' ⟨N, rfl, _, _, hb⟩
    exact ⟨_, rfl, hb, _, rfl, .v _ rfl, .er1 _ _, trivial⟩
  · have e0 : atoiV s = (0, true) := by unfold atoiV; rw [hz]
    rw [e0]
    obtain ⟨tp, p, hv⟩ := hJ1 w hT
    have he : Lib.atoiAll (⟨s.toArray⟩ : ByteArray).data.toList = Lib.atoiAll [] := by
      rw [show (⟨s.toArray⟩ : ByteArray).data.toList = s from rfl, hz]
      rfl
    refine (hsy ⟨s.toArray⟩ hs' he tp p w hv).mono ?_
    rintro e w' ⟨N, rfl, _, _, hb⟩
    exact ⟨_, rfl, hb, _, rfl, .v _ rfl, .er1 _ _, trivial⟩
theorem atoi_ent (hx : ∀ g' args blks r blks', atoiRel g g' args blks r blks' → ext g' args blks r blks') : EntOK (Runs P cf ext) ⟨atoiA g, F_atoi⟩ := by
  refine lib_ent1 rfl fun d y a ha hF => ?_
  have hF : F_atoi d = some y := hF
  unfold F_atoi at hF
  split at hF
  · rename_i h
    cases hF
    have ha : a = .v (.string ⟨(show Str from d).toArray⟩) := ha
    exact ⟨_, [], hx _ _ _ _ _ ⟨rfl, d, h, by rw [ha], rfl, rfl, rfl⟩, ⟨_, rfl, rfl, rfl, trivial⟩, fun id b hb => by simp [encI, getB] at hb, rfl⟩
  · cases hF
end
end Go.Proofs.YtnhibkgoinnmcaaDoor.Ev
end

/-! #### EvR -/
section
/- What a row with listed variables hands to a law: the condition of the list and the world's shape, both. -/
namespace Go.Proofs.YtnhibkgoinnmcaaDoor.Ev
open Go Go.RowKit
set_option linter.unusedVariables false
variable {H : Type} {enc : TypeId × Value → H}

theorem returnsInHanded_both {a : Assume} {C : Checked} {os : Os} {f : FuncId} {fn : Func} {s : ChangeSpec} {conds : List PathCond} {apart fresh handsOn again : Bool} {X : World → Array Value → Prop}
    (hX : ∀ (w w' : World) (args : Array Value), w.heap = w'.heap → X w args → X w' args)
    (own : ownKnob C.prog.godebug = none) (started : os.Started) (noInit : C.prog.inits.idxOf? f = none) (hfn : C.prog.funcs[f]? = some fn)
    (witness : ∃ (w : World) (tape : Tape) (i : Input), w.os = os ∧ (w.forCall tape i).Shaped C.prog ∧ i.vars = [] ∧ Input.okWide C.prog (w.forCall tape i) .any w.heap.size f i ∧
      ((s.pre enc C.prog fn conds apart (w.forCall tape i).memory i.args ∧ X (w.forCall tape i).memory i.args) ∧ sizedMet enc C.prog fn (OpenSpec.ofChange s) apart (w.forCall tape i).memory i.args) ∧ a.holds C.prog (lone (Frame.enter C.prog f i.args .normal) [] (w.forCall tape i)))
    (contract : ∀ (W : World) (base : Nat) (args : Array Value) (ds gs : List (DataW H)) (before : List MemPlace),
      (∀ (j : Nat) t v, fn.params[j]? = some t → args[j]? = some v → Value.okWide C.prog W .any base t v) →
      DataW.Whole enc C.prog fn.params.toList s.vars apart W args.toList ds gs before →
      (DataW.weightsEach C.prog (fn.params.toList ++ s.plain.varTypes C.prog) (ds ++ gs)).all (· ≤ reachBytes) = true →
      W.ShapedOpen C.prog → X W args →
      Calls C.prog f args W fun e W' => ∃ v, e = .returned v ∧ s.post enc C.prog fn apart fresh handsOn again W args v W') :
    ReturnsInHanded a C os f .any (fun w args => (s.pre enc C.prog fn conds apart w args ∧ X w args) ∧ sizedMet enc C.prog fn (OpenSpec.ofChange s) apart w args) (s.post enc C.prog fn apart fresh handsOn again) := by
  refine returnsInHanded_of_calls own started noInit witness ?_
  intro w tape i _ hsh _ hok hpre hholds
  obtain ⟨_, _, _, fn', hfn', _, _, _, _, hval⟩ := hok
  have e : fn' = fn := Option.some.inj (hfn'.symm.trans hfn)
  subst e
  obtain ⟨⟨⟨ds, gs, before, hw, hc⟩, hx⟩, hz⟩ := hpre
  have hw' := DataW.Whole.of_heap (w' := w.forCall tape i) (by rfl) hw
  refine (contract (w.forCall tape i) w.heap.size i.args ds gs before hval hw' (hz.weights hw) hsh (hX _ _ _ (by rfl) hx)).mono fun e W' ⟨v, he, hp⟩ => ?_
  subst he
  exact ChangeSpec.post_blind hp

/-! ### The variables that a law reads, as the first world holds them -/
def Jof (w : World) (ids : List Nat) : Tabs := ids.filterMap fun g => (w.heap[g]?).map fun o => (g, o)
theorem Jof_self {w : World} {ids : List Nat} : ∀ x ∈ Jof w ids, w.heap[x.1]? = some x.2 := by
  intro x hx
  simp only [Jof, List.mem_filterMap, Option.map_eq_some_iff] at hx
  obtain ⟨g, _, o, ho, rfl⟩ := hx
  exact ho
theorem Jof_heap {w w' : World} {ids : List Nat} (h : ∀ x ∈ Jof w ids, w'.heap[x.1]? = some x.2) {g : Nat} (hg : g ∈ ids) {o : Obj} (ho : w.heap[g]? = some o) : w'.heap[g]? = some o :=
  h (g, o) (by simp only [Jof, List.mem_filterMap, Option.map_eq_some_iff]; exact ⟨g, hg, o, ho, rfl⟩)
theorem Jof_var {P : Program} {w w' : World} {ids : List Nat} (h : ∀ x ∈ Jof w ids, w'.heap[x.1]? = some x.2) {name : String} {g : Nat} (hn : P.globalNamed name = some g) (hg : g ∈ ids) {cs : Array Value}
    (hv : w.var? P name = some cs) : w'.var? P name = some cs := by
  cases ho : w.heap[g]? with
  | none => simp [World.var?, hn, ho] at hv
  | some o =>
    have := Jof_heap h hg ho
    simp only [World.var?, hn, Option.bind_some, ho] at hv
    simp only [World.var?, hn, Option.bind_some, this]
    exact hv
theorem jtab {P : Program} {w : World} {ids : List Nat} {name : String} {g : Nat} {k : IntKind} {zs : List Int} (hn : P.globalNamed name = some g) (hg : g ∈ ids) (h : Lib.TabIs P w name k zs) : JTab P (Jof w ids) name k zs :=
  fun _ hw => Jof_var hw hn hg h
theorem jmax {w : World} {ids : List Nat} {g : Nat} (hg : g ∈ ids) (h : ∃ m : Int, w.cell? ⟨g, 0, none⟩ = some (.int .i64 m)) : JMax (Jof w ids) g := by
  intro w' hw
  obtain ⟨m, hm⟩ := h
  cases ho : w.heap[g]? with
  | none => simp [World.cell?, ho] at hm
  | some o =>
    refine ⟨m, ?_⟩
    have := Jof_heap hw hg ho
    simp only [World.cell?, ho, this] at hm ⊢
    exact hm
theorem jvar {P : Program} {w : World} {ids : List Nat} {name : String} {g : Nat} (hn : P.globalNamed name = some g) (hg : g ∈ ids) (h : ∃ tp p, w.var? P name = some #[.iface tp p]) : JVar P (Jof w ids) name := by
  intro w' hw
  obtain ⟨tp, p, h⟩ := h
  exact ⟨tp, p, Jof_var hw hn hg h⟩
theorem laidMet_drop {P : Program} {w : World} : ∀ (n : Nat) {l : List (String × DataW Unit)}, laidMet P l w → laidMet P (l.drop n) w
  | 0, _, h => h
  | n + 1, [], h => h
  | n + 1, _ :: _, h => laidMet_drop n h.tail
end Go.Proofs.YtnhibkgoinnmcaaDoor.Ev
end
