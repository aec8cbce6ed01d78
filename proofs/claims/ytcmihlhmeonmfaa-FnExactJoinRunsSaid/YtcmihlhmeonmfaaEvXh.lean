/- A law's row. -/
import Derived.Test.YtcmihlhmeonmfaaEvXg
import Derived.WalkKit
import Derived.SizedLaws
namespace Go.Proofs.Ytcmihlhmeonmfaa.Ev
open Go Go.RowKit
set_option linter.unusedVariables false
set_option linter.unusedSimpArgs false

theorem par_len : ∀ (l : List Sh) (i : Nat), (parI i l).length = l.length
  | [], _ => rfl
  | s :: l, i => by simp [parI, par_len l (i + 1)]

theorem par_blks : ∀ (l : List Sh) (i : Nat), nBlks (parI i l) = 0
  | [], _ => rfl
  | s :: l, i => by
    have := par_blks l (i + 1)
    unfold nBlks at this ⊢
    simp only [parI]
    rw [List.filter_cons]
    exact this

section
variable {P : Program}

/-- The rows of types, one by one. -/
def TabOK (P : Program) : List (Nat × TyD) → Prop
  | [] => True
  | x :: l => tyOf P x.1 = some x.2 ∧ TabOK P l

theorem tab_ok {l : List (Nat × TyD)} (h : TabOK P l) : ∀ t d, getD l t = some d → tyOf P t = some d := by
  intro t d hd
  induction l with
  | nil => cases hd
  | cons x l ih =>
    obtain ⟨k, y⟩ := x
    simp only [getD] at hd
    cases hk : Nat.beq t k with
    | true =>
      rw [hk] at hd
      simp only [cond_true, Option.some.injEq] at hd
      have := Nat.eq_of_beq_eq_true hk
      subst this
      subst hd
      exact h.1
    | false =>
      rw [hk] at hd
      exact ih h.2 hd

theorem law_true {cf : Cfg} {ext : Rel} {g : FuncId} {byref : Bool} {shs : List Sh} {heads joins : List (Nat × List Item)} {outs : List (Nat × List (Ex × List Item))} {F : denI (parI 0 shs) → Option Bool}
    (hm : P.follows .mixedOrders = true) (hext : ∀ g args blks r blks', ext g args blks r blks' → CSpec P g args blks r blks')
    (hE : EntOK (Runs P cf ext) ⟨⟨g, byref, parI 0 shs, [.slot 0 (.cell .bool)], heads, outs, joins⟩, F⟩) (hF : ∀ d, WFP 0 shs d → F d = some true) (ho : shs.all oneS = true)
    {w : World} {xs : List V} {vals : Array Value} (hx : DVs shs xs) (hv : Told w xs vals.toList) : Calls P g vals w fun e w' => e = .returned (.bool true) ∧ Below w.heap.size w w' := by
  obtain ⟨d, h1, h2, h3⟩ := par_rel shs 0 ho hx
  have hrefs := told_refs hv
  obtain ⟨r, blks', q1, q2⟩ := hE d true xs [] (hF d h1) ⟨h3 0 _, (fun id b hb => by
    rw [show (encSt (parI 0 shs) d).hp = (encI _root_.id 0 (parI 0 shs) d).2 from rfl, h2] at hb
    exact absurd hb (by simp [getB])), rfl⟩ (told_ids hv) (by rw [hx.length]; exact (par_len shs 0).symm) (by rw [hrefs]; exact (par_blks shs 0).symm)
  have hr : r = .v (.bool true) := q2.val
  have hb : blks' = [] := List.eq_nil_of_length_eq_zero q2.len
  subst hr
  subst hb
  exact law_calls hm hext hv q1

theorem law_contract {H : Type} {enc : TypeId × Value → H} {cf : Cfg} {ext : Rel} {g : FuncId} {byref : Bool} {shs : List Sh} {heads joins : List (Nat × List Item)} {outs : List (Nat × List (Ex × List Item))} {F : denI (parI 0 shs) → Option Bool} {fn : Func} {s : ChangeSpec} {ts : List TypeId} {rt : TypeId}
    (hm : P.follows .mixedOrders = true) (hext : ∀ g args blks r blks', ext g args blks r blks' → CSpec P g args blks r blks')
    (hE : EntOK (Runs P cf ext) ⟨⟨g, byref, parI 0 shs, [.slot 0 (.cell .bool)], heads, outs, joins⟩, F⟩) (hF : ∀ d, WFP 0 shs d → F d = some true) (ho : shs.all oneS = true)
    (hp : fn.params.toList = ts) (hr : fn.resultTypes.toList = [rt]) (hrt : P.underlying rt = some .bool) (hf : FitsL P ts shs) (hl : laidOutB P = true) (hread : ∀ t ∈ ts, P.readableRec t = true ∧ t < P.types.size) (hvars : s.vars = [])
    (hs : ∀ ds : List (DataW H), ds.length = ts.length → s.fn H (ds ++ []) = { results := [.lit (.bool true)], args := ds, vars := [] })
    {W : World} {base : Nat} {args : Array Value} {ds gs : List (DataW H)} {before : List MemPlace}
    (hval : ∀ (j : Nat) t v, fn.params[j]? = some t → args[j]? = some v → Value.okWide P W .any base t v) (hW : DataW.Whole enc P fn.params.toList s.vars false W args.toList ds gs before)
    (hsz : (DataW.weightsEach P (fn.params.toList ++ s.plain.varTypes P) (ds ++ gs)).all (· ≤ reachBytes) = true) :
    Calls P g args W fun e W' => ∃ v, e = .returned v ∧ s.post enc P fn false true false false W args v W' := by
  have hW' := hW
  obtain ⟨p, q, hA, hV, rfl, hfz, hnd⟩ := hW
  rw [hvars] at hV
  obtain ⟨rfl, rfl⟩ := ChangeShapes.trodVars_none hV
  rw [hp] at hA
  have hlen : ∀ {ts : List TypeId} {vs : List Value} {ds : List (DataW H)} {p : List MemPlace}, DataW.TrodAll enc P W 0 (fun _ => true) true ts vs ds p → ds.length = ts.length := by
    intro ts
    induction ts with
    | nil => intro vs ds p h; obtain ⟨_, rfl, _⟩ := ChangeShapes.trodAll_nil h; rfl
    | cons t ts ih => intro vs ds p h; obtain ⟨v, vs', d, ds', p1, q, rfl, rfl, rfl, h1, h2⟩ := ChangeShapes.trodAll_cons h; simp [ih h2]
  have hdl := hlen hA
  have hwt : ∀ n ∈ DataW.weightsEach P ts ds, n ≤ reachBytes := by
    intro n hn
    have hmem : ∀ (a b : List TypeId) (c d : List (DataW H)), ∀ n ∈ DataW.weightsEach P a c, c.length = a.length → n ∈ DataW.weightsEach P (a ++ b) (c ++ d) := by
      intro a
      induction a with
      | nil => intro b c d n hn hl; cases c <;> simp [DataW.weightsEach] at hn hl
      | cons t a ih =>
        intro b c d n hn hl
        cases c with
        | nil => simp [DataW.weightsEach] at hn
        | cons x c =>
          simp only [DataW.weightsEach, List.mem_append, List.cons_append] at hn ⊢
          rcases hn with hn | hn
          · exact .inl hn
          · exact .inr (ih b c d n hn (by simpa using hl))
    rw [hp] at hsz
    have := List.all_eq_true.1 hsz n (hmem ts _ ds _ n hn hdl)
    simpa using this
  obtain ⟨xs, h1, h2⟩ := told_args hf ho hA (fun j t v h1 h2 => ⟨base, hval j t v (by rw [← hp] at h1; simpa using h1) (by simpa using h2)⟩) hwt
  refine (law_true hm hext hE hF ho h1 h2).mono fun e W' ⟨he, bel⟩ => ?_
  subst he
  obtain ⟨q', hq⟩ := trod_below hl bel hread hA
  refine ⟨_, rfl, ds, [], _, [], q', [], hW', ?_, ?_, ?_, bel.frame _, fun h => by cases h⟩
  · rw [hs ds hdl, hr]
    have : ((Value.bool true).resultList fn.resultTypes.size) = [.bool true] := by
      have : fn.resultTypes.size = 1 := by rw [← Array.length_toList, hr]; rfl
      rw [this]; rfl
    rw [this]
    exact ChangeShapes.trodAll_mk1 (shut_bool hrt true)
  · rw [hs ds hdl, hp]
    exact hq
  · rw [hs ds hdl, hvars]
    rfl
end
end Go.Proofs.Ytcmihlhmeonmfaa.Ev
