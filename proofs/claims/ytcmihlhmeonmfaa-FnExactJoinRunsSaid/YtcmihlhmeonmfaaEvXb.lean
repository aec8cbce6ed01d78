/- The typed evaluator and the evaluator: what a function is handed. -/
import Derived.Test.YtcmihlhmeonmfaaEvXa
namespace Go.Proofs.Ytcmihlhmeonmfaa.Ev
open Go
set_option linter.unusedVariables false
set_option linter.unusedSimpArgs false

theorem lendC_rel {hp : THp} {hv : Hp} {c : AC} {v : SV} {x : c.den} {y : V} (hh : RH hp hv) (h : decC hp c v = some x) (hv' : RV0 hp v y) :
    ∃ y', lend0 hv y = some y' ∧ RV0 hp (encC c x) y' ∧ arIds0 y = lentV v ∧ refs0 y' = [] := by
  cases c with
  | int k =>
    cases v <;> simp only [decC, reduceCtorEq] at h
    split at h
    · rename_i hk; cases h; subst hk; have : y = _ := hv'; subst this; exact ⟨_, rfl, rfl, rfl, rfl⟩
    · cases h
  | bool => cases v <;> simp only [decC, reduceCtorEq] at h; cases h; have : y = _ := hv'; subst this; exact ⟨_, rfl, rfl, rfl, rfl⟩
  | str => cases v <;> simp only [decC, reduceCtorEq] at h; cases h; have : y = _ := hv'; subst this; exact ⟨_, rfl, rfl, rfl, rfl⟩
  | im t =>
    have h' : asLh hp t v = some x := by cases v <;> exact h
    have hids : arIds0 y = lentV v := by
      cases v with
      | ow id => obtain ⟨n, rfl, _⟩ := hv'; rfl
      | ar a b c => have : y = _ := hv'; subst this; rfl
      | em => have : y = _ := hv'; subst this; rfl
      | im t' l' => rcases hv' with ⟨_, rfl⟩ | ⟨_, rfl, _⟩ <;> rfl
      | _ => simp [asLh, asL] at h'
    rcases asLh_rel h' hv' hh.toM with ⟨rfl, rfl⟩ | ⟨rows, rfl, hr⟩ | ⟨id, lo, n, kb, rfl, hk, hkk, hr⟩
    · exact ⟨.im [], rfl, .inr ⟨[], rfl, RLx.nil⟩, hids, rfl⟩
    · exact ⟨.im rows, rfl, .inr ⟨rows, rfl, hr⟩, hids, rfl⟩
    · refine ⟨.im ((kb.rows.take (lo + n)).drop lo), ?_, .inr ⟨_, rfl, hr⟩, hids, rfl⟩
      simp only [lend0, hk]

theorem lendCs_rel {hp : THp} {hv : Hp} (hh : RH hp hv) : ∀ {cs : List AC} {vs : List SV} {x : denC cs} {ys : List V}, decCs hp cs vs = some x → RC (RV0 hp) vs ys →
    ∃ ys', lendL hv ys = some ys' ∧ RC (RV0 hp) (encCs cs x) ys' ∧ ys.flatMap arIds0 = vs.flatMap (fun v => lentV v)
  | [], [], x, ys, h, hc => by
    cases ys with
    | nil => exact ⟨[], rfl, trivial, rfl⟩
    | cons a l => exact hc.elim
  | [], _ :: _, _, _, h, _ => by cases h
  | [a], [v], x, ys, h, hc => by
    cases ys with
    | nil => exact hc.elim
    | cons y ys =>
      cases ys with
      | cons _ _ => exact hc.2.elim
      | nil =>
        obtain ⟨y', h1, h2, h3, h4⟩ := lendC_rel hh h hc.1
        exact ⟨[y'], by simp only [lendL, h1], ⟨h2, trivial⟩, by simp only [List.flatMap_cons, List.flatMap_nil, h3]⟩
  | [a], [], _, _, h, _ => by cases h
  | [a], _ :: _ :: _, _, _, h, _ => by cases h
  | a :: b' :: cs, [], _, _, h, _ => by cases h
  | a :: b' :: cs, v :: vs, x, ys, h, hc => by
    simp only [decCs] at h
    split at h
    · rename_i x1 hx1
      split at h
      · rename_i x2 hx2
        cases h
        cases ys with
        | nil => exact hc.elim
        | cons y ys =>
          obtain ⟨y', h1, h2, h3, h4⟩ := lendC_rel hh hx1 hc.1
          obtain ⟨ys', g1, g2, g3⟩ := lendCs_rel hh hx2 hc.2
          exact ⟨y' :: ys', by simp only [lendL, h1, g1], ⟨h2, g2⟩, by rw [List.flatMap_cons, List.flatMap_cons, h3, g3]⟩
      · cases h
    · cases h

/-- One thing that is handed over. -/
structure ArgS (hp : THp) (hv : Hp) (byref : Bool) (order : List Nat) (a : AS) (x : a.den) (y y' : V) (order' lent : List Nat) : Prop where
  lend : byref = false → lend1 hv y = some y' ∧ arIds1 y = lent
  same : byref = true → y' = y ∧ notTup y = true ∧ lent = []
  val : RV2 hp (encSV (ordF order') order.length a x) y'
  more : ∀ t, encSV (ordF (order' ++ t)) order.length a x = encSV (ordF order') order.length a x
  noref : ∀ j isb, a ≠ .ref j isb
  ord : (newB a x = none ∧ order' = order ∧ refs1 y' = []) ∨ ∃ id k tb, newB a x = some k ∧ order' = order ++ [id] ∧ id ∉ order ∧ refs1 y' = [id] ∧ getB hp id = some tb ∧ blen tb = blen k ∧ ∀ hp hp' kb, RB hp tb kb → RB hp' k kb

theorem cell_arg {hp : THp} {hv : Hp} {byref : Bool} {order : List Nat} {c : AC} {x : c.den} {y y' : V} {lent : List Nat} (h1 : byref = false → lend0 hv y = some y' ∧ arIds0 y = lent) (h2 : byref = true → y' = y ∧ lent = []) (h3 : RV0 hp (encC c x) y')
    (h4 : okCell y = true) : ArgS hp hv byref order (.cell c) x y y' order lent := by
  have hy : lend1 hv y = lend0 hv y ∧ arIds1 y = arIds0 y ∧ notTup y = true := by
    cases y with
    | agg cs => simp [okCell] at h4
    | tup cs => simp [okCell] at h4
    | cl f cs => cases cs with | nil => exact ⟨rfl, rfl, rfl⟩ | cons a l => simp [okCell] at h4
    | v x => exact ⟨rfl, rfl, rfl⟩
    | em => exact ⟨rfl, rfl, rfl⟩
    | im r => exact ⟨rfl, rfl, rfl⟩
    | ar a b c => exact ⟨rfl, rfl, rfl⟩
    | rf a b c => exact ⟨rfl, rfl, rfl⟩
    | ir a b => exact ⟨rfl, rfl, rfl⟩
    | any => simp [okCell] at h4
  refine ⟨fun hb => ?_, fun hb => ?_, ?_, fun _ => rfl, fun _ _ h => (by cases h), .inl ⟨rfl, rfl, ?_⟩⟩
  · rw [hy.1, hy.2.1]; exact h1 hb
  · obtain ⟨q1, q2⟩ := h2 hb; exact ⟨q1, hy.2.2, q2⟩
  · show RV2 hp (encC c x) y'
    exact h3.to1.to2
  · cases c with
    | int k => have : y' = _ := h3; subst this; rfl
    | bool => have : y' = _ := h3; subst this; rfl
    | str => have : y' = _ := h3; subst this; rfl
    | im t => rcases h3 with ⟨_, rfl⟩ | ⟨_, rfl, _⟩ <;> rfl

theorem okCell_rv {hp : THp} {x : SV} {y : V} (h : RV0 hp x y) (hx : okT x = true) : okCell y = true := by
  have := flat_rel (x := x) (y := y) h.to1.to2 (by
    cases x with
    | agg cs => simp [okT] at hx
    | _ => simpa [flatT] using hx)
  have hf : flat y = [y] := by
    cases y with
    | agg cs =>
      exfalso
      cases x with
      | im t l => rcases h with ⟨_, h⟩ | ⟨_, h, _⟩ <;> cases h
      | ow id => obtain ⟨_, h, _⟩ := h; cases h
      | ir t a c => obtain ⟨_, h, _⟩ := h; cases h
      | cl f cs => cases cs with | nil => cases h | cons a l => exact h
      | any => simp [okT] at hx
      | agg cs => exact h
      | tup cs => exact h
      | int k n => cases h
      | bool k => cases h
      | str k => cases h
      | sc k => cases h
      | em => cases h
      | ar a b c => cases h
      | rf a b c => cases h
    | _ => rfl
  rw [hf] at this
  simpa using this.2

theorem argS_rel {hp : THp} {hv : Hp} {byref : Bool} {order order' lent : List Nat} {a : AS} {x : a.den} {v : SV} {y : V} (hh : RH hp hv) (hv2 : RV2 hp v y) (h : argS hp byref order a v = some (x, order', lent)) :
    ∃ y', ArgS hp hv byref order a x y y' order' lent := by
  cases a with
  | cell c =>
    cases c with
    | im t =>
      simp only [argS] at h
      cases byref with
      | true =>
        simp only [if_true] at h
        split at h
        · rename_i x' hx
          simp only [Option.some.injEq, Prod.mk.injEq] at h
          obtain ⟨rfl, rfl, rfl⟩ := h
          have h0 : RV0 hp v y := asLh_cell (hpm := hp) (e := t) (l := x') (by unfold asLh; cases v <;> first | exact hx | simp [asL] at hx) hv2
          have hr := asL_rel hx h0
          refine ⟨y, cell_arg (c := .im t) (fun h => by cases h) (fun _ => ⟨rfl, rfl⟩) hr ?_⟩
          rcases hr with ⟨_, rfl⟩ | ⟨_, rfl, _⟩ <;> rfl
        · cases h
      | false =>
        simp only [Bool.false_eq_true, if_false] at h
        split at h
        · rename_i x' hx
          simp only [Option.some.injEq, Prod.mk.injEq] at h
          obtain ⟨rfl, rfl, rfl⟩ := h
          have hd : decC hp (.im t) v = some x' := by cases v <;> exact hx
          have h0 := cell_of hd hv2
          obtain ⟨y', h1, h2, h3, h4⟩ := lendC_rel hh hd h0
          refine ⟨y', cell_arg (c := .im t) (fun _ => ⟨h1, h3⟩) (fun h => by cases h) h2 (okCell_rv h0 ?_)⟩
          cases v <;> first | rfl | (simp [asLh, asL] at hx; done)
        · cases h
    | int k =>
      simp only [argS] at h
      split at h
      · rename_i x' hx
        simp only [Option.some.injEq, Prod.mk.injEq] at h
        obtain ⟨rfl, rfl, rfl⟩ := h
        have hd : decC hp (.int k) v = some x' := by cases v <;> exact hx
        have h0 := cell_of hd hv2
        have h1 := rootC_rel hx h0 hp
        have : y = _ := h1
        subst this
        exact ⟨_, cell_arg (c := .int k) (fun _ => ⟨rfl, rfl⟩) (fun _ => ⟨rfl, rfl⟩) h1 rfl⟩
      · cases h
    | bool =>
      simp only [argS] at h
      split at h
      · rename_i x' hx
        simp only [Option.some.injEq, Prod.mk.injEq] at h
        obtain ⟨rfl, rfl, rfl⟩ := h
        have hd : decC hp .bool v = some x' := by cases v <;> exact hx
        have h0 := cell_of hd hv2
        have h1 := rootC_rel hx h0 hp
        have : y = _ := h1
        subst this
        exact ⟨_, cell_arg (c := .bool) (fun _ => ⟨rfl, rfl⟩) (fun _ => ⟨rfl, rfl⟩) h1 rfl⟩
      · cases h
    | str =>
      simp only [argS] at h
      split at h
      · rename_i x' hx
        simp only [Option.some.injEq, Prod.mk.injEq] at h
        obtain ⟨rfl, rfl, rfl⟩ := h
        have hd : decC hp .str v = some x' := by cases v <;> exact hx
        have h0 := cell_of hd hv2
        have h1 := rootC_rel hx h0 hp
        have : y = _ := h1
        subst this
        exact ⟨_, cell_arg (c := .str) (fun _ => ⟨rfl, rfl⟩) (fun _ => ⟨rfl, rfl⟩) h1 rfl⟩
      · cases h
  | agg cs =>
    cases v with
    | agg us =>
      simp only [argS] at h
      split at h
      · rename_i x' hx
        simp only [Option.some.injEq, Prod.mk.injEq] at h
        obtain ⟨rfl, rfl, rfl⟩ := h
        obtain ⟨ys, rfl, hc⟩ := rv_agg hv2
        cases byref with
        | true =>
          simp only [if_true] at hx ⊢
          have hr := rootCs_rel hx hc hp
          refine ⟨.agg ys, fun h => (by cases h), fun _ => ⟨rfl, rfl, rfl⟩, ⟨ys, rfl, hr⟩, fun _ => rfl, fun _ _ h => (by cases h), .inl ⟨rfl, rfl, (encCs_refs hr).1⟩⟩
        | false =>
          simp only [Bool.false_eq_true, if_false] at hx ⊢
          obtain ⟨ys', h1, h2, h3⟩ := lendCs_rel hh hx hc
          refine ⟨.agg ys', fun _ => ⟨by simp only [lend1, h1], h3⟩, fun h => (by cases h), ⟨ys', rfl, h2⟩, fun _ => rfl, fun _ _ h => (by cases h), .inl ⟨rfl, rfl, (encCs_refs h2).1⟩⟩
      · cases h
    | _ => simp [argS] at h
  | new b =>
    cases b with
    | arr ty deep t =>
      cases v with
      | ow id =>
        simp only [argS] at h
        split at h
        · rename_i hc
          simp only [Bool.and_eq_true] at hc
          obtain ⟨hb, hn⟩ := hc
          split at h
          · rename_i x' hx
            simp only [Option.some.injEq, Prod.mk.injEq] at h
            obtain ⟨rfl, rfl, rfl⟩ := h
            have h0 : RV0 hp (.ow id) y := hv2
            obtain ⟨n, rfl, hlen⟩ := (show RV0 hp (.ow id) y from hv2)
            cases hg : getB hp id with
            | none => rw [hg] at hx; cases hx
            | some tb =>
              rw [hg] at hx
              have hq : decRoot (.arr ty deep t) (some tb) = some x' := by cases tb <;> exact hx
              obtain ⟨q1, q2⟩ := root_rel hq
              refine ⟨.ar id 0 n, fun h => (by rw [hb] at h; cases h), fun _ => ⟨rfl, rfl, rfl⟩, ?_, fun t => by simp [encSV, ordF], fun _ _ h => (by cases h), .inr ⟨id, _, tb, rfl, rfl, notIn_not hn, rfl, hg, q1, fun hp hp' kb h => q2 hp hp' kb h⟩⟩
              show RV0 _ (.ow (ordF (order ++ [id]) order.length)) _
              rw [ordF_last]
              exact h0
          · cases h
        · cases h
      | _ => simp [argS] at h
    | box ty cs =>
      cases v with
      | rf id r c' =>
        have hrc : r = 0 ∧ c' = 0 := by
          cases r with
          | zero => cases c' with
            | zero => exact ⟨rfl, rfl⟩
            | succ _ => simp [argS] at h
          | succ _ => simp [argS] at h
        obtain ⟨rfl, rfl⟩ := hrc
        simp only [argS] at h
        split at h
        · rename_i hn
          split at h
          · rename_i x' hx
            simp only [Option.some.injEq, Prod.mk.injEq] at h
            obtain ⟨rfl, rfl, rfl⟩ := h
            have : y = .rf id 0 0 := hv2
            subst this
            cases hg : getB hp id with
            | none => rw [hg] at hx; cases hx
            | some tb =>
              rw [hg] at hx
              cases tb with
              | arr ty' d' t' l => simp [decB] at hx
              | frz ty' d' t' l => simp [decB] at hx
              | box ty' vs =>
                simp only [decB] at hx
                split at hx
                · rename_i he
                  have he := Nat.eq_of_beq_eq_true he
                  subst he
                  refine ⟨.rf id 0 0, fun _ => ⟨rfl, rfl⟩, fun _ => ⟨rfl, rfl, rfl⟩, ?_, fun t => by simp [encSV, ordF], fun _ _ h => (by cases h), .inr ⟨id, _, _, rfl, rfl, notIn_not hn, rfl, hg, rfl, fun hp hp' kb hk => ?_⟩⟩
                  · show V.rf id 0 0 = V.rf (ordF (order ++ [id]) order.length) 0 0
                    rw [ordF_last]
                  · obtain ⟨h1, h2, row, h3, h4, h5⟩ := hk
                    exact ⟨h1, h2, row, h3, h4, rootCs_rel hx h5 hp'⟩
                · cases hx
          · cases h
        · cases h
      | _ => simp [argS] at h
  | ref j isb => cases v <;> simp [argS] at h
  | clo f =>
    cases v with
    | cl g caps =>
      cases caps with
      | nil =>
        simp only [argS] at h
        split at h
        · rename_i he
          have he := Nat.eq_of_beq_eq_true he
          subst he
          simp only [Option.some.injEq, Prod.mk.injEq] at h
          obtain ⟨_, rfl, rfl⟩ := h
          obtain ⟨us, rfl, hc⟩ := rv_cl hv2
          cases us with
          | cons a l => exact hc.elim
          | nil => exact ⟨.cl f [], fun _ => ⟨rfl, rfl⟩, fun _ => ⟨rfl, rfl, rfl⟩, ⟨[], rfl, trivial⟩, fun _ => rfl, fun _ _ h => (by cases h), .inl ⟨rfl, rfl, rfl⟩⟩
        · cases h
      | cons a l => simp [argS] at h
    | _ => simp [argS] at h
end Go.Proofs.Ytcmihlhmeonmfaa.Ev
