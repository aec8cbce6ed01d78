/- Whatever the lists of points handed in, the law 'FnExactGoodWays' answers true: the two readings of 'good ways' agree, and nothing that was handed in changes. There are no further conditions. -/
import Derived.Test.YtcmihlhmeonmfaaLaw4
import Derived.Test.YtcmihlhmeonmfaaEvP
import Derived.Test.YtcmihlhmeonmfaaRows
import Derived.WalkKit
import Derived.ProofKit
import Derived.OpenShut
import Derived.ShutString
import Derived.ChangeOld
import Derived.Below
import Derived.SizedLaws
import Derived.Test.YtcmihlhmeonmfaaChecked
namespace Go.Proofs.Ytcmihlhmeonmfaa.Ev
open Go Go.RowKit Go.ChangeShapes Go.WideShapes Go.ChangeAt
set_option linter.unusedVariables false
set_option linter.unusedSimpArgs false

/-- A loop over a list that stops at the first element that fails. -/
theorem way_good (a : Int × Int) : F_41 a = some (decide (-1000 ≤ a.1 ∧ a.1 ≤ 1000 ∧ -1000 ≤ a.2 ∧ a.2 ≤ 1000)) ∧ F_40 a = F_41 a := by
  have h71 : ∀ a b c : Int, F_71 a b c = some (decide (b ≤ a ∧ a ≤ c)) := by
    intro a b c
    unfold F_71
    by_cases h : a ≥ b <;> simp [h]
  have h73 : ∀ a b c : Int, F_73 a b c = F_71 a b c := fun a b c => rfl
  refine ⟨?_, ?_⟩
  · unfold F_41
    rw [h71, h71]
    by_cases h1 : -1000 ≤ a.1 ∧ a.1 ≤ 1000 <;> simp [h1]
    omega
  · unfold F_40 F_41
    rw [h73, h73]

def okPt (a : Int × Int) : Bool := decide (-1000 ≤ a.1 ∧ a.1 ≤ 1000 ∧ -1000 ≤ a.2 ∧ a.2 ≤ 1000)

theorem F91_eq {l : List (Int × Int)} (hl : l.length ≤ 1048576) : F_91 l = some (l.all okPt) ∧ F_89 l = some (l.all okPt) := by
  have b1 := all_loop (body := fun s : List (Int × Int) × Int × Int => B_91_0 s.1 s.2.1 s.2.2) (l := l) (st := fun k => (l, (l.length : Int), (k : Int))) (p := okPt) (fin := Sum.inl ()) (bad := fun _ => Sum.inr false)
    (fun k a ha hp => by
      have hlt := (List.getElem?_eq_some_iff.1 ha).1
      have hd : decide ((k : Int) < (l.length : Int)) = true := by simpa using hlt
      have w : IntKind.wrap .i64 ((k : Int) + 1) = ((k + 1 : Nat) : Int) := by rw [wrapI (by omega) (by omega)]; omega
      simp only [B_91_0, hd, cond_true, getI_nat, ha, Option.bind_some, (way_good (a.1, a.2)).1, w]
      have : decide (-1000 ≤ a.1 ∧ a.1 ≤ 1000 ∧ -1000 ≤ a.2 ∧ a.2 ≤ 1000) = true := hp
      rw [this]; rfl)
    (fun k a ha hp => by
      have hlt := (List.getElem?_eq_some_iff.1 ha).1
      have hd : decide ((k : Int) < (l.length : Int)) = true := by simpa using hlt
      simp only [B_91_0, hd, cond_true, getI_nat, ha, Option.bind_some, (way_good (a.1, a.2)).1]
      have : decide (-1000 ≤ a.1 ∧ a.1 ≤ 1000 ∧ -1000 ≤ a.2 ∧ a.2 ≤ 1000) = false := hp
      rw [this]; rfl)
    (by simp [B_91_0])
  have b2 := all_loop (body := fun s : List (Int × Int) × Int × Int => B_133_0 s.1 s.2.1 s.2.2) (l := l) (st := fun k => (l, (l.length : Int), (k : Int))) (p := okPt) (fin := Sum.inl ()) (bad := fun k => Sum.inr (k : Int))
    (fun k a ha hp => by
      have hlt := (List.getElem?_eq_some_iff.1 ha).1
      have hd : decide ((k : Int) < (l.length : Int)) = true := by simpa using hlt
      have w : IntKind.wrap .i64 ((k : Int) + 1) = ((k + 1 : Nat) : Int) := by rw [wrapI (by omega) (by omega)]; omega
      simp only [B_133_0, F_123, hd, cond_true, getI_nat, ha, Option.bind_some, (way_good (a.1, a.2)).2, (way_good (a.1, a.2)).1, w]
      have : decide (-1000 ≤ a.1 ∧ a.1 ≤ 1000 ∧ -1000 ≤ a.2 ∧ a.2 ≤ 1000) = true := hp
      rw [this]; rfl)
    (fun k a ha hp => by
      have hlt := (List.getElem?_eq_some_iff.1 ha).1
      have hd : decide ((k : Int) < (l.length : Int)) = true := by simpa using hlt
      simp only [B_133_0, F_123, hd, cond_true, getI_nat, ha, Option.bind_some, (way_good (a.1, a.2)).2, (way_good (a.1, a.2)).1]
      have : decide (-1000 ≤ a.1 ∧ a.1 ≤ 1000 ∧ -1000 ≤ a.2 ∧ a.2 ≤ 1000) = false := hp
      rw [this]; rfl)
    (by simp [B_133_0])
  have z : ((0 : Nat) : Int) = 0 := rfl
  rw [z] at b1 b2
  cases hp : l.all okPt with
  | true =>
    refine ⟨?_, ?_⟩
    · unfold F_91
      rw [b1.1 hp]
      rfl
    · unfold F_89 F_122 F_133
      rw [b2.1 hp]
      rfl
  | false =>
    obtain ⟨k, _, e1⟩ := b1.2 hp
    obtain ⟨j, _, e2⟩ := b2.2 hp
    refine ⟨?_, ?_⟩
    · unfold F_91
      rw [e1]
      rfl
    · unfold F_89 F_122 F_133
      rw [e2]
      have : decide ((j : Int) ≥ 0) = true := by simp
      simp [this]

def okWay (l : List (Int × Int)) : Bool := decide (3 ≤ l.length ∧ l.length ≤ 12) && l.all okPt

theorem F76_eq {l : List (Int × Int)} (hl : l.length ≤ 1048576) : F_76 l = some (okWay l) ∧ F_80 l = some (okWay l) := by
  have h71 : F_71 (l.length : Int) 3 12 = some (decide (3 ≤ l.length ∧ l.length ≤ 12)) := by
    unfold F_71
    by_cases h : (l.length : Int) ≥ 3
    · have h' : 3 ≤ l.length := by omega
      simp only [h, h', decide_true, cond_true, true_and]
      congr 1
      simp; omega
    · have h' : ¬ 3 ≤ l.length := by omega
      simp only [h, h', decide_false, cond_false, false_and]
  have h73 : F_73 (l.length : Int) 3 12 = some (decide (3 ≤ l.length ∧ l.length ≤ 12)) := h71
  obtain ⟨q1, q2⟩ := F91_eq hl
  unfold F_76 F_80 okWay
  rw [h71, h73, q1, q2]
  cases decide (3 ≤ l.length ∧ l.length ≤ 12) <;> simp

theorem F77_eq {l : List (Int × Int)} (h : l.length ≤ 1048576) : F_77 l = some l := by
  unfold F_77
  rw [lenI_nat (by unfold maxBytes; omega) (by unfold maxBytes; omega)]
  have := copy_loop (G := fun x : Int × Int => F_117 (x.1, x.2)) (H := fun y : Int × Int => (y.1, y.2)) (g := fun x => x) (z := ((0 : Int), (0 : Int))) (l := l) (by omega) (fun a _ => ⟨a, rfl, rfl⟩)
  rw [List.map_id'] at this
  simp only [Option.bind_some]
  have e : loopM (fun s : List (Int × Int) × List (Int × Int) × Int => B_77_0 s.1 s.2.1 s.2.2) (l, List.replicate l.length ((0 : Int), (0 : Int)), (0 : Int)) = some l := this
  rw [e]
  rfl

theorem F81_eq {l m : List (Int × Int)} (h : l.length ≤ 1048576) : ∃ t, F_81 l m = some t ∧ (t = true ↔ l = m) := by
  unfold F_81
  by_cases hlm : l.length = m.length
  · have hb : (((l.length : Nat) : Int) != ((m.length : Nat) : Int)) = false := by simp [hlm]
    obtain ⟨r, h1, h2, h3⟩ := same_loop (E := fun a b : Int × Int => F_119 (a.1, a.2) (b.1, b.2)) (l := l) (m := m) (by omega) hlm.symm (fun a _ b _ => by
      obtain ⟨a1, a2⟩ := a
      obtain ⟨b1, b2⟩ := b
      unfold F_119
      by_cases e1 : a1 = b1 <;> by_cases e2 : a2 = b2 <;> simp [bne, e1, e2, beq_eq_false_iff_ne.2])
    have e : loopM (fun s : List (Int × Int) × List (Int × Int) × Int => B_81_0 s.1 s.2.1 s.2.2) (l, m, (0 : Int)) = some r := h1
    rw [hb, e]
    by_cases he : l = m
    · rw [h2 he]; exact ⟨true, rfl, by simp [he]⟩
    · rw [h3 he]; exact ⟨false, rfl, by simp [he]⟩
  · have hb : (((l.length : Nat) : Int) != ((m.length : Nat) : Int)) = true := by simp; omega
    rw [hb]
    exact ⟨false, rfl, by simp; intro h; exact hlm (by rw [h])⟩

/-- Rows that are not too long. -/
def Small (l : List (List (Int × Int))) : Prop := l.length ≤ 1048576 ∧ ∀ r ∈ l, r.length ≤ 1048576

theorem F18_eq {l : List (List (Int × Int))} (h : Small l) : F_18 l = some l := by
  unfold F_18
  have := h.1
  rw [lenI_nat (by unfold maxBytes; omega) (by unfold maxBytes; omega)]
  have := copy_loop (G := fun x : List (Int × Int) => F_77 x) (H := fun y : List (Int × Int) => y) (g := fun x => x) (z := ([] : List (Int × Int))) (l := l) (by omega) (fun a ha => ⟨a, F77_eq (h.2 a ha), rfl⟩)
  rw [List.map_id'] at this
  simp only [Option.bind_some]
  have e : loopM (fun s : List (List (Int × Int)) × List (List (Int × Int)) × Int => B_18_0 s.1 s.2.1 s.2.2) (l, List.replicate l.length [], (0 : Int)) = some l := this
  rw [e]
  rfl

theorem F20_eq {l : List (List (Int × Int))} (h : Small l) : F_20 l l = some true := by
  unfold F_20
  have := h.1
  obtain ⟨r, h1, h2, _⟩ := same_loop (E := fun a b : List (Int × Int) => F_81 a b) (l := l) (m := l) (by omega) rfl (fun a ha b hb => F81_eq (h.2 a ha))
  have e : loopM (fun s : List (List (Int × Int)) × List (List (Int × Int)) × Int => B_20_0 s.1 s.2.1 s.2.2) (l, l, (0 : Int)) = some r := h1
  rw [e, h2 rfl]
  simp

theorem F17_eq {l : List (List (Int × Int))} (h : Small l) : ∃ t, F_17 l = some t ∧ F_19 l = some t := by
  have hl := h.1
  have hmem : ∀ (k : Nat) (a : List (Int × Int)), l[k]? = some a → a.length ≤ 1048576 := fun k a ha => h.2 a (List.mem_of_getElem? ha)
  have b1 := all_loop (body := fun s : List (List (Int × Int)) × List (List (Int × Int)) × Int × Int => B_17_0 s.1 s.2.1 s.2.2.1 s.2.2.2) (l := l) (st := fun k => (l, l, (l.length : Int), (k : Int))) (p := okWay) (fin := Sum.inl l) (bad := fun _ => Sum.inr false)
    (fun k a ha hp => by
      have hlt := (List.getElem?_eq_some_iff.1 ha).1
      have hd : decide ((k : Int) < (l.length : Int)) = true := by simpa using hlt
      have w : IntKind.wrap .i64 ((k : Int) + 1) = ((k + 1 : Nat) : Int) := by rw [wrapI (by omega) (by omega)]; omega
      simp only [B_17_0, hd, cond_true, getI_nat, ha, Option.bind_some, (F76_eq (hmem k a ha)).1, hp, w]
      rfl)
    (fun k a ha hp => by
      have hlt := (List.getElem?_eq_some_iff.1 ha).1
      have hd : decide ((k : Int) < (l.length : Int)) = true := by simpa using hlt
      simp only [B_17_0, hd, cond_true, getI_nat, ha, Option.bind_some, (F76_eq (hmem k a ha)).1, hp]
      rfl)
    (by simp [B_17_0])
  have b2 := all_loop (body := fun s : List (List (Int × Int)) × Int × Int => B_118_0 s.1 s.2.1 s.2.2) (l := l) (st := fun k => (l, (l.length : Int), (k : Int))) (p := okWay) (fin := Sum.inl ()) (bad := fun k => Sum.inr (k : Int))
    (fun k a ha hp => by
      have hlt := (List.getElem?_eq_some_iff.1 ha).1
      have hd : decide ((k : Int) < (l.length : Int)) = true := by simpa using hlt
      have w : IntKind.wrap .i64 ((k : Int) + 1) = ((k + 1 : Nat) : Int) := by rw [wrapI (by omega) (by omega)]; omega
      simp only [B_118_0, F_79, hd, cond_true, getI_nat, ha, Option.bind_some, (F76_eq (hmem k a ha)).2, hp, w]
      rfl)
    (fun k a ha hp => by
      have hlt := (List.getElem?_eq_some_iff.1 ha).1
      have hd : decide ((k : Int) < (l.length : Int)) = true := by simpa using hlt
      simp only [B_118_0, F_79, hd, cond_true, getI_nat, ha, Option.bind_some, (F76_eq (hmem k a ha)).2, hp]
      rfl)
    (by simp [B_118_0])
  have z : ((0 : Nat) : Int) = 0 := rfl
  rw [z] at b1 b2
  have h71 : ∃ t, F_71 (l.length : Int) 1 4 = some t ∧ F_73 (l.length : Int) 1 4 = some t := by
    have : F_73 (l.length : Int) 1 4 = F_71 (l.length : Int) 1 4 := rfl
    rw [this]
    unfold F_71
    by_cases h : (l.length : Int) ≥ 1
    · simp [h]
    · simp [h]
  obtain ⟨t, t1, t2⟩ := h71
  cases hp : l.all okWay with
  | true =>
    refine ⟨t, ?_, ?_⟩
    · unfold F_17
      rw [b1.1 hp]
      simp only [Option.bind_some, Sum.elim_inl, t1]
    · unfold F_19 F_78 F_118
      rw [b2.1 hp]
      simp only [Option.bind_some, Sum.elim_inl, t2]
      cases t <;> rfl
  | false =>
    obtain ⟨k, _, e1⟩ := b1.2 hp
    obtain ⟨j, _, e2⟩ := b2.2 hp
    refine ⟨false, ?_, ?_⟩
    · unfold F_17
      rw [e1]
      rfl
    · unfold F_19 F_78 F_118
      rw [e2]
      have : decide ((j : Int) ≥ 0) = true := by simp
      simp only [Option.bind_some, Sum.elim_inr, t2, this]
      cases t <;> rfl

theorem F16_eq {l : List (List (Int × Int))} (hb : l.length * 24 ≤ maxBytes) (hr : ∀ r ∈ l, r.length * 16 ≤ maxBytes) : ∃ x, F_16 l 1048576 = some x ∧ (x < 0 ∨ Small l) := by
  unfold maxBytes at hb hr
  unfold F_16
  rw [wrapI (by omega) (by omega)]
  by_cases h0 : 1048576 - (l.length : Int) < 0
  · simp only [h0, decide_true, cond_true]
    exact ⟨-1, rfl, .inl (by omega)⟩
  · simp only [h0, decide_false, cond_false]
    obtain ⟨r, h1, h2⟩ := loop_one (f := fun s : List (List (Int × Int)) × Int × Int => B_16_0 s.1 s.2.1 s.2.2) (I := fun s => ∃ (k : Nat) (b : Int), s = (l, b, (k : Int)) ∧ k ≤ l.length ∧ 0 ≤ b ∧ b ≤ 1048576 ∧ ∀ (j : Nat) (row : List (Int × Int)), j < k → l[j]? = some row → row.length ≤ 1048576)
      (R := fun r => r = .inr (-1) ∨ ∃ b : Int, r = .inl b ∧ 0 ≤ b ∧ ∀ row ∈ l, row.length ≤ 1048576) (fun s => (((s.1.length : Nat) : Int) - s.2.2).toNat) (by
        rintro s ⟨k, b, rfl, hk, hb0, hb1, hj⟩
        unfold B_16_0
        by_cases hlt : k < l.length
        · have hd : decide ((k : Int) < (l.length : Int)) = true := by simpa using hlt
          have e1 : l[k]? = some l[k] := List.getElem?_eq_getElem hlt
          have hrow := hr l[k] (List.getElem_mem hlt)
          generalize l[k] = a at e1 hrow
          simp only [hd, cond_true, getI_nat, e1, Option.bind_some, F_75]
          rw [wrapI (by omega) (by omega)]
          by_cases h1 : b - (a.length : Int) < 0
          · right
            refine ⟨.inr (-1), ?_, .inl rfl⟩
            simp only [h1, decide_true, cond_true, Option.bind_some]
            rfl
          · left
            refine ⟨(l, b - (a.length : Int), ((k + 1 : Nat) : Int)), ?_, ⟨k + 1, _, rfl, hlt, by omega, by omega, fun j row hj' hjr => ?_⟩, by simp only; omega⟩
            · simp only [h1, decide_false, cond_false, Option.bind_some]
              rw [wrapI (by omega) (by omega)]
              rfl
            · by_cases hjk : j = k
              · subst hjk
                rw [e1] at hjr
                cases hjr
                omega
              · exact hj j row (by omega) hjr
        · right
          have hd : decide ((k : Int) < (l.length : Int)) = false := by simpa using hlt
          refine ⟨.inl b, by simp only [hd, cond_false], .inr ⟨b, rfl, hb0, fun row hrow => ?_⟩⟩
          obtain ⟨j, hjr⟩ := List.getElem?_of_mem hrow
          have := (List.getElem?_eq_some_iff.1 hjr).1
          exact hj j row (by omega) hjr)
      (l, 1048576 - (l.length : Int), 0) ⟨0, _, rfl, by omega, by omega, by omega, fun j row hj => by omega⟩
    rw [h1]
    rcases h2 with rfl | ⟨b, rfl, hb0, hb1⟩
    · exact ⟨-1, rfl, .inl (by omega)⟩
    · exact ⟨b, rfl, .inr ⟨by omega, hb1⟩⟩

theorem pure4 (l : List (List (Int × Int))) (hb : l.length * 24 ≤ maxBytes) (hr : ∀ r ∈ l, r.length * 16 ≤ maxBytes) : F_4 l = some true := by
  unfold F_4
  obtain ⟨x, h1, h2⟩ := F16_eq hb hr
  rw [h1]
  by_cases h0 : x < 0
  · simp [h0]
  · have hs : Small l := h2.resolve_left h0
    obtain ⟨t, q1, q2⟩ := F17_eq hs
    have : decide (x < 0) = false := by simpa using h0
    simp only [Option.bind_some, this, cond_false, F18_eq hs, q1, q2, F20_eq hs]
    cases t <;> rfl

def shs4 : List Sh := [.sl 24 (.sl 16 (.pair (.int .i64) (.int .i64)))]
theorem fits4 : FitsL Try.prog [29] shs4 := by
  refine ⟨?_, trivial⟩
  refine .sl Try.underlying29 (by kernel_rfl) (by kernel_rfl) ?_
  refine .sl Try.underlying91 (by kernel_rfl) (by kernel_rfl) ?_
  refine .st Try.underlying120 (by kernel_rfl) ?_
  exact .cons rfl (by kernel_rfl) (.int (by kernel_rfl)) (.one rfl (by kernel_rfl) (.int (by kernel_rfl)))

theorem own4 : ownKnob Try.prog.godebug = none := by kernel_rfl
theorem laid4 : laidOutB Try.prog = true := by kernel_rfl

set_option maxRecDepth 100000 in
theorem lifted4 (os : Os) (started : os.Started) (H : Type) (enc : TypeId × Value → H) :
    ReturnsInHanded {} Try.checked os 4 .any (Rows.fnExactGoodWaysSpec.pre6 enc Try.prog Try.f4 Rows.fnExactGoodWaysRow.domain false) (Rows.fnExactGoodWaysSpec.post enc Try.prog Try.f4 false true false false) := by
  refine returnsInHanded_of_change_sized (C := Try.checked) own4 started (by kernel_rfl) Try.func4 (ChangeSpec.witness6 (enc := enc) (C := Try.checked) false ⟨#[], #[.slice none 0 0], []⟩ 8 (by kernel_rfl) (by kernel_rfl) (by kernel_rfl) (by kernel_rfl)) ?_
  intro W base args ds gs before hval hW hcnd hsz _
  exact law_contract (P := Try.prog) (cf := cf0) (ext := noExt) (F := fun x => F_4 x) (shs := shs4) (by kernel_rfl) (fun _ _ _ _ _ h => h.elim) OK4 (fun d hd => pure4 d hd.1.2 (fun r hr => (hd.1.1 r hr).2)) rfl rfl rfl (by kernel_rfl) fits4 laid4 (fun t ht => by cases List.mem_singleton.1 ht; exact ⟨by kernel_rfl, of_decide_eq_true (by kernel_rfl)⟩) rfl
    (fun ds hl => by
      match ds, hl with
      | [d], _ => rfl) hval hW hsz

theorem over4 : Rows.fnExactGoodWaysRow.holds Try.pinned (OpenSpec.ofChange Rows.fnExactGoodWaysSpec) :=
  OpenClaim.holds_of_wide 4 Try.f4 rfl rfl rfl rfl rfl rfl rfl ⟨rfl, rfl, rfl, rfl, rfl⟩ rfl rfl rfl rfl rfl (by kernel_rfl) Try.func4 (by kernel_rfl)
    (of_decide_eq_true (by kernel_rfl)) (by unfold Func.isWrapper; first | (rw [if_pos (by decide +kernel)]; kernel_rfl) | (rw [if_neg (by decide +kernel)]; exact ⟨rfl, rfl⟩))
    (fun os started H enc _ => lifted4 os started H enc)
end Go.Proofs.Ytcmihlhmeonmfaa.Ev
namespace Go.Proofs.Ytcmihlhmeonmfaa
theorem fnExactGoodWays_holds : Rows.FnExactGoodWaysSaid := Ev.over4
#print axioms fnExactGoodWays_holds
end Go.Proofs.Ytcmihlhmeonmfaa
