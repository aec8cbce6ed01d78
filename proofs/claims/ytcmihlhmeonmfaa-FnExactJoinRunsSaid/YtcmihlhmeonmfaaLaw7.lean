/- The functions that the law 7 reaches: their types, forms and typed texts (made by wip/gen/mk.py). -/
import Derived.Test.YtcmihlhmeonmfaaEvXh
import Derived.Test.YtcmihlhmeonmfaaProg
import Derived.KernelRfl
namespace Go.Proofs.Ytcmihlhmeonmfaa.Ev
open Go
set_option maxRecDepth 100000
set_option linter.unusedVariables false
def tyD3 : TyD := ⟨1, 8, false, [(.v (.int .i64 0))], none, false, (some .i64), []⟩
def tyD4 : TyD := ⟨1, 1, false, [(.v (.bool false))], none, false, none, []⟩
def tyD22 : TyD := ⟨1, 24, false, [.em], (some 88), false, none, []⟩
def tyD25 : TyD := ⟨1, 24, false, [.em], (some 85), false, none, []⟩
def tyD36 : TyD := ⟨1, 24, false, [.em], (some 3), false, none, []⟩
def tyD85 : TyD := ⟨2, 16, true, [(.v (.int .i64 0)), (.v (.int .i64 0))], none, false, none, [⟨0, 3, 1, false⟩, ⟨1, 3, 1, false⟩]⟩
def tyD88 : TyD := ⟨2, 16, true, [(.v (.int .i64 0)), (.v (.int .i64 0))], none, false, none, [⟨0, 3, 1, false⟩, ⟨1, 3, 1, false⟩]⟩
theorem ty3 : tyOf Try.prog 3 = some tyD3 := by kernel_rfl
theorem ty4 : tyOf Try.prog 4 = some tyD4 := by kernel_rfl
theorem ty22 : tyOf Try.prog 22 = some tyD22 := by kernel_rfl
theorem ty25 : tyOf Try.prog 25 = some tyD25 := by kernel_rfl
theorem ty36 : tyOf Try.prog 36 = some tyD36 := by kernel_rfl
theorem ty85 : tyOf Try.prog 85 = some tyD85 := by kernel_rfl
theorem ty88 : tyOf Try.prog 88 = some tyD88 := by kernel_rfl
def tyTab : List (Nat × TyD) := [(3, tyD3), (4, tyD4), (22, tyD22), (25, tyD25), (36, tyD36), (85, tyD85), (88, tyD88)]
def codTab : List (Nat × Ty) := [(3, .int .i64), (85, .pair (.int .i64) (.int .i64)), (88, .pair (.int .i64) (.int .i64))]
theorem tyOK : ∀ t d, getD tyTab t = some d → tyOf Try.prog t = some d := tab_ok (by unfold tyTab; exact ⟨ty3, ⟨ty4, ⟨ty22, ⟨ty25, ⟨ty36, ⟨ty85, ⟨ty88, trivial⟩⟩⟩⟩⟩⟩⟩)
theorem bool4 : Try.prog.underlying 4 = some .bool := by kernel_rfl
theorem boolOK : ∀ t, ([4] : List Nat).contains t = true → Try.prog.underlying t = some .bool := by
  intro t h
  simp at h
  rcases h with rfl
  all_goals first | exact bool4
theorem eqOK : ∀ t, ([] : List Nat).contains t = true → EqOK Try.prog t := by
  intro t h
  simp at h
def a11 : FAnn := ⟨11, false, [.slot 0 (.cell (.im (.pair (.int .i64) (.int .i64)))), .slot 1 (.cell (.int .i64))], [.slot 0 (.cell (.int .i64))],
  [],
  [],
  []⟩
def a72 : FAnn := ⟨72, false, [.slot 0 (.agg [.int .i64, .int .i64])], [.slot 0 (.agg [.int .i64, .int .i64])],
  [],
  [],
  []⟩
def a13 : FAnn := ⟨13, false, [.slot 0 (.cell (.im (.pair (.int .i64) (.int .i64))))], [.slot 0 (.new (.arr 85 true (.pair (.int .i64) (.int .i64))))],
  [(3, [.slot 0 (.cell (.im (.pair (.int .i64) (.int .i64)))), .slot 3 (.new (.arr 85 true (.pair (.int .i64) (.int .i64)))), .slot 4 (.cell (.int .i64))])],
  [(3, [(.exit 0, [.slot 3 (.new (.arr 85 true (.pair (.int .i64) (.int .i64))))])])],
  []⟩
def a71 : FAnn := ⟨71, false, [.slot 0 (.cell (.int .i64)), .slot 1 (.cell (.int .i64)), .slot 2 (.cell (.int .i64))], [.slot 0 (.cell (.bool))],
  [],
  [],
  []⟩
def a12 : FAnn := ⟨12, false, [.slot 0 (.cell (.im (.pair (.int .i64) (.int .i64))))], [.slot 0 (.cell (.bool))],
  [(3, [.slot 0 (.cell (.im (.pair (.int .i64) (.int .i64)))), .slot 3 (.cell (.int .i64)), .slot 6 (.cell (.im (.pair (.int .i64) (.int .i64)))), .slot 7 (.cell (.int .i64)), .slot 8 (.cell (.int .i64))])],
  [(3, [(.exit 0, []), (.ret, [.slot 2 (.cell (.bool))])])],
  []⟩
def a86 : FAnn := ⟨86, false, [.slot 0 (.cell (.im (.pair (.int .i64) (.int .i64))))], [.slot 0 (.new (.arr 3 true (.int .i64)))],
  [(3, [.slot 3 (.new (.arr 3 true (.int .i64))), .slot 7 (.cell (.im (.pair (.int .i64) (.int .i64)))), .slot 8 (.cell (.int .i64)), .slot 9 (.cell (.int .i64))]), (6, [.slot 3 (.new (.arr 3 true (.int .i64))), .slot 5 (.new (.box 85 [.int .i64, .int .i64])), .slot 6 (.cell (.int .i64)), .slot 7 (.cell (.im (.pair (.int .i64) (.int .i64)))), .slot 8 (.cell (.int .i64)), .slot 9 (.cell (.int .i64))])],
  [(3, [(.exit 0, [.slot 3 (.new (.arr 3 true (.int .i64)))])]), (6, [(.exit 2, [.slot 3 (.new (.arr 3 true (.int .i64))), .slot 7 (.cell (.im (.pair (.int .i64) (.int .i64)))), .slot 8 (.cell (.int .i64)), .slot 9 (.cell (.int .i64))])])],
  []⟩
def a82 : FAnn := ⟨82, false, [.slot 0 (.cell (.im (.int .i64)))], [.slot 0 (.cell (.bool))],
  [(2, [.slot 0 (.cell (.im (.int .i64))), .slot 5 (.cell (.im (.int .i64))), .slot 6 (.cell (.int .i64)), .slot 7 (.cell (.int .i64))])],
  [(2, [(.exit 0, [.slot 0 (.cell (.im (.int .i64)))]), (.ret, [.slot 2 (.cell (.bool))])])],
  []⟩
def a83 : FAnn := ⟨83, false, [.slot 0 (.cell (.im (.int .i64)))], [.slot 0 (.new (.arr 85 true (.pair (.int .i64) (.int .i64))))],
  [(3, [.slot 3 (.new (.arr 85 true (.pair (.int .i64) (.int .i64)))), .slot 7 (.cell (.im (.int .i64))), .slot 8 (.cell (.int .i64)), .slot 9 (.cell (.int .i64))])],
  [(3, [(.exit 0, [.slot 3 (.new (.arr 85 true (.pair (.int .i64) (.int .i64))))])])],
  []⟩
def a21 : FAnn := ⟨21, false, [.slot 0 (.cell (.im (.int .i64)))], [.slot 0 (.new (.arr 85 true (.pair (.int .i64) (.int .i64)))), .slot 1 (.cell (.bool))],
  [],
  [],
  []⟩
def a31 : FAnn := ⟨31, false, [.slot 0 (.cell (.im (.pair (.int .i64) (.int .i64)))), .slot 1 (.cell (.im (.pair (.int .i64) (.int .i64))))], [.slot 0 (.new (.arr 85 true (.pair (.int .i64) (.int .i64)))), .slot 1 (.cell (.bool))],
  [],
  [],
  []⟩
def a73 : FAnn := ⟨73, false, [.slot 0 (.cell (.int .i64)), .slot 1 (.cell (.int .i64)), .slot 2 (.cell (.int .i64))], [.slot 0 (.cell (.bool))],
  [],
  [],
  []⟩
def a14 : FAnn := ⟨14, false, [.slot 0 (.cell (.im (.pair (.int .i64) (.int .i64))))], [.slot 0 (.cell (.bool))],
  [(3, [.slot 0 (.cell (.im (.pair (.int .i64) (.int .i64)))), .slot 3 (.cell (.int .i64)), .slot 6 (.cell (.im (.pair (.int .i64) (.int .i64)))), .slot 7 (.cell (.int .i64)), .slot 8 (.cell (.int .i64))])],
  [(3, [(.exit 0, []), (.ret, [.slot 2 (.cell (.bool))])])],
  []⟩
def a87 : FAnn := ⟨87, false, [.slot 0 (.cell (.im (.pair (.int .i64) (.int .i64))))], [.slot 0 (.new (.arr 3 true (.int .i64)))],
  [(3, [.slot 3 (.new (.arr 3 true (.int .i64))), .slot 7 (.cell (.im (.pair (.int .i64) (.int .i64)))), .slot 8 (.cell (.int .i64)), .slot 9 (.cell (.int .i64))]), (6, [.slot 3 (.new (.arr 3 true (.int .i64))), .slot 5 (.new (.box 85 [.int .i64, .int .i64])), .slot 7 (.cell (.im (.pair (.int .i64) (.int .i64)))), .slot 8 (.cell (.int .i64)), .slot 9 (.cell (.int .i64)), .slot 14 (.cell (.int .i64)), .slot 15 (.cell (.int .i64))])],
  [(3, [(.exit 0, [.slot 3 (.new (.arr 3 true (.int .i64)))])]), (6, [(.exit 2, [.slot 3 (.new (.arr 3 true (.int .i64))), .slot 7 (.cell (.im (.pair (.int .i64) (.int .i64)))), .slot 8 (.cell (.int .i64)), .slot 9 (.cell (.int .i64))])])],
  []⟩
def a121 : FAnn := ⟨121, false, [.slot 0 (.cell (.int .i64))], [.slot 0 (.cell (.bool))],
  [],
  [],
  []⟩
def a132 : FAnn := ⟨132, false, [.slot 0 (.cell (.im (.int .i64))), .slot 1 (.clo 121)], [.slot 0 (.cell (.int .i64))],
  [(2, [.slot 0 (.cell (.im (.int .i64))), .slot 1 (.clo 121), .slot 7 (.cell (.int .i64)), .slot 8 (.cell (.int .i64))])],
  [(2, [(.exit 0, []), (.ret, [.slot 4 (.cell (.int .i64))])])],
  []⟩
def a120 : FAnn := ⟨120, false, [.slot 0 (.cell (.im (.int .i64))), .slot 1 (.clo 121)], [.slot 0 (.cell (.bool))],
  [],
  [],
  []⟩
def a84 : FAnn := ⟨84, false, [.slot 0 (.cell (.im (.int .i64)))], [.slot 0 (.cell (.bool))],
  [],
  [],
  []⟩
def a85 : FAnn := ⟨85, false, [.slot 0 (.cell (.im (.int .i64)))], [.slot 0 (.new (.arr 85 true (.pair (.int .i64) (.int .i64))))],
  [(3, [.slot 3 (.new (.arr 85 true (.pair (.int .i64) (.int .i64)))), .slot 8 (.cell (.im (.int .i64))), .slot 9 (.cell (.int .i64)), .slot 10 (.cell (.int .i64))])],
  [(3, [(.exit 0, [.slot 3 (.new (.arr 85 true (.pair (.int .i64) (.int .i64))))])])],
  []⟩
def a23 : FAnn := ⟨23, false, [.slot 0 (.cell (.im (.int .i64)))], [.slot 0 (.new (.arr 85 true (.pair (.int .i64) (.int .i64)))), .slot 1 (.cell (.bool))],
  [],
  [],
  []⟩
def a32 : FAnn := ⟨32, false, [.slot 0 (.cell (.im (.pair (.int .i64) (.int .i64)))), .slot 1 (.cell (.im (.pair (.int .i64) (.int .i64))))], [.slot 0 (.new (.arr 85 true (.pair (.int .i64) (.int .i64)))), .slot 1 (.cell (.bool))],
  [],
  [],
  []⟩
def a74 : FAnn := ⟨74, false, [.slot 0 (.agg [.int .i64, .int .i64]), .slot 1 (.agg [.int .i64, .int .i64])], [.slot 0 (.cell (.bool))],
  [],
  [],
  []⟩
def a15 : FAnn := ⟨15, false, [.slot 0 (.cell (.im (.pair (.int .i64) (.int .i64)))), .slot 1 (.cell (.im (.pair (.int .i64) (.int .i64))))], [.slot 0 (.cell (.bool))],
  [(4, [.slot 0 (.cell (.im (.pair (.int .i64) (.int .i64)))), .slot 1 (.cell (.im (.pair (.int .i64) (.int .i64)))), .slot 5 (.cell (.int .i64))])],
  [(4, [(.exit 0, []), (.ret, [.slot 4 (.cell (.bool))])])],
  []⟩
def a26 : FAnn := ⟨26, true, [.slot 0 (.new (.arr 85 true (.pair (.int .i64) (.int .i64)))), .slot 1 (.cell (.int .i64))], [.root (.arr 85 true (.pair (.int .i64) (.int .i64))), .slot 0 (.cell (.int .i64))],
  [(2, [.root (.arr 85 true (.pair (.int .i64) (.int .i64))), .slot 0 (.ref 0 false), .slot 1 (.cell (.int .i64)), .slot 5 (.cell (.int .i64))])],
  [(2, [(.exit 0, [.root (.arr 85 true (.pair (.int .i64) (.int .i64))), .slot 1 (.cell (.int .i64))])])],
  []⟩
def a27 : FAnn := ⟨27, false, [.slot 0 (.cell (.im (.pair (.int .i64) (.int .i64)))), .slot 1 (.cell (.int .i64))], [.slot 0 (.cell (.int .i64))],
  [(2, [.slot 0 (.cell (.im (.pair (.int .i64) (.int .i64)))), .slot 1 (.cell (.int .i64)), .slot 5 (.cell (.int .i64))])],
  [(2, [(.exit 0, [.slot 1 (.cell (.int .i64))]), (.ret, [.slot 4 (.cell (.int .i64))])])],
  []⟩
def a7 : FAnn := ⟨7, false, [.slot 0 (.cell (.im (.pair (.int .i64) (.int .i64)))), .slot 1 (.cell (.im (.pair (.int .i64) (.int .i64))))], [.slot 0 (.cell (.bool))],
  [],
  [],
  []⟩
def annTab : List FAnn := [a11, a72, a13, a71, a12, a86, a82, a83, a21, a31, a73, a14, a87, a121, a132, a120, a84, a85, a23, a32, a74, a15, a26, a27, a7]
def cf0 : Cfg := cfOf annTab fun _ => false
def noExt : Rel := fun _ _ _ _ _ => False
abbrev RR : Rel := Runs Try.prog cf0 noExt

/-- loop.example/g00409/laws.szRunS -/
noncomputable def F_11 (a0 : (List (Int × Int))) (a1 : Int) : Option (Int) :=
  bif decide ((Go.IntKind.wrap Go.IntKind.i64 (a1 - (((List.length a0) : Nat) : Int))) < (0 : Int)) then
    some (-(1 : Int))
  else
  some (Go.IntKind.wrap Go.IntKind.i64 (a1 - (((List.length a0) : Nat) : Int)))
noncomputable def E11 : Ent := ⟨a11, fun x => F_11 x.1 x.2⟩
noncomputable def X11 : TX := ⟨tyTab, codTab, [], [4], [], a11⟩
set_option maxHeartbeats 2000000 in
theorem W11 (a0 : List ((Int × Int))) (a1 : Int) : wtF X11 Try.f11 (a0, a1) = F_11 a0 a1 := by kernel_rfl
theorem OK11 : EntOK RR E11 := fn_done (X := X11) ⟨tyOK, boolOK, eqOK⟩ (ents_of (by exact trivial)) (cf_ok (by kernel_rfl)) ⟨Try.func11, rfl, by kernel_rfl, rfl⟩ (fun x => by exact W11 x.1 x.2)

/-- loop.example/g00409/laws.toRun -/
noncomputable def F_72 (a0 : (Int × Int)) : Option ((Int × Int)) :=
  some (a0.1, a0.2)
noncomputable def E72 : Ent := ⟨a72, fun x => F_72 x⟩
noncomputable def X72 : TX := ⟨tyTab, codTab, [], [4], [], a72⟩
set_option maxHeartbeats 2000000 in
theorem W72 (a0 : (Int × Int)) : wtF X72 Try.f72 (a0) = F_72 a0 := by kernel_rfl
theorem OK72 : EntOK RR E72 := fn_done (X := X72) ⟨tyOK, boolOK, eqOK⟩ (ents_of (by exact trivial)) (cf_ok (by kernel_rfl)) ⟨Try.func72, rfl, by kernel_rfl, rfl⟩ (fun x => by exact W72 x)

/-- loop.example/g00409/laws.toRunS -/
noncomputable def B_13_0 (s0 : (List (Int × Int))) (s1 : (List (Int × Int))) (s2 : Int) : Option (((List (Int × Int)) × ((List (Int × Int)) × Int)) ⊕ (List (Int × Int))) :=
  bif decide (s2 < (((List.length s0) : Nat) : Int)) then
    ((getI s0 s2)).bind fun x0 =>
    ((F_72 (x0.1, x0.2))).bind fun x1 =>
    ((idxI s2 (List.length s1))).bind fun x2 =>
    ((getN s1 x2)).bind fun x3 =>
    some (Sum.inl (s0, ((List.set s1 x2 (x1.1, x1.2)), (Go.IntKind.wrap Go.IntKind.i64 (s2 + (1 : Int))))))
  else
  some (Sum.inr s1)
noncomputable def F_13 (a0 : (List (Int × Int))) : Option (List ((Int × Int))) :=
  ((lenI (((List.length a0) : Nat) : Int) 16 2)).bind fun x0 =>
  (loopM (fun (s : ((List (Int × Int)) × ((List (Int × Int)) × Int))) => B_13_0 s.1 s.2.1 s.2.2) (a0, ((List.replicate x0 ((0 : Int), (0 : Int))), (0 : Int)))).bind fun x1 =>
  some x1
noncomputable def E13 : Ent := ⟨a13, fun x => F_13 x⟩
noncomputable def X13 : TX := ⟨tyTab, codTab, [], [4], [E72], a13⟩
set_option maxHeartbeats 2000000 in
theorem W13 (a0 : List ((Int × Int))) : wtF X13 Try.f13 (a0) = F_13 a0 := by kernel_rfl
theorem OK13 : EntOK RR E13 := fn_done (X := X13) ⟨tyOK, boolOK, eqOK⟩ (ents_of (by exact ⟨⟨OK72, rfl⟩, trivial⟩)) (cf_ok (by kernel_rfl)) ⟨Try.func13, rfl, by kernel_rfl, rfl⟩ (fun x => by exact W13 x)

/-- loop.example/g00409/spec.l1In -/
noncomputable def F_71 (a0 : Int) (a1 : Int) (a2 : Int) : Option (Bool) :=
  bif decide (a0 ≥ a1) then
    some (decide (a0 ≤ a2))
  else
  some false
noncomputable def E71 : Ent := ⟨a71, fun x => F_71 x.1 x.2.1 x.2.2⟩
noncomputable def X71 : TX := ⟨tyTab, codTab, [], [4], [], a71⟩
set_option maxHeartbeats 2000000 in
theorem W71 (a0 : Int) (a1 : Int) (a2 : Int) : wtF X71 Try.f71 (a0, a1, a2) = F_71 a0 a1 a2 := by kernel_rfl
theorem OK71 : EntOK RR E71 := fn_done (X := X71) ⟨tyOK, boolOK, eqOK⟩ (ents_of (by exact trivial)) (cf_ok (by kernel_rfl)) ⟨Try.func71, rfl, by kernel_rfl, rfl⟩ (fun x => by exact W71 x.1 x.2.1 x.2.2)

/-- loop.example/g00409/spec.GoodRuns -/
noncomputable def B_12_0 (s0 : (List (Int × Int))) (s1 : Int) (s2 : (List (Int × Int))) (s3 : Int) (s4 : Int) : Option (((List (Int × Int)) × (Int × ((List (Int × Int)) × (Int × Int)))) ⊕ (Unit ⊕ Bool)) :=
  bif decide (s4 < s3) then
    ((getI s2 s4)).bind fun x0 =>
    ((F_71 x0.1 (0 : Int) (255 : Int))).bind fun x1 =>
    bif (!x1) then
      some (Sum.inr (Sum.inr false))
    else
    ((F_71 x0.2 (1 : Int) s1)).bind fun x2 =>
    bif (!x2) then
      some (Sum.inr (Sum.inr false))
    else
    bif decide (s4 > (0 : Int)) then
      ((getI s0 (Go.IntKind.wrap Go.IntKind.i64 (s4 - (1 : Int))))).bind fun x3 =>
      bif (x3.1 == x0.1) then
        some (Sum.inr (Sum.inr false))
      else
      some (Sum.inl (s0, ((Go.IntKind.wrap Go.IntKind.i64 (s1 - x0.2)), (s2, (s3, (Go.IntKind.wrap Go.IntKind.i64 (s4 + (1 : Int))))))))
    else
    some (Sum.inl (s0, ((Go.IntKind.wrap Go.IntKind.i64 (s1 - x0.2)), (s2, (s3, (Go.IntKind.wrap Go.IntKind.i64 (s4 + (1 : Int))))))))
  else
  some (Sum.inr (Sum.inl ()))
noncomputable def F_12 (a0 : (List (Int × Int))) : Option (Bool) :=
  (loopM (fun (s : ((List (Int × Int)) × (Int × ((List (Int × Int)) × (Int × Int))))) => B_12_0 s.1 s.2.1 s.2.2.1 s.2.2.2.1 s.2.2.2.2) (a0, ((100 : Int), (a0, ((((List.length a0) : Nat) : Int), (0 : Int)))))).bind fun x0 =>
  Sum.elim
    (fun x1 =>
    some true)
    (fun x2 =>
    some x2)
    x0
noncomputable def E12 : Ent := ⟨a12, fun x => F_12 x⟩
noncomputable def X12 : TX := ⟨tyTab, codTab, [], [4], [E71], a12⟩
set_option maxHeartbeats 2000000 in
theorem W12 (a0 : List ((Int × Int))) : wtF X12 Try.f12 (a0) = F_12 a0 := by kernel_rfl
theorem OK12 : EntOK RR E12 := fn_done (X := X12) ⟨tyOK, boolOK, eqOK⟩ (ents_of (by exact ⟨⟨OK71, rfl⟩, trivial⟩)) (cf_ok (by kernel_rfl)) ⟨Try.func12, rfl, by kernel_rfl, rfl⟩ (fun x => by exact W12 x)

/-- loop.example/g00409/spec.l15From -/
noncomputable def B_86_1 (s0 : (List Int)) (s1 : (Int × Int)) (s2 : Int) (s3 : (List (Int × Int))) (s4 : Int) (s5 : Int) : Option (((List Int) × ((Int × Int) × (Int × ((List (Int × Int)) × (Int × Int))))) ⊕ ((List Int) × ((List (Int × Int)) × (Int × Int)))) :=
  bif decide (s2 > (0 : Int)) then
    ((appL 8 1 s0 (List.cons s1.1 List.nil))).bind fun x0 =>
    some (Sum.inl (x0, ((s1.1, s1.2), ((Go.IntKind.wrap Go.IntKind.i64 (s2 - (1 : Int))), (s3, (s4, s5))))))
  else
  some (Sum.inr (s0, (s3, (s4, s5))))
noncomputable def B_86_0 (s0 : (List Int)) (s1 : (List (Int × Int))) (s2 : Int) (s3 : Int) : Option (((List Int) × ((List (Int × Int)) × (Int × Int))) ⊕ (List Int)) :=
  bif decide (s3 < s2) then
    ((getI s1 s3)).bind fun x0 =>
    (loopM (fun (s : ((List Int) × ((Int × Int) × (Int × ((List (Int × Int)) × (Int × Int)))))) => B_86_1 s.1 s.2.1 s.2.2.1 s.2.2.2.1 s.2.2.2.2.1 s.2.2.2.2.2) (s0, ((x0.1, x0.2), (x0.2, (s1, (s2, s3)))))).bind fun x1 =>
    some (Sum.inl (x1.1, (x1.2.1, (x1.2.2.1, (Go.IntKind.wrap Go.IntKind.i64 (x1.2.2.2 + (1 : Int)))))))
  else
  some (Sum.inr s0)
noncomputable def F_86 (a0 : (List (Int × Int))) : Option (List (Int)) :=
  (loopM (fun (s : ((List Int) × ((List (Int × Int)) × (Int × Int)))) => B_86_0 s.1 s.2.1 s.2.2.1 s.2.2.2) (List.nil, (a0, ((((List.length a0) : Nat) : Int), (0 : Int))))).bind fun x0 =>
  some x0
noncomputable def E86 : Ent := ⟨a86, fun x => F_86 x⟩
noncomputable def X86 : TX := ⟨tyTab, codTab, [], [4], [], a86⟩
set_option maxHeartbeats 2000000 in
theorem W86 (a0 : List ((Int × Int))) : wtF X86 Try.f86 (a0) = F_86 a0 := by kernel_rfl
theorem OK86 : EntOK RR E86 := fn_done (X := X86) ⟨tyOK, boolOK, eqOK⟩ (ents_of (by exact trivial)) (cf_ok (by kernel_rfl)) ⟨Try.func86, rfl, by kernel_rfl, rfl⟩ (fun x => by exact W86 x)

/-- loop.example/g00409/spec.l15Row -/
noncomputable def B_82_0 (s0 : (List Int)) (s1 : (List Int)) (s2 : Int) (s3 : Int) : Option (((List Int) × ((List Int) × (Int × Int))) ⊕ ((List Int) ⊕ Bool)) :=
  bif decide (s3 < s2) then
    ((getI s1 s3)).bind fun x0 =>
    ((F_71 x0 (0 : Int) (255 : Int))).bind fun x1 =>
    bif (!x1) then
      some (Sum.inr (Sum.inr false))
    else
    some (Sum.inl (s0, (s1, (s2, (Go.IntKind.wrap Go.IntKind.i64 (s3 + (1 : Int)))))))
  else
  some (Sum.inr (Sum.inl s0))
noncomputable def F_82 (a0 : (List Int)) : Option (Bool) :=
  (loopM (fun (s : ((List Int) × ((List Int) × (Int × Int)))) => B_82_0 s.1 s.2.1 s.2.2.1 s.2.2.2) (a0, (a0, ((((List.length a0) : Nat) : Int), (0 : Int))))).bind fun x0 =>
  Sum.elim
    (fun x1 =>
    some (decide ((((List.length x1) : Nat) : Int) ≤ (100 : Int))))
    (fun x2 =>
    some x2)
    x0
noncomputable def E82 : Ent := ⟨a82, fun x => F_82 x⟩
noncomputable def X82 : TX := ⟨tyTab, codTab, [], [4], [E71], a82⟩
set_option maxHeartbeats 2000000 in
theorem W82 (a0 : List (Int)) : wtF X82 Try.f82 (a0) = F_82 a0 := by kernel_rfl
theorem OK82 : EntOK RR E82 := fn_done (X := X82) ⟨tyOK, boolOK, eqOK⟩ (ents_of (by exact ⟨⟨OK71, rfl⟩, trivial⟩)) (cf_ok (by kernel_rfl)) ⟨Try.func82, rfl, by kernel_rfl, rfl⟩ (fun x => by exact W82 x)

/-- loop.example/g00409/spec.l15Runs -/
noncomputable def B_83_0 (s0 : (List (Int × Int))) (s1 : (List Int)) (s2 : Int) (s3 : Int) : Option (((List (Int × Int)) × ((List Int) × (Int × Int))) ⊕ (List (Int × Int))) :=
  bif decide (s3 < s2) then
    ((getI s1 s3)).bind fun x0 =>
    bif decide ((((List.length s0) : Nat) : Int) > (0 : Int)) then
      ((idxI (Go.IntKind.wrap Go.IntKind.i64 ((((List.length s0) : Nat) : Int) - (1 : Int))) (List.length s0))).bind fun x1 =>
      ((getN s0 x1)).bind fun x2 =>
      bif (x2.1 == x0) then
        ((idxI (Go.IntKind.wrap Go.IntKind.i64 ((((List.length s0) : Nat) : Int) - (1 : Int))) (List.length s0))).bind fun x3 =>
        ((getN s0 x3)).bind fun x4 =>
        ((idxI (Go.IntKind.wrap Go.IntKind.i64 ((((List.length s0) : Nat) : Int) - (1 : Int))) (List.length s0))).bind fun x5 =>
        ((getN s0 x5)).bind fun x6 =>
        some (Sum.inl ((List.set s0 x5 (x6.1, (Go.IntKind.wrap Go.IntKind.i64 (x4.2 + (1 : Int))))), (s1, (s2, (Go.IntKind.wrap Go.IntKind.i64 (s3 + (1 : Int)))))))
      else
      ((appL 16 2 s0 (List.cons (x0, (1 : Int)) List.nil))).bind fun x7 =>
      some (Sum.inl (x7, (s1, (s2, (Go.IntKind.wrap Go.IntKind.i64 (s3 + (1 : Int)))))))
    else
    ((appL 16 2 s0 (List.cons (x0, (1 : Int)) List.nil))).bind fun x8 =>
    some (Sum.inl (x8, (s1, (s2, (Go.IntKind.wrap Go.IntKind.i64 (s3 + (1 : Int)))))))
  else
  some (Sum.inr s0)
noncomputable def F_83 (a0 : (List Int)) : Option (List ((Int × Int))) :=
  (loopM (fun (s : ((List (Int × Int)) × ((List Int) × (Int × Int)))) => B_83_0 s.1 s.2.1 s.2.2.1 s.2.2.2) (List.nil, (a0, ((((List.length a0) : Nat) : Int), (0 : Int))))).bind fun x0 =>
  some x0
noncomputable def E83 : Ent := ⟨a83, fun x => F_83 x⟩
noncomputable def X83 : TX := ⟨tyTab, codTab, [], [4], [], a83⟩
set_option maxHeartbeats 2000000 in
theorem W83 (a0 : List (Int)) : wtF X83 Try.f83 (a0) = F_83 a0 := by kernel_rfl
theorem OK83 : EntOK RR E83 := fn_done (X := X83) ⟨tyOK, boolOK, eqOK⟩ (ents_of (by exact trivial)) (cf_ok (by kernel_rfl)) ⟨Try.func83, rfl, by kernel_rfl, rfl⟩ (fun x => by exact W83 x)

/-- loop.example/g00409/spec.RunsOf -/
noncomputable def F_21 (a0 : (List Int)) : Option (List ((Int × Int)) × Bool) :=
  ((F_82 a0)).bind fun x0 =>
  bif (!x0) then
    some (List.nil, false)
  else
  ((F_83 a0)).bind fun x1 =>
  some (x1, true)
noncomputable def E21 : Ent := ⟨a21, fun x => F_21 x⟩
noncomputable def X21 : TX := ⟨tyTab, codTab, [], [4], [E82, E83], a21⟩
set_option maxHeartbeats 2000000 in
theorem W21 (a0 : List (Int)) : wtF X21 Try.f21 (a0) = F_21 a0 := by kernel_rfl
theorem OK21 : EntOK RR E21 := fn_done (X := X21) ⟨tyOK, boolOK, eqOK⟩ (ents_of (by exact ⟨⟨OK82, rfl⟩, ⟨⟨OK83, rfl⟩, trivial⟩⟩)) (cf_ok (by kernel_rfl)) ⟨Try.func21, rfl, by kernel_rfl, rfl⟩ (fun x => by exact W21 x)

/-- loop.example/g00409/spec.JoinRuns -/
noncomputable def F_31 (a0 : (List (Int × Int))) (a1 : (List (Int × Int))) : Option (List ((Int × Int)) × Bool) :=
  ((F_12 a0)).bind fun x0 =>
  bif (!x0) then
    some (List.nil, false)
  else
  ((F_12 a1)).bind fun x1 =>
  bif (!x1) then
    some (List.nil, false)
  else
  ((F_86 a0)).bind fun x2 =>
  ((F_86 a1)).bind fun x3 =>
  ((appL 8 1 x2 x3)).bind fun x4 =>
  ((F_21 x4)).bind fun x5 =>
  some (x5.1, x5.2)
noncomputable def E31 : Ent := ⟨a31, fun x => F_31 x.1 x.2⟩
noncomputable def X31 : TX := ⟨tyTab, codTab, [], [4], [E12, E86, E21], a31⟩
set_option maxHeartbeats 2000000 in
theorem W31 (a0 : List ((Int × Int))) (a1 : List ((Int × Int))) : wtF X31 Try.f31 (a0, a1) = F_31 a0 a1 := by kernel_rfl
theorem OK31 : EntOK RR E31 := fn_done (X := X31) ⟨tyOK, boolOK, eqOK⟩ (ents_of (by exact ⟨⟨OK12, rfl⟩, ⟨⟨OK86, rfl⟩, ⟨⟨OK21, rfl⟩, trivial⟩⟩⟩)) (cf_ok (by kernel_rfl)) ⟨Try.func31, rfl, by kernel_rfl, rfl⟩ (fun x => by exact W31 x.1 x.2)

/-- loop.example/g00409/impl.within -/
noncomputable def F_73 (a0 : Int) (a1 : Int) (a2 : Int) : Option (Bool) :=
  bif decide (a0 ≥ a1) then
    some (decide (a0 ≤ a2))
  else
  some false
noncomputable def E73 : Ent := ⟨a73, fun x => F_73 x.1 x.2.1 x.2.2⟩
noncomputable def X73 : TX := ⟨tyTab, codTab, [], [4], [], a73⟩
set_option maxHeartbeats 2000000 in
theorem W73 (a0 : Int) (a1 : Int) (a2 : Int) : wtF X73 Try.f73 (a0, a1, a2) = F_73 a0 a1 a2 := by kernel_rfl
theorem OK73 : EntOK RR E73 := fn_done (X := X73) ⟨tyOK, boolOK, eqOK⟩ (ents_of (by exact trivial)) (cf_ok (by kernel_rfl)) ⟨Try.func73, rfl, by kernel_rfl, rfl⟩ (fun x => by exact W73 x.1 x.2.1 x.2.2)

/-- loop.example/g00409/impl.GoodRuns -/
noncomputable def B_14_0 (s0 : (List (Int × Int))) (s1 : Int) (s2 : (List (Int × Int))) (s3 : Int) (s4 : Int) : Option (((List (Int × Int)) × (Int × ((List (Int × Int)) × (Int × Int)))) ⊕ (Unit ⊕ Bool)) :=
  bif decide (s4 < s3) then
    ((getI s2 s4)).bind fun x0 =>
    ((F_73 x0.1 (0 : Int) (255 : Int))).bind fun x1 =>
    bif (!x1) then
      some (Sum.inr (Sum.inr false))
    else
    ((F_73 x0.2 (1 : Int) (Go.IntKind.wrap Go.IntKind.i64 ((100 : Int) - s1)))).bind fun x2 =>
    bif (!x2) then
      some (Sum.inr (Sum.inr false))
    else
    bif decide (s4 > (0 : Int)) then
      ((getI s0 (Go.IntKind.wrap Go.IntKind.i64 (s4 - (1 : Int))))).bind fun x3 =>
      bif (x0.1 == x3.1) then
        some (Sum.inr (Sum.inr false))
      else
      some (Sum.inl (s0, ((Go.IntKind.wrap Go.IntKind.i64 (s1 + x0.2)), (s2, (s3, (Go.IntKind.wrap Go.IntKind.i64 (s4 + (1 : Int))))))))
    else
    some (Sum.inl (s0, ((Go.IntKind.wrap Go.IntKind.i64 (s1 + x0.2)), (s2, (s3, (Go.IntKind.wrap Go.IntKind.i64 (s4 + (1 : Int))))))))
  else
  some (Sum.inr (Sum.inl ()))
noncomputable def F_14 (a0 : (List (Int × Int))) : Option (Bool) :=
  (loopM (fun (s : ((List (Int × Int)) × (Int × ((List (Int × Int)) × (Int × Int))))) => B_14_0 s.1 s.2.1 s.2.2.1 s.2.2.2.1 s.2.2.2.2) (a0, ((0 : Int), (a0, ((((List.length a0) : Nat) : Int), (0 : Int)))))).bind fun x0 =>
  Sum.elim
    (fun x1 =>
    some true)
    (fun x2 =>
    some x2)
    x0
noncomputable def E14 : Ent := ⟨a14, fun x => F_14 x⟩
noncomputable def X14 : TX := ⟨tyTab, codTab, [], [4], [E73], a14⟩
set_option maxHeartbeats 2000000 in
theorem W14 (a0 : List ((Int × Int))) : wtF X14 Try.f14 (a0) = F_14 a0 := by kernel_rfl
theorem OK14 : EntOK RR E14 := fn_done (X := X14) ⟨tyOK, boolOK, eqOK⟩ (ents_of (by exact ⟨⟨OK73, rfl⟩, trivial⟩)) (cf_ok (by kernel_rfl)) ⟨Try.func14, rfl, by kernel_rfl, rfl⟩ (fun x => by exact W14 x)

/-- loop.example/g00409/impl.rowOf -/
noncomputable def B_87_1 (s0 : (List Int)) (s1 : (Int × Int)) (s2 : (List (Int × Int))) (s3 : Int) (s4 : Int) (s5 : Int) (s6 : Int) : Option (((List Int) × ((Int × Int) × ((List (Int × Int)) × (Int × (Int × (Int × Int)))))) ⊕ ((List Int) × ((List (Int × Int)) × (Int × Int)))) :=
  bif decide (s6 < s5) then
    ((appL 8 1 s0 (List.cons s1.1 List.nil))).bind fun x0 =>
    some (Sum.inl (x0, ((s1.1, s1.2), (s2, (s3, (s4, (s5, (Go.IntKind.wrap Go.IntKind.i64 (s6 + (1 : Int))))))))))
  else
  some (Sum.inr (s0, (s2, (s3, s4))))
noncomputable def B_87_0 (s0 : (List Int)) (s1 : (List (Int × Int))) (s2 : Int) (s3 : Int) : Option (((List Int) × ((List (Int × Int)) × (Int × Int))) ⊕ (List Int)) :=
  bif decide (s3 < s2) then
    ((getI s1 s3)).bind fun x0 =>
    (loopM (fun (s : ((List Int) × ((Int × Int) × ((List (Int × Int)) × (Int × (Int × (Int × Int))))))) => B_87_1 s.1 s.2.1 s.2.2.1 s.2.2.2.1 s.2.2.2.2.1 s.2.2.2.2.2.1 s.2.2.2.2.2.2) (s0, ((x0.1, x0.2), (s1, (s2, (s3, (x0.2, (0 : Int)))))))).bind fun x1 =>
    some (Sum.inl (x1.1, (x1.2.1, (x1.2.2.1, (Go.IntKind.wrap Go.IntKind.i64 (x1.2.2.2 + (1 : Int)))))))
  else
  some (Sum.inr s0)
noncomputable def F_87 (a0 : (List (Int × Int))) : Option (List (Int)) :=
  (loopM (fun (s : ((List Int) × ((List (Int × Int)) × (Int × Int)))) => B_87_0 s.1 s.2.1 s.2.2.1 s.2.2.2) (List.nil, (a0, ((((List.length a0) : Nat) : Int), (0 : Int))))).bind fun x0 =>
  some x0
noncomputable def E87 : Ent := ⟨a87, fun x => F_87 x⟩
noncomputable def X87 : TX := ⟨tyTab, codTab, [], [4], [], a87⟩
set_option maxHeartbeats 2000000 in
theorem W87 (a0 : List ((Int × Int))) : wtF X87 Try.f87 (a0) = F_87 a0 := by kernel_rfl
theorem OK87 : EntOK RR E87 := fn_done (X := X87) ⟨tyOK, boolOK, eqOK⟩ (ents_of (by exact trivial)) (cf_ok (by kernel_rfl)) ⟨Try.func87, rfl, by kernel_rfl, rfl⟩ (fun x => by exact W87 x)

/-- loop.example/g00409/impl.areBytes$1 -/
noncomputable def F_121 (a0 : Int) : Option (Bool) :=
  ((F_73 a0 (0 : Int) (255 : Int))).bind fun x0 =>
  some (!x0)
noncomputable def E121 : Ent := ⟨a121, fun x => F_121 x⟩
noncomputable def X121 : TX := ⟨tyTab, codTab, [], [4], [E73], a121⟩
set_option maxHeartbeats 2000000 in
theorem W121 (a0 : Int) : wtF X121 Try.f121 (a0) = F_121 a0 := by kernel_rfl
theorem OK121 : EntOK RR E121 := fn_done (X := X121) ⟨tyOK, boolOK, eqOK⟩ (ents_of (by exact ⟨⟨OK73, rfl⟩, trivial⟩)) (cf_ok (by kernel_rfl)) ⟨Try.func121, rfl, by kernel_rfl, rfl⟩ (fun x => by exact W121 x)

/-- slices.IndexFunc[[]int,int] -/
noncomputable def B_132_0 (s0 : (List Int)) (s1 : Int) (s2 : Int) : Option (((List Int) × (Int × Int)) ⊕ (Unit ⊕ Int)) :=
  bif decide (s2 < s1) then
    ((getI s0 s2)).bind fun x0 =>
    ((F_121 x0)).bind fun x1 =>
    bif x1 then
      some (Sum.inr (Sum.inr s2))
    else
    some (Sum.inl (s0, (s1, (Go.IntKind.wrap Go.IntKind.i64 (s2 + (1 : Int))))))
  else
  some (Sum.inr (Sum.inl ()))
noncomputable def F_132 (a0 : (List Int)) : Option (Int) :=
  (loopM (fun (s : ((List Int) × (Int × Int))) => B_132_0 s.1 s.2.1 s.2.2) (a0, ((((List.length a0) : Nat) : Int), (0 : Int)))).bind fun x0 =>
  Sum.elim
    (fun x1 =>
    some (-(1 : Int)))
    (fun x2 =>
    some x2)
    x0
noncomputable def E132 : Ent := ⟨a132, fun x => F_132 x⟩
noncomputable def X132 : TX := ⟨tyTab, codTab, [], [4], [E121], a132⟩
set_option maxHeartbeats 2000000 in
theorem W132 (a0 : List (Int)) : wtF X132 Try.f132 (a0) = F_132 a0 := by kernel_rfl
theorem OK132 : EntOK RR E132 := fn_done (X := X132) ⟨tyOK, boolOK, eqOK⟩ (ents_of (by exact ⟨⟨OK121, rfl⟩, trivial⟩)) (cf_ok (by kernel_rfl)) ⟨Try.func132, rfl, by kernel_rfl, rfl⟩ (fun x => by exact W132 x)

/-- slices.ContainsFunc[[]int,int] -/
noncomputable def F_120 (a0 : (List Int)) : Option (Bool) :=
  ((F_132 a0)).bind fun x0 =>
  some (decide (x0 ≥ (0 : Int)))
noncomputable def E120 : Ent := ⟨a120, fun x => F_120 x⟩
noncomputable def X120 : TX := ⟨tyTab, codTab, [], [4], [E132], a120⟩
set_option maxHeartbeats 2000000 in
theorem W120 (a0 : List (Int)) : wtF X120 Try.f120 (a0) = F_120 a0 := by kernel_rfl
theorem OK120 : EntOK RR E120 := fn_done (X := X120) ⟨tyOK, boolOK, eqOK⟩ (ents_of (by exact ⟨⟨OK132, rfl⟩, trivial⟩)) (cf_ok (by kernel_rfl)) ⟨Try.func120, rfl, by kernel_rfl, rfl⟩ (fun x => by exact W120 x)

/-- loop.example/g00409/impl.areBytes -/
noncomputable def F_84 (a0 : (List Int)) : Option (Bool) :=
  ((F_120 a0)).bind fun x0 =>
  some (!x0)
noncomputable def E84 : Ent := ⟨a84, fun x => F_84 x⟩
noncomputable def X84 : TX := ⟨tyTab, codTab, [], [4], [E120], a84⟩
set_option maxHeartbeats 2000000 in
theorem W84 (a0 : List (Int)) : wtF X84 Try.f84 (a0) = F_84 a0 := by kernel_rfl
theorem OK84 : EntOK RR E84 := fn_done (X := X84) ⟨tyOK, boolOK, eqOK⟩ (ents_of (by exact ⟨⟨OK120, rfl⟩, trivial⟩)) (cf_ok (by kernel_rfl)) ⟨Try.func84, rfl, by kernel_rfl, rfl⟩ (fun x => by exact W84 x)

/-- loop.example/g00409/impl.runsOf -/
noncomputable def B_85_0 (s0 : (List (Int × Int))) (s1 : (List Int)) (s2 : Int) (s3 : Int) : Option (((List (Int × Int)) × ((List Int) × (Int × Int))) ⊕ (List (Int × Int))) :=
  bif decide (s3 < s2) then
    ((getI s1 s3)).bind fun x0 =>
    bif decide ((Go.IntKind.wrap Go.IntKind.i64 ((((List.length s0) : Nat) : Int) - (1 : Int))) ≥ (0 : Int)) then
      ((idxI (Go.IntKind.wrap Go.IntKind.i64 ((((List.length s0) : Nat) : Int) - (1 : Int))) (List.length s0))).bind fun x1 =>
      ((getN s0 x1)).bind fun x2 =>
      bif (x2.1 == x0) then
        ((idxI (Go.IntKind.wrap Go.IntKind.i64 ((((List.length s0) : Nat) : Int) - (1 : Int))) (List.length s0))).bind fun x3 =>
        ((getN s0 x3)).bind fun x4 =>
        ((idxI (Go.IntKind.wrap Go.IntKind.i64 ((((List.length s0) : Nat) : Int) - (1 : Int))) (List.length s0))).bind fun x5 =>
        ((getN s0 x5)).bind fun x6 =>
        some (Sum.inl ((List.set s0 x5 (x6.1, (Go.IntKind.wrap Go.IntKind.i64 (x4.2 + (1 : Int))))), (s1, (s2, (Go.IntKind.wrap Go.IntKind.i64 (s3 + (1 : Int)))))))
      else
      ((appL 16 2 s0 (List.cons (x0, (1 : Int)) List.nil))).bind fun x7 =>
      some (Sum.inl (x7, (s1, (s2, (Go.IntKind.wrap Go.IntKind.i64 (s3 + (1 : Int)))))))
    else
    ((appL 16 2 s0 (List.cons (x0, (1 : Int)) List.nil))).bind fun x8 =>
    some (Sum.inl (x8, (s1, (s2, (Go.IntKind.wrap Go.IntKind.i64 (s3 + (1 : Int)))))))
  else
  some (Sum.inr s0)
noncomputable def F_85 (a0 : (List Int)) : Option (List ((Int × Int))) :=
  (loopM (fun (s : ((List (Int × Int)) × ((List Int) × (Int × Int)))) => B_85_0 s.1 s.2.1 s.2.2.1 s.2.2.2) (List.nil, (a0, ((((List.length a0) : Nat) : Int), (0 : Int))))).bind fun x0 =>
  some x0
noncomputable def E85 : Ent := ⟨a85, fun x => F_85 x⟩
noncomputable def X85 : TX := ⟨tyTab, codTab, [], [4], [], a85⟩
set_option maxHeartbeats 2000000 in
theorem W85 (a0 : List (Int)) : wtF X85 Try.f85 (a0) = F_85 a0 := by kernel_rfl
theorem OK85 : EntOK RR E85 := fn_done (X := X85) ⟨tyOK, boolOK, eqOK⟩ (ents_of (by exact trivial)) (cf_ok (by kernel_rfl)) ⟨Try.func85, rfl, by kernel_rfl, rfl⟩ (fun x => by exact W85 x)

/-- loop.example/g00409/impl.RunsOf -/
noncomputable def F_23 (a0 : (List Int)) : Option (List ((Int × Int)) × Bool) :=
  bif decide ((((List.length a0) : Nat) : Int) > (100 : Int)) then
    some (List.nil, false)
  else
  ((F_84 a0)).bind fun x0 =>
  bif (!x0) then
    some (List.nil, false)
  else
  ((F_85 a0)).bind fun x1 =>
  some (x1, true)
noncomputable def E23 : Ent := ⟨a23, fun x => F_23 x⟩
noncomputable def X23 : TX := ⟨tyTab, codTab, [], [4], [E84, E85], a23⟩
set_option maxHeartbeats 2000000 in
theorem W23 (a0 : List (Int)) : wtF X23 Try.f23 (a0) = F_23 a0 := by kernel_rfl
theorem OK23 : EntOK RR E23 := fn_done (X := X23) ⟨tyOK, boolOK, eqOK⟩ (ents_of (by exact ⟨⟨OK84, rfl⟩, ⟨⟨OK85, rfl⟩, trivial⟩⟩)) (cf_ok (by kernel_rfl)) ⟨Try.func23, rfl, by kernel_rfl, rfl⟩ (fun x => by exact W23 x)

/-- loop.example/g00409/impl.JoinRuns -/
noncomputable def F_32 (a0 : (List (Int × Int))) (a1 : (List (Int × Int))) : Option (List ((Int × Int)) × Bool) :=
  ((F_14 a0)).bind fun x0 =>
  bif (!x0) then
    some (List.nil, false)
  else
  ((F_14 a1)).bind fun x1 =>
  bif (!x1) then
    some (List.nil, false)
  else
  ((F_87 a0)).bind fun x2 =>
  ((F_87 a1)).bind fun x3 =>
  ((appL 8 1 x2 x3)).bind fun x4 =>
  ((F_23 x4)).bind fun x5 =>
  some (x5.1, x5.2)
noncomputable def E32 : Ent := ⟨a32, fun x => F_32 x.1 x.2⟩
noncomputable def X32 : TX := ⟨tyTab, codTab, [], [4], [E14, E87, E23], a32⟩
set_option maxHeartbeats 2000000 in
theorem W32 (a0 : List ((Int × Int))) (a1 : List ((Int × Int))) : wtF X32 Try.f32 (a0, a1) = F_32 a0 a1 := by kernel_rfl
theorem OK32 : EntOK RR E32 := fn_done (X := X32) ⟨tyOK, boolOK, eqOK⟩ (ents_of (by exact ⟨⟨OK14, rfl⟩, ⟨⟨OK87, rfl⟩, ⟨⟨OK23, rfl⟩, trivial⟩⟩⟩)) (cf_ok (by kernel_rfl)) ⟨Try.func32, rfl, by kernel_rfl, rfl⟩ (fun x => by exact W32 x.1 x.2)

/-- loop.example/g00409/laws.eqRun -/
noncomputable def F_74 (a0 : (Int × Int)) (a1 : (Int × Int)) : Option (Bool) :=
  bif (a0.1 != a1.1) then
    some false
  else
  bif (a0.2 != a1.2) then
    some false
  else
  some true
noncomputable def E74 : Ent := ⟨a74, fun x => F_74 x.1 x.2⟩
noncomputable def X74 : TX := ⟨tyTab, codTab, [], [4], [], a74⟩
set_option maxHeartbeats 2000000 in
theorem W74 (a0 : (Int × Int)) (a1 : (Int × Int)) : wtF X74 Try.f74 (a0, a1) = F_74 a0 a1 := by kernel_rfl
theorem OK74 : EntOK RR E74 := fn_done (X := X74) ⟨tyOK, boolOK, eqOK⟩ (ents_of (by exact trivial)) (cf_ok (by kernel_rfl)) ⟨Try.func74, rfl, by kernel_rfl, rfl⟩ (fun x => by exact W74 x.1 x.2)

/-- loop.example/g00409/laws.eqRunS -/
noncomputable def B_15_0 (s0 : (List (Int × Int))) (s1 : (List (Int × Int))) (s2 : Int) : Option (((List (Int × Int)) × ((List (Int × Int)) × Int)) ⊕ (Unit ⊕ Bool)) :=
  bif decide (s2 < (((List.length s0) : Nat) : Int)) then
    ((getI s0 s2)).bind fun x0 =>
    ((getI s1 s2)).bind fun x1 =>
    ((F_74 (x0.1, x0.2) (x1.1, x1.2))).bind fun x2 =>
    bif (!x2) then
      some (Sum.inr (Sum.inr false))
    else
    some (Sum.inl (s0, (s1, (Go.IntKind.wrap Go.IntKind.i64 (s2 + (1 : Int))))))
  else
  some (Sum.inr (Sum.inl ()))
noncomputable def F_15 (a0 : (List (Int × Int))) (a1 : (List (Int × Int))) : Option (Bool) :=
  bif ((((List.length a0) : Nat) : Int) != (((List.length a1) : Nat) : Int)) then
    some false
  else
  (loopM (fun (s : ((List (Int × Int)) × ((List (Int × Int)) × Int))) => B_15_0 s.1 s.2.1 s.2.2) (a0, (a1, (0 : Int)))).bind fun x0 =>
  Sum.elim
    (fun x1 =>
    some true)
    (fun x2 =>
    some x2)
    x0
noncomputable def E15 : Ent := ⟨a15, fun x => F_15 x.1 x.2⟩
noncomputable def X15 : TX := ⟨tyTab, codTab, [], [4], [E74], a15⟩
set_option maxHeartbeats 2000000 in
theorem W15 (a0 : List ((Int × Int))) (a1 : List ((Int × Int))) : wtF X15 Try.f15 (a0, a1) = F_15 a0 a1 := by kernel_rfl
theorem OK15 : EntOK RR E15 := fn_done (X := X15) ⟨tyOK, boolOK, eqOK⟩ (ents_of (by exact ⟨⟨OK74, rfl⟩, trivial⟩)) (cf_ok (by kernel_rfl)) ⟨Try.func15, rfl, by kernel_rfl, rfl⟩ (fun x => by exact W15 x.1 x.2)

/-- loop.example/g00409/laws.markRunS -/
noncomputable def B_26_0 (s0 : (List (Int × Int))) (s1 : Int) (s2 : Int) : Option (((List (Int × Int)) × (Int × Int)) ⊕ ((List (Int × Int)) × Int)) :=
  bif decide (s2 < (((List.length s0) : Nat) : Int)) then
    ((idxI s2 (List.length s0))).bind fun x0 =>
    ((getN s0 x0)).bind fun x1 =>
    ((idxI s2 (List.length (List.set s0 x0 (s1, x1.2))))).bind fun x2 =>
    ((getN (List.set s0 x0 (s1, x1.2)) x2)).bind fun x3 =>
    some (Sum.inl ((List.set (List.set s0 x0 (s1, x1.2)) x2 (x3.1, (Go.IntKind.wrap Go.IntKind.i64 (s1 + (1 : Int))))), ((Go.IntKind.wrap Go.IntKind.i64 ((Go.IntKind.wrap Go.IntKind.i64 (s1 + (1 : Int))) + (1 : Int))), (Go.IntKind.wrap Go.IntKind.i64 (s2 + (1 : Int))))))
  else
  some (Sum.inr (s0, s1))
noncomputable def F_26 (a0 : (List (Int × Int))) (a1 : Int) : Option (List ((Int × Int)) × Int) :=
  (loopM (fun (s : ((List (Int × Int)) × (Int × Int))) => B_26_0 s.1 s.2.1 s.2.2) (a0, (a1, (0 : Int)))).bind fun x0 =>
  some (x0.1, x0.2)
noncomputable def E26 : Ent := ⟨a26, fun x => F_26 x.1 x.2⟩
noncomputable def X26 : TX := ⟨tyTab, codTab, [], [4], [], a26⟩
set_option maxHeartbeats 2000000 in
theorem W26 (a0 : List ((Int × Int))) (a1 : Int) : wtF X26 Try.f26 (a0, a1) = F_26 a0 a1 := by kernel_rfl
theorem OK26 : EntOK RR E26 := fn_done (X := X26) ⟨tyOK, boolOK, eqOK⟩ (ents_of (by exact trivial)) (cf_ok (by kernel_rfl)) ⟨Try.func26, rfl, by kernel_rfl, rfl⟩ (fun x => by exact W26 x.1 x.2)

/-- loop.example/g00409/laws.heldRunS -/
noncomputable def B_27_0 (s0 : (List (Int × Int))) (s1 : Int) (s2 : Int) : Option (((List (Int × Int)) × (Int × Int)) ⊕ (Int ⊕ Int)) :=
  bif decide (s2 < (((List.length s0) : Nat) : Int)) then
    ((getI s0 s2)).bind fun x0 =>
    bif (x0.1 != s1) then
      some (Sum.inr (Sum.inr (-(1 : Int))))
    else
    ((getI s0 s2)).bind fun x1 =>
    bif (x1.2 != (Go.IntKind.wrap Go.IntKind.i64 (s1 + (1 : Int)))) then
      some (Sum.inr (Sum.inr (-(1 : Int))))
    else
    some (Sum.inl (s0, ((Go.IntKind.wrap Go.IntKind.i64 ((Go.IntKind.wrap Go.IntKind.i64 (s1 + (1 : Int))) + (1 : Int))), (Go.IntKind.wrap Go.IntKind.i64 (s2 + (1 : Int))))))
  else
  some (Sum.inr (Sum.inl s1))
noncomputable def F_27 (a0 : (List (Int × Int))) (a1 : Int) : Option (Int) :=
  (loopM (fun (s : ((List (Int × Int)) × (Int × Int))) => B_27_0 s.1 s.2.1 s.2.2) (a0, (a1, (0 : Int)))).bind fun x0 =>
  Sum.elim
    (fun x1 =>
    some x1)
    (fun x2 =>
    some x2)
    x0
noncomputable def E27 : Ent := ⟨a27, fun x => F_27 x.1 x.2⟩
noncomputable def X27 : TX := ⟨tyTab, codTab, [], [4], [], a27⟩
set_option maxHeartbeats 2000000 in
theorem W27 (a0 : List ((Int × Int))) (a1 : Int) : wtF X27 Try.f27 (a0, a1) = F_27 a0 a1 := by kernel_rfl
theorem OK27 : EntOK RR E27 := fn_done (X := X27) ⟨tyOK, boolOK, eqOK⟩ (ents_of (by exact trivial)) (cf_ok (by kernel_rfl)) ⟨Try.func27, rfl, by kernel_rfl, rfl⟩ (fun x => by exact W27 x.1 x.2)

/-- loop.example/g00409/laws.FnExactJoinRuns -/
noncomputable def F_7 (a0 : (List (Int × Int))) (a1 : (List (Int × Int))) : Option (Bool) :=
  ((F_11 a0 (1048576 : Int))).bind fun x0 =>
  bif decide (x0 < (0 : Int)) then
    some true
  else
  ((F_11 a1 x0)).bind fun x1 =>
  bif decide (x1 < (0 : Int)) then
    some true
  else
  ((F_13 a0)).bind fun x2 =>
  ((F_13 a1)).bind fun x3 =>
  ((F_31 x2 x3)).bind fun x4 =>
  ((F_13 a0)).bind fun x5 =>
  ((F_13 a1)).bind fun x6 =>
  ((F_32 x5 x6)).bind fun x7 =>
  ((F_15 x7.1 x4.1)).bind fun x8 =>
  bif (!x8) then
    some false
  else
  bif (!(x7.2 == x4.2)) then
    some false
  else
  ((F_13 a0)).bind fun x9 =>
  ((F_15 x5 x9)).bind fun x10 =>
  bif (!x10) then
    some false
  else
  ((F_13 a1)).bind fun x11 =>
  ((F_15 x6 x11)).bind fun x12 =>
  bif (!x12) then
    some false
  else
  ((F_26 x5 (1 : Int))).bind fun x13 =>
  bif decide ((List.length x13.1) = (List.length x5)) then
    ((F_26 x6 x13.2)).bind fun x14 =>
    bif decide ((List.length x14.1) = (List.length x6)) then
      bif decide (x14.2 < (0 : Int)) then
        some false
      else
      ((F_15 x7.1 x4.1)).bind fun x15 =>
      bif (!x15) then
        some false
      else
      bif (!(x7.2 == x4.2)) then
        some false
      else
      ((F_26 x7.1 (1 : Int))).bind fun x16 =>
      bif decide ((List.length x16.1) = (List.length x7.1)) then
        ((F_27 x16.1 (1 : Int))).bind fun x17 =>
        bif decide (x17 < (0 : Int)) then
          some false
        else
        bif (x17 != x16.2) then
          some false
        else
        ((F_13 a0)).bind fun x18 =>
        ((F_13 a1)).bind fun x19 =>
        ((F_32 x18 x19)).bind fun x20 =>
        ((F_15 x20.1 x4.1)).bind fun x21 =>
        bif (!x21) then
          some false
        else
        bif (!(x20.2 == x4.2)) then
          some false
        else
        ((F_27 x16.1 (1 : Int))).bind fun x22 =>
        bif decide (x22 < (0 : Int)) then
          some false
        else
        bif (x22 != x16.2) then
          some false
        else
        some true
      else
      none
    else
    none
  else
  none
noncomputable def E7 : Ent := ⟨a7, fun x => F_7 x.1 x.2⟩
noncomputable def X7 : TX := ⟨tyTab, codTab, [], [4], [E11, E13, E31, E32, E15, E26, E27], a7⟩
set_option maxHeartbeats 2000000 in
theorem W7 (a0 : List ((Int × Int))) (a1 : List ((Int × Int))) : wtF X7 Try.f7 (a0, a1) = F_7 a0 a1 := by kernel_rfl
theorem OK7 : EntOK RR E7 := fn_done (X := X7) ⟨tyOK, boolOK, eqOK⟩ (ents_of (by exact ⟨⟨OK11, rfl⟩, ⟨⟨OK13, rfl⟩, ⟨⟨OK31, rfl⟩, ⟨⟨OK32, rfl⟩, ⟨⟨OK15, rfl⟩, ⟨⟨OK26, rfl⟩, ⟨⟨OK27, rfl⟩, trivial⟩⟩⟩⟩⟩⟩⟩)) (cf_ok (by kernel_rfl)) ⟨Try.func7, rfl, by kernel_rfl, rfl⟩ (fun x => by exact W7 x.1 x.2)
end Go.Proofs.Ytcmihlhmeonmfaa.Ev
