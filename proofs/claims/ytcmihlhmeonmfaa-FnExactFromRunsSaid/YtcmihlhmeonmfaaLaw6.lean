/- The functions that the law 6 reaches: their types, forms and typed texts (made by wip/gen/mk.py). -/
import Derived.Test.YtcmihlhmeonmfaaEvXh
import Derived.Test.YtcmihlhmeonmfaaProg
import Derived.KernelRfl
namespace Go.Proofs.Ytcmihlhmeonmfaa.Ev
open Go
set_option maxRecDepth 100000
set_option linter.unusedVariables false
def tyD3 : TyD := ⟨1, 8, false, [(.v (.int .i64 0))], none, false, (some .i64), []⟩
def tyD4 : TyD := ⟨1, 1, false, [(.v (.bool false))], none, false, none, []⟩
def tyD22 : TyD := ⟨1, 24, false, [.em], (some 88), false, none, []⟩
def tyD25 : TyD := ⟨1, 24, false, [.em], (some 85), false, none, []⟩
def tyD36 : TyD := ⟨1, 24, false, [.em], (some 3), false, none, []⟩
def tyD85 : TyD := ⟨2, 16, true, [(.v (.int .i64 0)), (.v (.int .i64 0))], none, false, none, [⟨0, 3, 1, false⟩, ⟨1, 3, 1, false⟩]⟩
def tyD88 : TyD := ⟨2, 16, true, [(.v (.int .i64 0)), (.v (.int .i64 0))], none, false, none, [⟨0, 3, 1, false⟩, ⟨1, 3, 1, false⟩]⟩
theorem ty3 : tyOf Try.prog 3 = some tyD3 := by kernel_rfl
theorem ty4 : tyOf Try.prog 4 = some tyD4 := by kernel_rfl
theorem ty22 : tyOf Try.prog 22 = some tyD22 := by kernel_rfl
theorem ty25 : tyOf Try.prog 25 = some tyD25 := by kernel_rfl
theorem ty36 : tyOf Try.prog 36 = some tyD36 := by kernel_rfl
theorem ty85 : tyOf Try.prog 85 = some tyD85 := by kernel_rfl
theorem ty88 : tyOf Try.prog 88 = some tyD88 := by kernel_rfl
def tyTab : List (Nat × TyD) := [(3, tyD3), (4, tyD4), (22, tyD22), (25, tyD25), (36, tyD36), (85, tyD85), (88, tyD88)]
def codTab : List (Nat × Ty) := [(3, .int .i64), (85, .pair (.int .i64) (.int .i64)), (88, .pair (.int .i64) (.int .i64))]
theorem tyOK : ∀ t d, getD tyTab t = some d → tyOf Try.prog t = some d := tab_ok (by unfold tyTab; exact ⟨ty3, ⟨ty4, ⟨ty22, ⟨ty25, ⟨ty36, ⟨ty85, ⟨ty88, trivial⟩⟩⟩⟩⟩⟩⟩)
theorem bool4 : Try.prog.underlying 4 = some .bool := by kernel_rfl
theorem boolOK : ∀ t, ([4] : List Nat).contains t = true → Try.prog.underlying t = some .bool := by
  intro t h
  simp at h
  rcases h with rfl
  all_goals first | exact bool4
theorem eqOK : ∀ t, ([] : List Nat).contains t = true → EqOK Try.prog t := by
  intro t h
  simp at h
def a11 : FAnn := ⟨11, false, [.slot 0 (.cell (.im (.pair (.int .i64) (.int .i64)))), .slot 1 (.cell (.int .i64))], [.slot 0 (.cell (.int .i64))],
  [],
  [],
  []⟩
def a72 : FAnn := ⟨72, false, [.slot 0 (.agg [.int .i64, .int .i64])], [.slot 0 (.agg [.int .i64, .int .i64])],
  [],
  [],
  []⟩
def a13 : FAnn := ⟨13, false, [.slot 0 (.cell (.im (.pair (.int .i64) (.int .i64))))], [.slot 0 (.new (.arr 85 true (.pair (.int .i64) (.int .i64))))],
  [(3, [.slot 0 (.cell (.im (.pair (.int .i64) (.int .i64)))), .slot 3 (.new (.arr 85 true (.pair (.int .i64) (.int .i64)))), .slot 4 (.cell (.int .i64))])],
  [(3, [(.exit 0, [.slot 3 (.new (.arr 85 true (.pair (.int .i64) (.int .i64))))])])],
  []⟩
def a71 : FAnn := ⟨71, false, [.slot 0 (.cell (.int .i64)), .slot 1 (.cell (.int .i64)), .slot 2 (.cell (.int .i64))], [.slot 0 (.cell (.bool))],
  [],
  [],
  []⟩
def a12 : FAnn := ⟨12, false, [.slot 0 (.cell (.im (.pair (.int .i64) (.int .i64))))], [.slot 0 (.cell (.bool))],
  [(3, [.slot 0 (.cell (.im (.pair (.int .i64) (.int .i64)))), .slot 3 (.cell (.int .i64)), .slot 6 (.cell (.im (.pair (.int .i64) (.int .i64)))), .slot 7 (.cell (.int .i64)), .slot 8 (.cell (.int .i64))])],
  [(3, [(.exit 0, []), (.ret, [.slot 2 (.cell (.bool))])])],
  []⟩
def a86 : FAnn := ⟨86, false, [.slot 0 (.cell (.im (.pair (.int .i64) (.int .i64))))], [.slot 0 (.new (.arr 3 true (.int .i64)))],
  [(3, [.slot 3 (.new (.arr 3 true (.int .i64))), .slot 7 (.cell (.im (.pair (.int .i64) (.int .i64)))), .slot 8 (.cell (.int .i64)), .slot 9 (.cell (.int .i64))]), (6, [.slot 3 (.new (.arr 3 true (.int .i64))), .slot 5 (.new (.box 85 [.int .i64, .int .i64])), .slot 6 (.cell (.int .i64)), .slot 7 (.cell (.im (.pair (.int .i64) (.int .i64)))), .slot 8 (.cell (.int .i64)), .slot 9 (.cell (.int .i64))])],
  [(3, [(.exit 0, [.slot 3 (.new (.arr 3 true (.int .i64)))])]), (6, [(.exit 2, [.slot 3 (.new (.arr 3 true (.int .i64))), .slot 7 (.cell (.im (.pair (.int .i64) (.int .i64)))), .slot 8 (.cell (.int .i64)), .slot 9 (.cell (.int .i64))])])],
  []⟩
def a28 : FAnn := ⟨28, false, [.slot 0 (.cell (.im (.pair (.int .i64) (.int .i64))))], [.slot 0 (.new (.arr 3 true (.int .i64))), .slot 1 (.cell (.bool))],
  [],
  [],
  []⟩
def a73 : FAnn := ⟨73, false, [.slot 0 (.cell (.int .i64)), .slot 1 (.cell (.int .i64)), .slot 2 (.cell (.int .i64))], [.slot 0 (.cell (.bool))],
  [],
  [],
  []⟩
def a14 : FAnn := ⟨14, false, [.slot 0 (.cell (.im (.pair (.int .i64) (.int .i64))))], [.slot 0 (.cell (.bool))],
  [(3, [.slot 0 (.cell (.im (.pair (.int .i64) (.int .i64)))), .slot 3 (.cell (.int .i64)), .slot 6 (.cell (.im (.pair (.int .i64) (.int .i64)))), .slot 7 (.cell (.int .i64)), .slot 8 (.cell (.int .i64))])],
  [(3, [(.exit 0, []), (.ret, [.slot 2 (.cell (.bool))])])],
  []⟩
def a87 : FAnn := ⟨87, false, [.slot 0 (.cell (.im (.pair (.int .i64) (.int .i64))))], [.slot 0 (.new (.arr 3 true (.int .i64)))],
  [(3, [.slot 3 (.new (.arr 3 true (.int .i64))), .slot 7 (.cell (.im (.pair (.int .i64) (.int .i64)))), .slot 8 (.cell (.int .i64)), .slot 9 (.cell (.int .i64))]), (6, [.slot 3 (.new (.arr 3 true (.int .i64))), .slot 5 (.new (.box 85 [.int .i64, .int .i64])), .slot 7 (.cell (.im (.pair (.int .i64) (.int .i64)))), .slot 8 (.cell (.int .i64)), .slot 9 (.cell (.int .i64)), .slot 14 (.cell (.int .i64)), .slot 15 (.cell (.int .i64))])],
  [(3, [(.exit 0, [.slot 3 (.new (.arr 3 true (.int .i64)))])]), (6, [(.exit 2, [.slot 3 (.new (.arr 3 true (.int .i64))), .slot 7 (.cell (.im (.pair (.int .i64) (.int .i64)))), .slot 8 (.cell (.int .i64)), .slot 9 (.cell (.int .i64))])])],
  []⟩
def a29 : FAnn := ⟨29, false, [.slot 0 (.cell (.im (.pair (.int .i64) (.int .i64))))], [.slot 0 (.new (.arr 3 true (.int .i64))), .slot 1 (.cell (.bool))],
  [],
  [],
  []⟩
def a24 : FAnn := ⟨24, false, [.slot 0 (.cell (.im (.int .i64))), .slot 1 (.cell (.im (.int .i64)))], [.slot 0 (.cell (.bool))],
  [(4, [.slot 0 (.cell (.im (.int .i64))), .slot 1 (.cell (.im (.int .i64))), .slot 5 (.cell (.int .i64))])],
  [(4, [(.exit 0, []), (.ret, [.slot 4 (.cell (.bool))])])],
  []⟩
def a74 : FAnn := ⟨74, false, [.slot 0 (.agg [.int .i64, .int .i64]), .slot 1 (.agg [.int .i64, .int .i64])], [.slot 0 (.cell (.bool))],
  [],
  [],
  []⟩
def a15 : FAnn := ⟨15, false, [.slot 0 (.cell (.im (.pair (.int .i64) (.int .i64)))), .slot 1 (.cell (.im (.pair (.int .i64) (.int .i64))))], [.slot 0 (.cell (.bool))],
  [(4, [.slot 0 (.cell (.im (.pair (.int .i64) (.int .i64)))), .slot 1 (.cell (.im (.pair (.int .i64) (.int .i64)))), .slot 5 (.cell (.int .i64))])],
  [(4, [(.exit 0, []), (.ret, [.slot 4 (.cell (.bool))])])],
  []⟩
def a26 : FAnn := ⟨26, true, [.slot 0 (.new (.arr 85 true (.pair (.int .i64) (.int .i64)))), .slot 1 (.cell (.int .i64))], [.root (.arr 85 true (.pair (.int .i64) (.int .i64))), .slot 0 (.cell (.int .i64))],
  [(2, [.root (.arr 85 true (.pair (.int .i64) (.int .i64))), .slot 0 (.ref 0 false), .slot 1 (.cell (.int .i64)), .slot 5 (.cell (.int .i64))])],
  [(2, [(.exit 0, [.root (.arr 85 true (.pair (.int .i64) (.int .i64))), .slot 1 (.cell (.int .i64))])])],
  []⟩
def a25 : FAnn := ⟨25, true, [.slot 0 (.new (.arr 3 true (.int .i64))), .slot 1 (.cell (.int .i64))], [.root (.arr 3 true (.int .i64)), .slot 0 (.cell (.int .i64))],
  [(2, [.root (.arr 3 true (.int .i64)), .slot 0 (.ref 0 false), .slot 1 (.cell (.int .i64)), .slot 5 (.cell (.int .i64))])],
  [(2, [(.exit 0, [.root (.arr 3 true (.int .i64)), .slot 1 (.cell (.int .i64))])])],
  []⟩
def a30 : FAnn := ⟨30, false, [.slot 0 (.cell (.im (.int .i64))), .slot 1 (.cell (.int .i64))], [.slot 0 (.cell (.int .i64))],
  [(2, [.slot 0 (.cell (.im (.int .i64))), .slot 1 (.cell (.int .i64)), .slot 5 (.cell (.int .i64))])],
  [(2, [(.exit 0, [.slot 1 (.cell (.int .i64))]), (.ret, [.slot 4 (.cell (.int .i64))])])],
  []⟩
def a6 : FAnn := ⟨6, false, [.slot 0 (.cell (.im (.pair (.int .i64) (.int .i64))))], [.slot 0 (.cell (.bool))],
  [],
  [],
  []⟩
def annTab : List FAnn := [a11, a72, a13, a71, a12, a86, a28, a73, a14, a87, a29, a24, a74, a15, a26, a25, a30, a6]
def cf0 : Cfg := cfOf annTab fun _ => false
def noExt : Rel := fun _ _ _ _ _ => False
abbrev RR : Rel := Runs Try.prog cf0 noExt

/-- loop.example/g00409/laws.szRunS -/
noncomputable def F_11 (a0 : (List (Int × Int))) (a1 : Int) : Option (Int) :=
  bif decide ((Go.IntKind.wrap Go.IntKind.i64 (a1 - (((List.length a0) : Nat) : Int))) < (0 : Int)) then
    some (-(1 : Int))
  else
  some (Go.IntKind.wrap Go.IntKind.i64 (a1 - (((List.length a0) : Nat) : Int)))
noncomputable def E11 : Ent := ⟨a11, fun x => F_11 x.1 x.2⟩
noncomputable def X11 : TX := ⟨tyTab, codTab, [], [4], [], a11⟩
set_option maxHeartbeats 2000000 in
theorem W11 (a0 : List ((Int × Int))) (a1 : Int) : wtF X11 Try.f11 (a0, a1) = F_11 a0 a1 := by kernel_rfl
theorem OK11 : EntOK RR E11 := fn_done (X := X11) ⟨tyOK, boolOK, eqOK⟩ (ents_of (by exact trivial)) (cf_ok (by kernel_rfl)) ⟨Try.func11, rfl, by kernel_rfl, rfl⟩ (fun x => by exact W11 x.1 x.2)

/-- loop.example/g00409/laws.toRun -/
noncomputable def F_72 (a0 : (Int × Int)) : Option ((Int × Int)) :=
  some (a0.1, a0.2)
noncomputable def E72 : Ent := ⟨a72, fun x => F_72 x⟩
noncomputable def X72 : TX := ⟨tyTab, codTab, [], [4], [], a72⟩
set_option maxHeartbeats 2000000 in
theorem W72 (a0 : (Int × Int)) : wtF X72 Try.f72 (a0) = F_72 a0 := by kernel_rfl
theorem OK72 : EntOK RR E72 := fn_done (X := X72) ⟨tyOK, boolOK, eqOK⟩ (ents_of (by exact trivial)) (cf_ok (by kernel_rfl)) ⟨Try.func72, rfl, by kernel_rfl, rfl⟩ (fun x => by exact W72 x)

/-- loop.example/g00409/laws.toRunS -/
noncomputable def B_13_0 (s0 : (List (Int × Int))) (s1 : (List (Int × Int))) (s2 : Int) : Option (((List (Int × Int)) × ((List (Int × Int)) × Int)) ⊕ (List (Int × Int))) :=
  bif decide (s2 < (((List.length s0) : Nat) : Int)) then
    ((getI s0 s2)).bind fun x0 =>
    ((F_72 (x0.1, x0.2))).bind fun x1 =>
    ((idxI s2 (List.length s1))).bind fun x2 =>
    ((getN s1 x2)).bind fun x3 =>
    some (Sum.inl (s0, ((List.set s1 x2 (x1.1, x1.2)), (Go.IntKind.wrap Go.IntKind.i64 (s2 + (1 : Int))))))
  else
  some (Sum.inr s1)
noncomputable def F_13 (a0 : (List (Int × Int))) : Option (List ((Int × Int))) :=
  ((lenI (((List.length a0) : Nat) : Int) 16 2)).bind fun x0 =>
  (loopM (fun (s : ((List (Int × Int)) × ((List (Int × Int)) × Int))) => B_13_0 s.1 s.2.1 s.2.2) (a0, ((List.replicate x0 ((0 : Int), (0 : Int))), (0 : Int)))).bind fun x1 =>
  some x1
noncomputable def E13 : Ent := ⟨a13, fun x => F_13 x⟩
noncomputable def X13 : TX := ⟨tyTab, codTab, [], [4], [E72], a13⟩
set_option maxHeartbeats 2000000 in
theorem W13 (a0 : List ((Int × Int))) : wtF X13 Try.f13 (a0) = F_13 a0 := by kernel_rfl
theorem OK13 : EntOK RR E13 := fn_done (X := X13) ⟨tyOK, boolOK, eqOK⟩ (ents_of (by exact ⟨⟨OK72, rfl⟩, trivial⟩)) (cf_ok (by kernel_rfl)) ⟨Try.func13, rfl, by kernel_rfl, rfl⟩ (fun x => by exact W13 x)

/-- loop.example/g00409/spec.l1In -/
noncomputable def F_71 (a0 : Int) (a1 : Int) (a2 : Int) : Option (Bool) :=
  bif decide (a0 ≥ a1) then
    some (decide (a0 ≤ a2))
  else
  some false
noncomputable def E71 : Ent := ⟨a71, fun x => F_71 x.1 x.2.1 x.2.2⟩
noncomputable def X71 : TX := ⟨tyTab, codTab, [], [4], [], a71⟩
set_option maxHeartbeats 2000000 in
theorem W71 (a0 : Int) (a1 : Int) (a2 : Int) : wtF X71 Try.f71 (a0, a1, a2) = F_71 a0 a1 a2 := by kernel_rfl
theorem OK71 : EntOK RR E71 := fn_done (X := X71) ⟨tyOK, boolOK, eqOK⟩ (ents_of (by exact trivial)) (cf_ok (by kernel_rfl)) ⟨Try.func71, rfl, by kernel_rfl, rfl⟩ (fun x => by exact W71 x.1 x.2.1 x.2.2)

/-- loop.example/g00409/spec.GoodRuns -/
noncomputable def B_12_0 (s0 : (List (Int × Int))) (s1 : Int) (s2 : (List (Int × Int))) (s3 : Int) (s4 : Int) : Option (((List (Int × Int)) × (Int × ((List (Int × Int)) × (Int × Int)))) ⊕ (Unit ⊕ Bool)) :=
  bif decide (s4 < s3) then
    ((getI s2 s4)).bind fun x0 =>
    ((F_71 x0.1 (0 : Int) (255 : Int))).bind fun x1 =>
    bif (!x1) then
      some (Sum.inr (Sum.inr false))
    else
    ((F_71 x0.2 (1 : Int) s1)).bind fun x2 =>
    bif (!x2) then
      some (Sum.inr (Sum.inr false))
    else
    bif decide (s4 > (0 : Int)) then
      ((getI s0 (Go.IntKind.wrap Go.IntKind.i64 (s4 - (1 : Int))))).bind fun x3 =>
      bif (x3.1 == x0.1) then
        some (Sum.inr (Sum.inr false))
      else
      some (Sum.inl (s0, ((Go.IntKind.wrap Go.IntKind.i64 (s1 - x0.2)), (s2, (s3, (Go.IntKind.wrap Go.IntKind.i64 (s4 + (1 : Int))))))))
    else
    some (Sum.inl (s0, ((Go.IntKind.wrap Go.IntKind.i64 (s1 - x0.2)), (s2, (s3, (Go.IntKind.wrap Go.IntKind.i64 (s4 + (1 : Int))))))))
  else
  some (Sum.inr (Sum.inl ()))
noncomputable def F_12 (a0 : (List (Int × Int))) : Option (Bool) :=
  (loopM (fun (s : ((List (Int × Int)) × (Int × ((List (Int × Int)) × (Int × Int))))) => B_12_0 s.1 s.2.1 s.2.2.1 s.2.2.2.1 s.2.2.2.2) (a0, ((100 : Int), (a0, ((((List.length a0) : Nat) : Int), (0 : Int)))))).bind fun x0 =>
  Sum.elim
    (fun x1 =>
    some true)
    (fun x2 =>
    some x2)
    x0
noncomputable def E12 : Ent := ⟨a12, fun x => F_12 x⟩
noncomputable def X12 : TX := ⟨tyTab, codTab, [], [4], [E71], a12⟩
set_option maxHeartbeats 2000000 in
theorem W12 (a0 : List ((Int × Int))) : wtF X12 Try.f12 (a0) = F_12 a0 := by kernel_rfl
theorem OK12 : EntOK RR E12 := fn_done (X := X12) ⟨tyOK, boolOK, eqOK⟩ (ents_of (by exact ⟨⟨OK71, rfl⟩, trivial⟩)) (cf_ok (by kernel_rfl)) ⟨Try.func12, rfl, by kernel_rfl, rfl⟩ (fun x => by exact W12 x)

/-- loop.example/g00409/spec.l15From -/
noncomputable def B_86_1 (s0 : (List Int)) (s1 : (Int × Int)) (s2 : Int) (s3 : (List (Int × Int))) (s4 : Int) (s5 : Int) : Option (((List Int) × ((Int × Int) × (Int × ((List (Int × Int)) × (Int × Int))))) ⊕ ((List Int) × ((List (Int × Int)) × (Int × Int)))) :=
  bif decide (s2 > (0 : Int)) then
    ((appL 8 1 s0 (List.cons s1.1 List.nil))).bind fun x0 =>
    some (Sum.inl (x0, ((s1.1, s1.2), ((Go.IntKind.wrap Go.IntKind.i64 (s2 - (1 : Int))), (s3, (s4, s5))))))
  else
  some (Sum.inr (s0, (s3, (s4, s5))))
noncomputable def B_86_0 (s0 : (List Int)) (s1 : (List (Int × Int))) (s2 : Int) (s3 : Int) : Option (((List Int) × ((List (Int × Int)) × (Int × Int))) ⊕ (List Int)) :=
  bif decide (s3 < s2) then
    ((getI s1 s3)).bind fun x0 =>
    (loopM (fun (s : ((List Int) × ((Int × Int) × (Int × ((List (Int × Int)) × (Int × Int)))))) => B_86_1 s.1 s.2.1 s.2.2.1 s.2.2.2.1 s.2.2.2.2.1 s.2.2.2.2.2) (s0, ((x0.1, x0.2), (x0.2, (s1, (s2, s3)))))).bind fun x1 =>
    some (Sum.inl (x1.1, (x1.2.1, (x1.2.2.1, (Go.IntKind.wrap Go.IntKind.i64 (x1.2.2.2 + (1 : Int)))))))
  else
  some (Sum.inr s0)
noncomputable def F_86 (a0 : (List (Int × Int))) : Option (List (Int)) :=
  (loopM (fun (s : ((List Int) × ((List (Int × Int)) × (Int × Int)))) => B_86_0 s.1 s.2.1 s.2.2.1 s.2.2.2) (List.nil, (a0, ((((List.length a0) : Nat) : Int), (0 : Int))))).bind fun x0 =>
  some x0
noncomputable def E86 : Ent := ⟨a86, fun x => F_86 x⟩
noncomputable def X86 : TX := ⟨tyTab, codTab, [], [4], [], a86⟩
set_option maxHeartbeats 2000000 in
theorem W86 (a0 : List ((Int × Int))) : wtF X86 Try.f86 (a0) = F_86 a0 := by kernel_rfl
theorem OK86 : EntOK RR E86 := fn_done (X := X86) ⟨tyOK, boolOK, eqOK⟩ (ents_of (by exact trivial)) (cf_ok (by kernel_rfl)) ⟨Try.func86, rfl, by kernel_rfl, rfl⟩ (fun x => by exact W86 x)

/-- loop.example/g00409/spec.FromRuns -/
noncomputable def F_28 (a0 : (List (Int × Int))) : Option (List (Int) × Bool) :=
  ((F_12 a0)).bind fun x0 =>
  bif (!x0) then
    some (List.nil, false)
  else
  ((F_86 a0)).bind fun x1 =>
  some (x1, true)
noncomputable def E28 : Ent := ⟨a28, fun x => F_28 x⟩
noncomputable def X28 : TX := ⟨tyTab, codTab, [], [4], [E12, E86], a28⟩
set_option maxHeartbeats 2000000 in
theorem W28 (a0 : List ((Int × Int))) : wtF X28 Try.f28 (a0) = F_28 a0 := by kernel_rfl
theorem OK28 : EntOK RR E28 := fn_done (X := X28) ⟨tyOK, boolOK, eqOK⟩ (ents_of (by exact ⟨⟨OK12, rfl⟩, ⟨⟨OK86, rfl⟩, trivial⟩⟩)) (cf_ok (by kernel_rfl)) ⟨Try.func28, rfl, by kernel_rfl, rfl⟩ (fun x => by exact W28 x)

/-- loop.example/g00409/impl.within -/
noncomputable def F_73 (a0 : Int) (a1 : Int) (a2 : Int) : Option (Bool) :=
  bif decide (a0 ≥ a1) then
    some (decide (a0 ≤ a2))
  else
  some false
noncomputable def E73 : Ent := ⟨a73, fun x => F_73 x.1 x.2.1 x.2.2⟩
noncomputable def X73 : TX := ⟨tyTab, codTab, [], [4], [], a73⟩
set_option maxHeartbeats 2000000 in
theorem W73 (a0 : Int) (a1 : Int) (a2 : Int) : wtF X73 Try.f73 (a0, a1, a2) = F_73 a0 a1 a2 := by kernel_rfl
theorem OK73 : EntOK RR E73 := fn_done (X := X73) ⟨tyOK, boolOK, eqOK⟩ (ents_of (by exact trivial)) (cf_ok (by kernel_rfl)) ⟨Try.func73, rfl, by kernel_rfl, rfl⟩ (fun x => by exact W73 x.1 x.2.1 x.2.2)

/-- loop.example/g00409/impl.GoodRuns -/
noncomputable def B_14_0 (s0 : (List (Int × Int))) (s1 : Int) (s2 : (List (Int × Int))) (s3 : Int) (s4 : Int) : Option (((List (Int × Int)) × (Int × ((List (Int × Int)) × (Int × Int)))) ⊕ (Unit ⊕ Bool)) :=
  bif decide (s4 < s3) then
    ((getI s2 s4)).bind fun x0 =>
    ((F_73 x0.1 (0 : Int) (255 : Int))).bind fun x1 =>
    bif (!x1) then
      some (Sum.inr (Sum.inr false))
    else
    ((F_73 x0.2 (1 : Int) (Go.IntKind.wrap Go.IntKind.i64 ((100 : Int) - s1)))).bind fun x2 =>
    bif (!x2) then
      some (Sum.inr (Sum.inr false))
    else
    bif decide (s4 > (0 : Int)) then
      ((getI s0 (Go.IntKind.wrap Go.IntKind.i64 (s4 - (1 : Int))))).bind fun x3 =>
      bif (x0.1 == x3.1) then
        some (Sum.inr (Sum.inr false))
      else
      some (Sum.inl (s0, ((Go.IntKind.wrap Go.IntKind.i64 (s1 + x0.2)), (s2, (s3, (Go.IntKind.wrap Go.IntKind.i64 (s4 + (1 : Int))))))))
    else
    some (Sum.inl (s0, ((Go.IntKind.wrap Go.IntKind.i64 (s1 + x0.2)), (s2, (s3, (Go.IntKind.wrap Go.IntKind.i64 (s4 + (1 : Int))))))))
  else
  some (Sum.inr (Sum.inl ()))
noncomputable def F_14 (a0 : (List (Int × Int))) : Option (Bool) :=
  (loopM (fun (s : ((List (Int × Int)) × (Int × ((List (Int × Int)) × (Int × Int))))) => B_14_0 s.1 s.2.1 s.2.2.1 s.2.2.2.1 s.2.2.2.2) (a0, ((0 : Int), (a0, ((((List.length a0) : Nat) : Int), (0 : Int)))))).bind fun x0 =>
  Sum.elim
    (fun x1 =>
    some true)
    (fun x2 =>
    some x2)
    x0
noncomputable def E14 : Ent := ⟨a14, fun x => F_14 x⟩
noncomputable def X14 : TX := ⟨tyTab, codTab, [], [4], [E73], a14⟩
set_option maxHeartbeats 2000000 in
theorem W14 (a0 : List ((Int × Int))) : wtF X14 Try.f14 (a0) = F_14 a0 := by kernel_rfl
theorem OK14 : EntOK RR E14 := fn_done (X := X14) ⟨tyOK, boolOK, eqOK⟩ (ents_of (by exact ⟨⟨OK73, rfl⟩, trivial⟩)) (cf_ok (by kernel_rfl)) ⟨Try.func14, rfl, by kernel_rfl, rfl⟩ (fun x => by exact W14 x)

/-- loop.example/g00409/impl.rowOf -/
noncomputable def B_87_1 (s0 : (List Int)) (s1 : (Int × Int)) (s2 : (List (Int × Int))) (s3 : Int) (s4 : Int) (s5 : Int) (s6 : Int) : Option (((List Int) × ((Int × Int) × ((List (Int × Int)) × (Int × (Int × (Int × Int)))))) ⊕ ((List Int) × ((List (Int × Int)) × (Int × Int)))) :=
  bif decide (s6 < s5) then
    ((appL 8 1 s0 (List.cons s1.1 List.nil))).bind fun x0 =>
    some (Sum.inl (x0, ((s1.1, s1.2), (s2, (s3, (s4, (s5, (Go.IntKind.wrap Go.IntKind.i64 (s6 + (1 : Int))))))))))
  else
  some (Sum.inr (s0, (s2, (s3, s4))))
noncomputable def B_87_0 (s0 : (List Int)) (s1 : (List (Int × Int))) (s2 : Int) (s3 : Int) : Option (((List Int) × ((List (Int × Int)) × (Int × Int))) ⊕ (List Int)) :=
  bif decide (s3 < s2) then
    ((getI s1 s3)).bind fun x0 =>
    (loopM (fun (s : ((List Int) × ((Int × Int) × ((List (Int × Int)) × (Int × (Int × (Int × Int))))))) => B_87_1 s.1 s.2.1 s.2.2.1 s.2.2.2.1 s.2.2.2.2.1 s.2.2.2.2.2.1 s.2.2.2.2.2.2) (s0, ((x0.1, x0.2), (s1, (s2, (s3, (x0.2, (0 : Int)))))))).bind fun x1 =>
    some (Sum.inl (x1.1, (x1.2.1, (x1.2.2.1, (Go.IntKind.wrap Go.IntKind.i64 (x1.2.2.2 + (1 : Int)))))))
  else
  some (Sum.inr s0)
noncomputable def F_87 (a0 : (List (Int × Int))) : Option (List (Int)) :=
  (loopM (fun (s : ((List Int) × ((List (Int × Int)) × (Int × Int)))) => B_87_0 s.1 s.2.1 s.2.2.1 s.2.2.2) (List.nil, (a0, ((((List.length a0) : Nat) : Int), (0 : Int))))).bind fun x0 =>
  some x0
noncomputable def E87 : Ent := ⟨a87, fun x => F_87 x⟩
noncomputable def X87 : TX := ⟨tyTab, codTab, [], [4], [], a87⟩
set_option maxHeartbeats 2000000 in
theorem W87 (a0 : List ((Int × Int))) : wtF X87 Try.f87 (a0) = F_87 a0 := by kernel_rfl
theorem OK87 : EntOK RR E87 := fn_done (X := X87) ⟨tyOK, boolOK, eqOK⟩ (ents_of (by exact trivial)) (cf_ok (by kernel_rfl)) ⟨Try.func87, rfl, by kernel_rfl, rfl⟩ (fun x => by exact W87 x)

/-- loop.example/g00409/impl.FromRuns -/
noncomputable def F_29 (a0 : (List (Int × Int))) : Option (List (Int) × Bool) :=
  ((F_14 a0)).bind fun x0 =>
  bif (!x0) then
    some (List.nil, false)
  else
  ((F_87 a0)).bind fun x1 =>
  some (x1, true)
noncomputable def E29 : Ent := ⟨a29, fun x => F_29 x⟩
noncomputable def X29 : TX := ⟨tyTab, codTab, [], [4], [E14, E87], a29⟩
set_option maxHeartbeats 2000000 in
theorem W29 (a0 : List ((Int × Int))) : wtF X29 Try.f29 (a0) = F_29 a0 := by kernel_rfl
theorem OK29 : EntOK RR E29 := fn_done (X := X29) ⟨tyOK, boolOK, eqOK⟩ (ents_of (by exact ⟨⟨OK14, rfl⟩, ⟨⟨OK87, rfl⟩, trivial⟩⟩)) (cf_ok (by kernel_rfl)) ⟨Try.func29, rfl, by kernel_rfl, rfl⟩ (fun x => by exact W29 x)

/-- loop.example/g00409/laws.eqIntS -/
noncomputable def B_24_0 (s0 : (List Int)) (s1 : (List Int)) (s2 : Int) : Option (((List Int) × ((List Int) × Int)) ⊕ (Unit ⊕ Bool)) :=
  bif decide (s2 < (((List.length s0) : Nat) : Int)) then
    ((getI s0 s2)).bind fun x0 =>
    ((getI s1 s2)).bind fun x1 =>
    bif (x0 != x1) then
      some (Sum.inr (Sum.inr false))
    else
    some (Sum.inl (s0, (s1, (Go.IntKind.wrap Go.IntKind.i64 (s2 + (1 : Int))))))
  else
  some (Sum.inr (Sum.inl ()))
noncomputable def F_24 (a0 : (List Int)) (a1 : (List Int)) : Option (Bool) :=
  bif ((((List.length a0) : Nat) : Int) != (((List.length a1) : Nat) : Int)) then
    some false
  else
  (loopM (fun (s : ((List Int) × ((List Int) × Int))) => B_24_0 s.1 s.2.1 s.2.2) (a0, (a1, (0 : Int)))).bind fun x0 =>
  Sum.elim
    (fun x1 =>
    some true)
    (fun x2 =>
    some x2)
    x0
noncomputable def E24 : Ent := ⟨a24, fun x => F_24 x.1 x.2⟩
noncomputable def X24 : TX := ⟨tyTab, codTab, [], [4], [], a24⟩
set_option maxHeartbeats 2000000 in
theorem W24 (a0 : List (Int)) (a1 : List (Int)) : wtF X24 Try.f24 (a0, a1) = F_24 a0 a1 := by kernel_rfl
theorem OK24 : EntOK RR E24 := fn_done (X := X24) ⟨tyOK, boolOK, eqOK⟩ (ents_of (by exact trivial)) (cf_ok (by kernel_rfl)) ⟨Try.func24, rfl, by kernel_rfl, rfl⟩ (fun x => by exact W24 x.1 x.2)

/-- loop.example/g00409/laws.eqRun -/
noncomputable def F_74 (a0 : (Int × Int)) (a1 : (Int × Int)) : Option (Bool) :=
  bif (a0.1 != a1.1) then
    some false
  else
  bif (a0.2 != a1.2) then
    some false
  else
  some true
noncomputable def E74 : Ent := ⟨a74, fun x => F_74 x.1 x.2⟩
noncomputable def X74 : TX := ⟨tyTab, codTab, [], [4], [], a74⟩
set_option maxHeartbeats 2000000 in
theorem W74 (a0 : (Int × Int)) (a1 : (Int × Int)) : wtF X74 Try.f74 (a0, a1) = F_74 a0 a1 := by kernel_rfl
theorem OK74 : EntOK RR E74 := fn_done (X := X74) ⟨tyOK, boolOK, eqOK⟩ (ents_of (by exact trivial)) (cf_ok (by kernel_rfl)) ⟨Try.func74, rfl, by kernel_rfl, rfl⟩ (fun x => by exact W74 x.1 x.2)

/-- loop.example/g00409/laws.eqRunS -/
noncomputable def B_15_0 (s0 : (List (Int × Int))) (s1 : (List (Int × Int))) (s2 : Int) : Option (((List (Int × Int)) × ((List (Int × Int)) × Int)) ⊕ (Unit ⊕ Bool)) :=
  bif decide (s2 < (((List.length s0) : Nat) : Int)) then
    ((getI s0 s2)).bind fun x0 =>
    ((getI s1 s2)).bind fun x1 =>
    ((F_74 (x0.1, x0.2) (x1.1, x1.2))).bind fun x2 =>
    bif (!x2) then
      some (Sum.inr (Sum.inr false))
    else
    some (Sum.inl (s0, (s1, (Go.IntKind.wrap Go.IntKind.i64 (s2 + (1 : Int))))))
  else
  some (Sum.inr (Sum.inl ()))
noncomputable def F_15 (a0 : (List (Int × Int))) (a1 : (List (Int × Int))) : Option (Bool) :=
  bif ((((List.length a0) : Nat) : Int) != (((List.length a1) : Nat) : Int)) then
    some false
  else
  (loopM (fun (s : ((List (Int × Int)) × ((List (Int × Int)) × Int))) => B_15_0 s.1 s.2.1 s.2.2) (a0, (a1, (0 : Int)))).bind fun x0 =>
  Sum.elim
    (fun x1 =>
    some true)
    (fun x2 =>
    some x2)
    x0
noncomputable def E15 : Ent := ⟨a15, fun x => F_15 x.1 x.2⟩
noncomputable def X15 : TX := ⟨tyTab, codTab, [], [4], [E74], a15⟩
set_option maxHeartbeats 2000000 in
theorem W15 (a0 : List ((Int × Int))) (a1 : List ((Int × Int))) : wtF X15 Try.f15 (a0, a1) = F_15 a0 a1 := by kernel_rfl
theorem OK15 : EntOK RR E15 := fn_done (X := X15) ⟨tyOK, boolOK, eqOK⟩ (ents_of (by exact ⟨⟨OK74, rfl⟩, trivial⟩)) (cf_ok (by kernel_rfl)) ⟨Try.func15, rfl, by kernel_rfl, rfl⟩ (fun x => by exact W15 x.1 x.2)

/-- loop.example/g00409/laws.markRunS -/
noncomputable def B_26_0 (s0 : (List (Int × Int))) (s1 : Int) (s2 : Int) : Option (((List (Int × Int)) × (Int × Int)) ⊕ ((List (Int × Int)) × Int)) :=
  bif decide (s2 < (((List.length s0) : Nat) : Int)) then
    ((idxI s2 (List.length s0))).bind fun x0 =>
    ((getN s0 x0)).bind fun x1 =>
    ((idxI s2 (List.length (List.set s0 x0 (s1, x1.2))))).bind fun x2 =>
    ((getN (List.set s0 x0 (s1, x1.2)) x2)).bind fun x3 =>
    some (Sum.inl ((List.set (List.set s0 x0 (s1, x1.2)) x2 (x3.1, (Go.IntKind.wrap Go.IntKind.i64 (s1 + (1 : Int))))), ((Go.IntKind.wrap Go.IntKind.i64 ((Go.IntKind.wrap Go.IntKind.i64 (s1 + (1 : Int))) + (1 : Int))), (Go.IntKind.wrap Go.IntKind.i64 (s2 + (1 : Int))))))
  else
  some (Sum.inr (s0, s1))
noncomputable def F_26 (a0 : (List (Int × Int))) (a1 : Int) : Option (List ((Int × Int)) × Int) :=
  (loopM (fun (s : ((List (Int × Int)) × (Int × Int))) => B_26_0 s.1 s.2.1 s.2.2) (a0, (a1, (0 : Int)))).bind fun x0 =>
  some (x0.1, x0.2)
noncomputable def E26 : Ent := ⟨a26, fun x => F_26 x.1 x.2⟩
noncomputable def X26 : TX := ⟨tyTab, codTab, [], [4], [], a26⟩
set_option maxHeartbeats 2000000 in
theorem W26 (a0 : List ((Int × Int))) (a1 : Int) : wtF X26 Try.f26 (a0, a1) = F_26 a0 a1 := by kernel_rfl
theorem OK26 : EntOK RR E26 := fn_done (X := X26) ⟨tyOK, boolOK, eqOK⟩ (ents_of (by exact trivial)) (cf_ok (by kernel_rfl)) ⟨Try.func26, rfl, by kernel_rfl, rfl⟩ (fun x => by exact W26 x.1 x.2)

/-- loop.example/g00409/laws.markIntS -/
noncomputable def B_25_0 (s0 : (List Int)) (s1 : Int) (s2 : Int) : Option (((List Int) × (Int × Int)) ⊕ ((List Int) × Int)) :=
  bif decide (s2 < (((List.length s0) : Nat) : Int)) then
    ((idxI s2 (List.length s0))).bind fun x0 =>
    ((getN s0 x0)).bind fun x1 =>
    some (Sum.inl ((List.set s0 x0 s1), ((Go.IntKind.wrap Go.IntKind.i64 (s1 + (1 : Int))), (Go.IntKind.wrap Go.IntKind.i64 (s2 + (1 : Int))))))
  else
  some (Sum.inr (s0, s1))
noncomputable def F_25 (a0 : (List Int)) (a1 : Int) : Option (List (Int) × Int) :=
  (loopM (fun (s : ((List Int) × (Int × Int))) => B_25_0 s.1 s.2.1 s.2.2) (a0, (a1, (0 : Int)))).bind fun x0 =>
  some (x0.1, x0.2)
noncomputable def E25 : Ent := ⟨a25, fun x => F_25 x.1 x.2⟩
noncomputable def X25 : TX := ⟨tyTab, codTab, [], [4], [], a25⟩
set_option maxHeartbeats 2000000 in
theorem W25 (a0 : List (Int)) (a1 : Int) : wtF X25 Try.f25 (a0, a1) = F_25 a0 a1 := by kernel_rfl
theorem OK25 : EntOK RR E25 := fn_done (X := X25) ⟨tyOK, boolOK, eqOK⟩ (ents_of (by exact trivial)) (cf_ok (by kernel_rfl)) ⟨Try.func25, rfl, by kernel_rfl, rfl⟩ (fun x => by exact W25 x.1 x.2)

/-- loop.example/g00409/laws.heldIntS -/
noncomputable def B_30_0 (s0 : (List Int)) (s1 : Int) (s2 : Int) : Option (((List Int) × (Int × Int)) ⊕ (Int ⊕ Int)) :=
  bif decide (s2 < (((List.length s0) : Nat) : Int)) then
    ((getI s0 s2)).bind fun x0 =>
    bif (x0 != s1) then
      some (Sum.inr (Sum.inr (-(1 : Int))))
    else
    some (Sum.inl (s0, ((Go.IntKind.wrap Go.IntKind.i64 (s1 + (1 : Int))), (Go.IntKind.wrap Go.IntKind.i64 (s2 + (1 : Int))))))
  else
  some (Sum.inr (Sum.inl s1))
noncomputable def F_30 (a0 : (List Int)) (a1 : Int) : Option (Int) :=
  (loopM (fun (s : ((List Int) × (Int × Int))) => B_30_0 s.1 s.2.1 s.2.2) (a0, (a1, (0 : Int)))).bind fun x0 =>
  Sum.elim
    (fun x1 =>
    some x1)
    (fun x2 =>
    some x2)
    x0
noncomputable def E30 : Ent := ⟨a30, fun x => F_30 x.1 x.2⟩
noncomputable def X30 : TX := ⟨tyTab, codTab, [], [4], [], a30⟩
set_option maxHeartbeats 2000000 in
theorem W30 (a0 : List (Int)) (a1 : Int) : wtF X30 Try.f30 (a0, a1) = F_30 a0 a1 := by kernel_rfl
theorem OK30 : EntOK RR E30 := fn_done (X := X30) ⟨tyOK, boolOK, eqOK⟩ (ents_of (by exact trivial)) (cf_ok (by kernel_rfl)) ⟨Try.func30, rfl, by kernel_rfl, rfl⟩ (fun x => by exact W30 x.1 x.2)

/-- loop.example/g00409/laws.FnExactFromRuns -/
noncomputable def F_6 (a0 : (List (Int × Int))) : Option (Bool) :=
  ((F_11 a0 (1048576 : Int))).bind fun x0 =>
  bif decide (x0 < (0 : Int)) then
    some true
  else
  ((F_13 a0)).bind fun x1 =>
  ((F_28 x1)).bind fun x2 =>
  ((F_13 a0)).bind fun x3 =>
  ((F_29 x3)).bind fun x4 =>
  ((F_24 x4.1 x2.1)).bind fun x5 =>
  bif (!x5) then
    some false
  else
  bif (!(x4.2 == x2.2)) then
    some false
  else
  ((F_13 a0)).bind fun x6 =>
  ((F_15 x3 x6)).bind fun x7 =>
  bif (!x7) then
    some false
  else
  ((F_26 x3 (1 : Int))).bind fun x8 =>
  bif decide ((List.length x8.1) = (List.length x3)) then
    bif decide (x8.2 < (0 : Int)) then
      some false
    else
    ((F_24 x4.1 x2.1)).bind fun x9 =>
    bif (!x9) then
      some false
    else
    bif (!(x4.2 == x2.2)) then
      some false
    else
    ((F_25 x4.1 (1 : Int))).bind fun x10 =>
    bif decide ((List.length x10.1) = (List.length x4.1)) then
      ((F_30 x10.1 (1 : Int))).bind fun x11 =>
      bif decide (x11 < (0 : Int)) then
        some false
      else
      bif (x11 != x10.2) then
        some false
      else
      ((F_13 a0)).bind fun x12 =>
      ((F_29 x12)).bind fun x13 =>
      ((F_24 x13.1 x2.1)).bind fun x14 =>
      bif (!x14) then
        some false
      else
      bif (!(x13.2 == x2.2)) then
        some false
      else
      ((F_30 x10.1 (1 : Int))).bind fun x15 =>
      bif decide (x15 < (0 : Int)) then
        some false
      else
      bif (x15 != x10.2) then
        some false
      else
      some true
    else
    none
  else
  none
noncomputable def E6 : Ent := ⟨a6, fun x => F_6 x⟩
noncomputable def X6 : TX := ⟨tyTab, codTab, [], [4], [E11, E13, E28, E29, E24, E15, E26, E25, E30], a6⟩
set_option maxHeartbeats 2000000 in
theorem W6 (a0 : List ((Int × Int))) : wtF X6 Try.f6 (a0) = F_6 a0 := by kernel_rfl
theorem OK6 : EntOK RR E6 := fn_done (X := X6) ⟨tyOK, boolOK, eqOK⟩ (ents_of (by exact ⟨⟨OK11, rfl⟩, ⟨⟨OK13, rfl⟩, ⟨⟨OK28, rfl⟩, ⟨⟨OK29, rfl⟩, ⟨⟨OK24, rfl⟩, ⟨⟨OK15, rfl⟩, ⟨⟨OK26, rfl⟩, ⟨⟨OK25, rfl⟩, ⟨⟨OK30, rfl⟩, trivial⟩⟩⟩⟩⟩⟩⟩⟩⟩)) (cf_ok (by kernel_rfl)) ⟨Try.func6, rfl, by kernel_rfl, rfl⟩ (fun x => by exact W6 x)
end Go.Proofs.Ytcmihlhmeonmfaa.Ev
