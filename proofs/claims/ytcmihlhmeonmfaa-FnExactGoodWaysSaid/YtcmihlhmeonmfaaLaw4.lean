/- The functions that the law 4 reaches: their types, forms and typed texts (made by wip/gen/mk.py). -/
import Derived.Test.YtcmihlhmeonmfaaEvXh
import Derived.Test.YtcmihlhmeonmfaaProg
import Derived.KernelRfl
namespace Go.Proofs.Ytcmihlhmeonmfaa.Ev
open Go
set_option maxRecDepth 100000
set_option linter.unusedVariables false
def tyD3 : TyD := ⟨1, 8, false, [(.v (.int .i64 0))], none, false, (some .i64), []⟩
def tyD4 : TyD := ⟨1, 1, false, [(.v (.bool false))], none, false, none, []⟩
def tyD29 : TyD := ⟨1, 24, false, [.em], (some 91), false, none, []⟩
def tyD32 : TyD := ⟨1, 24, false, [.em], (some 62), false, none, []⟩
def tyD50 : TyD := ⟨2, 16, true, [(.v (.int .i64 0)), (.v (.int .i64 0))], none, false, none, [⟨0, 3, 1, false⟩, ⟨1, 3, 1, false⟩]⟩
def tyD62 : TyD := ⟨1, 24, false, [.em], (some 50), false, none, []⟩
def tyD91 : TyD := ⟨1, 24, false, [.em], (some 120), false, none, []⟩
def tyD120 : TyD := ⟨2, 16, true, [(.v (.int .i64 0)), (.v (.int .i64 0))], none, false, none, [⟨0, 3, 1, false⟩, ⟨1, 3, 1, false⟩]⟩
theorem ty3 : tyOf Try.prog 3 = some tyD3 := by kernel_rfl
theorem ty4 : tyOf Try.prog 4 = some tyD4 := by kernel_rfl
theorem ty29 : tyOf Try.prog 29 = some tyD29 := by kernel_rfl
theorem ty32 : tyOf Try.prog 32 = some tyD32 := by kernel_rfl
theorem ty50 : tyOf Try.prog 50 = some tyD50 := by kernel_rfl
theorem ty62 : tyOf Try.prog 62 = some tyD62 := by kernel_rfl
theorem ty91 : tyOf Try.prog 91 = some tyD91 := by kernel_rfl
theorem ty120 : tyOf Try.prog 120 = some tyD120 := by kernel_rfl
def tyTab : List (Nat × TyD) := [(3, tyD3), (4, tyD4), (29, tyD29), (32, tyD32), (50, tyD50), (62, tyD62), (91, tyD91), (120, tyD120)]
def codTab : List (Nat × Ty) := [(50, .pair (.int .i64) (.int .i64)), (62, .sl (.pair (.int .i64) (.int .i64))), (91, .sl (.pair (.int .i64) (.int .i64))), (120, .pair (.int .i64) (.int .i64))]
theorem tyOK : ∀ t d, getD tyTab t = some d → tyOf Try.prog t = some d := tab_ok (by unfold tyTab; exact ⟨ty3, ⟨ty4, ⟨ty29, ⟨ty32, ⟨ty50, ⟨ty62, ⟨ty91, ⟨ty120, trivial⟩⟩⟩⟩⟩⟩⟩⟩)
theorem bool4 : Try.prog.underlying 4 = some .bool := by kernel_rfl
theorem boolOK : ∀ t, ([4] : List Nat).contains t = true → Try.prog.underlying t = some .bool := by
  intro t h
  simp at h
  rcases h with rfl
  all_goals first | exact bool4
theorem eqOK : ∀ t, ([] : List Nat).contains t = true → EqOK Try.prog t := by
  intro t h
  simp at h
def a75 : FAnn := ⟨75, false, [.slot 0 (.cell (.im (.pair (.int .i64) (.int .i64)))), .slot 1 (.cell (.int .i64))], [.slot 0 (.cell (.int .i64))],
  [],
  [],
  []⟩
def a16 : FAnn := ⟨16, false, [.slot 0 (.cell (.im (.sl (.pair (.int .i64) (.int .i64))))), .slot 1 (.cell (.int .i64))], [.slot 0 (.cell (.int .i64))],
  [(5, [.slot 0 (.cell (.im (.sl (.pair (.int .i64) (.int .i64))))), .slot 1 (.cell (.int .i64)), .slot 5 (.cell (.int .i64))])],
  [(5, [(.exit 0, [.slot 1 (.cell (.int .i64))]), (.ret, [.slot 4 (.cell (.int .i64))])])],
  []⟩
def a117 : FAnn := ⟨117, false, [.slot 0 (.agg [.int .i64, .int .i64])], [.slot 0 (.agg [.int .i64, .int .i64])],
  [],
  [],
  []⟩
def a77 : FAnn := ⟨77, false, [.slot 0 (.cell (.im (.pair (.int .i64) (.int .i64))))], [.slot 0 (.new (.arr 50 true (.pair (.int .i64) (.int .i64))))],
  [(3, [.slot 0 (.cell (.im (.pair (.int .i64) (.int .i64)))), .slot 3 (.new (.arr 50 true (.pair (.int .i64) (.int .i64)))), .slot 4 (.cell (.int .i64))])],
  [(3, [(.exit 0, [.slot 3 (.new (.arr 50 true (.pair (.int .i64) (.int .i64))))])])],
  []⟩
def a18 : FAnn := ⟨18, false, [.slot 0 (.cell (.im (.sl (.pair (.int .i64) (.int .i64)))))], [.slot 0 (.new (.arr 62 true (.sl (.pair (.int .i64) (.int .i64)))))],
  [(3, [.slot 0 (.cell (.im (.sl (.pair (.int .i64) (.int .i64))))), .slot 3 (.new (.arr 62 true (.sl (.pair (.int .i64) (.int .i64))))), .slot 4 (.cell (.int .i64))])],
  [(3, [(.exit 0, [.slot 3 (.new (.arr 62 true (.sl (.pair (.int .i64) (.int .i64)))))])])],
  []⟩
def a71 : FAnn := ⟨71, false, [.slot 0 (.cell (.int .i64)), .slot 1 (.cell (.int .i64)), .slot 2 (.cell (.int .i64))], [.slot 0 (.cell (.bool))],
  [],
  [],
  []⟩
def a41 : FAnn := ⟨41, false, [.slot 0 (.agg [.int .i64, .int .i64])], [.slot 0 (.cell (.bool))],
  [],
  [],
  []⟩
def a91 : FAnn := ⟨91, false, [.slot 0 (.cell (.im (.pair (.int .i64) (.int .i64))))], [.slot 0 (.cell (.bool))],
  [(2, [.slot 5 (.cell (.im (.pair (.int .i64) (.int .i64)))), .slot 6 (.cell (.int .i64)), .slot 7 (.cell (.int .i64))])],
  [(2, [(.exit 0, []), (.ret, [.slot 2 (.cell (.bool))])])],
  []⟩
def a76 : FAnn := ⟨76, false, [.slot 0 (.cell (.im (.pair (.int .i64) (.int .i64))))], [.slot 0 (.cell (.bool))],
  [],
  [],
  []⟩
def a17 : FAnn := ⟨17, false, [.slot 0 (.cell (.im (.sl (.pair (.int .i64) (.int .i64)))))], [.slot 0 (.cell (.bool))],
  [(2, [.slot 0 (.cell (.im (.sl (.pair (.int .i64) (.int .i64))))), .slot 5 (.cell (.im (.sl (.pair (.int .i64) (.int .i64))))), .slot 6 (.cell (.int .i64)), .slot 7 (.cell (.int .i64))])],
  [(2, [(.exit 0, [.slot 0 (.cell (.im (.sl (.pair (.int .i64) (.int .i64)))))]), (.ret, [.slot 2 (.cell (.bool))])])],
  []⟩
def a73 : FAnn := ⟨73, false, [.slot 0 (.cell (.int .i64)), .slot 1 (.cell (.int .i64)), .slot 2 (.cell (.int .i64))], [.slot 0 (.cell (.bool))],
  [],
  [],
  []⟩
def a40 : FAnn := ⟨40, false, [.slot 0 (.agg [.int .i64, .int .i64])], [.slot 0 (.cell (.bool))],
  [],
  [],
  []⟩
def a123 : FAnn := ⟨123, false, [.slot 0 (.agg [.int .i64, .int .i64])], [.slot 0 (.cell (.bool))],
  [],
  [],
  []⟩
def a133 : FAnn := ⟨133, false, [.slot 0 (.cell (.im (.pair (.int .i64) (.int .i64)))), .slot 1 (.clo 123)], [.slot 0 (.cell (.int .i64))],
  [(2, [.slot 0 (.cell (.im (.pair (.int .i64) (.int .i64)))), .slot 1 (.clo 123), .slot 7 (.cell (.int .i64)), .slot 8 (.cell (.int .i64))])],
  [(2, [(.exit 0, []), (.ret, [.slot 4 (.cell (.int .i64))])])],
  []⟩
def a122 : FAnn := ⟨122, false, [.slot 0 (.cell (.im (.pair (.int .i64) (.int .i64)))), .slot 1 (.clo 123)], [.slot 0 (.cell (.bool))],
  [],
  [],
  []⟩
def a89 : FAnn := ⟨89, false, [.slot 0 (.cell (.im (.pair (.int .i64) (.int .i64))))], [.slot 0 (.cell (.bool))],
  [],
  [],
  []⟩
def a80 : FAnn := ⟨80, false, [.slot 0 (.cell (.im (.pair (.int .i64) (.int .i64))))], [.slot 0 (.cell (.bool))],
  [],
  [],
  []⟩
def a79 : FAnn := ⟨79, false, [.slot 0 (.cell (.im (.pair (.int .i64) (.int .i64))))], [.slot 0 (.cell (.bool))],
  [],
  [],
  []⟩
def a118 : FAnn := ⟨118, false, [.slot 0 (.cell (.im (.sl (.pair (.int .i64) (.int .i64))))), .slot 1 (.clo 79)], [.slot 0 (.cell (.int .i64))],
  [(2, [.slot 0 (.cell (.im (.sl (.pair (.int .i64) (.int .i64))))), .slot 1 (.clo 79), .slot 7 (.cell (.int .i64)), .slot 8 (.cell (.int .i64))])],
  [(2, [(.exit 0, []), (.ret, [.slot 4 (.cell (.int .i64))])])],
  []⟩
def a78 : FAnn := ⟨78, false, [.slot 0 (.cell (.im (.sl (.pair (.int .i64) (.int .i64))))), .slot 1 (.clo 79)], [.slot 0 (.cell (.bool))],
  [],
  [],
  []⟩
def a19 : FAnn := ⟨19, false, [.slot 0 (.cell (.im (.sl (.pair (.int .i64) (.int .i64)))))], [.slot 0 (.cell (.bool))],
  [],
  [],
  []⟩
def a119 : FAnn := ⟨119, false, [.slot 0 (.agg [.int .i64, .int .i64]), .slot 1 (.agg [.int .i64, .int .i64])], [.slot 0 (.cell (.bool))],
  [],
  [],
  []⟩
def a81 : FAnn := ⟨81, false, [.slot 0 (.cell (.im (.pair (.int .i64) (.int .i64)))), .slot 1 (.cell (.im (.pair (.int .i64) (.int .i64))))], [.slot 0 (.cell (.bool))],
  [(4, [.slot 0 (.cell (.im (.pair (.int .i64) (.int .i64)))), .slot 1 (.cell (.im (.pair (.int .i64) (.int .i64)))), .slot 5 (.cell (.int .i64))])],
  [(4, [(.exit 0, []), (.ret, [.slot 4 (.cell (.bool))])])],
  []⟩
def a20 : FAnn := ⟨20, false, [.slot 0 (.cell (.im (.sl (.pair (.int .i64) (.int .i64))))), .slot 1 (.cell (.im (.sl (.pair (.int .i64) (.int .i64)))))], [.slot 0 (.cell (.bool))],
  [(4, [.slot 0 (.cell (.im (.sl (.pair (.int .i64) (.int .i64))))), .slot 1 (.cell (.im (.sl (.pair (.int .i64) (.int .i64))))), .slot 5 (.cell (.int .i64))])],
  [(4, [(.exit 0, []), (.ret, [.slot 4 (.cell (.bool))])])],
  []⟩
def a4 : FAnn := ⟨4, false, [.slot 0 (.cell (.im (.sl (.pair (.int .i64) (.int .i64)))))], [.slot 0 (.cell (.bool))],
  [],
  [],
  []⟩
def annTab : List FAnn := [a75, a16, a117, a77, a18, a71, a41, a91, a76, a17, a73, a40, a123, a133, a122, a89, a80, a79, a118, a78, a19, a119, a81, a20, a4]
def cf0 : Cfg := cfOf annTab fun _ => false
def noExt : Rel := fun _ _ _ _ _ => False
abbrev RR : Rel := Runs Try.prog cf0 noExt

/-- loop.example/g00409/laws.szPtS -/
noncomputable def F_75 (a0 : (List (Int × Int))) (a1 : Int) : Option (Int) :=
  bif decide ((Go.IntKind.wrap Go.IntKind.i64 (a1 - (((List.length a0) : Nat) : Int))) < (0 : Int)) then
    some (-(1 : Int))
  else
  some (Go.IntKind.wrap Go.IntKind.i64 (a1 - (((List.length a0) : Nat) : Int)))
noncomputable def E75 : Ent := ⟨a75, fun x => F_75 x.1 x.2⟩
noncomputable def X75 : TX := ⟨tyTab, codTab, [], [4], [], a75⟩
set_option maxHeartbeats 2000000 in
theorem W75 (a0 : List ((Int × Int))) (a1 : Int) : wtF X75 Try.f75 (a0, a1) = F_75 a0 a1 := by kernel_rfl
theorem OK75 : EntOK RR E75 := fn_done (X := X75) ⟨tyOK, boolOK, eqOK⟩ (ents_of (by exact trivial)) (cf_ok (by kernel_rfl)) ⟨Try.func75, rfl, by kernel_rfl, rfl⟩ (fun x => by exact W75 x.1 x.2)

/-- loop.example/g00409/laws.szPtSS -/
noncomputable def B_16_0 (s0 : (List (List (Int × Int)))) (s1 : Int) (s2 : Int) : Option (((List (List (Int × Int))) × (Int × Int)) ⊕ (Int ⊕ Int)) :=
  bif decide (s2 < (((List.length s0) : Nat) : Int)) then
    ((getI s0 s2)).bind fun x0 =>
    ((F_75 x0 s1)).bind fun x1 =>
    bif decide (x1 < (0 : Int)) then
      some (Sum.inr (Sum.inr (-(1 : Int))))
    else
    some (Sum.inl (s0, (x1, (Go.IntKind.wrap Go.IntKind.i64 (s2 + (1 : Int))))))
  else
  some (Sum.inr (Sum.inl s1))
noncomputable def F_16 (a0 : (List (List (Int × Int)))) (a1 : Int) : Option (Int) :=
  bif decide ((Go.IntKind.wrap Go.IntKind.i64 (a1 - (((List.length a0) : Nat) : Int))) < (0 : Int)) then
    some (-(1 : Int))
  else
  (loopM (fun (s : ((List (List (Int × Int))) × (Int × Int))) => B_16_0 s.1 s.2.1 s.2.2) (a0, ((Go.IntKind.wrap Go.IntKind.i64 (a1 - (((List.length a0) : Nat) : Int))), (0 : Int)))).bind fun x0 =>
  Sum.elim
    (fun x1 =>
    some x1)
    (fun x2 =>
    some x2)
    x0
noncomputable def E16 : Ent := ⟨a16, fun x => F_16 x.1 x.2⟩
noncomputable def X16 : TX := ⟨tyTab, codTab, [], [4], [E75], a16⟩
set_option maxHeartbeats 2000000 in
theorem W16 (a0 : List (List ((Int × Int)))) (a1 : Int) : wtF X16 Try.f16 (a0, a1) = F_16 a0 a1 := by kernel_rfl
theorem OK16 : EntOK RR E16 := fn_done (X := X16) ⟨tyOK, boolOK, eqOK⟩ (ents_of (by exact ⟨⟨OK75, rfl⟩, trivial⟩)) (cf_ok (by kernel_rfl)) ⟨Try.func16, rfl, by kernel_rfl, rfl⟩ (fun x => by exact W16 x.1 x.2)

/-- loop.example/g00409/laws.toPt -/
noncomputable def F_117 (a0 : (Int × Int)) : Option ((Int × Int)) :=
  some (a0.1, a0.2)
noncomputable def E117 : Ent := ⟨a117, fun x => F_117 x⟩
noncomputable def X117 : TX := ⟨tyTab, codTab, [], [4], [], a117⟩
set_option maxHeartbeats 2000000 in
theorem W117 (a0 : (Int × Int)) : wtF X117 Try.f117 (a0) = F_117 a0 := by kernel_rfl
theorem OK117 : EntOK RR E117 := fn_done (X := X117) ⟨tyOK, boolOK, eqOK⟩ (ents_of (by exact trivial)) (cf_ok (by kernel_rfl)) ⟨Try.func117, rfl, by kernel_rfl, rfl⟩ (fun x => by exact W117 x)

/-- loop.example/g00409/laws.toPtS -/
noncomputable def B_77_0 (s0 : (List (Int × Int))) (s1 : (List (Int × Int))) (s2 : Int) : Option (((List (Int × Int)) × ((List (Int × Int)) × Int)) ⊕ (List (Int × Int))) :=
  bif decide (s2 < (((List.length s0) : Nat) : Int)) then
    ((getI s0 s2)).bind fun x0 =>
    ((F_117 (x0.1, x0.2))).bind fun x1 =>
    ((idxI s2 (List.length s1))).bind fun x2 =>
    ((getN s1 x2)).bind fun x3 =>
    some (Sum.inl (s0, ((List.set s1 x2 (x1.1, x1.2)), (Go.IntKind.wrap Go.IntKind.i64 (s2 + (1 : Int))))))
  else
  some (Sum.inr s1)
noncomputable def F_77 (a0 : (List (Int × Int))) : Option (List ((Int × Int))) :=
  ((lenI (((List.length a0) : Nat) : Int) 16 2)).bind fun x0 =>
  (loopM (fun (s : ((List (Int × Int)) × ((List (Int × Int)) × Int))) => B_77_0 s.1 s.2.1 s.2.2) (a0, ((List.replicate x0 ((0 : Int), (0 : Int))), (0 : Int)))).bind fun x1 =>
  some x1
noncomputable def E77 : Ent := ⟨a77, fun x => F_77 x⟩
noncomputable def X77 : TX := ⟨tyTab, codTab, [], [4], [E117], a77⟩
set_option maxHeartbeats 2000000 in
theorem W77 (a0 : List ((Int × Int))) : wtF X77 Try.f77 (a0) = F_77 a0 := by kernel_rfl
theorem OK77 : EntOK RR E77 := fn_done (X := X77) ⟨tyOK, boolOK, eqOK⟩ (ents_of (by exact ⟨⟨OK117, rfl⟩, trivial⟩)) (cf_ok (by kernel_rfl)) ⟨Try.func77, rfl, by kernel_rfl, rfl⟩ (fun x => by exact W77 x)

/-- loop.example/g00409/laws.toPtSS -/
noncomputable def B_18_0 (s0 : (List (List (Int × Int)))) (s1 : (List (List (Int × Int)))) (s2 : Int) : Option (((List (List (Int × Int))) × ((List (List (Int × Int))) × Int)) ⊕ (List (List (Int × Int)))) :=
  bif decide (s2 < (((List.length s0) : Nat) : Int)) then
    ((getI s0 s2)).bind fun x0 =>
    ((F_77 x0)).bind fun x1 =>
    ((idxI s2 (List.length s1))).bind fun x2 =>
    ((getN s1 x2)).bind fun x3 =>
    some (Sum.inl (s0, ((List.set s1 x2 x1), (Go.IntKind.wrap Go.IntKind.i64 (s2 + (1 : Int))))))
  else
  some (Sum.inr s1)
noncomputable def F_18 (a0 : (List (List (Int × Int)))) : Option (List (List ((Int × Int)))) :=
  ((lenI (((List.length a0) : Nat) : Int) 24 1)).bind fun x0 =>
  (loopM (fun (s : ((List (List (Int × Int))) × ((List (List (Int × Int))) × Int))) => B_18_0 s.1 s.2.1 s.2.2) (a0, ((List.replicate x0 List.nil), (0 : Int)))).bind fun x1 =>
  some x1
noncomputable def E18 : Ent := ⟨a18, fun x => F_18 x⟩
noncomputable def X18 : TX := ⟨tyTab, codTab, [], [4], [E77], a18⟩
set_option maxHeartbeats 2000000 in
theorem W18 (a0 : List (List ((Int × Int)))) : wtF X18 Try.f18 (a0) = F_18 a0 := by kernel_rfl
theorem OK18 : EntOK RR E18 := fn_done (X := X18) ⟨tyOK, boolOK, eqOK⟩ (ents_of (by exact ⟨⟨OK77, rfl⟩, trivial⟩)) (cf_ok (by kernel_rfl)) ⟨Try.func18, rfl, by kernel_rfl, rfl⟩ (fun x => by exact W18 x)

/-- loop.example/g00409/spec.l1In -/
noncomputable def F_71 (a0 : Int) (a1 : Int) (a2 : Int) : Option (Bool) :=
  bif decide (a0 ≥ a1) then
    some (decide (a0 ≤ a2))
  else
  some false
noncomputable def E71 : Ent := ⟨a71, fun x => F_71 x.1 x.2.1 x.2.2⟩
noncomputable def X71 : TX := ⟨tyTab, codTab, [], [4], [], a71⟩
set_option maxHeartbeats 2000000 in
theorem W71 (a0 : Int) (a1 : Int) (a2 : Int) : wtF X71 Try.f71 (a0, a1, a2) = F_71 a0 a1 a2 := by kernel_rfl
theorem OK71 : EntOK RR E71 := fn_done (X := X71) ⟨tyOK, boolOK, eqOK⟩ (ents_of (by exact trivial)) (cf_ok (by kernel_rfl)) ⟨Try.func71, rfl, by kernel_rfl, rfl⟩ (fun x => by exact W71 x.1 x.2.1 x.2.2)

/-- loop.example/g00409/spec.GoodPt -/
noncomputable def F_41 (a0 : (Int × Int)) : Option (Bool) :=
  ((F_71 a0.1 (-(1000 : Int)) (1000 : Int))).bind fun x0 =>
  bif x0 then
    ((F_71 a0.2 (-(1000 : Int)) (1000 : Int))).bind fun x1 =>
    some x1
  else
  some false
noncomputable def E41 : Ent := ⟨a41, fun x => F_41 x⟩
noncomputable def X41 : TX := ⟨tyTab, codTab, [], [4], [E71], a41⟩
set_option maxHeartbeats 2000000 in
theorem W41 (a0 : (Int × Int)) : wtF X41 Try.f41 (a0) = F_41 a0 := by kernel_rfl
theorem OK41 : EntOK RR E41 := fn_done (X := X41) ⟨tyOK, boolOK, eqOK⟩ (ents_of (by exact ⟨⟨OK71, rfl⟩, trivial⟩)) (cf_ok (by kernel_rfl)) ⟨Try.func41, rfl, by kernel_rfl, rfl⟩ (fun x => by exact W41 x)

/-- loop.example/g00409/spec.l8Pts -/
noncomputable def B_91_0 (s0 : (List (Int × Int))) (s1 : Int) (s2 : Int) : Option (((List (Int × Int)) × (Int × Int)) ⊕ (Unit ⊕ Bool)) :=
  bif decide (s2 < s1) then
    ((getI s0 s2)).bind fun x0 =>
    ((F_41 (x0.1, x0.2))).bind fun x1 =>
    bif (!x1) then
      some (Sum.inr (Sum.inr false))
    else
    some (Sum.inl (s0, (s1, (Go.IntKind.wrap Go.IntKind.i64 (s2 + (1 : Int))))))
  else
  some (Sum.inr (Sum.inl ()))
noncomputable def F_91 (a0 : (List (Int × Int))) : Option (Bool) :=
  (loopM (fun (s : ((List (Int × Int)) × (Int × Int))) => B_91_0 s.1 s.2.1 s.2.2) (a0, ((((List.length a0) : Nat) : Int), (0 : Int)))).bind fun x0 =>
  Sum.elim
    (fun x1 =>
    some true)
    (fun x2 =>
    some x2)
    x0
noncomputable def E91 : Ent := ⟨a91, fun x => F_91 x⟩
noncomputable def X91 : TX := ⟨tyTab, codTab, [], [4], [E41], a91⟩
set_option maxHeartbeats 2000000 in
theorem W91 (a0 : List ((Int × Int))) : wtF X91 Try.f91 (a0) = F_91 a0 := by kernel_rfl
theorem OK91 : EntOK RR E91 := fn_done (X := X91) ⟨tyOK, boolOK, eqOK⟩ (ents_of (by exact ⟨⟨OK41, rfl⟩, trivial⟩)) (cf_ok (by kernel_rfl)) ⟨Try.func91, rfl, by kernel_rfl, rfl⟩ (fun x => by exact W91 x)

/-- loop.example/g00409/spec.l8Way -/
noncomputable def F_76 (a0 : (List (Int × Int))) : Option (Bool) :=
  ((F_71 (((List.length a0) : Nat) : Int) (3 : Int) (12 : Int))).bind fun x0 =>
  bif x0 then
    ((F_91 a0)).bind fun x1 =>
    some x1
  else
  some false
noncomputable def E76 : Ent := ⟨a76, fun x => F_76 x⟩
noncomputable def X76 : TX := ⟨tyTab, codTab, [], [4], [E71, E91], a76⟩
set_option maxHeartbeats 2000000 in
theorem W76 (a0 : List ((Int × Int))) : wtF X76 Try.f76 (a0) = F_76 a0 := by kernel_rfl
theorem OK76 : EntOK RR E76 := fn_done (X := X76) ⟨tyOK, boolOK, eqOK⟩ (ents_of (by exact ⟨⟨OK71, rfl⟩, ⟨⟨OK91, rfl⟩, trivial⟩⟩)) (cf_ok (by kernel_rfl)) ⟨Try.func76, rfl, by kernel_rfl, rfl⟩ (fun x => by exact W76 x)

/-- loop.example/g00409/spec.GoodWays -/
noncomputable def B_17_0 (s0 : (List (List (Int × Int)))) (s1 : (List (List (Int × Int)))) (s2 : Int) (s3 : Int) : Option (((List (List (Int × Int))) × ((List (List (Int × Int))) × (Int × Int))) ⊕ ((List (List (Int × Int))) ⊕ Bool)) :=
  bif decide (s3 < s2) then
    ((getI s1 s3)).bind fun x0 =>
    ((F_76 x0)).bind fun x1 =>
    bif (!x1) then
      some (Sum.inr (Sum.inr false))
    else
    some (Sum.inl (s0, (s1, (s2, (Go.IntKind.wrap Go.IntKind.i64 (s3 + (1 : Int)))))))
  else
  some (Sum.inr (Sum.inl s0))
noncomputable def F_17 (a0 : (List (List (Int × Int)))) : Option (Bool) :=
  (loopM (fun (s : ((List (List (Int × Int))) × ((List (List (Int × Int))) × (Int × Int)))) => B_17_0 s.1 s.2.1 s.2.2.1 s.2.2.2) (a0, (a0, ((((List.length a0) : Nat) : Int), (0 : Int))))).bind fun x0 =>
  Sum.elim
    (fun x1 =>
    ((F_71 (((List.length x1) : Nat) : Int) (1 : Int) (4 : Int))).bind fun x2 =>
    some x2)
    (fun x3 =>
    some x3)
    x0
noncomputable def E17 : Ent := ⟨a17, fun x => F_17 x⟩
noncomputable def X17 : TX := ⟨tyTab, codTab, [], [4], [E76, E71], a17⟩
set_option maxHeartbeats 2000000 in
theorem W17 (a0 : List (List ((Int × Int)))) : wtF X17 Try.f17 (a0) = F_17 a0 := by kernel_rfl
theorem OK17 : EntOK RR E17 := fn_done (X := X17) ⟨tyOK, boolOK, eqOK⟩ (ents_of (by exact ⟨⟨OK76, rfl⟩, ⟨⟨OK71, rfl⟩, trivial⟩⟩)) (cf_ok (by kernel_rfl)) ⟨Try.func17, rfl, by kernel_rfl, rfl⟩ (fun x => by exact W17 x)

/-- loop.example/g00409/impl.within -/
noncomputable def F_73 (a0 : Int) (a1 : Int) (a2 : Int) : Option (Bool) :=
  bif decide (a0 ≥ a1) then
    some (decide (a0 ≤ a2))
  else
  some false
noncomputable def E73 : Ent := ⟨a73, fun x => F_73 x.1 x.2.1 x.2.2⟩
noncomputable def X73 : TX := ⟨tyTab, codTab, [], [4], [], a73⟩
set_option maxHeartbeats 2000000 in
theorem W73 (a0 : Int) (a1 : Int) (a2 : Int) : wtF X73 Try.f73 (a0, a1, a2) = F_73 a0 a1 a2 := by kernel_rfl
theorem OK73 : EntOK RR E73 := fn_done (X := X73) ⟨tyOK, boolOK, eqOK⟩ (ents_of (by exact trivial)) (cf_ok (by kernel_rfl)) ⟨Try.func73, rfl, by kernel_rfl, rfl⟩ (fun x => by exact W73 x.1 x.2.1 x.2.2)

/-- loop.example/g00409/impl.GoodPt -/
noncomputable def F_40 (a0 : (Int × Int)) : Option (Bool) :=
  ((F_73 a0.1 (-(1000 : Int)) (1000 : Int))).bind fun x0 =>
  bif x0 then
    ((F_73 a0.2 (-(1000 : Int)) (1000 : Int))).bind fun x1 =>
    some x1
  else
  some false
noncomputable def E40 : Ent := ⟨a40, fun x => F_40 x⟩
noncomputable def X40 : TX := ⟨tyTab, codTab, [], [4], [E73], a40⟩
set_option maxHeartbeats 2000000 in
theorem W40 (a0 : (Int × Int)) : wtF X40 Try.f40 (a0) = F_40 a0 := by kernel_rfl
theorem OK40 : EntOK RR E40 := fn_done (X := X40) ⟨tyOK, boolOK, eqOK⟩ (ents_of (by exact ⟨⟨OK73, rfl⟩, trivial⟩)) (cf_ok (by kernel_rfl)) ⟨Try.func40, rfl, by kernel_rfl, rfl⟩ (fun x => by exact W40 x)

/-- loop.example/g00409/impl.arePts$1 -/
noncomputable def F_123 (a0 : (Int × Int)) : Option (Bool) :=
  ((F_40 (a0.1, a0.2))).bind fun x0 =>
  some (!x0)
noncomputable def E123 : Ent := ⟨a123, fun x => F_123 x⟩
noncomputable def X123 : TX := ⟨tyTab, codTab, [], [4], [E40], a123⟩
set_option maxHeartbeats 2000000 in
theorem W123 (a0 : (Int × Int)) : wtF X123 Try.f123 (a0) = F_123 a0 := by kernel_rfl
theorem OK123 : EntOK RR E123 := fn_done (X := X123) ⟨tyOK, boolOK, eqOK⟩ (ents_of (by exact ⟨⟨OK40, rfl⟩, trivial⟩)) (cf_ok (by kernel_rfl)) ⟨Try.func123, rfl, by kernel_rfl, rfl⟩ (fun x => by exact W123 x)

/-- slices.IndexFunc[[]loop.example/g00409/impl.Pt,loop.example/g00409/impl.Pt] -/
noncomputable def B_133_0 (s0 : (List (Int × Int))) (s1 : Int) (s2 : Int) : Option (((List (Int × Int)) × (Int × Int)) ⊕ (Unit ⊕ Int)) :=
  bif decide (s2 < s1) then
    ((getI s0 s2)).bind fun x0 =>
    ((F_123 (x0.1, x0.2))).bind fun x1 =>
    bif x1 then
      some (Sum.inr (Sum.inr s2))
    else
    some (Sum.inl (s0, (s1, (Go.IntKind.wrap Go.IntKind.i64 (s2 + (1 : Int))))))
  else
  some (Sum.inr (Sum.inl ()))
noncomputable def F_133 (a0 : (List (Int × Int))) : Option (Int) :=
  (loopM (fun (s : ((List (Int × Int)) × (Int × Int))) => B_133_0 s.1 s.2.1 s.2.2) (a0, ((((List.length a0) : Nat) : Int), (0 : Int)))).bind fun x0 =>
  Sum.elim
    (fun x1 =>
    some (-(1 : Int)))
    (fun x2 =>
    some x2)
    x0
noncomputable def E133 : Ent := ⟨a133, fun x => F_133 x⟩
noncomputable def X133 : TX := ⟨tyTab, codTab, [], [4], [E123], a133⟩
set_option maxHeartbeats 2000000 in
theorem W133 (a0 : List ((Int × Int))) : wtF X133 Try.f133 (a0) = F_133 a0 := by kernel_rfl
theorem OK133 : EntOK RR E133 := fn_done (X := X133) ⟨tyOK, boolOK, eqOK⟩ (ents_of (by exact ⟨⟨OK123, rfl⟩, trivial⟩)) (cf_ok (by kernel_rfl)) ⟨Try.func133, rfl, by kernel_rfl, rfl⟩ (fun x => by exact W133 x)

/-- slices.ContainsFunc[[]loop.example/g00409/impl.Pt,loop.example/g00409/impl.Pt] -/
noncomputable def F_122 (a0 : (List (Int × Int))) : Option (Bool) :=
  ((F_133 a0)).bind fun x0 =>
  some (decide (x0 ≥ (0 : Int)))
noncomputable def E122 : Ent := ⟨a122, fun x => F_122 x⟩
noncomputable def X122 : TX := ⟨tyTab, codTab, [], [4], [E133], a122⟩
set_option maxHeartbeats 2000000 in
theorem W122 (a0 : List ((Int × Int))) : wtF X122 Try.f122 (a0) = F_122 a0 := by kernel_rfl
theorem OK122 : EntOK RR E122 := fn_done (X := X122) ⟨tyOK, boolOK, eqOK⟩ (ents_of (by exact ⟨⟨OK133, rfl⟩, trivial⟩)) (cf_ok (by kernel_rfl)) ⟨Try.func122, rfl, by kernel_rfl, rfl⟩ (fun x => by exact W122 x)

/-- loop.example/g00409/impl.arePts -/
noncomputable def F_89 (a0 : (List (Int × Int))) : Option (Bool) :=
  ((F_122 a0)).bind fun x0 =>
  some (!x0)
noncomputable def E89 : Ent := ⟨a89, fun x => F_89 x⟩
noncomputable def X89 : TX := ⟨tyTab, codTab, [], [4], [E122], a89⟩
set_option maxHeartbeats 2000000 in
theorem W89 (a0 : List ((Int × Int))) : wtF X89 Try.f89 (a0) = F_89 a0 := by kernel_rfl
theorem OK89 : EntOK RR E89 := fn_done (X := X89) ⟨tyOK, boolOK, eqOK⟩ (ents_of (by exact ⟨⟨OK122, rfl⟩, trivial⟩)) (cf_ok (by kernel_rfl)) ⟨Try.func89, rfl, by kernel_rfl, rfl⟩ (fun x => by exact W89 x)

/-- loop.example/g00409/impl.isWay -/
noncomputable def F_80 (a0 : (List (Int × Int))) : Option (Bool) :=
  ((F_73 (((List.length a0) : Nat) : Int) (3 : Int) (12 : Int))).bind fun x0 =>
  bif x0 then
    ((F_89 a0)).bind fun x1 =>
    some x1
  else
  some false
noncomputable def E80 : Ent := ⟨a80, fun x => F_80 x⟩
noncomputable def X80 : TX := ⟨tyTab, codTab, [], [4], [E73, E89], a80⟩
set_option maxHeartbeats 2000000 in
theorem W80 (a0 : List ((Int × Int))) : wtF X80 Try.f80 (a0) = F_80 a0 := by kernel_rfl
theorem OK80 : EntOK RR E80 := fn_done (X := X80) ⟨tyOK, boolOK, eqOK⟩ (ents_of (by exact ⟨⟨OK73, rfl⟩, ⟨⟨OK89, rfl⟩, trivial⟩⟩)) (cf_ok (by kernel_rfl)) ⟨Try.func80, rfl, by kernel_rfl, rfl⟩ (fun x => by exact W80 x)

/-- loop.example/g00409/impl.GoodWays$1 -/
noncomputable def F_79 (a0 : (List (Int × Int))) : Option (Bool) :=
  ((F_80 a0)).bind fun x0 =>
  some (!x0)
noncomputable def E79 : Ent := ⟨a79, fun x => F_79 x⟩
noncomputable def X79 : TX := ⟨tyTab, codTab, [], [4], [E80], a79⟩
set_option maxHeartbeats 2000000 in
theorem W79 (a0 : List ((Int × Int))) : wtF X79 Try.f79 (a0) = F_79 a0 := by kernel_rfl
theorem OK79 : EntOK RR E79 := fn_done (X := X79) ⟨tyOK, boolOK, eqOK⟩ (ents_of (by exact ⟨⟨OK80, rfl⟩, trivial⟩)) (cf_ok (by kernel_rfl)) ⟨Try.func79, rfl, by kernel_rfl, rfl⟩ (fun x => by exact W79 x)

/-- slices.IndexFunc[[][]loop.example/g00409/impl.Pt,[]loop.example/g00409/impl.Pt] -/
noncomputable def B_118_0 (s0 : (List (List (Int × Int)))) (s1 : Int) (s2 : Int) : Option (((List (List (Int × Int))) × (Int × Int)) ⊕ (Unit ⊕ Int)) :=
  bif decide (s2 < s1) then
    ((getI s0 s2)).bind fun x0 =>
    ((F_79 x0)).bind fun x1 =>
    bif x1 then
      some (Sum.inr (Sum.inr s2))
    else
    some (Sum.inl (s0, (s1, (Go.IntKind.wrap Go.IntKind.i64 (s2 + (1 : Int))))))
  else
  some (Sum.inr (Sum.inl ()))
noncomputable def F_118 (a0 : (List (List (Int × Int)))) : Option (Int) :=
  (loopM (fun (s : ((List (List (Int × Int))) × (Int × Int))) => B_118_0 s.1 s.2.1 s.2.2) (a0, ((((List.length a0) : Nat) : Int), (0 : Int)))).bind fun x0 =>
  Sum.elim
    (fun x1 =>
    some (-(1 : Int)))
    (fun x2 =>
    some x2)
    x0
noncomputable def E118 : Ent := ⟨a118, fun x => F_118 x⟩
noncomputable def X118 : TX := ⟨tyTab, codTab, [], [4], [E79], a118⟩
set_option maxHeartbeats 2000000 in
theorem W118 (a0 : List (List ((Int × Int)))) : wtF X118 Try.f118 (a0) = F_118 a0 := by kernel_rfl
theorem OK118 : EntOK RR E118 := fn_done (X := X118) ⟨tyOK, boolOK, eqOK⟩ (ents_of (by exact ⟨⟨OK79, rfl⟩, trivial⟩)) (cf_ok (by kernel_rfl)) ⟨Try.func118, rfl, by kernel_rfl, rfl⟩ (fun x => by exact W118 x)

/-- slices.ContainsFunc[[][]loop.example/g00409/impl.Pt,[]loop.example/g00409/impl.Pt] -/
noncomputable def F_78 (a0 : (List (List (Int × Int)))) : Option (Bool) :=
  ((F_118 a0)).bind fun x0 =>
  some (decide (x0 ≥ (0 : Int)))
noncomputable def E78 : Ent := ⟨a78, fun x => F_78 x⟩
noncomputable def X78 : TX := ⟨tyTab, codTab, [], [4], [E118], a78⟩
set_option maxHeartbeats 2000000 in
theorem W78 (a0 : List (List ((Int × Int)))) : wtF X78 Try.f78 (a0) = F_78 a0 := by kernel_rfl
theorem OK78 : EntOK RR E78 := fn_done (X := X78) ⟨tyOK, boolOK, eqOK⟩ (ents_of (by exact ⟨⟨OK118, rfl⟩, trivial⟩)) (cf_ok (by kernel_rfl)) ⟨Try.func78, rfl, by kernel_rfl, rfl⟩ (fun x => by exact W78 x)

/-- loop.example/g00409/impl.GoodWays -/
noncomputable def F_19 (a0 : (List (List (Int × Int)))) : Option (Bool) :=
  ((F_73 (((List.length a0) : Nat) : Int) (1 : Int) (4 : Int))).bind fun x0 =>
  bif x0 then
    ((F_78 a0)).bind fun x1 =>
    some (!x1)
  else
  some false
noncomputable def E19 : Ent := ⟨a19, fun x => F_19 x⟩
noncomputable def X19 : TX := ⟨tyTab, codTab, [], [4], [E73, E78], a19⟩
set_option maxHeartbeats 2000000 in
theorem W19 (a0 : List (List ((Int × Int)))) : wtF X19 Try.f19 (a0) = F_19 a0 := by kernel_rfl
theorem OK19 : EntOK RR E19 := fn_done (X := X19) ⟨tyOK, boolOK, eqOK⟩ (ents_of (by exact ⟨⟨OK73, rfl⟩, ⟨⟨OK78, rfl⟩, trivial⟩⟩)) (cf_ok (by kernel_rfl)) ⟨Try.func19, rfl, by kernel_rfl, rfl⟩ (fun x => by exact W19 x)

/-- loop.example/g00409/laws.eqPt -/
noncomputable def F_119 (a0 : (Int × Int)) (a1 : (Int × Int)) : Option (Bool) :=
  bif (a0.1 != a1.1) then
    some false
  else
  bif (a0.2 != a1.2) then
    some false
  else
  some true
noncomputable def E119 : Ent := ⟨a119, fun x => F_119 x.1 x.2⟩
noncomputable def X119 : TX := ⟨tyTab, codTab, [], [4], [], a119⟩
set_option maxHeartbeats 2000000 in
theorem W119 (a0 : (Int × Int)) (a1 : (Int × Int)) : wtF X119 Try.f119 (a0, a1) = F_119 a0 a1 := by kernel_rfl
theorem OK119 : EntOK RR E119 := fn_done (X := X119) ⟨tyOK, boolOK, eqOK⟩ (ents_of (by exact trivial)) (cf_ok (by kernel_rfl)) ⟨Try.func119, rfl, by kernel_rfl, rfl⟩ (fun x => by exact W119 x.1 x.2)

/-- loop.example/g00409/laws.eqPtS -/
noncomputable def B_81_0 (s0 : (List (Int × Int))) (s1 : (List (Int × Int))) (s2 : Int) : Option (((List (Int × Int)) × ((List (Int × Int)) × Int)) ⊕ (Unit ⊕ Bool)) :=
  bif decide (s2 < (((List.length s0) : Nat) : Int)) then
    ((getI s0 s2)).bind fun x0 =>
    ((getI s1 s2)).bind fun x1 =>
    ((F_119 (x0.1, x0.2) (x1.1, x1.2))).bind fun x2 =>
    bif (!x2) then
      some (Sum.inr (Sum.inr false))
    else
    some (Sum.inl (s0, (s1, (Go.IntKind.wrap Go.IntKind.i64 (s2 + (1 : Int))))))
  else
  some (Sum.inr (Sum.inl ()))
noncomputable def F_81 (a0 : (List (Int × Int))) (a1 : (List (Int × Int))) : Option (Bool) :=
  bif ((((List.length a0) : Nat) : Int) != (((List.length a1) : Nat) : Int)) then
    some false
  else
  (loopM (fun (s : ((List (Int × Int)) × ((List (Int × Int)) × Int))) => B_81_0 s.1 s.2.1 s.2.2) (a0, (a1, (0 : Int)))).bind fun x0 =>
  Sum.elim
    (fun x1 =>
    some true)
    (fun x2 =>
    some x2)
    x0
noncomputable def E81 : Ent := ⟨a81, fun x => F_81 x.1 x.2⟩
noncomputable def X81 : TX := ⟨tyTab, codTab, [], [4], [E119], a81⟩
set_option maxHeartbeats 2000000 in
theorem W81 (a0 : List ((Int × Int))) (a1 : List ((Int × Int))) : wtF X81 Try.f81 (a0, a1) = F_81 a0 a1 := by kernel_rfl
theorem OK81 : EntOK RR E81 := fn_done (X := X81) ⟨tyOK, boolOK, eqOK⟩ (ents_of (by exact ⟨⟨OK119, rfl⟩, trivial⟩)) (cf_ok (by kernel_rfl)) ⟨Try.func81, rfl, by kernel_rfl, rfl⟩ (fun x => by exact W81 x.1 x.2)

/-- loop.example/g00409/laws.eqPtSS -/
noncomputable def B_20_0 (s0 : (List (List (Int × Int)))) (s1 : (List (List (Int × Int)))) (s2 : Int) : Option (((List (List (Int × Int))) × ((List (List (Int × Int))) × Int)) ⊕ (Unit ⊕ Bool)) :=
  bif decide (s2 < (((List.length s0) : Nat) : Int)) then
    ((getI s0 s2)).bind fun x0 =>
    ((getI s1 s2)).bind fun x1 =>
    ((F_81 x0 x1)).bind fun x2 =>
    bif (!x2) then
      some (Sum.inr (Sum.inr false))
    else
    some (Sum.inl (s0, (s1, (Go.IntKind.wrap Go.IntKind.i64 (s2 + (1 : Int))))))
  else
  some (Sum.inr (Sum.inl ()))
noncomputable def F_20 (a0 : (List (List (Int × Int)))) (a1 : (List (List (Int × Int)))) : Option (Bool) :=
  bif ((((List.length a0) : Nat) : Int) != (((List.length a1) : Nat) : Int)) then
    some false
  else
  (loopM (fun (s : ((List (List (Int × Int))) × ((List (List (Int × Int))) × Int))) => B_20_0 s.1 s.2.1 s.2.2) (a0, (a1, (0 : Int)))).bind fun x0 =>
  Sum.elim
    (fun x1 =>
    some true)
    (fun x2 =>
    some x2)
    x0
noncomputable def E20 : Ent := ⟨a20, fun x => F_20 x.1 x.2⟩
noncomputable def X20 : TX := ⟨tyTab, codTab, [], [4], [E81], a20⟩
set_option maxHeartbeats 2000000 in
theorem W20 (a0 : List (List ((Int × Int)))) (a1 : List (List ((Int × Int)))) : wtF X20 Try.f20 (a0, a1) = F_20 a0 a1 := by kernel_rfl
theorem OK20 : EntOK RR E20 := fn_done (X := X20) ⟨tyOK, boolOK, eqOK⟩ (ents_of (by exact ⟨⟨OK81, rfl⟩, trivial⟩)) (cf_ok (by kernel_rfl)) ⟨Try.func20, rfl, by kernel_rfl, rfl⟩ (fun x => by exact W20 x.1 x.2)

/-- loop.example/g00409/laws.FnExactGoodWays -/
noncomputable def F_4 (a0 : (List (List (Int × Int)))) : Option (Bool) :=
  ((F_16 a0 (1048576 : Int))).bind fun x0 =>
  bif decide (x0 < (0 : Int)) then
    some true
  else
  ((F_18 a0)).bind fun x1 =>
  ((F_17 x1)).bind fun x2 =>
  ((F_18 a0)).bind fun x3 =>
  ((F_19 x3)).bind fun x4 =>
  bif (!(x4 == x2)) then
    some false
  else
  ((F_18 a0)).bind fun x5 =>
  ((F_20 x3 x5)).bind fun x6 =>
  bif (!x6) then
    some false
  else
  some true
noncomputable def E4 : Ent := ⟨a4, fun x => F_4 x⟩
noncomputable def X4 : TX := ⟨tyTab, codTab, [], [4], [E16, E18, E17, E19, E20], a4⟩
set_option maxHeartbeats 2000000 in
theorem W4 (a0 : List (List ((Int × Int)))) : wtF X4 Try.f4 (a0) = F_4 a0 := by kernel_rfl
theorem OK4 : EntOK RR E4 := fn_done (X := X4) ⟨tyOK, boolOK, eqOK⟩ (ents_of (by exact ⟨⟨OK16, rfl⟩, ⟨⟨OK18, rfl⟩, ⟨⟨OK17, rfl⟩, ⟨⟨OK19, rfl⟩, ⟨⟨OK20, rfl⟩, trivial⟩⟩⟩⟩⟩)) (cf_ok (by kernel_rfl)) ⟨Try.func4, rfl, by kernel_rfl, rfl⟩ (fun x => by exact W4 x)
end Go.Proofs.Ytcmihlhmeonmfaa.Ev
