/- What the theorem of this claim leans on, part 5. -/
import Derived.Test.YtgfchmagglhohaaGreatKD
import Derived.Test.YtgfchmagglhohaaGreatProg
import Derived.KernelRfl
section
namespace Go.Proofs.YtgfchmagglhohaaGreat.Ev
open Go
set_option maxRecDepth 100000
set_option linter.unusedVariables false
noncomputable def Ds (a0 : (List Int)) (a1 : (List Int)) : Option (Bool) :=
  bif decide ((Go.IntKind.wrap Go.IntKind.i64 ((((List.length a0) : Nat) : Int) + (((List.length a1) : Nat) : Int))) > (1048576 : Int)) then
    some true
  else
  ((BH a0)).bind fun x0 =>
  ((AR (x0.1.1, (x0.1.2.1, (x0.1.2.2.1, (x0.1.2.2.2.1, (x0.1.2.2.2.2.1, (x0.1.2.2.2.2.2.1, (x0.1.2.2.2.2.2.2.1, x0.1.2.2.2.2.2.2.2))))))) x0.2)).bind fun x1 =>
  ((Bz (x0.1.1, (x0.1.2.1, (x0.1.2.2.1, (x0.1.2.2.2.1, (x0.1.2.2.2.2.1, (x0.1.2.2.2.2.2.1, (x0.1.2.2.2.2.2.2.1, x0.1.2.2.2.2.2.2.2))))))) x0.2)).bind fun x2 =>
  bif (!(x1.2 == x2.2)) then
    some false
  else
  ((Ar (x1.1.1, (x1.1.2.1, (x1.1.2.2.1, (x1.1.2.2.2.1, (x1.1.2.2.2.2.1, (x1.1.2.2.2.2.2.1, (x1.1.2.2.2.2.2.2.1, x1.1.2.2.2.2.2.2.2))))))) (x2.1.1, (x2.1.2.1, (x2.1.2.2.1, (x2.1.2.2.2.1, (x2.1.2.2.2.2.1, (x2.1.2.2.2.2.2.1, (x2.1.2.2.2.2.2.2.1, x2.1.2.2.2.2.2.2.2))))))))).bind fun x3 =>
  bif (!x3) then
    some false
  else
  (bif x1.2 then
      ((AR (x1.1.1, (x1.1.2.1, (x1.1.2.2.1, (x1.1.2.2.2.1, (x1.1.2.2.2.2.1, (x1.1.2.2.2.2.2.1, (x1.1.2.2.2.2.2.2.1, x1.1.2.2.2.2.2.2.2))))))) x0.2)).bind fun x4 =>
      ((AY (x1.1.1, (x1.1.2.1, (x1.1.2.2.1, (x1.1.2.2.2.1, (x1.1.2.2.2.2.1, (x1.1.2.2.2.2.2.1, (x1.1.2.2.2.2.2.2.1, x1.1.2.2.2.2.2.2.2))))))) (x0.1.1, (x0.1.2.1, (x0.1.2.2.1, x0.1.2.2.2.1))))).bind fun x5 =>
      bif (!x5) then
        some (Sum.inl false)
      else
      ((AY (x1.1.1, (x1.1.2.1, (x1.1.2.2.1, (x1.1.2.2.2.1, (x1.1.2.2.2.2.1, (x1.1.2.2.2.2.2.1, (x1.1.2.2.2.2.2.2.1, x1.1.2.2.2.2.2.2.2))))))) (x0.1.2.2.2.2.1, (x0.1.2.2.2.2.2.1, (x0.1.2.2.2.2.2.2.1, x0.1.2.2.2.2.2.2.2))))).bind fun x6 =>
      bif (!x6) then
        some (Sum.inl false)
      else
      bif (!x4.2) then
        some (Sum.inl false)
      else
      ((Ar (x4.1.1, (x4.1.2.1, (x4.1.2.2.1, (x4.1.2.2.2.1, (x4.1.2.2.2.2.1, (x4.1.2.2.2.2.2.1, (x4.1.2.2.2.2.2.2.1, x4.1.2.2.2.2.2.2.2))))))) (x1.1.1, (x1.1.2.1, (x1.1.2.2.1, (x1.1.2.2.2.1, (x1.1.2.2.2.2.1, (x1.1.2.2.2.2.2.1, (x1.1.2.2.2.2.2.2.1, x1.1.2.2.2.2.2.2.2))))))))).bind fun x7 =>
      bif (!x7) then
        some (Sum.inl false)
      else
      some (Sum.inr a1)
    else
    some (Sum.inr a1)).bind fun x8 =>
  Sum.elim
    (fun x9 =>
    some x9)
    (fun x10 =>
    ((BG x10)).bind fun x11 =>
    ((BA (x11.1.1, (x11.1.2.1, (x11.1.2.2.1, x11.1.2.2.2))) x11.2)).bind fun x12 =>
    ((Bw (x11.1.1, (x11.1.2.1, (x11.1.2.2.1, x11.1.2.2.2))) x11.2)).bind fun x13 =>
    bif (!(x12.2 == x13.2)) then
      some false
    else
    ((Ar (x12.1.1, (x12.1.2.1, (x12.1.2.2.1, (x12.1.2.2.2.1, (x12.1.2.2.2.2.1, (x12.1.2.2.2.2.2.1, (x12.1.2.2.2.2.2.2.1, x12.1.2.2.2.2.2.2.2))))))) (x13.1.1, (x13.1.2.1, (x13.1.2.2.1, (x13.1.2.2.2.1, (x13.1.2.2.2.2.1, (x13.1.2.2.2.2.2.1, (x13.1.2.2.2.2.2.2.1, x13.1.2.2.2.2.2.2.2))))))))).bind fun x14 =>
    bif (!x14) then
      some false
    else
    (bif x12.2 then
        ((BK (x12.1.1, (x12.1.2.1, (x12.1.2.2.1, (x12.1.2.2.2.1, (x12.1.2.2.2.2.1, (x12.1.2.2.2.2.2.1, (x12.1.2.2.2.2.2.2.1, x12.1.2.2.2.2.2.2.2))))))))).bind fun x15 =>
        ((CQ (x12.1.1, (x12.1.2.1, (x12.1.2.2.1, (x12.1.2.2.2.1, (x12.1.2.2.2.2.1, (x12.1.2.2.2.2.2.1, (x12.1.2.2.2.2.2.2.1, x12.1.2.2.2.2.2.2.2))))))))).bind fun x16 =>
        bif decide ((Go.IntKind.wrap Go.IntKind.u64 (Int.tmod x11.2 (60 : Int))) < (0 : Int)) then
          none
        else
        ((EM (1 : Int) (shlI Go.IntKind.i64 (1 : Int) (Go.IntKind.wrap Go.IntKind.u64 (Int.tmod x11.2 (60 : Int)))))).bind fun x17 =>
        (bif x15.2 then
            ((AY (x15.1.1, (x15.1.2.1, (x15.1.2.2.1, (x15.1.2.2.2.1, (x15.1.2.2.2.2.1, (x15.1.2.2.2.2.2.1, (x15.1.2.2.2.2.2.2.1, x15.1.2.2.2.2.2.2.2))))))) (x11.1.1, (x11.1.2.1, (x11.1.2.2.1, x11.1.2.2.2))))).bind fun x18 =>
            bif (!x18) then
              some (Sum.inl (Sum.inl false))
            else
            bif (!x16.2) then
              some (Sum.inl (Sum.inl false))
            else
            bif (!x17.2) then
              some (Sum.inl (Sum.inl false))
            else
            some (Sum.inr ((x16.1.1, (x16.1.2.1, (x16.1.2.2.1, x16.1.2.2.2))), ((x17.1.1, (x17.1.2.1, (x17.1.2.2.1, x17.1.2.2.2))), (x10, x11.2))))
          else
          bif (!x16.2) then
            some (Sum.inl (Sum.inl false))
          else
          bif (!x17.2) then
            some (Sum.inl (Sum.inl false))
          else
          some (Sum.inr ((x16.1.1, (x16.1.2.1, (x16.1.2.2.1, x16.1.2.2.2))), ((x17.1.1, (x17.1.2.1, (x17.1.2.2.1, x17.1.2.2.2))), (x10, x11.2))))).bind fun x19 =>
        Sum.elim
          (fun x20 =>
          some x20)
          (fun x21 =>
          bif decide (x21.2.2.2 < (60 : Int)) then
            ((AV (x21.1.1, x21.1.2.1))).bind fun x22 =>
            bif (!x22) then
              ((AN (x21.1.1, (x21.1.2.1, (x21.1.2.2.1, x21.1.2.2.2))) (x21.2.1.1, (x21.2.1.2.1, (x21.2.1.2.2.1, x21.2.1.2.2.2))))).bind fun x23 =>
              bif (!x23) then
                some (Sum.inl false)
              else
              some (Sum.inr x21.2.2.1)
            else
            some (Sum.inr x21.2.2.1)
          else
          some (Sum.inr x21.2.2.1))
          x19
      else
      some (Sum.inr x10)).bind fun x24 =>
    Sum.elim
      (fun x25 =>
      some x25)
      (fun x26 =>
      ((Bt x26)).bind fun x27 =>
      ((Bm (x27.1, (x27.2.1, (x27.2.2.1, x27.2.2.2))))).bind fun x28 =>
      ((Bl (x27.1, (x27.2.1, (x27.2.2.1, x27.2.2.2))))).bind fun x29 =>
      ((B6 x26)).bind fun x30 =>
      ((CY (x30.1.1, (x30.1.2.1, (x30.1.2.2.1, (x30.1.2.2.2.1, (x30.1.2.2.2.2.1, (x30.1.2.2.2.2.2.1, (x30.1.2.2.2.2.2.2.1, x30.1.2.2.2.2.2.2.2))))))) (x30.2.1, (x30.2.2.1, (x30.2.2.2.1, x30.2.2.2.2))))).bind fun x31 =>
      ((EU (x30.1.1, (x30.1.2.1, (x30.1.2.2.1, (x30.1.2.2.2.1, (x30.1.2.2.2.2.1, (x30.1.2.2.2.2.2.1, (x30.1.2.2.2.2.2.2.1, x30.1.2.2.2.2.2.2.2))))))) (x30.2.1, (x30.2.2.1, (x30.2.2.2.1, x30.2.2.2.2))))).bind fun x32 =>
      bif (x28.2 == x29.2) then
        ((Ar (x28.1.1, (x28.1.2.1, (x28.1.2.2.1, (x28.1.2.2.2.1, (x28.1.2.2.2.2.1, (x28.1.2.2.2.2.2.1, (x28.1.2.2.2.2.2.2.1, x28.1.2.2.2.2.2.2.2))))))) (x29.1.1, (x29.1.2.1, (x29.1.2.2.1, (x29.1.2.2.2.1, (x29.1.2.2.2.2.1, (x29.1.2.2.2.2.2.1, (x29.1.2.2.2.2.2.2.1, x29.1.2.2.2.2.2.2.2))))))))).bind fun x33 =>
        bif x33 then
          bif (x31.2 == x32.2) then
            some (x31.1 == x32.1)
          else
          some false
        else
        some false
      else
      some false)
      x24)
    x8
noncomputable def Ss : Ent := ⟨G7, fun x => Ds x.1 x.2⟩
noncomputable def KI : TX := ⟨tyTab, codTab, [], [4], [Hb, Mn, MD, MW, Q7, Hz, LJ, L4, JE, O5, ST, Oy, JO, GT, KF, KH, IZ, Le, RU], G7⟩
set_option maxHeartbeats 2000000 in
theorem R9 (a0 : List (Int)) (a1 : List (Int)) : wtF KI Tryz.f5 (a0, a1) = Ds a0 a1 := by kernel_rfl
theorem QY : EntOK RR Ss := Ab (X := KI) ⟨tyOK, boolOK, eqOK⟩ (Ad (by exact ⟨⟨MI, rfl⟩, ⟨⟨So, rfl⟩, ⟨⟨R0, rfl⟩, ⟨⟨Sn, rfl⟩, ⟨⟨WI, rfl⟩, ⟨⟨Mv, rfl⟩, ⟨⟨Sp, rfl⟩, ⟨⟨Sm, rfl⟩, ⟨⟨Pv, rfl⟩, ⟨⟨UD, rfl⟩, ⟨⟨Yl, rfl⟩, ⟨⟨UK, rfl⟩, ⟨⟨LL, rfl⟩, ⟨⟨Lm, rfl⟩, ⟨⟨PS, rfl⟩, ⟨⟨RG, rfl⟩, ⟨⟨Ps, rfl⟩, ⟨⟨Oj, rfl⟩, ⟨⟨WH, rfl⟩, trivial⟩⟩⟩⟩⟩⟩⟩⟩⟩⟩⟩⟩⟩⟩⟩⟩⟩⟩⟩)) (Ae (by kernel_rfl)) ⟨Tryz.func5, rfl, by kernel_rfl, rfl⟩ (fun x => by exact R9 x.1 x.2)
end Go.Proofs.YtgfchmagglhohaaGreat.Ev

end
section
namespace Go.Proofs.YtgfchmagglhohaaGreat.Ev
open Go
set_option linter.unusedVariables false
set_option linter.unusedSimpArgs false
set_option linter.unusedSectionVars false
section
variable {α β σ ρ : Type} {body : σ → Option (σ ⊕ ρ)}
theorem M4 {l : List α} (st : Nat → β → σ) (step : β → α → β) (fin : β → ρ) (I : Nat → β → Prop)
    (hgo : ∀ k b a, l[k]? = some a → I k b → body (st k b) = some (.inl (st (k + 1) (step b a))) ∧ I (k + 1) (step b a))
    (hend : ∀ b, I l.length b → body (st l.length b) = some (.inr (fin b))) (b : β) (h0 : I 0 b) :
    loopM body (st 0 b) = some (fin (l.foldl step b)) ∧ I l.length (l.foldl step b) := by
  have key : ∀ (n k : Nat) (b : β), k + n = l.length → I k b → loopM body (st k b) = some (fin ((l.drop k).foldl step b)) ∧ I l.length ((l.drop k).foldl step b) := by
    intro n
    induction n with
    | zero =>
      intro k b hk hI
      have : k = l.length := by omega
      subst this
      rw [List.drop_length]
      exact ⟨Av (hend b hI), hI⟩
    | succ n ih =>
      intro k b hk hI
      have hlt : k < l.length := by omega
      have hd : l.drop k = l[k] :: l.drop (k + 1) := List.drop_eq_getElem_cons hlt
      have he : l[k]? = some l[k] := List.getElem?_eq_getElem hlt
      obtain ⟨h1, h2⟩ := hgo k b _ he hI
      rw [hd, List.foldl_cons, Bo h1]
      exact ih (k + 1) _ (by omega) h2
  have := key l.length 0 b (by omega) h0
  rwa [List.drop_zero] at this
def foldX (step : β → α → ρ ⊕ β) : β → List α → ρ ⊕ β
  | b, [] => .inr b
  | b, a :: l => match step b a with | .inl r => .inl r | .inr b' => foldX step b' l
theorem Aj1 {l : List α} (st : Nat → β → σ) (step : β → α → ρ ⊕ β) (fin : β → ρ) (I : Nat → β → Prop)
    (hgo : ∀ k b a, l[k]? = some a → I k b → (∃ b', step b a = .inr b' ∧ body (st k b) = some (.inl (st (k + 1) b')) ∧ I (k + 1) b') ∨ ∃ r, step b a = .inl r ∧ body (st k b) = some (.inr r))
    (hend : ∀ b, I l.length b → body (st l.length b) = some (.inr (fin b))) (b : β) (h0 : I 0 b) :
    loopM body (st 0 b) = some (Sum.elim id fin (foldX step b l)) ∧ ∀ b', foldX step b l = .inr b' → I l.length b' := by
  have key : ∀ (n k : Nat) (b : β), k + n = l.length → I k b → loopM body (st k b) = some (Sum.elim id fin (foldX step b (l.drop k))) ∧ ∀ b', foldX step b (l.drop k) = .inr b' → I l.length b' := by
    intro n
    induction n with
    | zero =>
      intro k b hk hI
      have : k = l.length := by omega
      subst this
      rw [List.drop_length]
      exact ⟨Av (hend b hI), fun b' h => by cases h; exact hI⟩
    | succ n ih =>
      intro k b hk hI
      have hlt : k < l.length := by omega
      have hd : l.drop k = l[k] :: l.drop (k + 1) := List.drop_eq_getElem_cons hlt
      have he : l[k]? = some l[k] := List.getElem?_eq_getElem hlt
      rw [hd]
      unfold foldX
      rcases hgo k b _ he hI with ⟨b', h1, h2, h3⟩ | ⟨r, h1, h2⟩
      · rw [h1, Bo h2]
        exact ih (k + 1) _ (by omega) h3
      · rw [h1]
        exact ⟨Av h2, fun b' h => by cases h⟩
  have := key l.length 0 b (by omega) h0
  rwa [List.drop_zero] at this
theorem Kw (st : Nat → β → σ) (fin : β → ρ) (I : Nat → β → Prop)
    (hgo : ∀ n b, I (n + 1) b → ∃ b', body (st (n + 1) b) = some (.inl (st n b')) ∧ I n b')
    (hend : ∀ b, I 0 b → body (st 0 b) = some (.inr (fin b))) : ∀ n b, I n b → ∃ b', loopM body (st n b) = some (fin b') ∧ I 0 b' := by
  intro n
  induction n with
  | zero => intro b h; exact ⟨b, Av (hend b h), h⟩
  | succ n ih =>
    intro b h
    obtain ⟨b1, h1, h2⟩ := hgo n b h
    obtain ⟨b2, h3, h4⟩ := ih b1 h2
    exact ⟨b2, by rw [Bo h1, h3], h4⟩
end
theorem FK {β σ ρ : Type} {body : σ → Option (σ ⊕ ρ)} (st : Nat → β → σ) (fin : β → ρ) (I : Nat → β → Prop) (e : Nat)
    (hgo : ∀ k b, k < e → I k b → ∃ b', body (st k b) = some (.inl (st (k + 1) b')) ∧ I (k + 1) b')
    (hend : ∀ b, I e b → body (st e b) = some (.inr (fin b))) : ∀ k b, k ≤ e → I k b → ∃ b', loopM body (st k b) = some (fin b') ∧ I e b' := by
  have key : ∀ (n k : Nat) (b : β), k + n = e → I k b → ∃ b', loopM body (st k b) = some (fin b') ∧ I e b' := by
    intro n
    induction n with
    | zero =>
      intro k b hk hI
      have : k = e := by omega
      subst this
      exact ⟨b, Av (hend b hI), hI⟩
    | succ n ih =>
      intro k b hk hI
      obtain ⟨b1, h1, h2⟩ := hgo k b (by omega) hI
      obtain ⟨b2, h3, h4⟩ := ih (k + 1) b1 (by omega) h2
      exact ⟨b2, by rw [Bo h1, h3], h4⟩
  intro k b hk hI
  exact key (e - k) k b (by omega) hI
theorem wrapU {n : Int} (h1 : 0 ≤ n) (h2 : n < 18446744073709551616) : IntKind.wrap .u64 n = n := by rw [IntKind.wrap_u64]; omega
theorem wrapU' (n : Int) : 0 ≤ IntKind.wrap .u64 n ∧ IntKind.wrap .u64 n < 18446744073709551616 := by rw [IntKind.wrap_u64]; omega
theorem getL {α : Type} {l : List α} {k : Nat} {a : α} (h : l[k]? = some a) : k < l.length := (List.getElem?_eq_some_iff.1 h).1
structure Cur (B : Nat) (c : List Int × Int × Int) : Prop where
  bytes : ∀ b ∈ c.1, 0 ≤ b ∧ b ≤ 255
  short : c.1.length ≤ 1048576
  lo : 0 ≤ c.2.1
  hi : c.2.1 ≤ (B : Int)
  seed0 : 0 ≤ c.2.2
  seed1 : c.2.2 < 18446744073709551616
theorem Cur.start {l : List Int} (h : ∀ b ∈ l, 0 ≤ b ∧ b ≤ 255) (hl : l.length ≤ 1048576) : Cur 0 (l, 0, 0) := ⟨h, hl, by simp, by simp, by simp, by simp⟩
theorem Cur.mono {B B' : Nat} {c : List Int × Int × Int} (h : Cur B c) (hb : B ≤ B') : Cur B' c := ⟨h.bytes, h.short, h.lo, by have := h.hi; omega, h.seed0, h.seed1⟩
theorem obs {α β : Type} (a : α) (f : α → Option β) : (some a).bind f = f a := (rfl)
theorem cT {α : Type} (a b : α) : (bif true then a else b) = a := (rfl)
theorem cF {α : Type} (a b : α) : (bif false then a else b) = b := (rfl)
theorem nT : (!true) = false := (rfl)
theorem nF : (!false) = true := (rfl)
end Go.Proofs.YtgfchmagglhohaaGreat.Ev

end
section
namespace Go.Proofs.YtgfchmagglhohaaGreat.Ev
open Go
set_option linter.unusedVariables false
set_option linter.unusedSimpArgs false
set_option linter.unusedSectionVars false
theorem and255 (a : Int) : 0 ≤ andI .u64 a 255 ∧ andI .u64 a 255 ≤ 255 := by
  unfold andI
  have h : ((BitVec.ofInt (IntKind.bits .u64) a &&& BitVec.ofInt (IntKind.bits .u64) 255).toNat) ≤ 255 := by
    rw [BitVec.toNat_and]
    exact Nat.le_trans Nat.and_le_right (by decide)
  rw [wrapU (by omega) (by omega)]
  omega
theorem Zd {B : Nat} {c : List Int × Int × Int} (h : Cur B c) (hB : B ≤ 1125899906842624) : ∃ c' v, B9 c = some (c', v) ∧ Cur (B + 1) c' ∧ 0 ≤ v ∧ v ≤ 255 := by
  obtain ⟨l, i, s⟩ := c
  obtain ⟨h1, h2, h3, h4, h5, h6⟩ := h
  simp only at h1 h2 h3 h4 h5 h6
  have w1 : IntKind.wrap .i64 (i + 1) = i + 1 := wrapI (by omega) (by omega)
  have hcur : ∀ x : Int, Cur (B + 1) (l, i + 1, IntKind.wrap .u64 x) := fun x => ⟨h1, h2, by simp only; omega, by simp only; omega, (wrapU' x).1, (wrapU' x).2⟩
  unfold B9
  by_cases hi : i < (l.length : Int)
  · obtain ⟨a, ha, hm⟩ := YU h3 hi
    have hb := h1 a (List.mem_of_getElem? hm)
    have hd : decide (i < (l.length : Int)) = true := by simpa using hi
    have hd2 : decide (i + 1 ≤ (l.length : Int)) = true := by simp; omega
    simp only [hd, cond_true, ha, Option.bind_some, Sum.elim_inr, w1, hd2, wrapI (show -9223372036854775808 ≤ a by omega) (show a ≤ 9223372036854775807 by omega)]
    exact ⟨_, _, rfl, hcur _, hb.1, hb.2⟩
  · have hd : decide (i < (l.length : Int)) = false := by simpa using hi
    have hd2 : decide (i + 1 ≤ (l.length : Int)) = false := by simp; omega
    simp only [hd, cond_false, Option.bind_some, Sum.elim_inr, w1, hd2]
    refine ⟨_, _, rfl, hcur _, ?_⟩
    have := and255 (shrI .u64 (IntKind.wrap .u64 (IntKind.wrap .u64 (IntKind.wrap .u64 (s * 6364136223846793005) + IntKind.wrap .u64 0) + 1442695040888963407)) 40)
    rw [wrapI (by omega) (by omega)]
    exact this
theorem Yv {a n : Int} (h0 : 0 ≤ a) (hn : 1 < n) : 0 ≤ a.tmod n ∧ a.tmod n < n := by
  rw [Int.tmod_eq_emod_of_nonneg h0]
  exact ⟨Int.emod_nonneg _ (by omega), Int.emod_lt_of_pos _ (by omega)⟩
theorem HO {B : Nat} {c : List Int × Int × Int} (h : Cur B c) (hB : B ≤ 1000000000000000) (n : Int) : ∃ c' v, AO c n = some (c', v) ∧ Cur (B + 2) c' ∧ 0 ≤ v ∧ (1 ≤ n → v < n) := by
  unfold AO
  by_cases h1 : n ≤ 1
  · have hd : decide (n ≤ 1) = true := by simpa using h1
    simp only [hd, cond_true]
    exact ⟨_, _, rfl, h.mono (by omega), by omega, by omega⟩
  · have hd : decide (n ≤ 1) = false := by simpa using h1
    have hz : (n == 0) = false := by simp; omega
    obtain ⟨c1, v1, e1, q1, b1, b2⟩ := Zd h (by omega)
    simp only [hd, cond_false, e1, Option.bind_some, hz]
    by_cases h2 : n > 200
    · obtain ⟨c2, v2, e2, q2, b3, b4⟩ := Zd q1 (by omega)
      have hd2 : decide (n > 200) = true := by simpa using h2
      simp only [hd2, cond_true, e2, Option.bind_some]
      refine ⟨_, _, rfl, q2.mono (by omega), ?_⟩
      rw [wrapI (by rw [wrapI (by omega) (by omega)]; omega) (by rw [wrapI (by omega) (by omega)]; omega), wrapI (by omega) (by omega)]
      have := Yv (a := v1 * 256 + v2) (n := n) (by omega) (by omega)
      exact ⟨this.1, fun _ => this.2⟩
    · have hd2 : decide (n > 200) = false := by simpa using h2
      simp only [hd2, cond_false]
      have := Yv (a := v1) (n := n) (by omega) (by omega)
      exact ⟨_, _, rfl, q1.mono (by omega), this.1, fun _ => this.2⟩
theorem Nh {B : Nat} {c : List Int × Int × Int} (h : Cur B c) (hB : B ≤ 1000000000000000) (n : Int) : ∃ c' v, AQ c n = some (c', v) ∧ Cur (B + 2) c' := by
  unfold AQ
  obtain ⟨c1, v1, e1, q1, _⟩ := HO h hB n
  simp only [e1, Option.bind_some]
  exact ⟨_, _, rfl, q1⟩
theorem HB {B : Nat} {c : List Int × Int × Int} (h : Cur B c) (hB : B ≤ 1000000000000000) (l : List Int) (h1 : 1 ≤ l.length) (h2 : l.length < 1000000) : ∃ c' v, Aq c l = some (c', v) ∧ Cur (B + 2) c' ∧ v ∈ l := by
  unfold Aq
  obtain ⟨c1, v1, e1, q1, b1, b2⟩ := HO h hB (l.length : Int)
  have := b2 (by omega)
  obtain ⟨a, ha, hm⟩ := YU b1 this
  simp only [e1, Option.bind_some, ha]
  exact ⟨_, _, rfl, q1, List.mem_of_getElem? hm⟩
end Go.Proofs.YtgfchmagglhohaaGreat.Ev

end
section
namespace Go.Proofs.YtgfchmagglhohaaGreat.Ev
open Go
set_option linter.unusedVariables false
set_option linter.unusedSimpArgs false
set_option linter.unusedSectionVars false
def B : Nat → Int
  | 0 => 1
  | n + 1 => 65536 * B n
theorem Dk : ∀ n, 0 < B n
  | 0 => by decide
  | n + 1 => by have := Dk n; simp only [B]; omega
theorem KL : ∀ m n, B (m + n) = B m * B n
  | 0, n => by simp [B]
  | m + 1, n => by rw [show m + 1 + n = (m + n) + 1 by omega]; simp only [B]; rw [KL m n, Int.mul_assoc]
theorem C1 {m n : Nat} (h : m ≤ n) : B m ≤ B n := by
  induction h with
  | refl => exact Int.le_refl _
  | @step n h ih => have := Dk n; simp only [B]; omega
theorem B_lt {m n : Nat} (h : m < n) : B m < B n := by
  have h1 := C1 (show m + 1 ≤ n by omega)
  have h2 := Dk m
  simp only [B] at h1
  omega
def val : List Int → Int
  | [] => 0
  | x :: l => x + 65536 * val l
def LB (l : List Int) : Prop := ∀ x ∈ l, 0 ≤ x ∧ x < 65536
theorem LB.nil : LB [] := fun _ h => absurd h (List.not_mem_nil)
theorem LB.head {x : Int} {l : List Int} (h : LB (x :: l)) : 0 ≤ x ∧ x < 65536 := h x (List.mem_cons_self ..)
theorem LB.tail {x : Int} {l : List Int} (h : LB (x :: l)) : LB l := fun y hy => h y (List.mem_cons_of_mem _ hy)
theorem LB.cons {x : Int} {l : List Int} (hx : 0 ≤ x ∧ x < 65536) (h : LB l) : LB (x :: l) := fun y hy => by
  rcases List.mem_cons.1 hy with rfl | hy
  · exact hx
  · exact h y hy
theorem LB.append {l m : List Int} (h : LB l) (h' : LB m) : LB (l ++ m) := fun y hy => (List.mem_append.1 hy).elim (h y) (h' y)
theorem LB.take {l : List Int} (h : LB l) (n : Nat) : LB (l.take n) := fun y hy => h y (List.mem_of_mem_take hy)
theorem LB.drop {l : List Int} (h : LB l) (n : Nat) : LB (l.drop n) := fun y hy => h y (List.mem_of_mem_drop hy)
theorem LB.get {l : List Int} (h : LB l) {k : Nat} {x : Int} (hk : l[k]? = some x) : 0 ≤ x ∧ x < 65536 := h x (List.mem_of_getElem? hk)
theorem LB.set {l : List Int} (h : LB l) {k : Nat} {x : Int} (hx : 0 ≤ x ∧ x < 65536) : LB (l.set k x) := fun y hy => by
  rcases List.mem_or_eq_of_mem_set hy with hy | rfl
  · exact h y hy
  · exact hx
theorem LB.zeros (n : Nat) : LB (List.replicate n 0) := fun y hy => by have := List.eq_of_mem_replicate hy; omega
theorem As : ∀ {l : List Int}, LB l → 0 ≤ val l
  | [], _ => Int.le_refl _
  | x :: l, h => by have := h.head; have := As h.tail; simp only [val]; omega
theorem Ib : ∀ {l : List Int}, LB l → val l < B l.length
  | [], _ => by decide
  | x :: l, h => by have := h.head; have := Ib h.tail; simp only [val, List.length_cons, B]; omega
theorem LE : ∀ (l m : List Int), val (l ++ m) = val l + B l.length * val m
  | [], m => by simp [val, B]
  | x :: l, m => by
    simp only [List.cons_append, val, List.length_cons, B, LE l m]
    rw [Int.mul_add, Int.mul_assoc]
    omega
theorem Cv : ∀ n, val (List.replicate n 0) = 0
  | 0 => rfl
  | n + 1 => by simp only [List.replicate_succ, val, Cv n]; omega
theorem FU (l : List Int) (x : Int) : val (l ++ [x]) = val l + B l.length * x := by rw [LE]; simp [val]
theorem Nx (l : List Int) (n : Nat) (h : n ≤ l.length) : val l = val (l.take n) + B n * val (l.drop n) := by
  have := LE (l.take n) (l.drop n)
  rw [List.take_append_drop, List.length_take, Nat.min_eq_left h] at this
  exact this
theorem DE : ∀ {l : List Int} {k : Nat} {x y : Int}, l[k]? = some x → val (l.set k y) = val l + B k * (y - x)
  | [], k, x, y, h => by simp at h
  | a :: l, 0, x, y, h => by
    simp at h
    subst h
    simp only [List.set_cons_zero, val, B]
    omega
  | a :: l, k + 1, x, y, h => by
    simp only [List.getElem?_cons_succ] at h
    simp only [List.set_cons_succ, val, B, DE (y := y) h]
    rw [Int.mul_add, Int.mul_assoc]
    omega
def NB (l : List Int) : Prop := ∀ x, l.getLast? = some x → x ≠ 0
theorem NB.nil : NB [] := fun x h => by simp at h
theorem NB.tail {x : Int} {l : List Int} (h : NB (x :: l)) : NB l := fun y hy => by
  cases l with
  | nil => simp at hy
  | cons a t => exact h y (by rw [List.getLast?_cons_cons]; exact hy)
theorem UQ : ∀ {l : List Int}, LB l → NB l → l ≠ [] → B (l.length - 1) ≤ val l
  | [], _, _, h => absurd rfl h
  | [x], h, hn, _ => by
    have h1 := h.head
    have h2 := hn x rfl
    simp only [val, List.length_cons, List.length_nil, B]
    simp [B]
    omega
  | x :: y :: l, h, hn, _ => by
    have h1 := h.head
    have h2 := UQ h.tail hn.tail (by simp)
    simp only [List.length_cons, Nat.add_sub_cancel] at h2 ⊢
    rw [val]
    simp only [B]
    omega
theorem VR {l : List Int} (h : LB l) (hn : NB l) (h0 : val l = 0) : l = [] := by
  cases l with
  | nil => rfl
  | cons x l =>
    have h1 := UQ h hn (by simp)
    have h2 := Dk ((x :: l).length - 1)
    omega
theorem Za : ∀ {l m : List Int}, LB l → NB l → LB m → NB m → val l = val m → l = m
  | [], m, _, _, hm, nm, h => by
    have : val m = 0 := by rw [← h]; rfl
    exact (VR hm nm this).symm
  | x :: l, [], hl, nl, _, _, h => VR hl nl (by rw [h]; rfl)
  | x :: l, y :: m, hl, nl, hm, nm, h => by
    have h1 := hl.head
    have h2 := hm.head
    simp only [val] at h
    have hx : x = y := by omega
    have hv : val l = val m := by omega
    rw [hx, Za hl.tail nl.tail hm.tail nm.tail hv]
def lim (n : Nat) : List Int := if h : n = 0 then [] else ((n % 65536 : Nat) : Int) :: lim (n / 65536)
termination_by n
decreasing_by omega
theorem AW : lim 0 = [] := by unfold lim; simp
theorem An (n : Nat) : LB (lim n) := by
  induction n using Nat.strongRecOn with
  | _ n ih =>
    unfold lim
    split
    · exact LB.nil
    · exact LB.cons (by omega) (ih (n / 65536) (by omega))
theorem Ai (n : Nat) : val (lim n) = n := by
  induction n using Nat.strongRecOn with
  | _ n ih =>
    unfold lim
    split
    · rename_i h; rw [h]; rfl
    · simp only [val, ih (n / 65536) (by omega)]
      omega
theorem Fa {n : Nat} : lim n = [] ↔ n = 0 := by
  constructor
  · intro h
    have := Ai n
    rw [h] at this
    simp only [val] at this
    omega
  · rintro rfl; exact AW
theorem Na (n : Nat) : NB (lim n) := by
  induction n using Nat.strongRecOn with
  | _ n ih =>
    unfold lim
    split
    · exact NB.nil
    · rename_i hn
      intro x hx
      by_cases h0 : n / 65536 = 0
      · rw [h0, AW] at hx
        simp at hx
        omega
      · have hne : lim (n / 65536) ≠ [] := fun h => h0 (Fa.1 h)
        cases hl : lim (n / 65536) with
        | nil => exact absurd hl hne
        | cons a t =>
          rw [hl, List.getLast?_cons_cons] at hx
          exact ih (n / 65536) (by omega) x (by rw [hl]; exact hx)
theorem Ac5 {l : List Int} (h : LB l) (hn : NB l) : l = lim (val l).toNat := Za h hn (An _) (Na _) (by rw [Ai]; have := As h; omega)
theorem Af {n k : Nat} : (lim n).length ≤ k ↔ (n : Int) < B k := by
  constructor
  · intro h
    have h1 := Ib (An n)
    rw [Ai] at h1
    have := C1 h
    omega
  · intro h
    rcases Nat.lt_or_ge k (lim n).length with hk | hk
    · exfalso
      have hne : lim n ≠ [] := by intro h0; rw [h0] at hk; simp at hk
      have h1 := UQ (An n) (Na n) hne
      rw [Ai] at h1
      have := C1 (show k ≤ (lim n).length - 1 by omega)
      omega
    · exact hk
def strip : List Int → List Int
  | [] => []
  | x :: l => match strip l with | [] => if x = 0 then [] else [x] | m => x :: m
theorem PZ : ∀ {l : List Int}, LB l → LB (strip l) ∧ NB (strip l) ∧ val (strip l) = val l
  | [], _ => ⟨LB.nil, NB.nil, rfl⟩
  | x :: l, h => by
    obtain ⟨h1, h2, h3⟩ := PZ h.tail
    simp only [strip]
    cases hs : strip l with
    | nil =>
      rw [hs] at h3
      simp only [val] at h3
      simp only
      split
      · rename_i hx; subst hx; exact ⟨LB.nil, NB.nil, by simp only [val]; omega⟩
      · rename_i hx
        exact ⟨LB.cons h.head LB.nil, fun y hy => by simp at hy; subst hy; exact hx, by simp only [val]; omega⟩
    | cons a t =>
      rw [hs] at h1 h2 h3
      simp only
      exact ⟨LB.cons h.head h1, fun y hy => h2 y (by rw [List.getLast?_cons_cons] at hy; exact hy), by rw [val, h3]; rfl⟩
theorem Bg {l : List Int} (h : LB l) : strip l = lim (val l).toNat := by
  obtain ⟨h1, h2, h3⟩ := PZ h
  rw [Ac5 h1 h2, h3]
theorem FE : ∀ (l : List Int), strip (l ++ [0]) = strip l
  | [] => rfl
  | x :: l => by simp only [List.cons_append, strip, FE l]
theorem JN : ∀ {l : List Int}, NB l → strip l = l
  | [], _ => rfl
  | x :: l, h => by
    simp only [strip, JN h.tail]
    cases l with
    | nil => simp only; rw [if_neg (h x rfl)]
    | cons a t => rfl
theorem Nf : ∀ (l : List Int), (strip l).length ≤ l.length
  | [] => Nat.le_refl _
  | x :: l => by
    have := Nf l
    simp only [strip]
    split
    · split <;> simp
    · rename_i m hm; simp only [List.length_cons] at *; omega
end Go.Proofs.YtgfchmagglhohaaGreat.Ev

end
section
namespace Go.Proofs.YtgfchmagglhohaaGreat.Ev
open Go
set_option linter.unusedVariables false
set_option linter.unusedSimpArgs false
set_option linter.unusedSectionVars false
def Brief (l : List Int) : Prop := l.length ≤ 100000000
theorem Yy {l : List Int} (h : l ≠ []) : ∃ m x, l = m ++ [x] := ⟨l.dropLast, l.getLast h, (List.dropLast_concat_getLast h).symm⟩
theorem YF {m : List Int} {x : Int} (h : x ≠ 0) : NB (m ++ [x]) := fun y hy => by
  rw [List.getLast?_append] at hy
  simp at hy
  subst hy
  exact h
theorem room1 {n : Nat} (h : n ≤ 200000000) : roomI n 8 1 = true := by unfold roomI; rw [decide_eq_true (by unfold maxBytes; omega), decide_eq_true (by unfold maxBytes; omega)]; rfl
theorem D8 {l : List Int} (hb : Brief l) : Bi l = some (strip l) := by
  have key : ∀ (n : Nat) (l : List Int), l.length = n → n ≤ 100000000 → loopM (fun (s : (List Int)) => GK s) l = some (strip l) := by
    intro n
    induction n with
    | zero =>
      intro l hl _
      have : l = [] := List.eq_nil_of_length_eq_zero hl
      subst this
      exact Av rfl
    | succ n ih =>
      intro l hl hn
      obtain ⟨m, x, rfl⟩ := Yy (l := l) (by intro h; subst h; simp at hl)
      have hm : m.length = n := by simpa using hl
      have hlen : (((m ++ [x]).length : Nat) : Int) = (n : Int) + 1 := by simp [hm]
      have hg : getI (m ++ [x]) (n : Int) = some x := by rw [Ao, ← hm]; simp
      have hstep : GK (m ++ [x]) = if x = 0 then some (Sum.inl m) else some (Sum.inr (m ++ [x])) := by
        unfold GK
        rw [hlen, wrapI (by omega) (by omega), show (n : Int) + 1 - 1 = (n : Int) by omega, hg, decide_eq_true (by omega)]
        simp only [cond_true, Option.bind_some]
        by_cases hx : x = 0
        · rw [if_pos hx, beq_iff_eq.2 hx]
          have : subI 0 (n : Int) (m ++ [x]).length = some (0, n) := by unfold subI; simp [hm]; omega
          rw [this]
          simp [← hm]
        · rw [if_neg hx, beq_eq_false_iff_ne.2 hx]
          rfl
      by_cases hx : x = 0
      · rw [if_pos hx] at hstep
        rw [Bo hstep, ih m hm (by omega), hx, FE]
      · rw [if_neg hx] at hstep
        rw [Av hstep, JN (YF hx)]
  unfold Bi
  have h := Nf l
  unfold Brief at hb
  rw [key _ l rfl hb]
  simp only [Option.bind_some, room1 (show (strip l).length ≤ 200000000 by omega), cond_true]
theorem TT {l : List Int} (hb : Brief l) : Fe l = some (strip l) := by
  unfold Brief at hb
  have key : ∀ (n : Nat), n ≤ l.length → strip (l.take n) = strip l → ∃ k : Nat, k ≤ l.length ∧ l.take k = strip l ∧ loopM (fun (s : ((List Int) × Int)) => Kj s.1 s.2) (l, (n : Int)) = some (l, (k : Int)) := by
    intro n
    induction n with
    | zero =>
      intro _ h
      exact ⟨0, by omega, by simpa [strip] using h, Av rfl⟩
    | succ n ih =>
      intro hn h
      have hlt : n < l.length := by omega
      have hg : getI l (n : Int) = some l[n] := by rw [Ao, List.getElem?_eq_getElem hlt]
      have ht : l.take (n + 1) = l.take n ++ [l[n]] := by rw [List.take_add_one, List.getElem?_eq_getElem hlt]; rfl
      have hstep : Kj l ((n + 1 : Nat) : Int) = if l[n] = 0 then some (Sum.inl (l, (n : Int))) else some (Sum.inr (l, ((n + 1 : Nat) : Int))) := by
        unfold Kj
        rw [wrapI (by omega) (by omega), show ((n + 1 : Nat) : Int) - 1 = (n : Int) by omega, hg, decide_eq_true (by omega)]
        simp only [cond_true, Option.bind_some]
        by_cases hx : l[n] = 0
        · rw [if_pos hx, beq_iff_eq.2 hx]; rfl
        · rw [if_neg hx, beq_eq_false_iff_ne.2 hx]; rfl
      by_cases hx : l[n] = 0
      · rw [if_pos hx] at hstep
        obtain ⟨k, h1, h2, h3⟩ := ih (by omega) (by rw [← h, ht, hx, FE])
        exact ⟨k, h1, h2, by rw [Bo hstep]; exact h3⟩
      · rw [if_neg hx] at hstep
        refine ⟨n + 1, hn, ?_, Av hstep⟩
        rw [← h, ht, JN (YF hx)]
  obtain ⟨k, h1, h2, h3⟩ := key l.length (Nat.le_refl _) (by rw [List.take_length])
  unfold Fe
  rw [h3]
  have : subI 0 (k : Int) l.length = some (0, k) := by unfold subI; simp [h1]
  simp only [Option.bind_some, this, List.drop_zero, h2]
theorem S9 {l : List Int} (hb : Brief l) : AZ l = some l := by
  unfold AZ orNil
  cases l with
  | nil => rfl
  | cons a t =>
    unfold Brief at hb
    simp only [A5, neL, Option.bind_some, room1 (show (a :: t).length ≤ 200000000 by omega), cond_true]
theorem Wg {l : List Int} (h : Brief l) : Brief (strip l) := by have := Nf l; unfold Brief at *; omega
theorem I9 (l : List Int) : decide (((l.length : Nat) : Int) > 0) = !l.isEmpty := by cases l <;> simp <;> omega
theorem Hu (n : Nat) : (!(lim n).isEmpty) = decide (n ≠ 0) := by
  cases h : lim n with
  | nil => rw [Fa.1 h]; rfl
  | cons a t => simp; intro h0; rw [h0, AW] at h; cases h
theorem Ep {l : List Int} (h : LB l) (hb : Brief l) (neg : Bool) : AD neg l = some (lim (val l).toNat, neg && decide ((val l).toNat ≠ 0)) := by
  unfold AD
  simp only [TT hb, Option.bind_some, S9 (Wg hb), I9]
  rw [Bg h, Hu]
  cases neg <;> rfl
theorem CT {l : List Int} (h : LB l) (hb : Brief l) (neg : Bool) : AH neg l = some (lim (val l).toNat, neg && decide ((val l).toNat ≠ 0)) := by
  unfold AH
  simp only [D8 hb, Option.bind_some, I9]
  rw [Bg h, Hu]
  cases neg <;> rfl
def big (z : Int) : Bool × List Int := (decide (z < 0), lim z.natAbs)
def goodB (b : Bool × List Int) : Bool := (b.2.all fun x => decide (0 ≤ x) && decide (x ≤ 65535)) && (match b.2.getLast? with | none => !b.1 | some x => decide (b.2.length ≤ 40) && (x != 0))
theorem C5 {b : Bool × List Int} : goodB b = true ↔ ∃ z : Int, (z.natAbs : Int) < B 40 ∧ b = big z := by
  obtain ⟨neg, l⟩ := b
  unfold goodB
  simp only [Bool.and_eq_true, List.all_eq_true, decide_eq_true_eq]
  constructor
  · rintro ⟨h1, h2⟩
    have hl : LB l := fun x hx => by have := h1 x hx; omega
    cases hg : l.getLast? with
    | none =>
      rw [hg] at h2
      have : l = [] := List.getLast?_eq_none_iff.1 hg
      subst this
      have hn : neg = false := by simpa using h2
      subst hn
      exact ⟨0, by decide, by unfold big; simp [AW]⟩
    | some x =>
      rw [hg] at h2
      simp only [Bool.and_eq_true, decide_eq_true_eq, bne_iff_ne] at h2
      have hn : NB l := fun y hy => by rw [hg] at hy; cases hy; exact h2.2
      have hv := Ac5 hl hn
      have h0 : (val l).toNat ≠ 0 := by
        intro h0
        rw [h0, AW] at hv
        rw [hv] at hg
        simp at hg
      have hlt : ((val l).toNat : Int) < B 40 := Af.1 (by rw [← hv]; exact h2.1)
      refine ⟨if neg then -((val l).toNat : Int) else ((val l).toNat : Int), ?_, ?_⟩
      · cases neg <;> simp <;> omega
      · unfold big
        cases neg
        · simp only [Bool.false_eq_true, if_false]
          rw [decide_eq_false (by omega), Int.natAbs_natCast, ← hv]
        · simp only [if_true]
          rw [decide_eq_true (by omega), Int.natAbs_neg, Int.natAbs_natCast, ← hv]
  · rintro ⟨z, hz, h⟩
    unfold big at h
    have hn : neg = decide (z < 0) := congrArg Prod.fst h
    have hl : l = lim z.natAbs := congrArg Prod.snd h
    subst hl
    refine ⟨fun x hx => by have := An _ x hx; omega, ?_⟩
    cases hg : (lim z.natAbs).getLast? with
    | none =>
      have : lim z.natAbs = [] := List.getLast?_eq_none_iff.1 hg
      have := Fa.1 this
      rw [hn]
      simp
      omega
    | some x =>
      simp only [Bool.and_eq_true, decide_eq_true_eq, bne_iff_ne]
      exact ⟨Af.2 hz, Na _ x hg⟩
theorem Kk {z : Int} (h : (z.natAbs : Int) < B 40) : goodB (big z) = true := C5.2 ⟨z, h, rfl⟩
theorem HJ (a b c : Int) : Cm a b c = some (decide (b ≤ a) && decide (a ≤ c)) := by
  unfold Cm
  by_cases h : a ≥ b <;> simp [h]
theorem Mt (a b c : Int) : Em a b c = some (decide (b ≤ a) && decide (a ≤ c)) := by
  unfold Em
  by_cases h : a ≥ b <;> simp [h]
theorem H6 {k : Nat} {α : Type} {l : List α} {a : α} (h : l[k]? = some a) : decide ((k : Int) < (l.length : Int)) = true := by have := getL h; simpa using this
theorem PI {α : Type} (l : List α) : decide ((l.length : Int) < (l.length : Int)) = false := by simp
theorem T9 {l : List Int} (hb : Brief l) : Aj l = some (!(l.all fun x => decide (0 ≤ x) && decide (x ≤ 65535))) := by
  unfold Aj A3
  unfold Brief at hb
  have key := Ra (body := fun (s : ((List Int) × (Int × Int))) => Az s.1 s.2.1 s.2.2) (l := l) (st := fun k => (l, (l.length : Int), (k : Int))) (p := fun x => decide (0 ≤ x) && decide (x ≤ 65535)) (fin := .inl ()) (bad := fun k => .inr (k : Int))
    (fun k a hk hp => by
      have := getL hk
      unfold Az Dp
      simp only [H6 hk, cond_true, Ao, hk, Option.bind_some, HJ, hp, Bool.not_true, cond_false, wrap1 (show k < 4611686018427387904 by omega)])
    (fun k a hk hp => by
      unfold Az Dp
      simp only [H6 hk, cond_true, Ao, hk, Option.bind_some, HJ, hp, Bool.not_false])
    (by unfold Az; simp only [PI, cond_false])
  cases hall : l.all fun x => decide (0 ≤ x) && decide (x ≤ 65535) with
  | true =>
    have h := key.1 hall
    rw [show ((0 : Nat) : Int) = 0 from rfl] at h
    simp only [h, Option.bind_some, Sum.elim_inl]
    rfl
  | false =>
    obtain ⟨k, _, h⟩ := key.2 hall
    rw [show ((0 : Nat) : Int) = 0 from rfl] at h
    simp only [h, Option.bind_some, Sum.elim_inr]
    have : decide ((k : Int) ≥ 0) = true := by simp
    rw [this]; rfl
theorem OW {l : List Int} {x : Int} (h : l.getLast? = some x) : l.length ≠ 0 ∧ getI l ((l.length : Int) - 1) = some x := by
  have hne : l ≠ [] := by intro h0; subst h0; simp at h
  obtain ⟨m, y, rfl⟩ := Yy hne
  rw [List.getLast?_append] at h
  simp at h
  subst h
  refine ⟨by simp, ?_⟩
  have : (((m ++ [y]).length : Nat) : Int) - 1 = (m.length : Int) := by simp
  rw [this, Ao]
  simp
theorem Ti {b : Bool × List Int} (hb : Brief b.2) : Fl b = some (goodB b) := by
  obtain ⟨neg, l⟩ := b
  unfold Fl goodB
  have hb' := hb
  unfold Brief at hb'
  simp only at hb hb' ⊢
  rw [wrapI (by omega) (by omega), T9 hb]
  cases hg : l.getLast? with
  | none =>
    have : l = [] := List.getLast?_eq_none_iff.1 hg
    subst this
    cases neg <;> rfl
  | some x =>
    obtain ⟨h0, h1⟩ := OW hg
    have e0 : (((l.length : Nat) : Int) == 0) = false := beq_eq_false_iff_ne.2 (by omega)
    have e1 : decide (((l.length : Nat) : Int) > 0) = true := decide_eq_true (by omega)
    by_cases h40 : l.length ≤ 40
    · have e2 : decide (((l.length : Nat) : Int) > 40) = false := decide_eq_false (by omega)
      simp only [e2, e0, e1, cond_false, cond_true, h1, Option.bind_some, Bool.not_not, decide_eq_true h40, Bool.true_and]
      by_cases hx : x = 0
      · subst hx; simp
      · rw [beq_eq_false_iff_ne.2 hx]; simp [hx]
    · have e2 : decide (((l.length : Nat) : Int) > 40) = true := decide_eq_true (by omega)
      simp only [e2, cond_true, decide_eq_false h40, Bool.false_and, Bool.and_false]
theorem Kc {b : Bool × List Int} (hb : Brief b.2) : Ci b = some (goodB b) := by
  obtain ⟨neg, l⟩ := b
  unfold Ci goodB
  have hb' := hb
  unfold Brief at hb'
  simp only at hb hb' ⊢
  have key := Ra (body := fun (s : ((Bool × (List Int)) × ((List Int) × (Int × Int)))) => Dy s.1 s.2.1 s.2.2.1 s.2.2.2) (l := l) (st := fun k => ((neg, l), (l, ((l.length : Int), (k : Int))))) (p := fun x => decide (0 ≤ x) && decide (x ≤ 65535)) (fin := .inl (neg, l)) (bad := fun k => .inr false)
    (fun k a hk hp => by
      have := getL hk
      unfold Dy
      simp only [H6 hk, cond_true, Ao, hk, Option.bind_some, Mt, hp, Bool.not_true, cond_false, wrap1 (show k < 4611686018427387904 by omega)])
    (fun k a hk hp => by
      unfold Dy
      simp only [H6 hk, cond_true, Ao, hk, Option.bind_some, Mt, hp, Bool.not_false])
    (by unfold Dy; simp only [PI, cond_false])
  rw [show ((0 : Nat) : Int) = 0 from rfl] at key
  cases hall : l.all fun x => decide (0 ≤ x) && decide (x ≤ 65535) with
  | false => obtain ⟨k, _, h⟩ := key.2 hall; rw [h]; rfl
  | true =>
    rw [key.1 hall]
    simp only [Option.bind_some, Sum.elim_inl, Bool.true_and]
    rw [wrapI (by omega) (by omega)]
    cases hg : l.getLast? with
    | none =>
      have : l = [] := List.getLast?_eq_none_iff.1 hg
      subst this
      rfl
    | some x =>
      obtain ⟨h0, h1⟩ := OW hg
      have e0 : (((l.length : Nat) : Int) == 0) = false := beq_eq_false_iff_ne.2 (by omega)
      simp only [e0, cond_false, h1, Option.bind_some]
      by_cases h40 : l.length ≤ 40
      · rw [decide_eq_true (show ((l.length : Nat) : Int) ≤ 40 by omega), decide_eq_true h40]; rfl
      · rw [decide_eq_false (show ¬ ((l.length : Nat) : Int) ≤ 40 by omega), decide_eq_false h40]; rfl
theorem Ad8 {l : List (Bool × List Int)} (hl : l.length ≤ 1000) (hb : ∀ b ∈ l, Brief b.2) : ET l = some (l.all goodB) := by
  unfold ET AE AL
  have key := Ra (body := fun (s : ((List (Bool × (List Int))) × (Int × Int))) => Ap s.1 s.2.1 s.2.2) (l := l) (st := fun k => (l, (l.length : Int), (k : Int))) (p := goodB) (fin := .inl ()) (bad := fun k => .inr (k : Int))
    (fun k a hk hp => by
      have := getL hk
      unfold Ap Ef
      simp only [H6 hk, cond_true, Ao, hk, Option.bind_some, Ti (hb a (List.mem_of_getElem? hk)), hp, Bool.not_true, cond_false, wrap1 (show k < 4611686018427387904 by omega)])
    (fun k a hk hp => by
      unfold Ap Ef
      simp only [H6 hk, cond_true, Ao, hk, Option.bind_some, Ti (hb a (List.mem_of_getElem? hk)), hp, Bool.not_false])
    (by unfold Ap; simp only [PI, cond_false])
  rw [show ((0 : Nat) : Int) = 0 from rfl] at key
  cases hall : l.all goodB with
  | true => rw [key.1 hall]; rfl
  | false =>
    obtain ⟨k, _, h⟩ := key.2 hall
    rw [h]
    simp only [Option.bind_some, Sum.elim_inr]
    have : decide ((k : Int) ≥ 0) = true := by simp
    rw [this]; rfl
end Go.Proofs.YtgfchmagglhohaaGreat.Ev

end
section
namespace Go.Proofs.YtgfchmagglhohaaGreat.Ev
open Go
set_option linter.unusedVariables false
set_option linter.unusedSimpArgs false
set_option linter.unusedSectionVars false
def cmpZ (a b : Int) : Int := if a < b then -1 else if b < a then 1 else 0
theorem Co {a b : Int} (h : a < b) : cmpZ a b = -1 := by unfold cmpZ; rw [if_pos h]
theorem Es {a b : Int} (h : b < a) : cmpZ a b = 1 := by unfold cmpZ; rw [if_neg (by omega), if_pos h]
theorem HC (a : Int) : cmpZ a a = 0 := by unfold cmpZ; simp
theorem AT (a b : Int) : (cmpZ a b = -1 ∧ a < b) ∨ (cmpZ a b = 1 ∧ b < a) ∨ (cmpZ a b = 0 ∧ a = b) := by unfold cmpZ; split <;> (try split) <;> omega
theorem NG (a b : Int) : A6 a b = some (cmpZ a b) := by
  unfold A6 Cr cmpZ
  by_cases h1 : a < b <;> by_cases h2 : b < a <;> simp [h1, h2]
theorem VD {k : Nat} {d : Int} (h : d ≤ -1) : B k * d ≤ - B k := by
  have := Int.mul_le_mul_of_nonneg_left h (Int.le_of_lt (Dk k))
  omega
theorem YP {l m : List Int} (hl : LB l) (hm : LB m) {k : Nat} {x y : Int} (hx : l[k]? = some x) (hy : m[k]? = some y) (hd : l.drop (k + 1) = m.drop (k + 1)) : (x < y → val l < val m) ∧ (y < x → val m < val l) := by
  have kl := getL hx
  have km := getL hy
  have e1 := Nx l k (by omega)
  have e2 := Nx m k (by omega)
  have d1 : l.drop k = x :: l.drop (k + 1) := by rw [List.drop_eq_getElem_cons kl]; congr 1; rw [List.getElem?_eq_getElem kl] at hx; exact Option.some.inj hx
  have d2 : m.drop k = y :: m.drop (k + 1) := by rw [List.drop_eq_getElem_cons km]; congr 1; rw [List.getElem?_eq_getElem km] at hy; exact Option.some.inj hy
  rw [d1] at e1
  rw [d2, ← hd] at e2
  simp only [val] at e1 e2
  have t1 := As (hl.take k)
  have t2 := As (hm.take k)
  have t3 := Ib (hl.take k)
  have t4 := Ib (hm.take k)
  rw [List.length_take, Nat.min_eq_left (by omega)] at t3 t4
  rw [Int.mul_add] at e1 e2
  constructor
  · intro h
    have := VD (k := k) (show x - y ≤ -1 by omega)
    rw [Int.mul_sub] at this
    omega
  · intro h
    have := VD (k := k) (show y - x ≤ -1 by omega)
    rw [Int.mul_sub] at this
    omega
theorem PB {a b : Nat} : ((lim a).length < (lim b).length → a < b) := by
  intro h
  rcases Nat.lt_or_ge a b with h1 | h1
  · exact h1
  · exfalso
    have h2 := (Af (n := a) (k := (lim a).length)).1 (Nat.le_refl _)
    have := (Af (n := b) (k := (lim a).length)).2 (by omega)
    omega
section
variable {l m : List Int} (hl : LB l) (hm : LB m) (hlen : l.length = m.length) (hb : Brief l)
include hl hm hlen hb
theorem Xl : (val l = val m → loopM (fun (s : ((List Int) × ((List Int) × Int))) => AF s.1 s.2.1 s.2.2) (l, (m, (l.length : Int) - 1)) = some (.inl ())) ∧
    (val l ≠ val m → loopM (fun (s : ((List Int) × ((List Int) × Int))) => AF s.1 s.2.1 s.2.2) (l, (m, (l.length : Int) - 1)) = some (.inr (cmpZ (val l) (val m)))) := by
  unfold Brief at hb
  have key : ∀ (n : Nat), n ≤ l.length → l.drop n = m.drop n → (l = m → loopM (fun (s : ((List Int) × ((List Int) × Int))) => AF s.1 s.2.1 s.2.2) (l, (m, (n : Int) - 1)) = some (.inl ())) ∧ (l ≠ m → loopM (fun (s : ((List Int) × ((List Int) × Int))) => AF s.1 s.2.1 s.2.2) (l, (m, (n : Int) - 1)) = some (.inr (cmpZ (val l) (val m))) ∧ val l ≠ val m) := by
    intro n
    induction n with
    | zero =>
      intro _ h
      simp only [List.drop_zero] at h
      refine ⟨fun _ => Av rfl, fun hn => absurd h hn⟩
    | succ n ih =>
      intro hn h
      have k1 : n < l.length := by omega
      have k2 : n < m.length := by omega
      have hx : l[n]? = some l[n] := List.getElem?_eq_getElem k1
      have hy : m[n]? = some m[n] := List.getElem?_eq_getElem k2
      have hs : ((n + 1 : Nat) : Int) - 1 = (n : Int) := by omega
      rw [hs]
      by_cases he : l[n] = m[n]
      · have hd : l.drop n = m.drop n := by rw [List.drop_eq_getElem_cons k1, List.drop_eq_getElem_cons k2, he, h]
        have hstep : AF l m (n : Int) = some (.inl (l, (m, (n : Int) - 1))) := by
          unfold AF
          rw [decide_eq_true (show (n : Int) ≥ 0 by omega), Ao, Ao, hx, hy, wrapI (by omega) (by omega)]
          simp only [cond_true, Option.bind_some, he, bne_self_eq_false, cond_false]
        obtain ⟨i1, i2⟩ := ih (by omega) hd
        exact ⟨fun hh => by rw [Bo hstep]; exact i1 hh, fun hh => by rw [Bo hstep]; exact i2 hh⟩
      · obtain ⟨c1, c2⟩ := YP hl hm hx hy h
        have hne : l ≠ m := fun hh => he (by subst hh; rfl)
        have hc : cmpZ l[n] m[n] = cmpZ (val l) (val m) := by
          rcases Int.lt_or_gt_of_ne he with h1 | h1
          · rw [Co h1, Co (c1 h1)]
          · rw [Es h1, Es (c2 h1)]
        have hstep : AF l m (n : Int) = some (.inr (.inr (cmpZ (val l) (val m)))) := by
          unfold AF
          rw [decide_eq_true (show (n : Int) ≥ 0 by omega), Ao, Ao, hx, hy]
          have hb : (l[n] != m[n]) = true := by simpa using he
          simp only [cond_true, Option.bind_some, hb, NG, hc]
        refine ⟨fun hh => absurd hh hne, fun _ => ⟨Av hstep, ?_⟩⟩
        rcases Int.lt_or_gt_of_ne he with h1 | h1
        · have := c1 h1; omega
        · have := c2 h1; omega
  obtain ⟨h1, h2⟩ := key l.length (Nat.le_refl _) (by rw [List.drop_length, hlen, List.drop_length])
  constructor
  · intro hv
    by_cases he : l = m
    · exact h1 he
    · exact absurd hv (h2 he).2
  · intro hv
    exact (h2 fun he => hv (by rw [he])).1
theorem X5 : (val l = val m → loopM (fun (s : ((List Int) × ((List Int) × Int))) => BS s.1 s.2.1 s.2.2) (l, (m, (l.length : Int) - 1)) = some (.inl ())) ∧
    (val l ≠ val m → loopM (fun (s : ((List Int) × ((List Int) × Int))) => BS s.1 s.2.1 s.2.2) (l, (m, (l.length : Int) - 1)) = some (.inr (cmpZ (val l) (val m)))) := by
  unfold Brief at hb
  have key : ∀ (n : Nat), n ≤ l.length → l.drop n = m.drop n → (l = m → loopM (fun (s : ((List Int) × ((List Int) × Int))) => BS s.1 s.2.1 s.2.2) (l, (m, (n : Int) - 1)) = some (.inl ())) ∧ (l ≠ m → loopM (fun (s : ((List Int) × ((List Int) × Int))) => BS s.1 s.2.1 s.2.2) (l, (m, (n : Int) - 1)) = some (.inr (cmpZ (val l) (val m))) ∧ val l ≠ val m) := by
    intro n
    induction n with
    | zero =>
      intro _ h
      simp only [List.drop_zero] at h
      refine ⟨fun _ => Av rfl, fun hn => absurd h hn⟩
    | succ n ih =>
      intro hn h
      have k1 : n < l.length := by omega
      have k2 : n < m.length := by omega
      have hx : l[n]? = some l[n] := List.getElem?_eq_getElem k1
      have hy : m[n]? = some m[n] := List.getElem?_eq_getElem k2
      have hs : ((n + 1 : Nat) : Int) - 1 = (n : Int) := by omega
      rw [hs]
      by_cases he : l[n] = m[n]
      · have hd : l.drop n = m.drop n := by rw [List.drop_eq_getElem_cons k1, List.drop_eq_getElem_cons k2, he, h]
        have hstep : BS l m (n : Int) = some (.inl (l, (m, (n : Int) - 1))) := by
          unfold BS
          rw [decide_eq_true (show (n : Int) ≥ 0 by omega), Ao, Ao, hx, hy, wrapI (by omega) (by omega)]
          simp only [cond_true, Option.bind_some, he]
          rw [decide_eq_false (Int.lt_irrefl _)]
          rfl
        obtain ⟨i1, i2⟩ := ih (by omega) hd
        exact ⟨fun hh => by rw [Bo hstep]; exact i1 hh, fun hh => by rw [Bo hstep]; exact i2 hh⟩
      · obtain ⟨c1, c2⟩ := YP hl hm hx hy h
        have hne : l ≠ m := fun hh => he (by subst hh; rfl)
        have hstep : BS l m (n : Int) = some (.inr (.inr (cmpZ (val l) (val m)))) := by
          unfold BS
          rw [decide_eq_true (show (n : Int) ≥ 0 by omega), Ao, Ao, hx, hy]
          simp only [cond_true, Option.bind_some]
          rcases Int.lt_or_gt_of_ne he with h1 | h1
          · rw [decide_eq_true h1, Co (c1 h1)]; rfl
          · rw [decide_eq_false (by omega), decide_eq_true h1, Es (c2 h1)]; rfl
        refine ⟨fun hh => absurd hh hne, fun _ => ⟨Av hstep, ?_⟩⟩
        rcases Int.lt_or_gt_of_ne he with h1 | h1
        · have := c1 h1; omega
        · have := c2 h1; omega
  obtain ⟨h1, h2⟩ := key l.length (Nat.le_refl _) (by rw [List.drop_length, hlen, List.drop_length])
  constructor
  · intro hv
    by_cases he : l = m
    · exact h1 he
    · exact absurd hv (h2 he).2
  · intro hv
    exact (h2 fun he => hv (by rw [he])).1
end
theorem Gd {a b : Nat} (ha : Brief (lim a)) (hb : Brief (lim b)) : A0 (lim a) (lim b) = some (cmpZ a b) := by
  unfold A0
  have ha' := ha
  have hb' := hb
  unfold Brief at ha' hb'
  by_cases h : (lim a).length = (lim b).length
  · have e : ((((lim a).length : Nat) : Int) != (((lim b).length : Nat) : Int)) = false := by simp [h]
    rw [e, wrapI (by omega) (by omega)]
    simp only [cond_false]
    obtain ⟨h1, h2⟩ := Xl (An a) (An b) h ha
    rw [Ai, Ai] at h1 h2
    by_cases hv : (a : Int) = b
    · rw [h1 hv, hv, HC]; rfl
    · rw [h2 hv]; rfl
  · have e : ((((lim a).length : Nat) : Int) != (((lim b).length : Nat) : Int)) = true := by simp; omega
    rw [e]
    simp only [cond_true, NG, Option.bind_some]
    rcases Nat.lt_or_gt_of_ne h with h1 | h1
    · have := PB h1
      rw [Co (by omega), Co (by omega)]
    · have := PB h1
      rw [Es (by omega), Es (by omega)]
theorem LN {a b : Nat} (ha : Brief (lim a)) (hb : Brief (lim b)) : Bc (lim a) (lim b) = some (cmpZ a b) := by
  unfold Bc
  have ha' := ha
  have hb' := hb
  unfold Brief at ha' hb'
  by_cases h : (lim a).length = (lim b).length
  · have e : ((((lim a).length : Nat) : Int) != (((lim b).length : Nat) : Int)) = false := by simp [h]
    rw [e, wrapI (by omega) (by omega)]
    simp only [cond_false]
    obtain ⟨h1, h2⟩ := X5 (An a) (An b) h ha
    rw [Ai, Ai] at h1 h2
    by_cases hv : (a : Int) = b
    · rw [h1 hv, hv, HC]; rfl
    · rw [h2 hv]; rfl
  · have e : ((((lim a).length : Nat) : Int) != (((lim b).length : Nat) : Int)) = true := by simp; omega
    rw [e]
    simp only [cond_true]
    rcases Nat.lt_or_gt_of_ne h with h1 | h1
    · have := PB h1
      rw [decide_eq_true (by omega), Co (by omega)]; rfl
    · have := PB h1
      rw [decide_eq_false (by omega), Es (by omega)]; rfl
def dg (l : List Int) (k : Nat) : Int := l.getD k 0
theorem DG {l : List Int} {k : Nat} {x : Int} (h : l[k]? = some x) : dg l k = x := by unfold dg; rw [List.getD_eq_getElem?_getD, h]; rfl
theorem Fw {l : List Int} {k : Nat} (h : l.length ≤ k) : dg l k = 0 := by unfold dg; rw [List.getD_eq_getElem?_getD, List.getElem?_eq_none h]; rfl
theorem AI {l : List Int} (h : LB l) (k : Nat) : 0 ≤ dg l k ∧ dg l k < 65536 := by
  rcases Nat.lt_or_ge k l.length with hk | hk
  · rw [DG (List.getElem?_eq_getElem hk)]; exact h _ (List.getElem_mem _)
  · rw [Fw hk]; omega
theorem Au (l : List Int) (k : Nat) : val (l.take (k + 1)) = val (l.take k) + B k * dg l k := by
  rcases Nat.lt_or_ge k l.length with hk | hk
  · have he := List.getElem?_eq_getElem hk
    rw [List.take_add_one, he, DG he, Option.toList_some, FU, List.length_take, Nat.min_eq_left (by omega)]
  · rw [Fw hk, List.take_of_length_le (by omega), List.take_of_length_le hk]
    omega
theorem HH {l : List Int} (k : Nat) : BM l (k : Int) = some (dg l k) := by
  unfold BM
  rcases Nat.lt_or_ge k l.length with hk | hk
  · rw [decide_eq_true (by omega), Ao, List.getElem?_eq_getElem hk, DG (List.getElem?_eq_getElem hk)]
    rfl
  · rw [decide_eq_false (by omega), Fw hk]
    rfl
theorem app1 {l : List Int} {x : Int} (h : l.length ≤ 100000000) : appL 8 1 l [x] = some (l ++ [x]) := Yr (by simp [maxBytes]; omega) (by simp [maxBytes]; omega)
theorem U0 {a b : List Int} (ha : LB a) (hb : LB b) (na : a.length ≤ 10000000) (nb : b.length ≤ 10000000) :
    ∃ r, CH a b = some r ∧ LB r ∧ val r = val a + val b ∧ r.length ≤ max a.length b.length + 1 ∧ (r.length ≤ max a.length b.length ∨ B (max a.length b.length) ≤ val a + val b) := by
  unfold CH
  obtain ⟨r, h1, h2⟩ := Fp (f := fun (s : ((List Int) × ((List Int) × ((List Int) × (Int × Int))))) => B7 s.1 s.2.1 s.2.2.1 s.2.2.2.1 s.2.2.2.2)
    (I := fun s => ∃ (k : Nat) (out : List Int) (c : Int), s = (out, (a, (b, (c, (k : Int))))) ∧ out.length = k ∧ k ≤ max a.length b.length + 1 ∧ LB out ∧ (c = 0 ∨ c = 1) ∧ (k = max a.length b.length + 1 → c = 0 ∧ B (max a.length b.length) ≤ val a + val b) ∧ val out + B k * c = val (a.take k) + val (b.take k))
    (R := fun r => LB r ∧ val r = val a + val b ∧ r.length ≤ max a.length b.length + 1 ∧ (r.length ≤ max a.length b.length ∨ B (max a.length b.length) ≤ val a + val b)) (fun s => max a.length b.length + 2 - s.1.length) (by
      rintro s ⟨k, out, c, rfl, h1, h2, h3, h4, h4', h5⟩
      simp only
      have da := AI ha k
      have db := AI hb k
      have go : k < max a.length b.length ∨ c = 1 → ∃ c', B7 out a b c (k : Int) = some (.inl (out ++ [(dg a k + dg b k + c) % 65536], (a, (b, (c', ((k + 1 : Nat) : Int)))))) ∧ c' = (dg a k + dg b k + c) / 65536 := by
        intro hgo
        refine ⟨_, ?_, rfl⟩
        have hkk : k ≤ max a.length b.length := by rcases hgo with h | h <;> omega
        unfold B7
        have hcond : (bif decide ((k : Int) < ((a.length : Nat) : Int)) then some (Sum.inr (α := (List Int × List Int × List Int × Int × Int) ⊕ List Int) (out, (a, (b, (c, (k : Int)))))) else bif decide ((k : Int) < ((b.length : Nat) : Int)) then some (Sum.inr (out, (a, (b, (c, (k : Int)))))) else bif decide (c > 0) then some (Sum.inr (out, (a, (b, (c, (k : Int)))))) else some (Sum.inl (Sum.inr out))) = some (Sum.inr (out, (a, (b, (c, (k : Int)))))) := by
          by_cases c1 : (k : Int) < (a.length : Int)
          · rw [decide_eq_true c1]; rfl
          · by_cases c2 : (k : Int) < (b.length : Int)
            · rw [decide_eq_false c1, decide_eq_true c2]; rfl
            · have : c > 0 := by rcases hgo with h | h <;> omega
              rw [decide_eq_false c1, decide_eq_false c2, decide_eq_true this]; rfl
        rw [hcond]
        simp only [Option.bind_some, Sum.elim_inr, HH]
        rw [wrapI (n := dg a k + dg b k) (by omega) (by omega), wrapI (n := dg a k + dg b k + c) (by omega) (by omega), Int.tmod_eq_emod_of_nonneg (by omega), Int.tdiv_eq_ediv_of_nonneg (by omega), wrapI (by omega) (by omega), app1 (by omega), wrap1 (by omega)]
        rfl
      by_cases hgo : k < max a.length b.length ∨ c = 1
      · obtain ⟨c', e1, e2⟩ := go hgo
        clear go
        have hkk : k ≤ max a.length b.length := by
          rcases hgo with h | h
          · omega
          · rcases Nat.lt_or_ge (max a.length b.length) k with h6 | h6
            · have := h4' (by omega); omega
            · exact h6
        refine .inl ⟨_, e1, ⟨k + 1, _, c', rfl, by simp [h1], by omega, h3.append (LB.cons (by omega) LB.nil), by omega, ?_, ?_⟩, by simp; omega⟩
        · intro hk
          have : k = max a.length b.length := by omega
          rw [Fw (by omega), Fw (by omega)] at e2
          refine ⟨by omega, ?_⟩
          have hc1 : c = 1 := by omega
          rw [hc1, List.take_of_length_le (by omega), List.take_of_length_le (by omega), this] at h5
          have := As h3
          omega
        · rw [FU, h1, Au, Au]
          have : B (k + 1) * c' = B k * (65536 * c') := by simp only [B]; rw [Int.mul_comm 65536 (B k), Int.mul_assoc]
          rw [this]
          have hq : (dg a k + dg b k + c) % 65536 + 65536 * c' = dg a k + dg b k + c := by omega
          have : B k * ((dg a k + dg b k + c) % 65536) + B k * (65536 * c') = B k * dg a k + B k * dg b k + B k * c := by rw [← Int.mul_add, hq, Int.mul_add, Int.mul_add]
          omega
      · clear go
        have hc : c = 0 := by omega
        have hk : max a.length b.length ≤ k := by omega
        subst hc
        refine .inr ⟨out, ?_, h3, ?_, by omega, ?_⟩
        · unfold B7
          rw [decide_eq_false (by omega), decide_eq_false (by omega)]
          rfl
        · rw [List.take_of_length_le (by omega), List.take_of_length_le (by omega)] at h5
          omega
        · rcases Nat.lt_or_ge (max a.length b.length) k with h6 | h6
          · exact .inr (h4' (by omega)).2
          · left; omega) ([], (a, (b, (0, 0)))) ⟨0, [], 0, rfl, rfl, by omega, LB.nil, .inl rfl, by omega, by simp [val, B]⟩
  exact ⟨r, by rw [h1]; rfl, h2⟩
theorem XG {a b : List Int} (ha : LB a) (hb : LB b) (na : a.length ≤ 10000000) (nb : b.length ≤ 10000000) :
    ∃ r, D9 a b = some r ∧ LB r ∧ val r = val a + val b ∧ r.length ≤ max a.length b.length + 1 := by
  unfold D9
  have hM : maxL [((a.length : Nat) : Int), ((b.length : Nat) : Int)] = ((max a.length b.length : Nat) : Int) := by simp only [maxL, List.foldl]; split <;> omega
  obtain ⟨r, h1, h2⟩ := Fp (f := fun (s : ((List Int) × ((List Int) × ((List Int) × (Int × Int))))) => CS s.1 s.2.1 s.2.2.1 s.2.2.2.1 s.2.2.2.2)
    (I := fun s => ∃ (k : Nat) (out : List Int) (c : Int), s = (out, (a, (b, (c, (k : Int))))) ∧ out.length = k ∧ k ≤ max a.length b.length + 1 ∧ LB out ∧ (c = 0 ∨ c = 1) ∧ (k = max a.length b.length + 1 → c = 0) ∧ val out + B k * c = val (a.take k) + val (b.take k))
    (R := fun r => LB r ∧ val r = val a + val b ∧ r.length ≤ max a.length b.length + 1) (fun s => max a.length b.length + 2 - s.1.length) (by
      rintro s ⟨k, out, c, rfl, h1, h2, h3, h4, h4', h5⟩
      simp only
      have da := AI ha k
      have db := AI hb k
      have go : k < max a.length b.length ∨ c = 1 → ∃ c', CS out a b c (k : Int) = some (.inl (out ++ [(dg a k + dg b k + c) % 65536], (a, (b, (c', ((k + 1 : Nat) : Int)))))) ∧ c' = (dg a k + dg b k + c) / 65536 := by
        intro hgo
        refine ⟨_, ?_, rfl⟩
        have hkk : k ≤ max a.length b.length := by rcases hgo with h | h <;> omega
        unfold CS
        rw [hM]
        have hcond : (bif decide ((k : Int) < ((max a.length b.length : Nat) : Int)) then some (Sum.inr (α := (List Int × List Int × List Int × Int × Int) ⊕ List Int) (out, (a, (b, (c, (k : Int)))))) else bif decide (c > 0) then some (Sum.inr (out, (a, (b, (c, (k : Int)))))) else some (Sum.inl (Sum.inr out))) = some (Sum.inr (out, (a, (b, (c, (k : Int)))))) := by
          by_cases c1 : (k : Int) < ((max a.length b.length : Nat) : Int)
          · rw [decide_eq_true c1]; rfl
          · have : c > 0 := by rcases hgo with h | h <;> omega
            rw [decide_eq_false c1, decide_eq_true this]; rfl
        rw [hcond]
        simp only [Option.bind_some, Sum.elim_inr]
        have s1 : (bif decide ((k : Int) < ((a.length : Nat) : Int)) then (getI a (k : Int)).bind fun x3 => some (Sum.inr (α := (List Int × List Int × List Int × Int × Int) ⊕ List Int) (out, (a, (b, (IntKind.wrap .i64 (c + x3), (k : Int)))))) else some (Sum.inr (out, (a, (b, (c, (k : Int))))))) = some (Sum.inr (out, (a, (b, (c + dg a k, (k : Int)))))) := by
          rcases Nat.lt_or_ge k a.length with hk | hk
          · rw [decide_eq_true (by omega), Ao, List.getElem?_eq_getElem hk, ← DG (List.getElem?_eq_getElem hk)]
            simp only [cond_true, Option.bind_some]
            rw [wrapI (by omega) (by omega)]
          · rw [decide_eq_false (by omega), Fw hk]
            simp
        rw [s1]
        simp only [Option.bind_some, Sum.elim_inr]
        have s2 : (bif decide ((k : Int) < ((b.length : Nat) : Int)) then (getI b (k : Int)).bind fun x3 => some (Sum.inr (α := (List Int × List Int × List Int × Int × Int) ⊕ List Int) (out, (a, (b, (IntKind.wrap .i64 (c + dg a k + x3), (k : Int)))))) else some (Sum.inr (out, (a, (b, (c + dg a k, (k : Int))))))) = some (Sum.inr (out, (a, (b, (dg a k + dg b k + c, (k : Int)))))) := by
          rcases Nat.lt_or_ge k b.length with hk | hk
          · rw [decide_eq_true (by omega), Ao, List.getElem?_eq_getElem hk, ← DG (List.getElem?_eq_getElem hk)]
            simp only [cond_true, Option.bind_some]
            rw [wrapI (by omega) (by omega), show c + dg a k + dg b k = dg a k + dg b k + c by omega]
          · rw [decide_eq_false (by omega), Fw hk, show dg a k + 0 + c = c + dg a k by omega]
            rfl
        rw [s2]
        simp only [Option.bind_some, Sum.elim_inr]
        rw [Int.tmod_eq_emod_of_nonneg (by omega), Int.tdiv_eq_ediv_of_nonneg (by omega), wrapI (by omega) (by omega), app1 (by omega), wrap1 (by omega)]
        rfl
      by_cases hgo : k < max a.length b.length ∨ c = 1
      · obtain ⟨c', e1, e2⟩ := go hgo
        clear go
        have hkk : k ≤ max a.length b.length := by
          rcases hgo with h | h
          · omega
          · rcases Nat.lt_or_ge (max a.length b.length) k with h6 | h6
            · have := h4' (by omega); omega
            · exact h6
        refine .inl ⟨_, e1, ⟨k + 1, _, c', rfl, by simp [h1], by omega, h3.append (LB.cons (by omega) LB.nil), by omega, ?_, ?_⟩, by simp; omega⟩
        · intro hk
          have : k = max a.length b.length := by omega
          rw [Fw (by omega), Fw (by omega)] at e2
          omega
        · rw [FU, h1, Au, Au]
          have : B (k + 1) * c' = B k * (65536 * c') := by simp only [B]; rw [Int.mul_comm 65536 (B k), Int.mul_assoc]
          rw [this]
          have hq : (dg a k + dg b k + c) % 65536 + 65536 * c' = dg a k + dg b k + c := by omega
          have : B k * ((dg a k + dg b k + c) % 65536) + B k * (65536 * c') = B k * dg a k + B k * dg b k + B k * c := by rw [← Int.mul_add, hq, Int.mul_add, Int.mul_add]
          omega
      · clear go
        have hc : c = 0 := by omega
        have hk : max a.length b.length ≤ k := by omega
        subst hc
        refine .inr ⟨out, ?_, h3, ?_, by omega⟩
        · unfold CS
          rw [hM, decide_eq_false (by omega)]
          rfl
        · rw [List.take_of_length_le (by omega), List.take_of_length_le (by omega)] at h5
          omega) ([], (a, (b, (0, 0)))) ⟨0, [], 0, rfl, rfl, by omega, LB.nil, .inl rfl, by omega, by simp [val, B]⟩
  exact ⟨r, by rw [h1]; rfl, h2⟩
end Go.Proofs.YtgfchmagglhohaaGreat.Ev

end
section
namespace Go.Proofs.YtgfchmagglhohaaGreat.Ev
open Go
set_option linter.unusedVariables false
set_option linter.unusedSimpArgs false
set_option linter.unusedSectionVars false
theorem Ow {v : Int} (h : -65536 ≤ v ∧ v < 65536) : 0 ≤ (if v < 0 then v + 65536 else v) ∧ (if v < 0 then v + 65536 else v) < 65536 ∧ (if v < 0 then v + 65536 else v) - 65536 * (if v < 0 then 1 else 0) = v ∧ ((if v < 0 then 1 else 0 : Int) = 0 ∨ (if v < 0 then 1 else 0 : Int) = 1) := by
  split <;> omega
theorem RA {k : Nat} {A Bv out d br br' v x y : Int} (h1 : out - B k * br = A - Bv) (h2 : d - 65536 * br' = v) (h3 : v = x - y - br) : out + B k * d - B (k + 1) * br' = A + B k * x - (Bv + B k * y) := by
  have e1 : B (k + 1) * br' = B k * (65536 * br') := by simp only [B]; rw [Int.mul_comm 65536 (B k), Int.mul_assoc]
  have e2 : B k * d - B k * (65536 * br') = B k * x - B k * y - B k * br := by rw [← Int.mul_sub, h2, h3, Int.mul_sub, Int.mul_sub]
  rw [e1]
  omega
theorem L8 {a b : List Int} (ha : LB a) (hb : LB b) (hlen : b.length ≤ a.length) (na : a.length ≤ 10000000) (hle : val b ≤ val a) :
    B8 a b = some (lim (val a - val b).toNat) := by
  unfold B8
  obtain ⟨r, h1, h2⟩ := Fp (f := fun (s : ((List Int) × ((List Int) × ((List Int) × (Int × (Int × Int)))))) => C2 s.1 s.2.1 s.2.2.1 s.2.2.2.1 s.2.2.2.2.1 s.2.2.2.2.2)
    (I := fun s => ∃ (k : Nat) (out : List Int) (c : Int), s = (out, (a, (b, (c, ((a.length : Int), (k : Int)))))) ∧ out.length = k ∧ k ≤ a.length ∧ LB out ∧ (c = 0 ∨ c = 1) ∧ val out - B k * c = val (a.take k) - val (b.take k))
    (R := fun r => LB r ∧ val r = val a - val b ∧ r.length = a.length) (fun s => a.length + 1 - s.1.length) (by
      rintro s ⟨k, out, c, rfl, h1, h2, h3, h4, h5⟩
      simp only
      by_cases hk : k < a.length
      · have da := AI ha k
        have db := AI hb k
        have hg := List.getElem?_eq_getElem hk
        have hx : a[k] = dg a k := (DG hg).symm
        have hv := Ow (v := dg a k - dg b k - c) (by omega)
        refine .inl ⟨(out ++ [if dg a k - dg b k - c < 0 then dg a k - dg b k - c + 65536 else dg a k - dg b k - c], (a, (b, ((if dg a k - dg b k - c < 0 then 1 else 0), ((a.length : Int), ((k + 1 : Nat) : Int)))))), ?_, ⟨k + 1, _, _, rfl, by simp [h1], by omega, h3.append (LB.cons (by omega) LB.nil), hv.2.2.2, ?_⟩, by simp; omega⟩
        · unfold C2
          rw [decide_eq_true (by omega), Ao, hg]
          simp only [cond_true, Option.bind_some, HH, hx]
          rw [wrapI (n := dg a k - dg b k) (by omega) (by omega), wrapI (n := dg a k - dg b k - c) (by omega) (by omega), wrapI (n := dg a k - dg b k - c + 65536) (by omega) (by omega), wrap1 (by omega)]
          by_cases hneg : dg a k - dg b k - c < 0
          · rw [decide_eq_true hneg, if_pos hneg, if_pos hneg]
            simp only [cond_true]
            rw [app1 (by omega)]
            rfl
          · rw [decide_eq_false hneg, if_neg hneg, if_neg hneg]
            simp only [cond_false]
            rw [app1 (by omega)]
            rfl
        · rw [FU, h1, Au, Au]
          exact RA h5 hv.2.2.1 rfl
      · have hk' : k = a.length := by omega
        refine .inr ⟨out, ?_, h3, ?_, by omega⟩
        · unfold C2
          rw [decide_eq_false (by omega)]
          rfl
        · rw [List.take_of_length_le (by omega), List.take_of_length_le (by omega)] at h5
          have b1 := Ib h3
          have b2 := As h3
          rw [h1] at b1
          rcases h4 with h4 | h4
          · subst h4; omega
          · subst h4; omega) ([], (a, (b, (0, ((a.length : Int), 0))))) ⟨0, [], 0, rfl, rfl, by omega, LB.nil, .inl rfl, by simp [val, B]⟩
  rw [h1]
  simp only [Option.bind_some]
  rw [D8 (by unfold Brief; omega)]
  simp only [Option.bind_some]
  rw [Bg h2.1, h2.2.1]
theorem Rs {a b : List Int} (ha : LB a) (hb : LB b) (hlen : b.length ≤ a.length) (na : a.length ≤ 10000000) (hle : val b ≤ val a) :
    Da a b = some (lim (val a - val b).toNat) := by
  unfold Da
  rw [S9 (by unfold Brief; omega)]
  simp only [Option.bind_some]
  obtain ⟨r, h1, h2⟩ := Fp (f := fun (s : ((List Int) × ((List Int) × (Int × (Int × Int))))) => Ek s.1 s.2.1 s.2.2.1 s.2.2.2.1 s.2.2.2.2)
    (I := fun s => ∃ (k : Nat) (out : List Int) (c : Int), s = (out, (b, (c, ((a.length : Int), (k : Int))))) ∧ out.length = a.length ∧ k ≤ a.length ∧ LB (out.take k) ∧ out.drop k = a.drop k ∧ (c = 0 ∨ c = 1) ∧ val (out.take k) - B k * c = val (a.take k) - val (b.take k))
    (R := fun r => LB r ∧ val r = val a - val b ∧ r.length = a.length) (fun s => (a.length + 1 - s.2.2.2.2).toNat) (by
      rintro s ⟨k, out, c, rfl, h1, h2, h3, h3', h4, h5⟩
      simp only
      by_cases hk : k < a.length
      · have da := AI ha k
        have db := AI hb k
        have hg := List.getElem?_eq_getElem hk
        have hx : a[k] = dg a k := (DG hg).symm
        have hko : k < out.length := by omega
        have hox : out[k]? = some (dg a k) := by
          have e1 : out.drop k = out[k] :: out.drop (k + 1) := List.drop_eq_getElem_cons hko
          have e2 : a.drop k = a[k] :: a.drop (k + 1) := List.drop_eq_getElem_cons hk
          rw [List.getElem?_eq_getElem hko]
          rw [e1, e2] at h3'
          rw [(List.cons.inj h3').1, hx]
        have hv := Ow (v := dg a k - dg b k - c) (by omega)
        have hset : ∀ y : Int, (out.set k y)[k]? = some y := fun y => by rw [List.getElem?_set_self hko]
        have hdg : dg (out.set k (if dg a k - dg b k - c < 0 then dg a k - dg b k - c + 65536 else dg a k - dg b k - c)) k = (if dg a k - dg b k - c < 0 then dg a k - dg b k - c + 65536 else dg a k - dg b k - c) := DG (hset _)
        have htk : (out.set k (if dg a k - dg b k - c < 0 then dg a k - dg b k - c + 65536 else dg a k - dg b k - c)).take k = out.take k := List.take_set_of_le (Nat.le_refl _)
        refine .inl ⟨(out.set k (if dg a k - dg b k - c < 0 then dg a k - dg b k - c + 65536 else dg a k - dg b k - c), (b, ((if dg a k - dg b k - c < 0 then 1 else 0), ((a.length : Int), ((k + 1 : Nat) : Int))))), ?_, ⟨k + 1, _, _, rfl, by simp [h1], by omega, ?_, ?_, hv.2.2.2, ?_⟩, by simp; omega⟩
        · unfold Ek getN
          have i1 : idxI (k : Int) out.length = some k := AP hko
          have i2 : ∀ y : Int, idxI (k : Int) (out.set k y).length = some k := fun y => by rw [List.length_set]; exact i1
          rw [decide_eq_true (by omega)]
          simp only [cond_true, i1, Option.bind_some, hox, i2, hset, Ao]
          have hw1 := wrap1 (show k < 4611686018427387904 by omega)
          rw [wrapI (n := dg a k - c) (by omega) (by omega)]
          have s1 : (bif decide ((k : Int) < ((b.length : Nat) : Int)) then (b[k]?).bind fun x6 => some (Sum.inr (α := (List Int × List Int × Int × Int × Int) ⊕ List Int) ((out.set k (dg a k - c)).set k (IntKind.wrap .i64 (dg a k - c - x6)), (b, ((k : Int), ((a.length : Int), (k : Int)))))) else some (Sum.inr (out.set k (dg a k - c), (b, ((k : Int), ((a.length : Int), (k : Int))))))) = some (Sum.inr (out.set k (dg a k - dg b k - c), (b, ((k : Int), ((a.length : Int), (k : Int)))))) := by
            rcases Nat.lt_or_ge k b.length with hkb | hkb
            · rw [decide_eq_true (by omega), List.getElem?_eq_getElem hkb, ← DG (List.getElem?_eq_getElem hkb)]
              simp only [cond_true, Option.bind_some, List.set_set]
              rw [wrapI (by omega) (by omega), show dg a k - c - dg b k = dg a k - dg b k - c by omega]
            · rw [decide_eq_false (by omega), Fw hkb, show dg a k - 0 - c = dg a k - c by omega]
              rfl
          rw [s1]
          simp only [Option.bind_some, Sum.elim_inr, i2, hset, List.set_set, hw1]
          by_cases hneg : dg a k - dg b k - c < 0
          · rw [decide_eq_true hneg, if_pos hneg, if_pos hneg, wrapI (by omega) (by omega)]
            rfl
          · rw [decide_eq_false hneg, if_neg hneg, if_neg hneg]
            rfl
        · rw [List.take_add_one, htk, hset]
          exact h3.append (LB.cons (by omega) LB.nil)
        · rw [List.drop_set_of_lt (by omega)]
          have : out.drop (k + 1) = (out.drop k).drop 1 := by rw [List.drop_drop]
          rw [this, h3', List.drop_drop]
        · rw [Au (out.set k _), Au a, Au b, htk, hdg]
          exact RA h5 hv.2.2.1 rfl
      · have hk' : k = a.length := by omega
        refine .inr ⟨out, ?_, ?_, ?_, h1⟩
        · unfold Ek
          rw [decide_eq_false (by omega)]
          rfl
        · rw [List.take_of_length_le (by omega)] at h3; exact h3
        · rw [List.take_of_length_le (by omega)] at h3 h5
          rw [List.take_of_length_le (by omega), List.take_of_length_le (by omega)] at h5
          have b1 := Ib h3
          have b2 := As h3
          rw [h1, ← hk'] at b1
          rcases h4 with h4 | h4
          · subst h4; omega
          · subst h4; omega) (a, (b, (0, ((a.length : Int), 0)))) ⟨0, a, 0, rfl, rfl, by omega, by rw [List.take_zero]; exact LB.nil, rfl, .inl rfl, by simp [val, B]⟩
  rw [h1]
  simp only [Option.bind_some]
  rw [TT (by unfold Brief; omega)]
  simp only [Option.bind_some]
  rw [Bg h2.1, h2.2.1]
end Go.Proofs.YtgfchmagglhohaaGreat.Ev

end
section
namespace Go.Proofs.YtgfchmagglhohaaGreat.Ev
open Go
set_option linter.unusedVariables false
set_option linter.unusedSimpArgs false
set_option linter.unusedSectionVars false
theorem D7 {n k : Nat} (h : (n : Int) < B k) (hk : k ≤ 1000000) : (lim n).length ≤ 1000000 := Nat.le_trans (Af.2 h) hk
theorem N2 {x y : Int} {k : Nat} (hk : k ≤ 1000000) (hx : (x.natAbs : Int) < B k) (hy : (y.natAbs : Int) < B k) : CX (big x) (big y) = some (big (x + y)) := by
  have lx := D7 hx hk
  have ly := D7 hy hk
  unfold CX big
  simp only
  by_cases hs : decide (x < 0) = decide (y < 0)
  · rw [hs, beq_self_eq_true]
    obtain ⟨r, e1, e2, e3, e4⟩ := XG (An x.natAbs) (An y.natAbs) (by omega) (by omega)
    rw [Ai, Ai] at e3
    simp only [cond_true, e1, Option.bind_some]
    rw [Ep e2 (by unfold Brief; omega)]
    simp only [Option.bind_some]
    have hv : (val r).toNat = (x + y).natAbs := by
      by_cases h1 : x < 0
      · have : y < 0 := by simpa [h1] using hs
        omega
      · have : ¬ y < 0 := by simpa [h1] using hs
        omega
    rw [hv]
    congr 2
    by_cases h2 : y < 0
    · have h1 : x < 0 := by simpa [h2] using hs
      rw [decide_eq_true h2, decide_eq_true (show x + y < 0 by omega), decide_eq_true (show (x + y).natAbs ≠ 0 by omega)]; rfl
    · have h1 : ¬ x < 0 := by simpa [h2] using hs
      rw [decide_eq_false h2, decide_eq_false (show ¬ x + y < 0 by omega)]; rfl
  · have hb : (decide (x < 0) == decide (y < 0)) = false := by simpa using hs
    rw [hb]
    simp only [cond_false]
    rw [Gd (by unfold Brief; omega) (by unfold Brief; omega)]
    simp only [Option.bind_some]
    have hxy : (x < 0 ∧ ¬ y < 0) ∨ (¬ x < 0 ∧ y < 0) := by
      by_cases h1 : x < 0 <;> by_cases h2 : y < 0 <;> simp [h1, h2] at hs ⊢
    rcases Nat.lt_or_ge x.natAbs y.natAbs with hlt | hge
    · rw [Co (by omega), decide_eq_false (by omega)]
      simp only [cond_false]
      have hl : (lim x.natAbs).length ≤ (lim y.natAbs).length := Af.2 (by have := Af.1 (Nat.le_refl (lim y.natAbs).length); omega)
      rw [Rs (An _) (An _) hl (by omega) (by rw [Ai, Ai]; omega)]
      simp only [Option.bind_some, Ai]
      have e : ((y.natAbs : Int) - (x.natAbs : Int)).toNat = (x + y).natAbs := by omega
      rw [e, Ep (An _) (by
        have : (lim (x + y).natAbs).length ≤ (lim y.natAbs).length := Af.2 (by have := Af.1 (Nat.le_refl (lim y.natAbs).length); omega)
        unfold Brief; omega)]
      simp only [Option.bind_some, Ai, Int.toNat_natCast]
      congr 2
      by_cases h2 : y < 0
      · rw [decide_eq_true h2, decide_eq_true (show x + y < 0 by omega), decide_eq_true (show (x + y).natAbs ≠ 0 by omega)]; rfl
      · rw [decide_eq_false h2, decide_eq_false (show ¬ x + y < 0 by omega)]; rfl
    · have hc : cmpZ (x.natAbs : Int) (y.natAbs : Int) ≥ 0 := by unfold cmpZ; rw [if_neg (by omega)]; split <;> omega
      rw [decide_eq_true hc]
      simp only [cond_true]
      have hl : (lim y.natAbs).length ≤ (lim x.natAbs).length := Af.2 (by have := Af.1 (Nat.le_refl (lim x.natAbs).length); omega)
      rw [Rs (An _) (An _) hl (by omega) (by rw [Ai, Ai]; omega)]
      simp only [Option.bind_some, Ai]
      have e : ((x.natAbs : Int) - (y.natAbs : Int)).toNat = (x + y).natAbs := by omega
      rw [e, Ep (An _) (by
        have : (lim (x + y).natAbs).length ≤ (lim x.natAbs).length := Af.2 (by have := Af.1 (Nat.le_refl (lim x.natAbs).length); omega)
        unfold Brief; omega)]
      simp only [Option.bind_some, Ai, Int.toNat_natCast]
      congr 2
      by_cases h2 : x < 0
      · rw [decide_eq_true h2]
        by_cases h3 : x + y < 0
        · rw [decide_eq_true h3, decide_eq_true (show (x + y).natAbs ≠ 0 by omega)]; rfl
        · rw [decide_eq_false h3, decide_eq_false (show ¬ (x + y).natAbs ≠ 0 by omega)]; rfl
      · rw [decide_eq_false h2, decide_eq_false (show ¬ x + y < 0 by omega)]; rfl
theorem Lh {o x y c : Int} (ho : 0 ≤ o ∧ o < 65536) (hx : 0 ≤ x ∧ x < 65536) (hy : 0 ≤ y ∧ y < 65536) (hc : 0 ≤ c ∧ c < 65536) :
    (0 ≤ x * y ∧ x * y ≤ 4294836225) ∧ 0 ≤ (o + x * y + c) / 65536 ∧ (o + x * y + c) / 65536 < 65536 ∧ 0 ≤ (o + x * y + c) % 65536 ∧ (o + x * y + c) % 65536 < 65536 ∧ (o + x * y + c) % 65536 + 65536 * ((o + x * y + c) / 65536) = o + x * y + c := by
  have h1 : 0 ≤ x * y := Int.mul_nonneg hx.1 hy.1
  have h2 : x * y ≤ 65535 * 65535 := Int.le_trans (Int.mul_le_mul_of_nonneg_left (show y ≤ 65535 by omega) hx.1) (Int.mul_le_mul_of_nonneg_right (show x ≤ 65535 by omega) (by omega))
  omega
theorem Vq {out : List Int} {p : Nat} {o d c c' t V : Int} (ho : out[p]? = some o) (hd : d + 65536 * c' = o + t + c) (hV : val out + B p * c = V) : val (out.set p d) + B (p + 1) * c' = V + B p * t := by
  rw [DE ho]
  have e1 : B (p + 1) * c' = B p * (65536 * c') := by simp only [B]; rw [Int.mul_comm 65536 (B p), Int.mul_assoc]
  have e2 : B p * d + B p * (65536 * c') = B p * o + B p * t + B p * c := by rw [← Int.mul_add, hd, Int.mul_add, Int.mul_add]
  rw [e1, Int.mul_sub]
  omega
theorem Ag {l : List Int} {k : Nat} (h : k < l.length) : l[k]? = some (dg l k) := by rw [List.getElem?_eq_getElem h, DG (List.getElem?_eq_getElem h)]
theorem A8 {l : List Int} {k j : Nat} {x : Int} (h : k ≠ j) : dg (l.set k x) j = dg l j := by
  unfold dg
  rw [List.getD_eq_getElem?_getD, List.getD_eq_getElem?_getD, List.getElem?_set_ne h]
structure Row (out0 out : List Int) (i k : Nat) (c x : Int) (b : List Int) : Prop where
  len : out.length = out0.length
  lb : LB out
  hi : ∀ j, i + k ≤ j → dg out j = dg out0 j
  c0 : 0 ≤ c
  c1 : c < 65536
  v : val out + B (i + k) * c = val out0 + B i * (x * val (b.take k))
theorem Row.start {out0 : List Int} (h : LB out0) (i : Nat) (x : Int) (b : List Int) : Row out0 out0 i 0 0 x b := ⟨rfl, h, fun _ _ => rfl, by omega, by omega, by simp [val]⟩
theorem Row.next {out0 out : List Int} {i k : Nat} {c x : Int} {b : List Int} (h : Row out0 out i k c x b) (hb : LB b) (hx : 0 ≤ x ∧ x < 65536) (hk : i + k < out.length) :
    Row out0 (out.set (i + k) ((dg out (i + k) + x * dg b k + c) % 65536)) i (k + 1) ((dg out (i + k) + x * dg b k + c) / 65536) x b := by
  have hs := Lh (AI h.lb (i + k)) hx (AI hb k) ⟨h.c0, h.c1⟩
  refine ⟨by rw [List.length_set]; exact h.len, h.lb.set ⟨hs.2.2.2.1, hs.2.2.2.2.1⟩, fun j hj => by rw [A8 (by omega)]; exact h.hi j (by omega), hs.2.1, hs.2.2.1, ?_⟩
  have := Vq (Ag hk) hs.2.2.2.2.2 h.v
  rw [show i + (k + 1) = i + k + 1 by omega, this, Au, Int.mul_add, Int.mul_add]
  have : B (i + k) * (x * dg b k) = B i * (x * (B k * dg b k)) := by rw [KL]; grind
  omega
theorem Ab0 {a0 a1 a2 : Bool × List Int} {out0 : List Int} {i : Nat} {x : Int} (hx : 0 ≤ x ∧ x < 65536) (h0 : LB out0) (hb : LB a1.2) (hlen : i + a1.2.length ≤ out0.length) (ho : out0.length ≤ 10000000) (s7 : List Int) (s8 s9 : Int) :
    ∃ out c, loopM (fun (s : ((Bool × (List Int)) × ((Bool × (List Int)) × ((Bool × (List Int)) × ((List Int) × (Int × (Int × (Int × ((List Int) × (Int × (Int × ((List Int) × (Int × Int))))))))))))) => Dx s.1 s.2.1 s.2.2.1 s.2.2.2.1 s.2.2.2.2.1 s.2.2.2.2.2.1 s.2.2.2.2.2.2.1 s.2.2.2.2.2.2.2.1 s.2.2.2.2.2.2.2.2.1 s.2.2.2.2.2.2.2.2.2.1 s.2.2.2.2.2.2.2.2.2.2.1 s.2.2.2.2.2.2.2.2.2.2.2.1 s.2.2.2.2.2.2.2.2.2.2.2.2) ((a0.1, a0.2), ((a1.1, a1.2), ((a2.1, a2.2), (out0, ((i : Int), (x, ((0 : Int), (s7, (s8, (s9, (a1.2, ((((List.length a1.2) : Nat) : Int), (0 : Int))))))))))))) =
      some ((a0.1, a0.2), ((a1.1, a1.2), ((a2.1, a2.2), (out, ((i : Int), (c, (s7, (s8, s9)))))))) ∧ Row out0 out i a1.2.length c x a1.2 := by
  obtain ⟨⟨out, c⟩, h1, h2⟩ := FK (body := fun (s : ((Bool × (List Int)) × ((Bool × (List Int)) × ((Bool × (List Int)) × ((List Int) × (Int × (Int × (Int × ((List Int) × (Int × (Int × ((List Int) × (Int × Int))))))))))))) => Dx s.1 s.2.1 s.2.2.1 s.2.2.2.1 s.2.2.2.2.1 s.2.2.2.2.2.1 s.2.2.2.2.2.2.1 s.2.2.2.2.2.2.2.1 s.2.2.2.2.2.2.2.2.1 s.2.2.2.2.2.2.2.2.2.1 s.2.2.2.2.2.2.2.2.2.2.1 s.2.2.2.2.2.2.2.2.2.2.2.1 s.2.2.2.2.2.2.2.2.2.2.2.2)
    (st := fun k (b : List Int × Int) => ((a0.1, a0.2), ((a1.1, a1.2), ((a2.1, a2.2), (b.1, ((i : Int), (x, (b.2, (s7, (s8, (s9, (a1.2, ((((List.length a1.2) : Nat) : Int), (k : Int))))))))))))))
    (fin := fun b => ((a0.1, a0.2), ((a1.1, a1.2), ((a2.1, a2.2), (b.1, ((i : Int), (b.2, (s7, (s8, s9)))))))))
    (I := fun k b => Row out0 b.1 i k b.2 x a1.2) (e := a1.2.length)
    (by
      rintro k ⟨out, c⟩ hk hI
      simp only at hI
      have hl := hI.len
      have hp : i + k < out.length := by omega
      have hs := Lh (AI hI.lb (i + k)) hx (AI hb k) ⟨hI.c0, hI.c1⟩
      have dl := AI hI.lb (i + k)
      have c0 := hI.c0
      have c1 := hI.c1
      refine ⟨(_, _), ?_, hI.next hb hx hp⟩
      unfold Dx getN
      dsimp only
      have i1 : idxI ((i : Int) + (k : Int)) out.length = some (i + k) := by rw [show (i : Int) + (k : Int) = ((i + k : Nat) : Int) by omega]; exact AP hp
      rw [decide_eq_true (by omega), wrapI (n := (i : Int) + (k : Int)) (by omega) (by omega)]
      simp only [cond_true, Ao, Ag hk, Option.bind_some, i1, Ag hp]
      rw [wrapI (n := x * dg a1.2 k) (by omega) (by omega), wrapI (n := dg out (i + k) + x * dg a1.2 k) (by omega) (by omega), wrapI (n := c + (dg out (i + k) + x * dg a1.2 k)) (by omega) (by omega), show c + (dg out (i + k) + x * dg a1.2 k) = dg out (i + k) + x * dg a1.2 k + c by omega,
        Int.tmod_eq_emod_of_nonneg (by omega), Int.tdiv_eq_ediv_of_nonneg (by omega), wrapI (n := (dg out (i + k) + x * dg a1.2 k + c) / 65536) (by omega) (by omega), wrap1 (by omega)])
    (by
      rintro ⟨out, c⟩ _
      unfold Dx
      dsimp only
      rw [decide_eq_false (by omega)]
      rfl) 0 (out0, 0) (by omega) (Row.start h0 i x _)
  exact ⟨out, c, h1, h2⟩
theorem BZ {x y : Int} {k : Nat} (hk : k ≤ 100000) (hx : (x.natAbs : Int) < B k) (hy : (y.natAbs : Int) < B k) : ∃ r, AM (big x) (big y) = some r ∧ (r.2, r.1) = big (x * y) := by
  have lx := Nat.le_trans (Af.2 hx) hk
  have ly := Nat.le_trans (Af.2 hy) hk
  unfold AM
  generalize ha : lim x.natAbs = a at lx
  generalize hb' : lim y.natAbs = b at ly
  have la : LB a := ha ▸ An _
  have lb : LB b := hb' ▸ An _
  have e1 : (big x).2 = a := ha
  have e2 : (big y).2 = b := hb'
  rw [e1, e2, wrapI (by omega) (by omega), show ((a.length : Nat) : Int) + ((b.length : Nat) : Int) = ((a.length + b.length : Nat) : Int) by omega, Fm (by unfold maxBytes; omega) (by unfold maxBytes; omega)]
  simp only [Option.bind_some]
  obtain ⟨out, h1, h2⟩ := FK (body := fun (s : ((Bool × (List Int)) × ((Bool × (List Int)) × ((Bool × (List Int)) × ((List Int) × ((List Int) × (Int × Int))))))) => E9 s.1 s.2.1 s.2.2.1 s.2.2.2.1 s.2.2.2.2.1 s.2.2.2.2.2.1 s.2.2.2.2.2.2)
    (st := fun i (o : List Int) => (((big x).1, a), (((big y).1, b), ((false, ([] : List Int)), (o, (a, (((a.length : Nat) : Int), (i : Int))))))))
    (fin := fun o => (((big x).1, a), (((big y).1, b), ((false, ([] : List Int)), o))))
    (I := fun i o => o.length = a.length + b.length ∧ LB o ∧ (∀ j, i + b.length ≤ j → dg o j = 0) ∧ val o = val (a.take i) * val b) (e := a.length)
    (by
      rintro i o hi ⟨h1, h2, h3, h4⟩
      have hd := AI la i
      obtain ⟨o1, c, q1, q2⟩ := Ab0 (a0 := ((big x).1, a)) (a1 := ((big y).1, b)) (a2 := (false, [])) hd h2 lb (show i + b.length ≤ o.length by omega) (show o.length ≤ 10000000 by omega) a ((a.length : Nat) : Int) (i : Int)
      simp only at q1 q2
      have hl1 := q2.len
      have hp : i + b.length < o1.length := by omega
      have hz : dg o1 (i + b.length) = 0 := by rw [q2.hi _ (Nat.le_refl _), h3 _ (by omega)]
      have c0 := q2.c0
      have c1 := q2.c1
      refine ⟨o1.set (i + b.length) c, ?_, by rw [List.length_set]; omega, q2.lb.set ⟨c0, c1⟩, fun j hj => ?_, ?_⟩
      · unfold E9 getN
        dsimp only
        rw [decide_eq_true (by omega), Ao, Ag hi]
        simp only [cond_true, Option.bind_some]
        rw [q1]
        simp only [Option.bind_some]
        have i1 : idxI ((i : Int) + ((b.length : Nat) : Int)) o1.length = some (i + b.length) := by rw [show (i : Int) + ((b.length : Nat) : Int) = ((i + b.length : Nat) : Int) by omega]; exact AP hp
        rw [wrapI (n := (i : Int) + ((b.length : Nat) : Int)) (by omega) (by omega), i1]
        simp only [Option.bind_some, Ag hp, hz]
        rw [wrapI (n := 0 + c) (by omega) (by omega), wrap1 (by omega), Int.zero_add]
      · rw [A8 (by omega), q2.hi j (by omega), h3 j (by omega)]
      · rw [DE (Ag hp), hz, Int.sub_zero]
        have hv := q2.v
        rw [List.take_length] at hv
        rw [Au, Int.add_mul, ← h4]
        have : B i * dg a i * val b = B i * (dg a i * val b) := Int.mul_assoc ..
        omega)
    (by
      rintro o _
      unfold E9
      dsimp only
      rw [decide_eq_false (by omega)]
      rfl) 0 (List.replicate (a.length + b.length) 0) (by omega) ⟨by simp, LB.zeros _, fun j _ => by
        unfold dg; rw [List.getD_eq_getElem?_getD, List.getElem?_replicate]; split <;> rfl, by rw [Cv]; simp [val]⟩
  rw [show ((0 : Nat) : Int) = 0 from rfl] at h1
  rw [h1]
  obtain ⟨g1, g2, g3, g4⟩ := h2
  rw [List.take_length] at g4
  simp only [Option.bind_some]
  rw [Ep g2 (by unfold Brief; omega)]
  simp only [Option.bind_some]
  refine ⟨_, rfl, ?_⟩
  have hv : (val out).toNat = (x * y).natAbs := by rw [g4, ← ha, ← hb', Ai, Ai, Int.natAbs_mul]; omega
  rw [hv]
  unfold big
  congr 1
  by_cases hx0 : x = 0
  · subst hx0; simp
  · by_cases hy0 : y = 0
    · subst hy0; simp
    · have hne : (x * y).natAbs ≠ 0 := by
        rw [Int.natAbs_mul]
        intro h
        rcases Nat.mul_eq_zero.1 h with h | h <;> omega
      rw [decide_eq_true hne]
      by_cases h1 : x < 0
      · by_cases h2 : y < 0
        · have := Int.mul_pos_of_neg_of_neg h1 h2
          rw [decide_eq_true h1, decide_eq_true h2, decide_eq_false (by omega)]; rfl
        · have := Int.mul_neg_of_neg_of_pos h1 (show 0 < y by omega)
          rw [decide_eq_true h1, decide_eq_false h2, decide_eq_true (by omega)]; rfl
      · by_cases h2 : y < 0
        · have := Int.mul_neg_of_pos_of_neg (show 0 < x by omega) h2
          rw [decide_eq_false h1, decide_eq_true h2, decide_eq_true (by omega)]; rfl
        · have := Int.mul_pos (show 0 < x by omega) (show 0 < y by omega)
          rw [decide_eq_false h1, decide_eq_false h2, decide_eq_false (by omega)]; rfl
end Go.Proofs.YtgfchmagglhohaaGreat.Ev

end
section
namespace Go.Proofs.YtgfchmagglhohaaGreat.Ev
open Go
set_option linter.unusedVariables false
set_option linter.unusedSimpArgs false
set_option linter.unusedSectionVars false
theorem ZX {out0 b : List Int} {i : Nat} {x : Int} (hx : 0 ≤ x ∧ x < 65536) (h0 : LB out0) (hb : LB b) (hlen : i + b.length < out0.length) (hz : ∀ j, i + b.length ≤ j → dg out0 j = 0) (ho : out0.length ≤ 10000000) (s6 : List Int) (s7 s8 : Int) :
    ∃ out, loopM (fun (s : ((List Int) × ((List Int) × (Int × (Int × (Int × (Int × ((List Int) × (Int × Int))))))))) => Ca s.1 s.2.1 s.2.2.1 s.2.2.2.1 s.2.2.2.2.1 s.2.2.2.2.2.1 s.2.2.2.2.2.2.1 s.2.2.2.2.2.2.2.1 s.2.2.2.2.2.2.2.2) (out0, (b, ((i : Int), (x, ((0 : Int), ((0 : Int), (s6, (s7, s8)))))))) = some (out, (b, (s6, (s7, s8)))) ∧
      out.length = out0.length ∧ LB out ∧ (∀ j, i + 1 + b.length ≤ j → dg out j = 0) ∧ val out = val out0 + B i * (x * val b) := by
  obtain ⟨r, h1, out, rfl, h2⟩ := Fp (f := fun (s : ((List Int) × ((List Int) × (Int × (Int × (Int × (Int × ((List Int) × (Int × Int))))))))) => Ca s.1 s.2.1 s.2.2.1 s.2.2.2.1 s.2.2.2.2.1 s.2.2.2.2.2.1 s.2.2.2.2.2.2.1 s.2.2.2.2.2.2.2.1 s.2.2.2.2.2.2.2.2)
    (I := fun s => ∃ (k : Nat) (out : List Int) (c : Int), s = (out, (b, ((i : Int), (x, (c, ((k : Int), (s6, (s7, s8)))))))) ∧ k ≤ b.length + 1 ∧ Row out0 out i k c x b ∧ (k = b.length + 1 → c = 0))
    (R := fun r => ∃ out, r = (out, (b, (s6, (s7, s8)))) ∧ out.length = out0.length ∧ LB out ∧ (∀ j, i + 1 + b.length ≤ j → dg out j = 0) ∧ val out = val out0 + B i * (x * val b)) (fun s => (b.length + 2 - s.2.2.2.2.2.1).toNat) (by
      rintro s ⟨k, out, c, rfl, hk, hR, hc⟩
      simp only
      have hl := hR.len
      have c0 := hR.c0
      have c1 := hR.c1
      by_cases hgo : k < b.length ∨ c > 0
      · have hkb : k ≤ b.length := by
          rcases hgo with h | h
          · omega
          · rcases Nat.lt_or_ge b.length k with h6 | h6
            · have := hc (by omega); omega
            · exact h6
        have hp : i + k < out.length := by omega
        have hs := Lh (AI hR.lb (i + k)) hx (AI hb k) ⟨c0, c1⟩
        have dl := AI hR.lb (i + k)
        refine .inl ⟨(out.set (i + k) ((dg out (i + k) + x * dg b k + c) % 65536), (b, ((i : Int), (x, ((dg out (i + k) + x * dg b k + c) / 65536, (((k + 1 : Nat) : Int), (s6, (s7, s8)))))))), ?_, ⟨k + 1, _, _, rfl, by omega, hR.next hb hx hp, fun he => ?_⟩, by simp only; omega⟩
        · unfold Ca getN
          have hcond : (bif decide ((k : Int) < ((b.length : Nat) : Int)) then some (Sum.inr (α := (List Int × List Int × Int × Int × Int × Int × List Int × Int × Int) ⊕ (List Int × List Int × List Int × Int × Int)) (out, (b, ((i : Int), (x, (c, ((k : Int), (s6, (s7, s8))))))))) else bif decide (c > 0) then some (Sum.inr (out, (b, ((i : Int), (x, (c, ((k : Int), (s6, (s7, s8))))))))) else some (Sum.inl (Sum.inr (out, (b, (s6, (s7, s8))))))) = some (Sum.inr (out, (b, ((i : Int), (x, (c, ((k : Int), (s6, (s7, s8))))))))) := by
            by_cases g1 : (k : Int) < (b.length : Int)
            · rw [decide_eq_true g1]; rfl
            · have : c > 0 := by rcases hgo with h | h <;> omega
              rw [decide_eq_false g1, decide_eq_true this]; rfl
          rw [hcond]
          have i1 : idxI ((i : Int) + (k : Int)) out.length = some (i + k) := by rw [show (i : Int) + (k : Int) = ((i + k : Nat) : Int) by omega]; exact AP hp
          simp only [Option.bind_some, Sum.elim_inr]
          rw [wrapI (n := (i : Int) + (k : Int)) (by omega) (by omega), i1]
          simp only [Option.bind_some, Ag hp, HH]
          rw [wrapI (n := x * dg b k) (by omega) (by omega), wrapI (n := dg out (i + k) + x * dg b k) (by omega) (by omega), wrapI (n := dg out (i + k) + x * dg b k + c) (by omega) (by omega),
            Int.tmod_eq_emod_of_nonneg (by omega), Int.tdiv_eq_ediv_of_nonneg (by omega), wrapI (n := (dg out (i + k) + x * dg b k + c) / 65536) (by omega) (by omega), wrap1 (by omega)]
        · have hkb' : k = b.length := by omega
          have z1 : dg b k = 0 := Fw (by omega)
          have z2 : dg out (i + k) = 0 := by rw [hR.hi _ (Nat.le_refl _), hz _ (by omega)]
          rw [z1, z2, Int.mul_zero]
          omega
      · have hkb : b.length ≤ k := by omega
        have hcz : c = 0 := by omega
        subst hcz
        refine .inr ⟨_, ?_, out, rfl, hl, hR.lb, fun j hj => ?_, ?_⟩
        · unfold Ca
          rw [decide_eq_false (by omega), decide_eq_false (by omega)]
          rfl
        · rw [hR.hi j (by omega), hz j (by omega)]
        · have := hR.v
          rw [List.take_of_length_le hkb] at this
          omega) (out0, (b, ((i : Int), (x, ((0 : Int), ((0 : Int), (s6, (s7, s8)))))))) ⟨0, out0, 0, rfl, by omega, Row.start h0 i x b, by omega⟩
  exact ⟨out, h1, h2⟩
theorem Ut {a b : List Int} (ha : LB a) (hb : LB b) (na : a.length ≤ 100000) (nb : b.length ≤ 100000) : CV a b = some (lim (val a * val b).toNat) := by
  unfold CV
  rw [wrapI (n := ((a.length : Nat) : Int) + ((b.length : Nat) : Int)) (by omega) (by omega), wrapI (by omega) (by omega), show ((a.length : Nat) : Int) + ((b.length : Nat) : Int) + 1 = ((a.length + b.length + 1 : Nat) : Int) by omega, Fm (by unfold maxBytes; omega) (by unfold maxBytes; omega)]
  simp only [Option.bind_some]
  obtain ⟨out, h1, h2⟩ := FK (body := fun (s : ((List Int) × ((List Int) × ((List Int) × (Int × Int))))) => Dd s.1 s.2.1 s.2.2.1 s.2.2.2.1 s.2.2.2.2)
    (st := fun i (o : List Int) => (o, (b, (a, (((a.length : Nat) : Int), (i : Int)))))) (fin := fun o => o)
    (I := fun i o => o.length = a.length + b.length + 1 ∧ LB o ∧ (∀ j, i + b.length ≤ j → dg o j = 0) ∧ val o = val (a.take i) * val b) (e := a.length)
    (by
      rintro i o hi ⟨h1, h2, h3, h4⟩
      have hd := AI ha i
      obtain ⟨o1, q1, q2, q3, q4, q5⟩ := ZX hd h2 hb (show i + b.length < o.length by omega) h3 (by omega) a ((a.length : Nat) : Int) (i : Int)
      refine ⟨o1, ?_, by omega, q3, q4, ?_⟩
      · unfold Dd
        dsimp only
        rw [decide_eq_true (by omega), Ao, Ag hi]
        simp only [cond_true, Option.bind_some]
        rw [q1]
        simp only [Option.bind_some]
        rw [wrap1 (by omega)]
      · rw [q5, h4, Au, Int.add_mul]
        have : B i * dg a i * val b = B i * (dg a i * val b) := Int.mul_assoc ..
        omega)
    (by
      rintro o _
      unfold Dd
      dsimp only
      rw [decide_eq_false (by omega)]
      rfl) 0 (List.replicate (a.length + b.length + 1) 0) (by omega) ⟨by simp, LB.zeros _, fun j _ => by
        unfold dg; rw [List.getD_eq_getElem?_getD, List.getElem?_replicate]; split <;> rfl, by rw [Cv]; simp [val]⟩
  rw [show ((0 : Nat) : Int) = 0 from rfl] at h1
  rw [h1]
  obtain ⟨g1, g2, g3, g4⟩ := h2
  rw [List.take_length] at g4
  simp only [Option.bind_some]
  rw [D8 (by unfold Brief; omega)]
  simp only [Option.bind_some]
  rw [Bg g2, g4]
theorem Ai2 {x y : Int} (h : (x * y).natAbs ≠ 0) : (!(decide (x < 0) == decide (y < 0))) = decide (x * y < 0) := by
  have hx : x ≠ 0 := by rintro rfl; simp at h
  have hy : y ≠ 0 := by rintro rfl; simp at h
  by_cases h1 : x < 0
  · by_cases h2 : y < 0
    · have := Int.mul_pos_of_neg_of_neg h1 h2
      rw [decide_eq_true h1, decide_eq_true h2, decide_eq_false (by omega)]; rfl
    · have := Int.mul_neg_of_neg_of_pos h1 (show 0 < y by omega)
      rw [decide_eq_true h1, decide_eq_false h2, decide_eq_true (by omega)]; rfl
  · by_cases h2 : y < 0
    · have := Int.mul_neg_of_pos_of_neg (show 0 < x by omega) h2
      rw [decide_eq_false h1, decide_eq_true h2, decide_eq_true (by omega)]; rfl
    · have := Int.mul_pos (show 0 < x by omega) (show 0 < y by omega)
      rw [decide_eq_false h1, decide_eq_false h2, decide_eq_false (by omega)]; rfl
theorem Sq (x y : Int) : ((!(decide (x < 0) == decide (y < 0))) && decide ((x * y).natAbs ≠ 0), lim (x * y).natAbs) = big (x * y) := by
  unfold big
  congr 1
  by_cases h : (x * y).natAbs ≠ 0
  · rw [Ai2 h, decide_eq_true h, Bool.and_true]
  · rw [decide_eq_false h, Bool.and_false, decide_eq_false (by omega)]
theorem GL {x y : Int} {k : Nat} (hk : k ≤ 100000) (hx : (x.natAbs : Int) < B k) (hy : (y.natAbs : Int) < B k) : BR (big x) (big y) = some (big (x * y)) := by
  have lx := Nat.le_trans (Af.2 hx) hk
  have ly := Nat.le_trans (Af.2 hy) hk
  unfold BR
  rw [show (big x).2 = lim x.natAbs from rfl, show (big y).2 = lim y.natAbs from rfl, Ut (An _) (An _) lx ly]
  have e : (val (lim x.natAbs) * val (lim y.natAbs)).toNat = (x * y).natAbs := by rw [Ai, Ai, Int.natAbs_mul]; omega
  have hl : (lim (x * y).natAbs).length ≤ k + k := by
    rw [Af, Int.natAbs_mul, KL]
    have h1 := Dk k
    have : ((x.natAbs * y.natAbs : Nat) : Int) = (x.natAbs : Int) * (y.natAbs : Int) := by simp
    rw [this]
    exact Int.lt_of_le_of_lt (Int.mul_le_mul_of_nonneg_right (Int.le_of_lt hx) (by omega)) (Int.mul_lt_mul_of_pos_left hy h1)
  simp only [Option.bind_some]
  rw [e, CT (An _) (by unfold Brief; omega)]
  simp only [Option.bind_some, Ai, Int.toNat_natCast]
  rw [← Sq]
  rfl
end Go.Proofs.YtgfchmagglhohaaGreat.Ev

end
section
namespace Go.Proofs.YtgfchmagglhohaaGreat.Ev
open Go
set_option linter.unusedVariables false
set_option linter.unusedSimpArgs false
set_option linter.unusedSectionVars false
theorem Bj (l : List Int) (h : Nat) : val l = val (l.take h) + B h * val (l.drop h) := by
  rcases Nat.le_or_ge h l.length with hc | hc
  · exact Nx l h hc
  · rw [List.take_of_length_le hc, List.drop_eq_nil_of_le hc]; simp [val]
theorem Aq2 {l : List Int} (h : LB l) : ((val l).toNat : Int) = val l := by have := As h; omega
theorem fit2 {x y : Nat} {p q : Nat} (h1 : (x : Int) < B p) (h2 : (y : Int) < B q) : ((x * y : Nat) : Int) < B (p + q) := by
  rw [KL, show ((x * y : Nat) : Int) = (x : Int) * (y : Int) by simp]
  exact Int.lt_of_le_of_lt (Int.mul_le_mul_of_nonneg_right (Int.le_of_lt h1) (by omega)) (Int.mul_lt_mul_of_pos_left h2 (Dk p))
theorem Ai4 {l : List Int} (hl : LB l) (n k : Nat) (h : l.length ≤ n) : (lim (val l).toNat).length ≤ n := by
  rw [Af, Aq2 hl]
  have := Ib hl
  have := C1 h
  omega
end Go.Proofs.YtgfchmagglhohaaGreat.Ev

end
section
namespace Go.Proofs.YtgfchmagglhohaaGreat.Ev
open Go
set_option linter.unusedVariables false
set_option linter.unusedSimpArgs false
set_option linter.unusedSectionVars false
theorem Rd {n : Nat} (h : n ≠ 0) : lim n = ((n % 65536 : Nat) : Int) :: lim (n / 65536) := by
  conv => lhs; unfold lim
  rw [dif_neg h]
theorem LT (s : Bool × List Int) (neg : Bool) : ∀ (f : Nat) (n : Nat) (acc : List Int), n ≤ f → n < 18446744073709551616 → acc.length + (lim n).length ≤ 10000 →
    loopM (fun (s : ((Bool × (List Int)) × ((List Int) × (Bool × Int)))) => GG s.1 s.2.1 s.2.2.1 s.2.2.2) (s, (acc, (neg, (n : Int)))) = some (s, (acc ++ lim n, neg)) := by
  intro f
  induction f with
  | zero =>
    intro n acc hn _ _
    have : n = 0 := by omega
    subst this
    rw [AW, List.append_nil]
    exact Av rfl
  | succ f ih =>
    intro n acc hn h64 h2
    by_cases h0 : n = 0
    · subst h0
      rw [AW, List.append_nil]
      exact Av rfl
    · rw [Rd h0] at h2 ⊢
      simp only [List.length_cons] at h2
      have hstep : GG s acc neg (n : Int) = some (.inl (s, (acc ++ [((n % 65536 : Nat) : Int)], (neg, ((n / 65536 : Nat) : Int))))) := by
        unfold GG
        rw [decide_eq_true (by omega), Int.tmod_eq_emod_of_nonneg (by omega), Int.tdiv_eq_ediv_of_nonneg (by omega), wrapI (by omega) (by omega), wrapU (by omega) (by omega)]
        simp only [cond_true]
        rw [app1 (by omega)]
        simp only [Option.bind_some]
        rw [show (n : Int) % 65536 = ((n % 65536 : Nat) : Int) by omega, show (n : Int) / 65536 = ((n / 65536 : Nat) : Int) by omega]
      have := ih (n / 65536) (acc ++ [((n % 65536 : Nat) : Int)]) (by omega) (by omega) (by simp; omega)
      rw [Bo hstep, this, List.append_assoc]
      rfl
theorem lim64 {n : Nat} (h : n < 18446744073709551616) : (lim n).length ≤ 4 := Af.2 (by have : B 4 = 18446744073709551616 := rfl; omega)
theorem Km {n : Int} (h1 : -9223372036854775808 ≤ n) (h2 : n ≤ 9223372036854775807) : A7 n = some (big n) := by
  unfold A7
  have hl := lim64 (n := n.natAbs) (by omega)
  by_cases h : n < 0
  · have e : IntKind.wrap .u64 (0 - IntKind.wrap .u64 n) = (n.natAbs : Int) := by rw [IntKind.wrap_u64, IntKind.wrap_u64]; omega
    rw [decide_eq_true h]
    simp only [cond_true, Option.bind_some, Sum.elim_inr]
    rw [e, LT (false, []) true n.natAbs n.natAbs [] (Nat.le_refl _) (by omega) (by simp; omega)]
    unfold big
    rw [decide_eq_true h]
    rfl
  · have e : IntKind.wrap .u64 n = (n.natAbs : Int) := by rw [IntKind.wrap_u64]; omega
    rw [decide_eq_false h]
    simp only [cond_false, Option.bind_some, Sum.elim_inr]
    rw [e, LT (false, []) false n.natAbs n.natAbs [] (Nat.le_refl _) (by omega) (by simp; omega)]
    unfold big
    rw [decide_eq_false h]
    rfl
theorem Uh (s : Bool × List Int) (m : Int) : ∀ (f : Nat) (n : Int) (acc : List Int), n.natAbs ≤ f → -9223372036854775808 ≤ n → n ≤ 9223372036854775807 → acc.length + (lim n.natAbs).length ≤ 10000 →
    loopM (fun (s : ((Bool × (List Int)) × ((List Int) × (Int × Int)))) => GN s.1 s.2.1 s.2.2.1 s.2.2.2) (s, (acc, (m, n))) = some (s, (acc ++ lim n.natAbs, m)) := by
  intro f
  induction f with
  | zero =>
    intro n acc hn _ _ _
    have : n = 0 := by omega
    subst this
    rw [show (0 : Int).natAbs = 0 from rfl, AW, List.append_nil]
    exact Av rfl
  | succ f ih =>
    intro n acc hn h1 h2 h3
    by_cases h0 : n = 0
    · subst h0
      rw [show (0 : Int).natAbs = 0 from rfl, AW, List.append_nil]
      exact Av rfl
    · rw [Rd (show n.natAbs ≠ 0 by omega)] at h3 ⊢
      simp only [List.length_cons] at h3
      have hq : (Int.tdiv n 65536).natAbs = n.natAbs / 65536 := by rw [Int.natAbs_tdiv]; rfl
      have hq1 : -9223372036854775808 ≤ Int.tdiv n 65536 ∧ Int.tdiv n 65536 ≤ 9223372036854775807 := by omega
      have hr : ((Int.tmod n 65536).natAbs : Int) = ((n.natAbs % 65536 : Nat) : Int) := by rw [Int.natAbs_tmod]; rfl
      have hstep : GN s acc m n = some (.inl (s, (acc ++ [((n.natAbs % 65536 : Nat) : Int)], (m, Int.tdiv n 65536)))) := by
        unfold GN
        have : (n != 0) = true := by simpa using h0
        rw [this, wrapI (n := Int.tdiv n 65536) (by omega) (by omega)]
        simp only [cond_true]
        by_cases hneg : Int.tmod n 65536 < 0
        · rw [decide_eq_true hneg, wrapI (by omega) (by omega)]
          simp only [cond_true]
          rw [app1 (by omega), show (0 : Int) - Int.tmod n 65536 = ((n.natAbs % 65536 : Nat) : Int) by omega]
          rfl
        · rw [decide_eq_false hneg]
          simp only [cond_false]
          rw [app1 (by omega), show Int.tmod n 65536 = ((n.natAbs % 65536 : Nat) : Int) by omega]
          rfl
      have := ih (Int.tdiv n 65536) (acc ++ [((n.natAbs % 65536 : Nat) : Int)]) (by omega) hq1.1 hq1.2 (by rw [hq]; simp; omega)
      rw [Bo hstep, this, List.append_assoc, hq]
      rfl
theorem LP {n : Int} (h1 : -9223372036854775808 ≤ n) (h2 : n ≤ 9223372036854775807) : BF n = some (big n) := by
  unfold BF
  have hl := lim64 (n := n.natAbs) (by omega)
  rw [Uh (false, []) n n.natAbs n [] (Nat.le_refl _) h1 h2 (by simp; omega)]
  simp only [Option.bind_some, List.nil_append]
  rw [CT (An _) (by unfold Brief; omega)]
  simp only [Option.bind_some, Ai, Int.toNat_natCast]
  unfold big
  by_cases h : n < 0
  · rw [decide_eq_true h, decide_eq_true (show n.natAbs ≠ 0 by omega)]; rfl
  · rw [decide_eq_false h]; rfl
theorem Nz (z : Int) : AG (big z) = some (cmpZ z 0) := by
  unfold AG big
  by_cases h0 : z = 0
  · subst h0
    rw [show (0 : Int).natAbs = 0 from rfl, AW]
    rfl
  · have : ((((lim z.natAbs).length : Nat) : Int) == 0) = false := beq_eq_false_iff_ne.2 (by
      intro h
      have h2 : lim z.natAbs = [] := List.eq_nil_of_length_eq_zero (by omega)
      have := Fa.1 h2
      omega)
    rw [this]
    by_cases h : z < 0
    · rw [decide_eq_true h, Co h]; rfl
    · rw [decide_eq_false h, Es (by omega)]; rfl
theorem H2 {x y : Int} {k : Nat} (hk : k ≤ 1000000) (hx : (x.natAbs : Int) < B k) (hy : (y.natAbs : Int) < B k) : BL (big x) (big y) = some (cmpZ x y) := by
  have lx := D7 hx hk
  have ly := D7 hy hk
  unfold BL
  have e1 : AG ((big x).1, (big x).2) = some (cmpZ x 0) := Nz x
  have e2 : AG ((big y).1, (big y).2) = some (cmpZ y 0) := Nz y
  simp only [e1, e2, Option.bind_some, NG]
  have e3 : A0 (big x).2 (big y).2 = some (cmpZ (x.natAbs : Int) (y.natAbs : Int)) := Gd (by unfold Brief; omega) (by unfold Brief; omega)
  rw [e3]
  have cx := AT x 0
  have cy := AT y 0
  have c3 := AT (x.natAbs : Int) (y.natAbs : Int)
  have cxy := AT x y
  have cs := AT (cmpZ x 0) (cmpZ y 0)
  by_cases h : cmpZ x 0 = cmpZ y 0
  · rw [h, bne_self_eq_false]
    simp only [cond_false, Option.bind_some]
    rcases cy with ⟨cy, _⟩ | ⟨cy, _⟩ | ⟨cy, _⟩ <;> rw [cy] at h ⊢ <;> rcases c3 with ⟨c3, _⟩ | ⟨c3, _⟩ | ⟨c3, _⟩ <;> rw [c3] <;> rw [wrapI (by omega) (by omega)] <;> congr 1 <;> omega
  · have hb : (cmpZ x 0 != cmpZ y 0) = true := by simpa using h
    rw [hb]
    simp only [cond_true]
    congr 1
    omega
end Go.Proofs.YtgfchmagglhohaaGreat.Ev

end
section
namespace Go.Proofs.YtgfchmagglhohaaGreat.Ev
open Go
set_option linter.unusedVariables false
set_option linter.unusedSimpArgs false
set_option linter.unusedSectionVars false
theorem NM {a q r by_ : Int} (h : q * by_ + r = a) (h0 : 0 ≤ r) (h1 : r < by_) : q = a / by_ ∧ r = a % by_ := by
  have : a = r + by_ * q := by rw [← h, Int.mul_comm]; omega
  subst this
  constructor
  · rw [Int.add_mul_ediv_left _ _ (by omega), Int.ediv_eq_zero_of_lt h0 h1]; omega
  · rw [Int.add_mul_emod_self_left, Int.emod_eq_of_lt h0 h1]
theorem Pk {a : List Int} {d : Int} (ha : LB a) (hd : 1 ≤ d ∧ d ≤ 65536) (na : a.length ≤ 10000000) :
    ∃ q r, loopM (fun (s : ((List Int) × ((List Int) × (Int × (Int × Int))))) => CG s.1 s.2.1 s.2.2.1 s.2.2.2.1 s.2.2.2.2) (List.replicate a.length 0, (a, (d, (0, (a.length : Int) - 1)))) = some (q, r) ∧ LB q ∧ q.length = a.length ∧ 0 ≤ r ∧ r < d ∧ val q * d + r = val a := by
  obtain ⟨⟨q, r⟩, h1, h2⟩ := Kw (body := fun (s : ((List Int) × ((List Int) × (Int × (Int × Int))))) => CG s.1 s.2.1 s.2.2.1 s.2.2.2.1 s.2.2.2.2)
    (st := fun n (b : List Int × Int) => (b.1, (a, (d, (b.2, (n : Int) - 1))))) (fin := fun b => b)
    (I := fun n b => n ≤ a.length ∧ LB b.1 ∧ b.1.length = a.length ∧ (∀ j, j < n → dg b.1 j = 0) ∧ 0 ≤ b.2 ∧ b.2 < d ∧ val b.1 * d + B n * b.2 = B n * val (a.drop n))
    (by
      rintro n ⟨q, r⟩ ⟨h1, h2, h3, h4, h5, h6, h7⟩
      simp only at h2 h3 h4 h5 h6 h7
      have hn : n < a.length := by omega
      have hg := List.getElem?_eq_getElem hn
      have dx := AI ha n
      have hx : a[n] = dg a n := (DG hg).symm
      have hq : q[n]? = some 0 := by rw [Ag (by omega), h4 n (by omega)]
      have ht0 : 0 ≤ r * 65536 + dg a n := by omega
      have hdd := Int.emod_add_mul_ediv (r * 65536 + dg a n) d
      have m0 := Int.emod_nonneg (r * 65536 + dg a n) (show d ≠ 0 by omega)
      have m1 := Int.emod_lt_of_pos (r * 65536 + dg a n) (show 0 < d by omega)
      have q0 := Int.ediv_nonneg ht0 (show 0 ≤ d by omega)
      have q1 : (r * 65536 + dg a n) / d < 65536 := by
        refine Int.ediv_lt_of_lt_mul (by omega) ?_
        have : r * 65536 + dg a n < d * 65536 := by omega
        rw [Int.mul_comm 65536 d]
        exact this
      refine ⟨(q.set n ((r * 65536 + dg a n) / d), (r * 65536 + dg a n) % d), ?_, by omega, h2.set ⟨q0, q1⟩, by simp [h3], fun j hj => by simp only; rw [A8 (by omega)]; exact h4 j (by omega), m0, m1, ?_⟩
      · unfold CG getN
        dsimp only
        have hz : (d == 0) = false := beq_eq_false_iff_ne.2 (by omega)
        have hs : ((n + 1 : Nat) : Int) - 1 = (n : Int) := by omega
        have i1 : idxI (n : Int) q.length = some n := AP (by omega)
        rw [hs, decide_eq_true (by omega), Ao, hg]
        simp only [cond_true, Option.bind_some, hz, cond_false, i1, hq, hx]
        rw [wrapI (n := r * 65536) (by omega) (by omega), wrapI (n := r * 65536 + dg a n) (by omega) (by omega), Int.tdiv_eq_ediv_of_nonneg ht0, Int.tmod_eq_emod_of_nonneg ht0, wrapI (n := (r * 65536 + dg a n) / d) (by omega) (by omega), wrapI (n := (n : Int) - 1) (by omega) (by omega)]
      · simp only
        rw [DE hq, List.drop_eq_getElem_cons hn, hx]
        simp only [val, Int.sub_zero]
        have e1 : B (n + 1) * r = B n * (r * 65536) := by simp only [B]; grind
        have e2 : B (n + 1) * val (a.drop (n + 1)) = B n * (65536 * val (a.drop (n + 1))) := by simp only [B]; grind
        rw [e1, e2] at h7
        have e3 : B n * ((r * 65536 + dg a n) / d) * d + B n * ((r * 65536 + dg a n) % d) = B n * (r * 65536) + B n * dg a n := by
          rw [Int.mul_assoc, ← Int.mul_add, ← Int.mul_add]
          congr 1
          rw [Int.mul_comm _ d]
          omega
        rw [Int.add_mul, Int.mul_add]
        omega)
    (by
      rintro ⟨q, r⟩ _
      unfold CG
      rfl) a.length (List.replicate a.length 0, 0) ⟨Nat.le_refl _, LB.zeros _, by simp, fun j _ => by
        unfold dg; rw [List.getD_eq_getElem?_getD, List.getElem?_replicate]; split <;> rfl, by omega, by simp only; omega, by simp [Cv, val]⟩
  obtain ⟨g1, g2, g3, g4, g5, g6, g7⟩ := h2
  simp only [B, Int.one_mul, List.drop_zero] at g7
  exact ⟨q, r, h1, g2, g3, g5, g6, g7⟩
theorem RJ {a : List Int} {d : Int} (ha : LB a) (hd : 1 ≤ d ∧ d ≤ 65536) (na : a.length ≤ 10000000) :
    ∃ q r, loopM (fun (s : ((List Int) × ((List Int) × (Int × (Int × Int))))) => Dq s.1 s.2.1 s.2.2.1 s.2.2.2.1 s.2.2.2.2) (List.replicate a.length 0, (a, (d, (0, (a.length : Int) - 1)))) = some (q, r) ∧ LB q ∧ q.length = a.length ∧ 0 ≤ r ∧ r < d ∧ val q * d + r = val a := by
  obtain ⟨⟨q, r⟩, h1, h2⟩ := Kw (body := fun (s : ((List Int) × ((List Int) × (Int × (Int × Int))))) => Dq s.1 s.2.1 s.2.2.1 s.2.2.2.1 s.2.2.2.2)
    (st := fun n (b : List Int × Int) => (b.1, (a, (d, (b.2, (n : Int) - 1))))) (fin := fun b => b)
    (I := fun n b => n ≤ a.length ∧ LB b.1 ∧ b.1.length = a.length ∧ (∀ j, j < n → dg b.1 j = 0) ∧ 0 ≤ b.2 ∧ b.2 < d ∧ val b.1 * d + B n * b.2 = B n * val (a.drop n))
    (by
      rintro n ⟨q, r⟩ ⟨h1, h2, h3, h4, h5, h6, h7⟩
      simp only at h2 h3 h4 h5 h6 h7
      have hn : n < a.length := by omega
      have hg := List.getElem?_eq_getElem hn
      have dx := AI ha n
      have hx : a[n] = dg a n := (DG hg).symm
      have hq : q[n]? = some 0 := by rw [Ag (by omega), h4 n (by omega)]
      have ht0 : 0 ≤ r * 65536 + dg a n := by omega
      have hdd := Int.emod_add_mul_ediv (r * 65536 + dg a n) d
      have m0 := Int.emod_nonneg (r * 65536 + dg a n) (show d ≠ 0 by omega)
      have m1 := Int.emod_lt_of_pos (r * 65536 + dg a n) (show 0 < d by omega)
      have q0 := Int.ediv_nonneg ht0 (show 0 ≤ d by omega)
      have q1 : (r * 65536 + dg a n) / d < 65536 := by
        refine Int.ediv_lt_of_lt_mul (by omega) ?_
        have : r * 65536 + dg a n < d * 65536 := by omega
        rw [Int.mul_comm 65536 d]
        exact this
      refine ⟨(q.set n ((r * 65536 + dg a n) / d), (r * 65536 + dg a n) % d), ?_, by omega, h2.set ⟨q0, q1⟩, by simp [h3], fun j hj => by simp only; rw [A8 (by omega)]; exact h4 j (by omega), m0, m1, ?_⟩
      · unfold Dq getN
        dsimp only
        have hz : (d == 0) = false := beq_eq_false_iff_ne.2 (by omega)
        have hs : ((n + 1 : Nat) : Int) - 1 = (n : Int) := by omega
        have i1 : idxI (n : Int) q.length = some n := AP (by omega)
        rw [hs, decide_eq_true (by omega), Ao, hg]
        simp only [cond_true, Option.bind_some, hz, cond_false, i1, hq, hx]
        rw [wrapI (n := r * 65536) (by omega) (by omega), wrapI (n := r * 65536 + dg a n) (by omega) (by omega), Int.tdiv_eq_ediv_of_nonneg ht0, Int.tmod_eq_emod_of_nonneg ht0, wrapI (n := (r * 65536 + dg a n) / d) (by omega) (by omega), wrapI (n := (n : Int) - 1) (by omega) (by omega)]
      · simp only
        rw [DE hq, List.drop_eq_getElem_cons hn, hx]
        simp only [val, Int.sub_zero]
        have e1 : B (n + 1) * r = B n * (r * 65536) := by simp only [B]; grind
        have e2 : B (n + 1) * val (a.drop (n + 1)) = B n * (65536 * val (a.drop (n + 1))) := by simp only [B]; grind
        rw [e1, e2] at h7
        have e3 : B n * ((r * 65536 + dg a n) / d) * d + B n * ((r * 65536 + dg a n) % d) = B n * (r * 65536) + B n * dg a n := by
          rw [Int.mul_assoc, ← Int.mul_add, ← Int.mul_add]
          congr 1
          rw [Int.mul_comm _ d]
          omega
        rw [Int.add_mul, Int.mul_add]
        omega)
    (by
      rintro ⟨q, r⟩ _
      unfold Dq
      rfl) a.length (List.replicate a.length 0, 0) ⟨Nat.le_refl _, LB.zeros _, by simp, fun j _ => by
        unfold dg; rw [List.getD_eq_getElem?_getD, List.getElem?_replicate]; split <;> rfl, by omega, by simp only; omega, by simp [Cv, val]⟩
  obtain ⟨g1, g2, g3, g4, g5, g6, g7⟩ := h2
  simp only [B, Int.one_mul, List.drop_zero] at g7
  exact ⟨q, r, h1, g2, g3, g5, g6, g7⟩
theorem Qv {n : Nat} {d : Int} (hd : 1 ≤ d ∧ d ≤ 65536) (hn : (lim n).length ≤ 10000000) : Dj (lim n) d = some (lim (n / d.toNat), ((n % d.toNat : Nat) : Int)) := by
  obtain ⟨q, r, h1, h2, h3, h4, h5, h6⟩ := Pk (An n) hd hn
  rw [Ai] at h6
  unfold Dj
  rw [Fm (by unfold maxBytes; omega) (by unfold maxBytes; omega), wrapI (by omega) (by omega)]
  simp only [Option.bind_some, h1]
  rw [TT (by unfold Brief; omega)]
  simp only [Option.bind_some]
  rw [Bg h2]
  obtain ⟨e1, e2⟩ := NM h6 h4 h5
  have hdn : d = (d.toNat : Int) := by omega
  have hv := As h2
  have q1 : (val q).toNat = n / d.toNat := by
    have : val q = ((n / d.toNat : Nat) : Int) := by rw [e1, hdn]; simp
    omega
  have q2 : r = ((n % d.toNat : Nat) : Int) := by rw [e2, hdn]; simp
  rw [q1, q2]
theorem Aa4 {n : Nat} {d : Int} (hd : 1 ≤ d ∧ d ≤ 65535) (hn : (lim n).length ≤ 10000000) : Fj (lim n) d = some (lim (n / d.toNat), lim (n % d.toNat)) := by
  obtain ⟨q, r, h1, h2, h3, h4, h5, h6⟩ := RJ (An n) (show 1 ≤ d ∧ d ≤ 65536 by omega) hn
  rw [Ai] at h6
  unfold Fj
  rw [Fm (by unfold maxBytes; omega) (by unfold maxBytes; omega), wrapI (by omega) (by omega)]
  simp only [Option.bind_some, h1]
  rw [D8 (by unfold Brief; omega)]
  simp only [Option.bind_some]
  rw [D8 (by unfold Brief; simp)]
  simp only [Option.bind_some]
  rw [Bg h2, Bg (LB.cons (by omega) LB.nil)]
  obtain ⟨e1, e2⟩ := NM h6 h4 h5
  have hdn : d = (d.toNat : Int) := by omega
  have hv := As h2
  have q1 : (val q).toNat = n / d.toNat := by
    have : val q = ((n / d.toNat : Nat) : Int) := by rw [e1, hdn]; simp
    omega
  have q2 : (val [r]).toNat = n % d.toNat := by
    have : r = ((n % d.toNat : Nat) : Int) := by rw [e2, hdn]; simp
    simp only [val]
    omega
  rw [q1, q2]
end Go.Proofs.YtgfchmagglhohaaGreat.Ev

end
section
namespace Go.Proofs.YtgfchmagglhohaaGreat.Ev
open Go
set_option linter.unusedVariables false
set_option linter.unusedSimpArgs false
set_option linter.unusedSectionVars false
section
variable {P v1 v2 vr top u2 ur q r v U : Int} (hP : 0 < P) (hv1 : 1 ≤ v1) (hv1' : v1 < 65536) (hv2 : 0 ≤ v2 ∧ v2 < 65536) (hvr : 0 ≤ vr ∧ vr < P) (hu2 : 0 ≤ u2 ∧ u2 < 65536) (hur : 0 ≤ ur ∧ ur < P)
  (hv : v = (v1 * 65536 + v2) * P + vr) (hU : U = (top * 65536 + u2) * P + ur) (hq : q * v1 + r = top) (hq0 : 0 ≤ q)
include hP hv1 hv2 hvr hu2 hur hv hU hq hq0
theorem Rr (h : q * v2 > r * 65536 + u2) : U < q * v := by
  have h1 : q * (v1 * 65536 + v2) = (q * v1) * 65536 + q * v2 := by grind
  have h2 : top * 65536 + u2 + 1 ≤ q * (v1 * 65536 + v2) := by omega
  have h3 := Int.mul_le_mul_of_nonneg_right h2 (Int.le_of_lt hP)
  have h4 : 0 ≤ q * vr := Int.mul_nonneg hq0 hvr.1
  have h5 : q * v = q * (v1 * 65536 + v2) * P + q * vr := by rw [hv]; grind
  rw [Int.add_mul] at h3
  omega
theorem SH (hq1 : q < 65536) (h : q * v2 ≤ r * 65536 + u2) : q * v < U + v := by
  have h1 : q * (v1 * 65536 + v2) = (q * v1) * 65536 + q * v2 := by grind
  have h2 : q * (v1 * 65536 + v2) ≤ top * 65536 + u2 := by omega
  have h3 := Int.mul_le_mul_of_nonneg_right h2 (Int.le_of_lt hP)
  have h4 : q * vr ≤ 65535 * P := Int.le_trans (Int.mul_le_mul_of_nonneg_left (Int.le_of_lt hvr.2) hq0) (Int.mul_le_mul_of_nonneg_right (by omega) (Int.le_of_lt hP))
  have h5 : q * v = q * (v1 * 65536 + v2) * P + q * vr := by rw [hv]; grind
  have h6 : 65536 * P ≤ (v1 * 65536 + v2) * P := Int.mul_le_mul_of_nonneg_right (by omega) (Int.le_of_lt hP)
  omega
theorem Rg (hq1 : q < 65536) (h : 65536 ≤ r) : q * v ≤ U := by
  have h1 : q * (v1 * 65536 + v2) = (q * v1) * 65536 + q * v2 := by grind
  have h7 : q * v2 ≤ q * 65535 := Int.mul_le_mul_of_nonneg_left (by omega) hq0
  have h2 : q * (v1 * 65536 + v2) + 65536 ≤ top * 65536 + u2 := by omega
  have h3 := Int.mul_le_mul_of_nonneg_right h2 (Int.le_of_lt hP)
  have h4 : q * vr ≤ 65535 * P := Int.le_trans (Int.mul_le_mul_of_nonneg_left (Int.le_of_lt hvr.2) hq0) (Int.mul_le_mul_of_nonneg_right (by omega) (Int.le_of_lt hP))
  have h5 : q * v = q * (v1 * 65536 + v2) * P + q * vr := by rw [hv]; grind
  rw [Int.add_mul] at h3
  omega
end
theorem WP {P' v1 vt top ut v U Q : Int} (hP : 0 < P') (hv1 : 1 ≤ v1) (hvt : 0 ≤ vt) (hut : ut < P') (hv : v = v1 * P' + vt) (hU : U = top * P' + ut) (hQ : Q * v ≤ U) (hQ0 : 0 ≤ Q) : Q ≤ top / v1 := by
  rw [Int.le_ediv_iff_mul_le (by omega)]
  by_cases h : Q * v1 ≤ top
  · exact h
  · exfalso
    have h1 : top + 1 ≤ Q * v1 := by omega
    have h2 := Int.mul_le_mul_of_nonneg_right h1 (Int.le_of_lt hP)
    have h3 : 0 ≤ Q * vt := Int.mul_nonneg hQ0 hvt
    have h4 : Q * v = Q * v1 * P' + Q * vt := by rw [hv]; grind
    rw [Int.add_mul] at h2
    omega
end Go.Proofs.YtgfchmagglhohaaGreat.Ev

end
section
namespace Go.Proofs.YtgfchmagglhohaaGreat.Ev
open Go
set_option linter.unusedVariables false
set_option linter.unusedSimpArgs false
set_option linter.unusedSectionVars false
theorem Aa7 {x c : Int} (hx : x < 65536) (hlo : -4294967296 ≤ x) (hc : c = if x < 0 then (-x + 65536 - 1) / 65536 else 0) :
    0 ≤ x + c * 65536 ∧ x + c * 65536 < 65536 ∧ 0 ≤ c ∧ c ≤ 65536 := by
  subst hc
  split <;> omega
structure Off (u0 u : List Int) (j k : Nat) (c q : Int) (v : List Int) : Prop where
  len : u.length = u0.length
  lb : LB u
  hi : ∀ i, j + k ≤ i → dg u i = dg u0 i
  c0 : 0 ≤ c
  c1 : c ≤ 65536
  v : val u - B (j + k) * c = val u0 - B j * (q * val (v.take k))
theorem Off.start {u0 : List Int} (h : LB u0) (j : Nat) (q : Int) (v : List Int) : Off u0 u0 j 0 0 q v := ⟨rfl, h, fun _ _ => rfl, by omega, by omega, by simp [val]⟩
theorem Off.next {u0 u : List Int} {j k : Nat} {c q : Int} {v : List Int} (h : Off u0 u j k c q v) (hv : LB v) (hq : 0 ≤ q ∧ q < 65536) (hk : j + k < u.length) {c' : Int} (hc : c' = if dg u (j + k) - q * dg v k - c < 0 then (-(dg u (j + k) - q * dg v k - c) + 65536 - 1) / 65536 else 0) :
    Off u0 (u.set (j + k) (dg u (j + k) - q * dg v k - c + c' * 65536)) j (k + 1) c' q v := by
  have du := AI h.lb (j + k)
  have dv := AI hv k
  have m0 : 0 ≤ q * dg v k := Int.mul_nonneg hq.1 dv.1
  have m1 : q * dg v k ≤ 65535 * 65535 := Int.le_trans (Int.mul_le_mul_of_nonneg_left (show dg v k ≤ 65535 by omega) hq.1) (Int.mul_le_mul_of_nonneg_right (show q ≤ 65535 by omega) (by omega))
  have hc0 := h.c0
  have hc1 := h.c1
  obtain ⟨s1, s2, s3, s4⟩ := Aa7 (x := dg u (j + k) - q * dg v k - c) (by omega) (by omega) hc
  refine ⟨by rw [List.length_set]; exact h.len, h.lb.set ⟨s1, s2⟩, fun i hi => by rw [A8 (by omega)]; exact h.hi i (by omega), s3, s4, ?_⟩
  rw [DE (Ag hk), Au, show j + (k + 1) = j + k + 1 by omega]
  have hv2 := h.v
  have e1 : B (j + k + 1) * c' = B (j + k) * (c' * 65536) := by simp only [B]; grind
  have e2 : B j * (q * (val (v.take k) + B k * dg v k)) = B j * (q * val (v.take k)) + B (j + k) * (q * dg v k) := by rw [KL]; grind
  have e3 : B (j + k) * (dg u (j + k) - q * dg v k - c + c' * 65536 - dg u (j + k)) = B (j + k) * (c' * 65536) - B (j + k) * (q * dg v k) - B (j + k) * c := by grind
  rw [e1, e2, e3]
  omega
theorem At0 {u0 v out : List Int} {n by_ q : Int} {j : Nat} (hu : LB u0) (hv : LB v) (hq : 0 ≤ q ∧ q < 65536) (hn : n = (v.length : Int)) (hlen : j + v.length < u0.length) (hl : u0.length ≤ 1000000) :
    ∃ u c, loopM (fun (s : ((List Int) × ((List Int) × ((List Int) × (Int × (Int × (Int × (Int × (Int × (Int × Int)))))))))) => CO s.1 s.2.1 s.2.2.1 s.2.2.2.1 s.2.2.2.2.1 s.2.2.2.2.2.1 s.2.2.2.2.2.2.1 s.2.2.2.2.2.2.2.1 s.2.2.2.2.2.2.2.2.1 s.2.2.2.2.2.2.2.2.2) (u0, (v, (out, (n, (by_, ((j : Int), (q, (0, (n, 0))))))))) =
      some (u, (v, (out, (n, (by_, ((j : Int), (q, c))))))) ∧ Off u0 u j v.length c q v := by
  subst hn
  obtain ⟨⟨u, c⟩, h1, h2⟩ := FK (body := fun (s : ((List Int) × ((List Int) × ((List Int) × (Int × (Int × (Int × (Int × (Int × (Int × Int)))))))))) => CO s.1 s.2.1 s.2.2.1 s.2.2.2.1 s.2.2.2.2.1 s.2.2.2.2.2.1 s.2.2.2.2.2.2.1 s.2.2.2.2.2.2.2.1 s.2.2.2.2.2.2.2.2.1 s.2.2.2.2.2.2.2.2.2)
    (st := fun k (b : List Int × Int) => (b.1, (v, (out, ((v.length : Int), (by_, ((j : Int), (q, (b.2, ((v.length : Int), (k : Int))))))))))) (fin := fun b => (b.1, (v, (out, ((v.length : Int), (by_, ((j : Int), (q, b.2)))))))) (I := fun k b => Off u0 b.1 j k b.2 q v) (e := v.length)
    (by
      rintro k ⟨u, c⟩ hk hI
      simp only at hI
      have hul := hI.len
      have hp : j + k < u.length := by omega
      have du := AI hI.lb (j + k)
      have dv := AI hv k
      have c0 := hI.c0
      have c1 := hI.c1
      have m0 : 0 ≤ q * dg v k := Int.mul_nonneg hq.1 dv.1
      have m1 : q * dg v k ≤ 65535 * 65535 := Int.le_trans (Int.mul_le_mul_of_nonneg_left (show dg v k ≤ 65535 by omega) hq.1) (Int.mul_le_mul_of_nonneg_right (show q ≤ 65535 by omega) (by omega))
      refine ⟨(u.set (j + k) (dg u (j + k) - q * dg v k - c + (if dg u (j + k) - q * dg v k - c < 0 then (-(dg u (j + k) - q * dg v k - c) + 65536 - 1) / 65536 else 0) * 65536), if dg u (j + k) - q * dg v k - c < 0 then (-(dg u (j + k) - q * dg v k - c) + 65536 - 1) / 65536 else 0), ?_, hI.next hv hq hp rfl⟩
      unfold CO getN
      dsimp only
      have i1 : idxI ((j : Int) + (k : Int)) u.length = some (j + k) := by rw [show (j : Int) + (k : Int) = ((j + k : Nat) : Int) by omega]; exact AP hp
      have hw1 := wrap1 (show k < 4611686018427387904 by omega)
      have hjk := wrapI (n := (j : Int) + (k : Int)) (by omega) (by omega)
      rw [decide_eq_true (by omega), hjk]
      simp only [cond_true, i1, AP hk, Option.bind_some, Ag hp, Ag hk]
      rw [wrapI (n := q * dg v k) (by omega) (by omega), wrapI (n := dg u (j + k) - q * dg v k) (by omega) (by omega), wrapI (n := dg u (j + k) - q * dg v k - c) (by omega) (by omega)]
      have hxb : -4294967296 ≤ dg u (j + k) - q * dg v k - c ∧ dg u (j + k) - q * dg v k - c < 65536 := by omega
      generalize dg u (j + k) - q * dg v k - c = x at *
      by_cases hx : x < 0
      · rw [decide_eq_true hx, if_pos hx, wrapI (n := 0 - x) (by omega) (by omega), wrapI (n := 0 - x + 65536) (by omega) (by omega), wrapI (n := 0 - x + 65536 - 1) (by omega) (by omega), Int.tdiv_eq_ediv_of_nonneg (by omega), show 0 - x + 65536 - 1 = -x + 65536 - 1 by omega]
        rw [wrapI (n := (-x + 65536 - 1) / 65536) (by omega) (by omega), wrapI (n := (-x + 65536 - 1) / 65536 * 65536) (by omega) (by omega), wrapI (n := x + (-x + 65536 - 1) / 65536 * 65536) (by omega) (by omega)]
        simp only [cond_true, Option.bind_some, Sum.elim_inr, hjk, i1, Ag hp, hw1]
      · rw [decide_eq_false hx, if_neg hx]
        simp only [cond_false, Option.bind_some, Sum.elim_inr, hjk, i1, Ag hp, hw1, Int.zero_mul, Int.add_zero])
    (by
      rintro ⟨u, c⟩ _
      unfold CO
      dsimp only
      rw [decide_eq_false (Int.lt_irrefl _)]
      rfl) 0 (u0, 0) (by omega) (Off.start hu j q v)
  exact ⟨u, c, h1, h2⟩
structure Back (u0 u : List Int) (j k : Nat) (c : Int) (v : List Int) : Prop where
  len : u.length = u0.length
  lb : ∀ i, i < j + v.length → 0 ≤ dg u i ∧ dg u i < 65536
  hi : ∀ i, j + k ≤ i → dg u i = dg u0 i
  c0 : 0 ≤ c
  c1 : c < 65536
  v : val u + B (j + k) * c = val u0 + B j * val (v.take k)
theorem Xh {l : List Int} {k j : Nat} {x : Int} (hk : k < l.length) : dg (l.set k x) j = if j = k then x else dg l j := by
  split
  · rename_i h; subst h; exact DG (by rw [List.getElem?_set_self hk])
  · rename_i h; exact A8 (fun hh => h hh.symm)
theorem Back.next {u0 u : List Int} {j k : Nat} {c : Int} {v : List Int} (h : Back u0 u j k c v) (hv : LB v) (hkv : k < v.length) (hk : j + k < u.length) :
    Back u0 (u.set (j + k) ((dg u (j + k) + dg v k + c) % 65536)) j (k + 1) ((dg u (j + k) + dg v k + c) / 65536) v := by
  have du := h.lb (j + k) (by omega)
  have dv := AI hv k
  have c0 := h.c0
  have c1 := h.c1
  refine ⟨by rw [List.length_set]; exact h.len, fun i hi => ?_, fun i hi => by rw [A8 (by omega)]; exact h.hi i (by omega), by omega, by omega, ?_⟩
  · rw [Xh hk]
    split
    · omega
    · exact h.lb i hi
  · have := Vq (out := u) (p := j + k) (o := dg u (j + k)) (d := (dg u (j + k) + dg v k + c) % 65536) (c := c) (c' := (dg u (j + k) + dg v k + c) / 65536) (t := dg v k) (V := val u0 + B j * val (v.take k)) (Ag hk) (by omega) h.v
    rw [show j + (k + 1) = j + k + 1 by omega, this, Au, Int.mul_add]
    have : B (j + k) * dg v k = B j * (B k * dg v k) := by rw [KL]; grind
    omega
theorem Aq0 {u0 v out : List Int} {n by_ q : Int} {j : Nat} (hu : ∀ i, i < j + v.length → 0 ≤ dg u0 i ∧ dg u0 i < 65536) (hv : LB v) (hn : n = (v.length : Int)) (hlen : j + v.length < u0.length) (hl : u0.length ≤ 1000000) :
    ∃ u c, loopM (fun (s : ((List Int) × ((List Int) × ((List Int) × (Int × (Int × (Int × (Int × (Int × (Int × Int)))))))))) => C0 s.1 s.2.1 s.2.2.1 s.2.2.2.1 s.2.2.2.2.1 s.2.2.2.2.2.1 s.2.2.2.2.2.2.1 s.2.2.2.2.2.2.2.1 s.2.2.2.2.2.2.2.2.1 s.2.2.2.2.2.2.2.2.2) (u0, (v, (out, (n, (by_, ((j : Int), (q, (0, (n, 0))))))))) =
      some (u, (v, (out, (n, (by_, ((j : Int), (q, c))))))) ∧ Back u0 u j v.length c v := by
  subst hn
  obtain ⟨⟨u, c⟩, h1, h2⟩ := FK (body := fun (s : ((List Int) × ((List Int) × ((List Int) × (Int × (Int × (Int × (Int × (Int × (Int × Int)))))))))) => C0 s.1 s.2.1 s.2.2.1 s.2.2.2.1 s.2.2.2.2.1 s.2.2.2.2.2.1 s.2.2.2.2.2.2.1 s.2.2.2.2.2.2.2.1 s.2.2.2.2.2.2.2.2.1 s.2.2.2.2.2.2.2.2.2)
    (st := fun k (b : List Int × Int) => (b.1, (v, (out, ((v.length : Int), (by_, ((j : Int), (q, (b.2, ((v.length : Int), (k : Int))))))))))) (fin := fun b => (b.1, (v, (out, ((v.length : Int), (by_, ((j : Int), (q, b.2)))))))) (I := fun k b => Back u0 b.1 j k b.2 v) (e := v.length)
    (by
      rintro k ⟨u, c⟩ hk hI
      simp only at hI
      have hul := hI.len
      have hp : j + k < u.length := by omega
      have du := hI.lb (j + k) (by omega)
      have dv := AI hv k
      have c0 := hI.c0
      have c1 := hI.c1
      refine ⟨(u.set (j + k) ((dg u (j + k) + dg v k + c) % 65536), (dg u (j + k) + dg v k + c) / 65536), ?_, hI.next hv hk hp⟩
      unfold C0 getN
      dsimp only
      have i1 : idxI ((j : Int) + (k : Int)) u.length = some (j + k) := by rw [show (j : Int) + (k : Int) = ((j + k : Nat) : Int) by omega]; exact AP hp
      have hw1 := wrap1 (show k < 4611686018427387904 by omega)
      have hjk := wrapI (n := (j : Int) + (k : Int)) (by omega) (by omega)
      rw [decide_eq_true (by omega), hjk]
      simp only [cond_true, i1, AP hk, Option.bind_some, Ag hp, Ag hk]
      rw [wrapI (n := dg u (j + k) + dg v k) (by omega) (by omega), wrapI (n := c + (dg u (j + k) + dg v k)) (by omega) (by omega), show c + (dg u (j + k) + dg v k) = dg u (j + k) + dg v k + c by omega, Int.tmod_eq_emod_of_nonneg (by omega), Int.tdiv_eq_ediv_of_nonneg (by omega), wrapI (n := (dg u (j + k) + dg v k + c) / 65536) (by omega) (by omega), hw1])
    (by
      rintro ⟨u, c⟩ _
      unfold C0
      dsimp only
      rw [decide_eq_false (Int.lt_irrefl _)]
      rfl) 0 (u0, 0) (by omega) ⟨rfl, hu, fun _ _ => rfl, by simp only; omega, by simp only; omega, by simp [val]⟩
  exact ⟨u, c, h1, h2⟩
structure Guess (P v1 v2 vr top u2 ur V U Q : Int) : Prop where
  hP : 0 < P
  hv1 : 1 ≤ v1
  hv1' : v1 < 65536
  hv2 : 0 ≤ v2 ∧ v2 < 65536
  hvr : 0 ≤ vr ∧ vr < P
  hu2 : 0 ≤ u2 ∧ u2 < 65536
  hur : 0 ≤ ur ∧ ur < P
  hV : V = (v1 * 65536 + v2) * P + vr
  hU : U = (top * 65536 + u2) * P + ur
  htop : 0 ≤ top ∧ top < 4294967296
  hQ : Q * V ≤ U
  hQ0 : 0 ≤ Q
  hQ1 : Q < 65536
  hV0 : 0 < V
theorem Al3 {u v out : List Int} {n by_ : Int} {j m : Nat} {P v1 v2 vr top u2 ur V U Q : Int} (G : Guess P v1 v2 vr top u2 ur V U Q) (hn : n = ((m + 2 : Nat) : Int)) (hm : m ≤ 1000000) (hj : j ≤ 1000000)
    (hv : v.length = m + 2) (e1 : dg v (m + 1) = v1) (e2 : dg v m = v2) (hu : j + m < u.length) (e3 : dg u (j + m) = u2) {q0 r0 : Int} (h0 : q0 * v1 + r0 = top) (hr0 : 0 ≤ r0) (hq0 : Q ≤ q0) (hq4 : q0 < 4294967296) :
    ∃ q, loopM (fun (s : ((List Int) × ((List Int) × ((List Int) × (Int × (Int × (Int × (Int × Int)))))))) => BQ s.1 s.2.1 s.2.2.1 s.2.2.2.1 s.2.2.2.2.1 s.2.2.2.2.2.1 s.2.2.2.2.2.2.1 s.2.2.2.2.2.2.2) (u, (v, (out, (n, (by_, ((j : Int), (q0, r0))))))) = some (u, (v, (out, (n, (by_, ((j : Int), q)))))) ∧ Q ≤ q ∧ q < 65536 ∧ q * V < U + V := by
  subst hn
  obtain ⟨r, h1, q, rfl, h2⟩ := Fp (f := fun (s : ((List Int) × ((List Int) × ((List Int) × (Int × (Int × (Int × (Int × Int)))))))) => BQ s.1 s.2.1 s.2.2.1 s.2.2.2.1 s.2.2.2.2.1 s.2.2.2.2.2.1 s.2.2.2.2.2.2.1 s.2.2.2.2.2.2.2)
    (I := fun s => ∃ q r : Int, s = (u, (v, (out, (((m + 2 : Nat) : Int), (by_, ((j : Int), (q, r))))))) ∧ q * v1 + r = top ∧ 0 ≤ r ∧ Q ≤ q ∧ q < 4294967296)
    (R := fun s => ∃ q : Int, s = (u, (v, (out, (((m + 2 : Nat) : Int), (by_, ((j : Int), q)))))) ∧ Q ≤ q ∧ q < 65536 ∧ q * V < U + V) (fun s => s.2.2.2.2.2.2.1.toNat) (by
      rintro s ⟨q, r, rfl, g1, g2, g3, g4⟩
      simp only
      have hQ0 := G.hQ0
      have hQ1 := G.hQ1
      have hv1 := G.hv1
      have hv1' := G.hv1'
      have hv2 := G.hv2
      have hu2 := G.hu2
      have htop := G.htop
      have hqv : 0 ≤ q * v1 := Int.mul_nonneg (by omega) (by omega)
      have hqv2 : 0 ≤ q * v2 := Int.mul_nonneg (by omega) hv2.1
      have hqv2' : q * v2 ≤ 4294967296 * 65536 := Int.le_trans (Int.mul_le_mul_of_nonneg_left (show v2 ≤ 65536 by omega) (by omega)) (Int.mul_le_mul_of_nonneg_right (show q ≤ 4294967296 by omega) (by omega))
      have iv1 : idxI (((m + 2 : Nat) : Int) - 1) v.length = some (m + 1) := by rw [show ((m + 2 : Nat) : Int) - 1 = ((m + 1 : Nat) : Int) by omega]; exact AP (by omega)
      have iv2 : idxI (((m + 2 : Nat) : Int) - 2) v.length = some m := by rw [show ((m + 2 : Nat) : Int) - 2 = ((m : Nat) : Int) by omega]; exact AP (by omega)
      have iu : idxI ((j : Int) + ((m + 2 : Nat) : Int) - 2) u.length = some (j + m) := by rw [show (j : Int) + ((m + 2 : Nat) : Int) - 2 = ((j + m : Nat) : Int) by omega]; exact AP (by omega)
      have w1 := wrapI (n := ((m + 2 : Nat) : Int) - 1) (by omega) (by omega)
      have w2 := wrapI (n := ((m + 2 : Nat) : Int) - 2) (by omega) (by omega)
      have w3 := wrapI (n := (j : Int) + ((m + 2 : Nat) : Int)) (by omega) (by omega)
      have w4 := wrapI (n := (j : Int) + ((m + 2 : Nat) : Int) - 2) (by omega) (by omega)
      have w5 := wrapI (n := q * v2) (by omega) (by omega)
      have w6 := wrapI (n := r * 65536) (by omega) (by omega)
      have w7 := wrapI (n := r * 65536 + u2) (by omega) (by omega)
      have w8 := wrapI (n := q - 1) (by omega) (by omega)
      have w9 := wrapI (n := r + v1) (by omega) (by omega)
      have less : ∀ (hgo : Q ≤ q - 1), ∃ q' r' : Int, (u, (v, (out, (((m + 2 : Nat) : Int), (by_, ((j : Int), (q - 1, r + v1))))))) = (u, (v, (out, (((m + 2 : Nat) : Int), (by_, ((j : Int), (q', r'))))))) ∧ q' * v1 + r' = top ∧ 0 ≤ r' ∧ Q ≤ q' ∧ q' < 4294967296 := by
        intro hgo
        exact ⟨q - 1, r + v1, rfl, by rw [Int.sub_mul]; omega, by omega, hgo, by omega⟩
      by_cases c1 : q ≥ 65536
      · refine .inl ⟨(u, (v, (out, (((m + 2 : Nat) : Int), (by_, ((j : Int), (q - 1, r + v1))))))), ?_, less (by omega), by simp only; omega⟩
        unfold BQ getN
        rw [decide_eq_true c1]
        simp only [cond_true, Option.bind_some, Sum.elim_inr, w1, iv1, Ag (show m + 1 < v.length by omega), e1, w8, w9]
      · by_cases c2 : r < 65536
        · by_cases c3 : q * v2 > r * 65536 + u2
          · have hlt := Rr G.hP G.hv1 G.hv2 G.hvr G.hu2 G.hur G.hV G.hU g1 (by omega) c3
            have hne : Q ≤ q - 1 := by
              rcases Int.lt_or_le (q - 1) Q with h | h
              · have : q = Q := by omega
                subst this
                have := G.hQ
                omega
              · exact h
            refine .inl ⟨(u, (v, (out, (((m + 2 : Nat) : Int), (by_, ((j : Int), (q - 1, r + v1))))))), ?_, less hne, by simp only; omega⟩
            unfold BQ getN
            rw [decide_eq_false c1, decide_eq_true c2]
            simp only [cond_true, cond_false, Option.bind_some, w2, iv2, Ag (show m < v.length by omega), e2, w3, w4, iu, Ag hu, e3, w5, w6, w7, decide_eq_true c3, Sum.elim_inr, w1, iv1, Ag (show m + 1 < v.length by omega), e1, w8, w9]
          · refine .inr ⟨_, ?_, q, rfl, g3, by omega, SH G.hP G.hv1 G.hv2 G.hvr G.hu2 G.hur G.hV G.hU g1 (by omega) (by omega) (by omega)⟩
            unfold BQ getN
            rw [decide_eq_false c1, decide_eq_true c2]
            simp only [cond_true, cond_false, Option.bind_some, w2, iv2, Ag (show m < v.length by omega), e2, w3, w4, iu, Ag hu, e3, w5, w6, w7, decide_eq_false c3, Sum.elim_inl]
        · have hle := Rg G.hP G.hv1 G.hv2 G.hvr G.hu2 G.hur G.hV G.hU g1 (by omega) (by omega) (by omega)
          have hV0 := G.hV0
          refine .inr ⟨_, ?_, q, rfl, g3, by omega, by omega⟩
          unfold BQ getN
          rw [decide_eq_false c1, decide_eq_false c2]
          rfl) (u, (v, (out, (((m + 2 : Nat) : Int), (by_, ((j : Int), (q0, r0))))))) ⟨q0, r0, rfl, h0, hr0, hq0, hq4⟩
  exact ⟨q, h1, h2⟩
end Go.Proofs.YtgfchmagglhohaaGreat.Ev

end
section
namespace Go.Proofs.YtgfchmagglhohaaGreat.Ev
open Go
set_option linter.unusedVariables false
set_option linter.unusedSimpArgs false
set_option linter.unusedSectionVars false
theorem Ln {j : Nat} {a b X Y : Int} (ha : 0 ≤ a ∧ a < B j) (hb : 0 ≤ b ∧ b < B j) (h : a + B j * X = b + B j * Y) : X = Y := by
  rcases Int.lt_trichotomy X Y with g | g | g
  · exfalso
    have := Int.mul_le_mul_of_nonneg_left (show X + 1 ≤ Y by omega) (Int.le_of_lt (Dk j))
    rw [Int.mul_add] at this
    omega
  · exact g
  · exfalso
    have := Int.mul_le_mul_of_nonneg_left (show Y + 1 ≤ X by omega) (Int.le_of_lt (Dk j))
    rw [Int.mul_add] at this
    omega
theorem Px (l : List Int) (n k : Nat) : dg (l.drop n) k = dg l (n + k) := by unfold dg; simp [List.getD_eq_getElem?_getD, List.getElem?_drop]
theorem BI (l : List Int) (k : Nat) : val (l.drop k) = dg l k + 65536 * val (l.drop (k + 1)) := by
  rcases Nat.lt_or_ge k l.length with h | h
  · rw [List.drop_eq_getElem_cons h, DG (List.getElem?_eq_getElem h)]; rfl
  · rw [List.drop_eq_nil_of_le h, List.drop_eq_nil_of_le (by omega), Fw h]; simp [val]
theorem Qg {l : List Int} (h : ∀ i, i < l.length → 0 ≤ dg l i ∧ dg l i < 65536) : LB l := fun x hx => by
  obtain ⟨i, hi, rfl⟩ := List.getElem_of_mem hx
  have := h i hi
  rwa [DG (List.getElem?_eq_getElem hi)] at this
theorem Al2 {l : List Int} {k i : Nat} (h : i < k) : dg (l.take k) i = dg l i := by unfold dg; simp [List.getD_eq_getElem?_getD, List.getElem?_take, h]
theorem Yz {l : List Int} {k : Nat} (h : ∀ i, i < k → 0 ≤ dg l i ∧ dg l i < 65536) : LB (l.take k) := Qg fun i hi => by
  rw [List.length_take] at hi
  rw [Al2 (by omega)]
  exact h i (by omega)
theorem JF : ∀ {l : List Int}, (∀ i, dg l i = 0) → val l = 0
  | [], _ => rfl
  | x :: l, h => by
    have h0 := h 0
    have h1 : val l = 0 := JF fun i => h (i + 1)
    simp only [val, h1]
    unfold dg at h0
    simp at h0
    omega
theorem BE {l : List Int} (h : LB l) (k : Nat) : 0 ≤ val (l.take k) ∧ val (l.take k) < B k := by
  refine ⟨As (h.take k), ?_⟩
  have := Ib (h.take k)
  have := C1 (show (l.take k).length ≤ k by rw [List.length_take]; omega)
  omega
theorem Zc {l : List Int} (h : LB l) {n k : Nat} (hv : val l < B n) (hk : n ≤ k) : dg l k = 0 ∧ val (l.drop k) = 0 := by
  have h1 := Bj l k
  have h2 := As (h.take k)
  have h3 := As (h.drop k)
  have h4 := C1 hk
  have h5 : val (l.drop k) = 0 := by
    rcases Int.lt_or_le 0 (val (l.drop k)) with g | g
    · have := Int.mul_le_mul_of_nonneg_left (show 1 ≤ val (l.drop k) by omega) (Int.le_of_lt (Dk k))
      omega
    · omega
  have h6 := BI l k
  have h7 := AI h k
  have h8 := As (h.drop (k + 1))
  exact ⟨by omega, h5⟩
structure Place (u v : List Int) (j m : Nat) : Prop where
  lu : LB u
  lv : LB v
  hv : v.length = m + 2
  top : 1 ≤ dg v (m + 1)
  len : j + m + 2 < u.length
  less : val (u.drop (j + 1)) < val v
section
variable {u v : List Int} {j m : Nat} (H : Place u v j m)
include H
theorem Place.pos : 0 < val v := by
  have h1 := Bj v (m + 1)
  have h2 := As (H.lv.take (m + 1))
  have h3 := BI v (m + 1)
  have h4 := As (H.lv.drop (m + 1 + 1))
  have h5 := H.top
  have h6 := Int.mul_le_mul_of_nonneg_left (show 1 ≤ val (v.drop (m + 1)) by omega) (Int.le_of_lt (Dk (m + 1)))
  have h7 := Dk (m + 1)
  omega
theorem Place.lt : val v < B (m + 2) := by have := Ib H.lv; rwa [H.hv] at this
theorem Place.high {k : Nat} (hk : j + m + 3 ≤ k) : dg u k = 0 ∧ val (u.drop k) = 0 := by
  have h1 := Zc (H.lu.drop (j + 1)) (n := m + 2) (k := k - (j + 1)) (by have := H.less; have := H.lt; omega) (by omega)
  rw [Px, List.drop_drop, show j + 1 + (k - (j + 1)) = k by omega] at h1
  exact h1
theorem Place.rest : 0 ≤ val (u.drop j) ∧ val (u.drop j) < 65536 * val v := by
  refine ⟨As (H.lu.drop j), ?_⟩
  have h1 := BI u j
  have h2 := AI H.lu j
  have h3 := H.less
  omega
theorem Place.quot : 0 ≤ val (u.drop j) / val v ∧ val (u.drop j) / val v < 65536 := by
  obtain ⟨h1, h2⟩ := H.rest
  have h3 := H.pos
  exact ⟨Int.ediv_nonneg h1 (by omega), Int.ediv_lt_of_lt_mul h3 h2⟩
theorem Place.mod : 0 ≤ val (u.drop j) - val (u.drop j) / val v * val v ∧ val (u.drop j) - val (u.drop j) / val v * val v < val v := by
  have h1 := Int.emod_add_mul_ediv (val (u.drop j)) (val v)
  have h2 := Int.emod_nonneg (val (u.drop j)) (show val v ≠ 0 by have := H.pos; omega)
  have h3 := Int.emod_lt_of_pos (val (u.drop j)) H.pos
  rw [Int.mul_comm] at h1
  omega
theorem Place.guess : Guess (B m) (dg v (m + 1)) (dg v m) (val (v.take m)) (dg u (j + m + 2) * 65536 + dg u (j + m + 1)) (dg u (j + m)) (val ((u.drop j).take m)) (val v) (val (u.drop j)) (val (u.drop j) / val v) := by
  have d1 := AI H.lu (j + m + 1)
  have d2 := AI H.lu (j + m + 2)
  have hm := H.mod
  have hq := H.quot
  refine ⟨Dk m, H.top, (AI H.lv _).2, AI H.lv _, BE H.lv m, AI H.lu _, BE (H.lu.drop j) m, ?_, ?_, by omega, by omega, hq.1, hq.2, H.pos⟩
  · rw [Bj v m, BI v m, BI v (m + 1), List.drop_eq_nil_of_le (show v.length ≤ m + 1 + 1 by rw [H.hv]; omega)]
    simp only [val]
    grind
  · rw [Bj (u.drop j) m, List.drop_drop, BI u (j + m), BI u (j + m + 1), BI u (j + m + 1 + 1), (H.high (k := j + m + 1 + 1 + 1) (by omega)).2, show j + m + 1 + 1 = j + m + 2 by omega]
    grind
theorem Place.after {u4 : List Int} (hl : u4.length = u.length) (hg : ∀ i, i < j + m + 2 → 0 ≤ dg u4 i ∧ dg u4 i < 65536) (hh : ∀ i, j + m + 2 < i → dg u4 i = dg u i) {x : Int} (hv : val u4 = val u - B j * (x * val v)) :
    val (u4.drop j) = val (u.drop j) - x * val v ∧ ∃ X, 0 ≤ X ∧ X < B (m + 2) ∧ val (u.drop j) - x * val v = X + B (m + 2) * dg u4 (j + m + 2) := by
  have e1 : val (u4.drop j) = val (u.drop j) - x * val v := by
    have h1 := Bj u4 j
    have h2 := Bj u j
    have h3 := BE H.lu j
    have h4 : LB (u4.take j) := Yz fun i hi => hg i (by omega)
    have h5 := BE h4 j
    rw [List.take_take, Nat.min_self] at h5
    refine Ln (j := j) h5 h3 ?_
    rw [Int.mul_sub]
    omega
  refine ⟨e1, val ((u4.drop j).take (m + 2)), ?_⟩
  have h4 : LB ((u4.drop j).take (m + 2)) := Yz fun i hi => by rw [Px]; exact hg _ (by omega)
  have h5 := BE h4 (m + 2)
  rw [List.take_take, Nat.min_self] at h5
  refine ⟨h5.1, h5.2, ?_⟩
  rw [← e1, Bj (u4.drop j) (m + 2), List.drop_drop, BI u4 (j + (m + 2)), JF (l := u4.drop (j + (m + 2) + 1)) fun i => by rw [Px, hh _ (by omega)]; exact (H.high (by omega)).1]
  rw [show j + (m + 2) = j + m + 2 by omega, Int.mul_zero, Int.add_zero]
theorem Place.done {u4 : List Int} (hl : u4.length = u.length) (hg : ∀ i, i < j + m + 2 → 0 ≤ dg u4 i ∧ dg u4 i < 65536) (hh : ∀ i, j + m + 2 < i → dg u4 i = dg u i) {x : Int} (hv : val u4 = val u - B j * (x * val v))
    (hx : 0 ≤ val (u.drop j) - x * val v ∧ val (u.drop j) - x * val v < val v) : dg u4 (j + m + 2) = 0 ∧ LB u4 ∧ val (u4.drop j) < val v := by
  obtain ⟨h1, X, h2, h3, h4⟩ := H.after hl hg hh hv
  have h0 : dg u4 (j + m + 2) = 0 := by
    have := H.lt
    exact (Ln (j := m + 2) (a := val (u.drop j) - x * val v) (b := X) (X := 0) (by omega) (by omega) (by rw [h4]; simp)).symm
  refine ⟨h0, Qg fun i hi => ?_, by omega⟩
  rcases Nat.lt_trichotomy i (j + m + 2) with g | g | g
  · exact hg i g
  · rw [g, h0]; omega
  · rw [hh i g]; exact AI H.lu i
theorem Place.one {q : Int} (h1 : val (u.drop j) / val v ≤ q) (h2 : q * val v < val (u.drop j) + val v) : q = val (u.drop j) / val v ∨ q = val (u.drop j) / val v + 1 := by
  have hm := H.mod
  have hp := H.pos
  rcases Int.lt_or_le (val (u.drop j) / val v + 1) q with g | g
  · exfalso
    have := Int.mul_le_mul_of_nonneg_right (show val (u.drop j) / val v + 2 ≤ q by omega) (Int.le_of_lt hp)
    rw [Int.add_mul] at this
    omega
  · omega
end
end Go.Proofs.YtgfchmagglhohaaGreat.Ev

end
section
namespace Go.Proofs.YtgfchmagglhohaaGreat.Ev
open Go
set_option linter.unusedVariables false
set_option linter.unusedSimpArgs false
set_option linter.unusedSectionVars false
theorem Place.start {u v : List Int} {j m : Nat} (H : Place u v j m) : val (u.drop j) / val v ≤ (dg u (j + m + 2) * 65536 + dg u (j + m + 1)) / dg v (m + 1) := by
  have G := H.guess
  have hu2 := G.hu2
  have hur := G.hur
  have hP := G.hP
  have hv2 := G.hv2
  have hvr := G.hvr
  have h1 : dg u (j + m) * B m ≤ 65535 * B m := Int.mul_le_mul_of_nonneg_right (by omega) (by omega)
  have h2 : 0 ≤ dg v m * B m := Int.mul_nonneg hv2.1 (by omega)
  exact WP (P' := 65536 * B m) (vt := dg v m * B m + val (v.take m)) (ut := dg u (j + m) * B m + val ((u.drop j).take m)) (v := val v) (U := val (u.drop j)) (by omega) G.hv1 (by omega) (by omega) (by rw [G.hV]; grind) (by rw [G.hU]; grind) G.hQ G.hQ0
set_option maxHeartbeats 1000000 in
theorem Ak0 {u v out : List Int} {by_ : Int} {j m : Nat} (H : Place u v j m) (hl : u.length ≤ 1000000) (hj : j < out.length) :
    ∃ u', BP u v out ((m + 2 : Nat) : Int) by_ (j : Int) = some (.inl (u', (v, (out.set j (val (u.drop j) / val v), (((m + 2 : Nat) : Int), (by_, (j : Int) - 1)))))) ∧
      u'.length = u.length ∧ LB u' ∧ val u' = val u - B j * (val (u.drop j) / val v * val v) ∧ val (u'.drop j) < val v := by
  have hlen := H.len
  have hvl := H.hv
  have d1 := AI H.lu (j + m + 1)
  have d2 := AI H.lu (j + m + 2)
  have dv := AI H.lv (m + 1)
  have htop := H.top
  have G := H.guess
  have hQ := H.quot
  have hmod := H.mod
  have hst := H.start
  have hk : ∀ l : List Int, l.length = u.length → idxI (IntKind.wrap .i64 ((j : Int) + ((m + 2 : Nat) : Int))) l.length = some (j + m + 2) := fun l h => by
    rw [h, wrapI (by omega) (by omega), show (j : Int) + ((m + 2 : Nat) : Int) = ((j + m + 2 : Nat) : Int) by omega]
    exact AP (by omega)
  have hk1 : idxI (IntKind.wrap .i64 (IntKind.wrap .i64 ((j : Int) + ((m + 2 : Nat) : Int)) - 1)) u.length = some (j + m + 1) := by
    rw [wrapI (n := (j : Int) + ((m + 2 : Nat) : Int)) (by omega) (by omega), wrapI (by omega) (by omega), show (j : Int) + ((m + 2 : Nat) : Int) - 1 = ((j + m + 1 : Nat) : Int) by omega]
    exact AP (by omega)
  have hk2 : idxI (IntKind.wrap .i64 (((m + 2 : Nat) : Int) - 1)) v.length = some (m + 1) := by
    rw [wrapI (by omega) (by omega), show ((m + 2 : Nat) : Int) - 1 = ((m + 1 : Nat) : Int) by omega]
    exact AP (by omega)
  have hj0 : ∀ l : List Int, l.length = out.length → idxI (j : Int) l.length = some j := fun l h => by rw [h]; exact AP hj
  have hge : decide ((j : Int) ≥ 0) = true := decide_eq_true (by omega)
  have hz : (dg v (m + 1) == 0) = false := beq_eq_false_iff_ne.2 (by omega)
  have w1 := wrapI (n := dg u (j + m + 2) * 65536) (by omega) (by omega)
  have w2 := wrapI (n := dg u (j + m + 2) * 65536 + dg u (j + m + 1)) (by omega) (by omega)
  have htop0 : 0 ≤ dg u (j + m + 2) * 65536 + dg u (j + m + 1) := by omega
  have e1 := Int.emod_add_mul_ediv (dg u (j + m + 2) * 65536 + dg u (j + m + 1)) (dg v (m + 1))
  have e2 := Int.emod_nonneg (dg u (j + m + 2) * 65536 + dg u (j + m + 1)) (show dg v (m + 1) ≠ 0 by omega)
  have e3 : (dg u (j + m + 2) * 65536 + dg u (j + m + 1)) / dg v (m + 1) ≤ dg u (j + m + 2) * 65536 + dg u (j + m + 1) := Int.ediv_le_self _ htop0
  have w3 := wrapI (n := (dg u (j + m + 2) * 65536 + dg u (j + m + 1)) / dg v (m + 1)) (by omega) (by omega)
  obtain ⟨q, hg1, hg2, hg3, hg4⟩ := Al3 (out := out) (by_ := by_) (u := u) (v := v) (j := j) (m := m) G rfl (by omega) (by omega) hvl rfl rfl (by omega) rfl (q0 := (dg u (j + m + 2) * 65536 + dg u (j + m + 1)) / dg v (m + 1)) (r0 := (dg u (j + m + 2) * 65536 + dg u (j + m + 1)) % dg v (m + 1)) (by rw [Int.mul_comm]; omega) e2 hst (by omega)
  obtain ⟨u1, c, ht1, O⟩ := At0 (out := out) (by_ := by_) (n := ((m + 2 : Nat) : Int)) (j := j) H.lu H.lv (q := q) ⟨by omega, hg3⟩ (by rw [hvl]) (by omega) hl
  have ol := O.len
  have oc0 := O.c0
  have oc1 := O.c1
  have ohi : dg u1 (j + m + 2) = dg u (j + m + 2) := O.hi _ (by omega)
  have ov := O.v
  rw [List.take_of_length_le (Nat.le_refl _), hvl, show j + (m + 2) = j + m + 2 by omega] at ov
  have gu1 : getN u1 (j + m + 2) = some (dg u (j + m + 2)) := by unfold getN; rw [Ag (by omega), ohi]
  have w4 := wrapI (n := dg u (j + m + 2) - c) (by omega) (by omega)
  have w5 := wrapI (n := (j : Int) - 1) (by omega) (by omega)
  have hset : val (u1.set (j + m + 2) (dg u (j + m + 2) - c)) = val u - B j * (q * val v) := by
    rw [DE (Ag (show j + m + 2 < u1.length by omega)), ohi, show dg u (j + m + 2) - c - dg u (j + m + 2) = -c by omega, Int.mul_neg]
    omega
  have hsl : (u1.set (j + m + 2) (dg u (j + m + 2) - c)).length = u.length := by rw [List.length_set]; exact ol
  have hsg : ∀ i, i < j + m + 2 → 0 ≤ dg (u1.set (j + m + 2) (dg u (j + m + 2) - c)) i ∧ dg (u1.set (j + m + 2) (dg u (j + m + 2) - c)) i < 65536 := fun i hi => by rw [A8 (by omega)]; exact AI O.lb i
  have hsh : ∀ i, j + m + 2 < i → dg (u1.set (j + m + 2) (dg u (j + m + 2) - c)) i = dg u i := fun i hi => by rw [A8 (by omega)]; exact O.hi i (by omega)
  have hsd : dg (u1.set (j + m + 2) (dg u (j + m + 2) - c)) (j + m + 2) = dg u (j + m + 2) - c := by rw [Xh (by omega), if_pos rfl]
  have gs : getN (u1.set (j + m + 2) (dg u (j + m + 2) - c)) (j + m + 2) = some (dg u (j + m + 2) - c) := by unfold getN; rw [Ag (by omega), hsd]
  have gout : getN out j = some (dg out j) := Ag hj
  have gu0 : getN u (j + m + 2) = some (dg u (j + m + 2)) := Ag (by omega)
  have gu00 : getN u (j + m + 1) = some (dg u (j + m + 1)) := Ag (by omega)
  have gv0 : getN v (m + 1) = some (dg v (m + 1)) := Ag (by omega)
  rcases H.one hg2 hg4 with hq | hq
  · obtain ⟨f1, f2, f3⟩ := H.done hsl hsg hsh hset (by rw [hq]; exact hmod)
    rw [hsd] at f1
    rw [f1] at hset hsl hsg hsh hsd gs w4 f2 f3
    refine ⟨_, ?_, hsl, f2, by rw [hset, hq], f3⟩
    unfold BP
    rw [hge]
    simp only [cond_true, cond_false, Option.bind_some, hk u rfl, gu0, hk1, gu00, hk2, gv0, hz, w1, w2, Int.tdiv_eq_ediv_of_nonneg htop0, Int.tmod_eq_emod_of_nonneg htop0, w3]
    rw [hg1]
    simp only [Option.bind_some]
    rw [ht1]
    simp only [Option.bind_some, hk u1 ol, gu1, f1, w4, hk _ hsl, gs, show decide ((0 : Int) < 0) = false from rfl, cond_false, hj0 out rfl, gout, w5, hq]
  · obtain ⟨f1, X, f2, f3, f4⟩ := H.after hsl hsg hsh hset
    rw [hsd] at f4
    have hneg : dg u (j + m + 2) - c = -1 := by
      have hlt := H.lt
      have hqv : q * val v = val (u.drop j) / val v * val v + val v := by rw [hq, Int.add_mul, Int.one_mul]
      have := Ln (j := m + 2) (a := val (u.drop j) - q * val v + B (m + 2)) (b := X) (X := -1) (Y := dg u (j + m + 2) - c) (by omega) (by omega) (by rw [f4, Int.mul_neg, Int.mul_one]; omega)
      exact this.symm
    rw [hneg] at hset hsl hsg hsh hsd gs w4
    obtain ⟨u3, c3, hb1, K⟩ := Aq0 (out := out) (by_ := by_) (n := ((m + 2 : Nat) : Int)) (q := val (u.drop j) / val v) (u0 := u1.set (j + m + 2) (-1)) (v := v) (j := j) (by rw [hvl]; exact hsg) H.lv (by rw [hvl]) (by omega) (by omega)
    have kl : u3.length = u.length := K.len.trans hsl
    have kc0 := K.c0
    have kc1 := K.c1
    have khi : dg u3 (j + m + 2) = -1 := by rw [K.hi _ (by omega), hsd]
    have kv := K.v
    rw [List.take_of_length_le (Nat.le_refl _), hvl, show j + (m + 2) = j + m + 2 by omega, hset] at kv
    have hset' : val (u3.set (j + m + 2) (-1 + c3)) = val u - B j * (val (u.drop j) / val v * val v) := by
      rw [DE (Ag (show j + m + 2 < u3.length by omega)), khi, show -1 + c3 - -1 = c3 by omega]
      have : B j * (q * val v) = B j * (val (u.drop j) / val v * val v) + B j * val v := by rw [hq, Int.add_mul, Int.one_mul, Int.mul_add]
      omega
    obtain ⟨f1, f2, f3⟩ := H.done (u4 := u3.set (j + m + 2) (-1 + c3)) (by rw [List.length_set]; exact kl) (fun i hi => by rw [A8 (by omega)]; exact K.lb i (by omega)) (fun i hi => by rw [A8 (by omega), K.hi i (by omega)]; exact hsh i hi) hset' hmod
    refine ⟨_, ?_, by rw [List.length_set]; exact kl, f2, hset', f3⟩
    have gu3 : getN u3 (j + m + 2) = some (-1) := by unfold getN; rw [Ag (by omega), khi]
    have w6 := wrapI (n := -1 + c3) (by omega) (by omega)
    have w7 : IntKind.wrap .i64 (q - 1) = val (u.drop j) / val v := by rw [wrapI (by omega) (by omega)]; omega
    unfold BP
    rw [hge]
    simp only [cond_true, cond_false, Option.bind_some, hk u rfl, gu0, hk1, gu00, hk2, gv0, hz, w1, w2, Int.tdiv_eq_ediv_of_nonneg htop0, Int.tmod_eq_emod_of_nonneg htop0, w3]
    rw [hg1]
    simp only [Option.bind_some]
    rw [ht1]
    simp only [Option.bind_some, hk u1 ol, gu1, hneg, w4, hk _ hsl, gs, show decide ((-1 : Int) < 0) = true from rfl, cond_true, w7]
    rw [hb1]
    simp only [Option.bind_some, hk u3 kl, gu3, hj0 out rfl, gout, w5, w6]
end Go.Proofs.YtgfchmagglhohaaGreat.Ev

end
section
namespace Go.Proofs.YtgfchmagglhohaaGreat.Ev
open Go
set_option linter.unusedVariables false
set_option linter.unusedSimpArgs false
set_option linter.unusedSectionVars false
structure Places (u0 v : List Int) (m n : Nat) (u out : List Int) : Prop where
  len : u.length = u0.length
  lu : LB u
  le : n + (m + 2) ≤ u0.length
  less : val (u.drop n) < val v
  lo : LB out
  olen : out.length + (m + 2) = u0.length
  zero : ∀ i, i < n → dg out i = 0
  v : val u + val v * val out = val u0
theorem Places.place {u0 v u out : List Int} {m n : Nat} (h : Places u0 v m (n + 1) u out) (hv : LB v) (hvl : v.length = m + 2) (ht : 1 ≤ dg v (m + 1)) : Place u v n m :=
  ⟨h.lu, hv, hvl, ht, by have := h.le; have := h.len; omega, h.less⟩
theorem Places.next {u0 v u out u' : List Int} {m n : Nat} (h : Places u0 v m (n + 1) u out) (H : Place u v n m) (h1 : u'.length = u.length) (h2 : LB u') (h3 : val u' = val u - B n * (val (u.drop n) / val v * val v)) (h4 : val (u'.drop n) < val v) :
    Places u0 v m n u' (out.set n (val (u.drop n) / val v)) := by
  have hle := h.le
  have hol := h.olen
  refine ⟨h1.trans h.len, h2, by omega, h4, h.lo.set H.quot, by rw [List.length_set]; exact hol, fun i hi => by rw [A8 (by omega)]; exact h.zero i (by omega), ?_⟩
  have hz := h.zero n (by omega)
  rw [DE (Ag (show n < out.length by omega)), hz, h3, Int.sub_zero, Int.mul_add]
  have := h.v
  have e : val v * (B n * (val (u.drop n) / val v)) = B n * (val (u.drop n) / val v * val v) := by grind
  omega
theorem Ab8 {u0 v : List Int} {m : Nat} {by_ : Int} (hv : LB v) (hvl : v.length = m + 2) (ht : 1 ≤ dg v (m + 1)) (hl : u0.length ≤ 1000000) {n : Nat} {out : List Int} (h : Places u0 v m n u0 out) :
    ∃ u out', loopM (fun (s : ((List Int) × ((List Int) × ((List Int) × (Int × (Int × Int)))))) => BP s.1 s.2.1 s.2.2.1 s.2.2.2.1 s.2.2.2.2.1 s.2.2.2.2.2) (u0, (v, (out, (((m + 2 : Nat) : Int), (by_, (n : Int) - 1))))) = some (u, (out', (((m + 2 : Nat) : Int), by_))) ∧ Places u0 v m 0 u out' := by
  obtain ⟨⟨u, out'⟩, h1, h2⟩ := Kw (body := fun (s : ((List Int) × ((List Int) × ((List Int) × (Int × (Int × Int)))))) => BP s.1 s.2.1 s.2.2.1 s.2.2.2.1 s.2.2.2.2.1 s.2.2.2.2.2)
    (st := fun n (b : List Int × List Int) => (b.1, (v, (b.2, (((m + 2 : Nat) : Int), (by_, (n : Int) - 1)))))) (fin := fun b => (b.1, (b.2, (((m + 2 : Nat) : Int), by_)))) (I := fun n b => Places u0 v m n b.1 b.2)
    (by
      rintro n ⟨u, out⟩ hI
      simp only at hI
      have H := hI.place hv hvl ht
      have hle := hI.le
      have hol := hI.olen
      have hul := hI.len
      obtain ⟨u', g1, g2, g3, g4, g5⟩ := Ak0 (out := out) (by_ := by_) H (by omega) (by omega)
      refine ⟨(u', out.set n (val (u.drop n) / val v)), ?_, hI.next H g2 g3 g4 g5⟩
      simp only
      rw [show ((n + 1 : Nat) : Int) - 1 = (n : Int) by omega, g1])
    (by
      rintro ⟨u, out⟩ _
      unfold BP
      dsimp only
      rw [decide_eq_false (by omega)]
      rfl) n (u0, out) h
  exact ⟨u, out', h1, h2⟩
theorem Places.start {u0 v : List Int} {m n : Nat} (hu : LB u0) (hv : LB v) (hvl : v.length = m + 2) (ht : 1 ≤ dg v (m + 1)) (hn : u0.length = n + (m + 2)) (h0 : dg u0 (n + (m + 1)) = 0) : Places u0 v m n u0 (List.replicate n 0) := by
  refine ⟨rfl, hu, by omega, ?_, LB.zeros n, by simp; omega, fun i hi => by unfold dg; rw [List.getD_eq_getElem?_getD, List.getElem?_replicate]; split <;> rfl, by rw [Cv]; omega⟩
  have h1 := Bj (u0.drop n) (m + 1)
  have h2 := BE (hu.drop n) (m + 1)
  rw [List.drop_drop, BI u0 (n + (m + 1)), h0, List.drop_eq_nil_of_le (show u0.length ≤ n + (m + 1) + 1 by omega)] at h1
  simp only [val] at h1
  have h3 := Bj v (m + 1)
  have h4 := As (hv.take (m + 1))
  have h5 := BI v (m + 1)
  have h6 := As (hv.drop (m + 1 + 1))
  have h7 := Int.mul_le_mul_of_nonneg_left (show 1 ≤ val (v.drop (m + 1)) by omega) (Int.le_of_lt (Dk (m + 1)))
  omega
theorem Places.end {u0 v u out : List Int} {m : Nat} (h : Places u0 v m 0 u out) (hv : LB v) : val out = val u0 / val v ∧ val u = val u0 % val v := by
  have h1 := h.less
  rw [List.drop_zero] at h1
  exact NM (by rw [Int.mul_comm]; have := h.v; omega) (As h.lu) h1
theorem PD {n : Nat} (h : n ≠ 0) : 1 ≤ dg (lim n) ((lim n).length - 1) ∧ dg (lim n) ((lim n).length - 1) < 65536 ∧ B ((lim n).length - 1) * dg (lim n) ((lim n).length - 1) ≤ n ∧ (n : Int) < B ((lim n).length - 1) * (dg (lim n) ((lim n).length - 1) + 1) := by
  have hne : (lim n).length ≠ 0 := fun hh => h (Fa.1 (List.eq_nil_of_length_eq_zero hh))
  have h1 := Bj (lim n) ((lim n).length - 1)
  have h2 := BE (An n) ((lim n).length - 1)
  rw [BI, List.drop_eq_nil_of_le (show (lim n).length ≤ (lim n).length - 1 + 1 by omega), Ai] at h1
  simp only [val, Int.mul_zero, Int.add_zero] at h1
  have h3 := AI (An n) ((lim n).length - 1)
  refine ⟨?_, h3.2, by omega, by rw [Int.mul_add]; omega⟩
  rcases Int.lt_or_le 0 (dg (lim n) ((lim n).length - 1)) with g | g
  · omega
  · exfalso
    have g0 : dg (lim n) ((lim n).length - 1) = 0 := by omega
    refine Na n _ (List.getLast?_eq_getElem? .. ▸ Ag (show (lim n).length - 1 < (lim n).length by omega)) g0
end Go.Proofs.YtgfchmagglhohaaGreat.Ev

end
section
namespace Go.Proofs.YtgfchmagglhohaaGreat.Ev
open Go
set_option linter.unusedVariables false
set_option linter.unusedSimpArgs false
set_option linter.unusedSectionVars false
theorem Ih {l : List Int} {n : Int} {i : Nat} (hn : n = (i : Int)) (h : i < l.length) : getI l n = some (dg l i) := by rw [hn, Ao]; exact Ag h
theorem Z5 {n m : Int} {a b k : Nat} (hn : n = (a : Int)) (hm : m = (b : Int)) (h1 : a ≤ b) (h2 : b ≤ k) : subI n m k = some (a, b) := by
  subst hn hm; unfold subI; simp [h1, h2]
theorem Y5 {b : Nat} (h : (lim b).length = 1) : (lim b) = [(b : Int)] ∧ b < 65536 ∧ b ≠ 0 := by
  match hl : lim b with
  | [] => rw [hl] at h; simp at h
  | [x] =>
    have hv := Ai b
    have hb := An b
    rw [hl] at hv hb
    have h0 := hb.head
    simp only [val] at hv
    have : b ≠ 0 := fun h0 => by rw [h0, AW] at hl; simp at hl
    exact ⟨by congr 1; omega, by omega, this⟩
  | x :: y :: l => rw [hl] at h; simp at h
theorem RN {a b c : Nat} (hc : 0 < c) : a * c / (b * c) = a / b ∧ a * c % (b * c) = a % b * c := ⟨Nat.mul_div_mul_right _ _ hc, Nat.mul_mod_mul_right _ _ _⟩
theorem scale {t by_ : Int} (h1 : 1 ≤ t) (h2 : t < 65536) (hb : by_ = 65536 / (t + 1)) : 1 ≤ by_ ∧ by_ ≤ 32768 ∧ by_ * (t + 1) ≤ 65536 := by
  have e1 := Int.emod_add_mul_ediv 65536 (t + 1)
  have e2 := Int.emod_nonneg 65536 (show t + 1 ≠ 0 by omega)
  have e3 := Int.emod_lt_of_pos 65536 (show 0 < t + 1 by omega)
  rw [← hb] at e1
  have e4 : 1 ≤ by_ := by
    rw [hb]
    exact (Int.le_ediv_iff_mul_le (by omega)).2 (by omega)
  have e5 : by_ * 2 ≤ by_ * (t + 1) := Int.mul_le_mul_of_nonneg_left (by omega) (by omega)
  rw [Int.mul_comm] at e1
  exact ⟨e4, by omega, by omega⟩
set_option maxHeartbeats 1000000 in
theorem PX {a b : Nat} (hb0 : b ≠ 0) (ha : (lim a).length ≤ 90000) (hb : (lim b).length ≤ 90000) : Dg (lim a) (lim b) = some (lim (a / b), lim (a % b)) := by
  unfold Dg
  rw [Gd (by unfold Brief; omega) (by unfold Brief; omega)]
  simp only [Option.bind_some]
  by_cases hab : a < b
  · rw [Co (by omega)]
    simp only [show decide ((-1 : Int) < 0) = true from rfl, cond_true]
    rw [Nat.div_eq_of_lt hab, Nat.mod_eq_of_lt hab, AW]
  have hc : decide (cmpZ (a : Int) b < 0) = false := by
    rcases AT (a : Int) b with ⟨h, g⟩ | ⟨h, _⟩ | ⟨h, _⟩
    · omega
    · rw [h]; rfl
    · rw [h]; rfl
  simp only [hc, cond_false]
  have hbl : (lim b).length ≠ 0 := fun h => hb0 (Fa.1 (List.eq_nil_of_length_eq_zero h))
  by_cases h1 : (lim b).length = 1
  · obtain ⟨e1, e2, e3⟩ := Y5 h1
    rw [e1]
    simp only [List.length_singleton, show (((1 : Nat) : Int) == 1) = true from rfl, cond_true]
    rw [show getI [(b : Int)] 0 = some (b : Int) from rfl]
    simp only [Option.bind_some]
    rw [Qv (by omega) (by omega)]
    simp only [Option.bind_some, Int.toNat_natCast]
    rw [TT (by unfold Brief; simp)]
    have hm := Nat.mod_lt a (show b > 0 by omega)
    simp only [Option.bind_some, Bg (LB.cons (show (0 : Int) ≤ ((a % b : Nat) : Int) ∧ ((a % b : Nat) : Int) < 65536 by omega) LB.nil), val]
    congr 3
  have hn1 : ((((lim b).length : Nat) : Int) == 1) = false := beq_eq_false_iff_ne.2 (by omega)
  obtain ⟨m, hm⟩ : ∃ m, (lim b).length = m + 2 := ⟨(lim b).length - 2, by omega⟩
  obtain ⟨t1, t2, t3, t4⟩ := PD hb0
  rw [hm, show m + 2 - 1 = m + 1 by omega] at t1 t2 t3 t4
  have hg := Ih (l := lim b) (n := IntKind.wrap .i64 (((lim b).length : Int) - 1)) (i := m + 1) (by rw [wrapI (by omega) (by omega)]; omega) (by omega)
  generalize ht : dg (lim b) (m + 1) = t at *
  have wt : IntKind.wrap .i64 (t + 1) = t + 1 := wrapI (by omega) (by omega)
  have hz : (t + 1 == 0) = false := beq_eq_false_iff_ne.2 (by omega)
  obtain ⟨s1, s2, s3⟩ := scale t1 t2 rfl
  have hby : IntKind.wrap .i64 (Int.tdiv 65536 (t + 1)) = 65536 / (t + 1) := by rw [Int.tdiv_eq_ediv_of_nonneg (by omega)]; exact wrapI (by omega) (by omega)
  generalize hby2 : 65536 / (t + 1) = by_ at *
  obtain ⟨c, rfl⟩ : ∃ c : Nat, by_ = (c : Int) := ⟨by_.toNat, by omega⟩
  have hb40 : (lim a).length ≤ 90000 := ha
  have hBa : (a : Int) < B (lim a).length := Af.1 (Nat.le_refl _)
  have hBb : (b : Int) < B (lim b).length := Af.1 (Nat.le_refl _)
  have hB1 : B 1 = 65536 := rfl
  have fitc : ∀ k, 1 ≤ k → (((c : Int)).natAbs : Int) < B k := fun k hk => by
    have := C1 hk
    omega
  have hk1 : 1 ≤ (lim a).length := by
    rcases Nat.eq_zero_or_pos (lim a).length with h | h
    · have := Fa.1 (List.eq_nil_of_length_eq_zero h); omega
    · exact h
  obtain ⟨ra, hra, era⟩ := BZ (x := (a : Int)) (y := (c : Int)) (k := (lim a).length) (by omega) (by rw [Int.natAbs_natCast]; exact hBa) (fitc _ hk1)
  obtain ⟨rb, hrb, erb⟩ := BZ (x := (b : Int)) (y := (c : Int)) (k := (lim b).length) (by omega) (by rw [Int.natAbs_natCast]; exact hBb) (fitc _ (by omega))
  have bn : ∀ n : Nat, big (n : Int) = (false, lim n) := fun n => by unfold big; rw [decide_eq_false (by omega), Int.natAbs_natCast]
  have ra1 : ra.1 = lim (a * c) := by rw [show (a : Int) * c = ((a * c : Nat) : Int) by simp, bn] at era; exact (Prod.ext_iff.1 era).2
  have rb1 : rb.1 = lim (b * c) := by rw [show (b : Int) * c = ((b * c : Nat) : Int) by simp, bn] at erb; exact (Prod.ext_iff.1 erb).2
  rw [bn, bn] at hra hrb
  have mkb : ∀ n : Nat, (lim n).length ≤ 90000 → AD false (lim n) = some (lim n, false) := fun n hn => by
    rw [Ep (An n) (by unfold Brief; omega), Ai]; simp
  simp only [hn1, cond_false, hg, Option.bind_some, wt, hz, hby, mkb a ha, mkb b hb, Km (n := (c : Int)) (by omega) (by omega), bn, hra, hrb, ra1, rb1]
  have hc0 : 0 < c := by omega
  have la : (lim a).length ≤ (lim (a * c)).length := by
    rw [Af]
    have h1 : ((a * c : Nat) : Int) < B (lim (a * c)).length := Af.1 (Nat.le_refl _)
    have : a * 1 ≤ a * c := Nat.mul_le_mul_left _ (by omega)
    omega
  have la2 : (lim (a * c)).length ≤ (lim a).length + 1 := by
    rw [Af]
    rw [show ((a * c : Nat) : Int) = (a : Int) * c by simp]
    have e1 : (a : Int) * c ≤ a * 65536 := Int.mul_le_mul_of_nonneg_left (by omega) (by omega)
    simp only [B]
    omega
  have lb : (lim (b * c)).length = m + 2 := by
    apply Nat.le_antisymm
    · rw [Af]
      rw [show ((b * c : Nat) : Int) = (b : Int) * c by simp]
      have e1 : (b : Int) * c < B (m + 1) * (t + 1) * c := Int.mul_lt_mul_of_pos_right t4 (by omega)
      have e2 : B (m + 1) * ((c : Int) * (t + 1)) ≤ B (m + 1) * 65536 := Int.mul_le_mul_of_nonneg_left s3 (Int.le_of_lt (Dk _))
      have e3 : B (m + 1) * (t + 1) * c = B (m + 1) * ((c : Int) * (t + 1)) := by rw [Int.mul_assoc, Int.mul_comm (t + 1)]
      have e4 : B (m + 2) = B (m + 1) * 65536 := by simp only [B]; omega
      omega
    · rw [← hm, Af]
      have h1 : ((b * c : Nat) : Int) < B (lim (b * c)).length := Af.1 (Nat.le_refl _)
      have : b * 1 ≤ b * c := Nat.mul_le_mul_left _ (by omega)
      omega
  have happ : appL 8 1 (lim (a * c)) [0] = some (lim (a * c) ++ [0]) := app1 (by omega)
  have hle : (lim b).length ≤ (lim a).length := by
    rw [Af]; omega
  simp only [happ, Option.bind_some]
  rw [Av (r := (lim (a * c) ++ [0], (lim (b * c), (((lim b).length : Int), (c : Int))))) (by
    unfold IS
    dsimp only
    rw [wrapI (by omega) (by omega), decide_eq_false (by simp; omega)]
    rfl)]
  simp only [Option.bind_some]
  have hlu : (lim (a * c) ++ [(0 : Int)]).length = ((lim (a * c)).length - (m + 1)) + (m + 2) := by simp; omega
  have wl : IntKind.wrap .i64 (((lim (a * c) ++ [(0 : Int)]).length : Int) - ((lim b).length : Int)) = (((lim (a * c)).length - (m + 1) : Nat) : Int) := by
    rw [wrapI (by omega) (by omega)]; omega
  generalize hn : (lim (a * c)).length - (m + 1) = n at *
  rw [wl, Fm (by unfold maxBytes; omega) (by unfold maxBytes; omega)]
  simp only [Option.bind_some]
  have hval0 : val (lim (a * c) ++ [(0 : Int)]) = ((a * c : Nat) : Int) := by rw [FU, Ai]; omega
  have hlb0 : LB (lim (a * c) ++ [(0 : Int)]) := (An _).append (LB.cons (by omega) LB.nil)
  have hbc0 : b * c ≠ 0 := Nat.mul_ne_zero hb0 (by omega)
  have htop := (PD hbc0).1
  rw [lb, show m + 2 - 1 = m + 1 by omega] at htop
  obtain ⟨u, out, hp, P⟩ := Ab8 (by_ := (c : Int)) (An (b * c)) lb htop (by omega) (Places.start hlb0 (An _) lb htop hlu (by
    unfold dg
    rw [List.getD_eq_getElem?_getD, List.getElem?_append_right (by omega), show n + (m + 1) - (lim (a * c)).length = 0 by omega]
    rfl))
  rw [show ((lim b).length : Int) = ((m + 2 : Nat) : Int) by omega, wrapI (by omega) (by omega), hp]
  simp only [Option.bind_some]
  obtain ⟨p1, p2⟩ := P.end (An _)
  rw [hval0, Ai] at p1 p2
  obtain ⟨q1, q2⟩ := RN (a := a) (b := b) hc0
  have p1' : val out = ((a / b : Nat) : Int) := by rw [p1, ← q1]; simp
  have p2' : val u = ((a % b * c : Nat) : Int) := by rw [p2, ← q2]; simp
  have hul := P.len
  have hol := P.olen
  rw [Z5 (a := 0) (b := m + 2) (by rfl) rfl (by omega) (by omega)]
  simp only [Option.bind_some, List.drop_zero, Nat.sub_zero, Nat.zero_add]
  have hless := P.less
  rw [List.drop_zero, Ai] at hless
  have hbc : ((b * c : Nat) : Int) < B (m + 2) := by rw [← lb]; exact Af.1 (Nat.le_refl _)
  have hvt : val (u.take (m + 2)) = val u := by
    have h1 := Bj u (m + 2)
    have h2 := (Zc P.lu (n := m + 2) (k := m + 2) (by omega) (Nat.le_refl _)).2
    rw [h2] at h1
    omega
  rw [TT (by unfold Brief; rw [List.length_take]; omega)]
  simp only [Option.bind_some]
  rw [Bg (P.lu.take _), hvt, p2', Int.toNat_natCast, Qv (by omega) (by
    have : (lim (a % b * c)).length ≤ m + 2 := by
      rw [Af]
      have := Nat.mul_lt_mul_of_pos_right (Nat.mod_lt a (show b > 0 by omega)) hc0
      omega
    omega)]
  simp only [Option.bind_some]
  rw [TT (by unfold Brief; omega)]
  simp only [Option.bind_some]
  rw [Bg P.lo, p1', Int.toNat_natCast, Int.toNat_natCast, Nat.mul_div_cancel _ hc0]
end Go.Proofs.YtgfchmagglhohaaGreat.Ev

end
section
namespace Go.Proofs.YtgfchmagglhohaaGreat.Ev
open Go
set_option linter.unusedVariables false
set_option linter.unusedSimpArgs false
set_option linter.unusedSectionVars false
theorem Wb (v : List Int) (k : Nat) : dg (v ++ [0]) k = dg v k := by
  unfold dg
  simp only [List.getD_eq_getElem?_getD]
  rcases Nat.lt_or_ge k v.length with h | h
  · rw [List.getElem?_append_left h]
  · rw [List.getElem?_append_right h, List.getElem?_eq_none h]
    rcases Nat.eq_zero_or_pos (k - v.length) with g | g
    · rw [g]; rfl
    · rw [List.getElem?_eq_none (by simp; omega)]
theorem TC (v : List Int) : val (v ++ [0]) = val v := by rw [FU]; omega
theorem WG {v : List Int} (h : LB v) : LB (v ++ [0]) := h.append (LB.cons (by omega) LB.nil)
theorem At1 {u0 v : List Int} {q : Int} {j : Nat} (hu : LB u0) (hv : LB v) (hq : 0 ≤ q ∧ q < 65536) (hlen : j + v.length < u0.length) (hl : u0.length ≤ 1000000) :
    ∃ u c, Gt u0 v (j : Int) q = some (u, c) ∧ Off u0 u j (v.length + 1) c q (v ++ [0]) := by
  obtain ⟨⟨u, c⟩, h1, h2⟩ := FK (body := fun (s : ((List Int) × ((List Int) × (Int × (Int × (Int × Int)))))) => FH s.1 s.2.1 s.2.2.1 s.2.2.2.1 s.2.2.2.2.1 s.2.2.2.2.2)
    (st := fun k (b : List Int × Int) => (b.1, (v, ((j : Int), (q, (b.2, (k : Int))))))) (fin := fun b => (b.1, b.2)) (I := fun k b => Off u0 b.1 j k b.2 q (v ++ [0])) (e := v.length + 1)
    (by
      rintro k ⟨u, c⟩ hk hI
      simp only at hI
      have hul := hI.len
      have hp : j + k < u.length := by omega
      have du := AI hI.lb (j + k)
      have dv := AI hv k
      have c0 := hI.c0
      have c1 := hI.c1
      have m0 : 0 ≤ q * dg v k := Int.mul_nonneg hq.1 dv.1
      have m1 : q * dg v k ≤ 65535 * 65535 := Int.le_trans (Int.mul_le_mul_of_nonneg_left (show dg v k ≤ 65535 by omega) hq.1) (Int.mul_le_mul_of_nonneg_right (show q ≤ 65535 by omega) (by omega))
      have hnx := hI.next (WG hv) hq hp rfl
      rw [Wb] at hnx
      refine ⟨(u.set (j + k) (dg u (j + k) - q * dg v k - c + (if dg u (j + k) - q * dg v k - c < 0 then (-(dg u (j + k) - q * dg v k - c) + 65536 - 1) / 65536 else 0) * 65536), if dg u (j + k) - q * dg v k - c < 0 then (-(dg u (j + k) - q * dg v k - c) + 65536 - 1) / 65536 else 0), ?_, hnx⟩
      unfold FH getN
      dsimp only
      have i1 : idxI ((j : Int) + (k : Int)) u.length = some (j + k) := by rw [show (j : Int) + (k : Int) = ((j + k : Nat) : Int) by omega]; exact AP hp
      have hw1 := wrap1 (show k < 4611686018427387904 by omega)
      have hjk := wrapI (n := (j : Int) + (k : Int)) (by omega) (by omega)
      rw [decide_eq_true (by omega), hjk]
      simp only [cond_true, i1, Option.bind_some, Ag hp, HH]
      rw [wrapI (n := q * dg v k) (by omega) (by omega), wrapI (n := dg u (j + k) - q * dg v k) (by omega) (by omega), wrapI (n := dg u (j + k) - q * dg v k - c) (by omega) (by omega)]
      have hxb : -4294967296 ≤ dg u (j + k) - q * dg v k - c ∧ dg u (j + k) - q * dg v k - c < 65536 := by omega
      generalize dg u (j + k) - q * dg v k - c = x at *
      by_cases hx : x < 0
      · rw [decide_eq_true hx, if_pos hx, wrapI (n := 0 - x) (by omega) (by omega), wrapI (n := 0 - x + 65536) (by omega) (by omega), wrapI (n := 0 - x + 65536 - 1) (by omega) (by omega), Int.tdiv_eq_ediv_of_nonneg (by omega), show 0 - x + 65536 - 1 = -x + 65536 - 1 by omega]
        rw [wrapI (n := (-x + 65536 - 1) / 65536) (by omega) (by omega), wrapI (n := (-x + 65536 - 1) / 65536 * 65536) (by omega) (by omega), wrapI (n := x + (-x + 65536 - 1) / 65536 * 65536) (by omega) (by omega)]
        simp only [cond_true, Option.bind_some, Sum.elim_inr, hjk, i1, Ag hp, hw1]
      · rw [decide_eq_false hx, if_neg hx]
        simp only [cond_false, Option.bind_some, Sum.elim_inr, hjk, i1, Ag hp, hw1, Int.zero_mul, Int.add_zero])
    (by
      rintro ⟨u, c⟩ _
      unfold FH
      dsimp only
      rw [decide_eq_false (by omega)]
      rfl) 0 (u0, 0) (by omega) (Off.start hu j q (v ++ [0]))
  refine ⟨u, c, ?_, h2⟩
  unfold Gt
  dsimp only at h1
  rw [show ((0 : Nat) : Int) = 0 from rfl] at h1
  rw [h1]
  rfl
theorem Ap7 {u0 v : List Int} {j : Nat} (hu : LB u0) (hv : LB v) (hlen : j + v.length < u0.length) (hl : u0.length ≤ 1000000) :
    ∃ u c, Ge u0 v (j : Int) = some u ∧ Back u0 u j (v.length + 1) c (v ++ [0]) := by
  obtain ⟨⟨u, c⟩, h1, h2⟩ := FK (body := fun (s : ((List Int) × ((List Int) × (Int × (Int × Int))))) => FG s.1 s.2.1 s.2.2.1 s.2.2.2.1 s.2.2.2.2)
    (st := fun k (b : List Int × Int) => (b.1, (v, ((j : Int), (b.2, (k : Int)))))) (fin := fun b => b.1) (I := fun k b => Back u0 b.1 j k b.2 (v ++ [0])) (e := v.length + 1)
    (by
      rintro k ⟨u, c⟩ hk hI
      simp only at hI
      have hul := hI.len
      have hp : j + k < u.length := by omega
      have du := hI.lb (j + k) (by simp; omega)
      have dv := AI hv k
      have c0 := hI.c0
      have c1 := hI.c1
      have hnx := hI.next (WG hv) (by simp; omega) hp
      rw [Wb] at hnx
      refine ⟨⟨_, _⟩, ?_, hnx⟩
      unfold FG getN
      dsimp only
      have i1 : idxI ((j : Int) + (k : Int)) u.length = some (j + k) := by rw [show (j : Int) + (k : Int) = ((j + k : Nat) : Int) by omega]; exact AP hp
      have hw1 := wrap1 (show k < 4611686018427387904 by omega)
      have hjk := wrapI (n := (j : Int) + (k : Int)) (by omega) (by omega)
      rw [decide_eq_true (by omega), hjk]
      simp only [cond_true, i1, Option.bind_some, Ag hp, HH]
      rw [wrapI (n := dg u (j + k) + dg v k) (by omega) (by omega), wrapI (n := dg u (j + k) + dg v k + c) (by omega) (by omega), Int.tmod_eq_emod_of_nonneg (by omega), Int.tdiv_eq_ediv_of_nonneg (by omega), wrapI (n := (dg u (j + k) + dg v k + c) / 65536) (by omega) (by omega), hw1])
    (by
      rintro ⟨u, c⟩ _
      unfold FG
      dsimp only
      rw [decide_eq_false (by omega)]
      rfl) 0 (u0, 0) (by omega) ⟨rfl, fun i _ => AI hu i, fun _ _ => rfl, by simp only; omega, by simp only; omega, by simp [val]⟩
  refine ⟨u, c, ?_, h2⟩
  unfold Ge
  dsimp only at h1
  rw [show ((0 : Nat) : Int) = 0 from rfl] at h1
  rw [h1]
  rfl
theorem Ao3 {u v : List Int} {j m : Nat} (H : Place u v j m) (hl : u.length ≤ 1000000) :
    ∃ q, Fq u v (j : Int) = some q ∧ val (u.drop j) / val v ≤ q ∧ q < 65536 ∧ q * val v < val (u.drop j) + val v := by
  have G := H.guess
  have hv := H.hv
  have hlen := H.len
  have hrest := H.rest
  have hst := H.start
  have d1 := AI H.lu (j + m + 1)
  have d2 := AI H.lu (j + m + 2)
  have hu : j + m < u.length := by omega
  have htop65 : dg u (j + m + 2) * 65536 + dg u (j + m + 1) < 65536 * (dg v (m + 1) + 1) := by
    have hP := G.hP
    have hU := G.hU
    have hV := G.hV
    have hv2 := G.hv2
    have hvr := G.hvr
    have hu2 := G.hu2
    have hur := G.hur
    rcases Int.lt_or_le (dg u (j + m + 2) * 65536 + dg u (j + m + 1)) (65536 * (dg v (m + 1) + 1)) with h | h
    · exact h
    · exfalso
      generalize dg u (j + m + 2) * 65536 + dg u (j + m + 1) = top at *
      generalize dg v (m + 1) = v1 at *
      generalize dg v m = v2 at *
      generalize dg u (j + m) = u2 at *
      generalize val (v.take m) = vr at *
      generalize val ((u.drop j).take m) = ur at *
      have e1 := Int.mul_le_mul_of_nonneg_right (show 65536 * (v1 + 1) * 65536 ≤ top * 65536 + u2 by omega) (Int.le_of_lt hP)
      have e2 := Int.mul_le_mul_of_nonneg_right (show v1 * 65536 + v2 + 1 ≤ (v1 + 1) * 65536 by omega) (Int.le_of_lt hP)
      rw [Int.add_mul, Int.one_mul] at e2
      have e3 : 65536 * (v1 + 1) * 65536 * B m = 65536 * ((v1 + 1) * 65536 * B m) := by grind
      omega
  have hv1 := G.hv1
  have hv1' := G.hv1'
  have htop0 : 0 ≤ dg u (j + m + 2) * 65536 + dg u (j + m + 1) := by omega
  have e1 := Int.emod_add_mul_ediv (dg u (j + m + 2) * 65536 + dg u (j + m + 1)) (dg v (m + 1))
  have e2 := Int.emod_nonneg (dg u (j + m + 2) * 65536 + dg u (j + m + 1)) (show dg v (m + 1) ≠ 0 by omega)
  have e3 : (dg u (j + m + 2) * 65536 + dg u (j + m + 1)) / dg v (m + 1) ≤ dg u (j + m + 2) * 65536 + dg u (j + m + 1) := Int.ediv_le_self _ htop0
  have e4 := Int.ediv_nonneg htop0 (show 0 ≤ dg v (m + 1) by omega)
  have w1 := wrapI (n := dg u (j + m + 2) * 65536) (by omega) (by omega)
  have w2 := wrapI (n := dg u (j + m + 2) * 65536 + dg u (j + m + 1)) (by omega) (by omega)
  have w3 := wrapI (n := (dg u (j + m + 2) * 65536 + dg u (j + m + 1)) / dg v (m + 1)) (by omega) (by omega)
  have g1 : getI u (IntKind.wrap .i64 ((j : Int) + (v.length : Int))) = some (dg u (j + m + 2)) := Ih (by rw [wrapI (by omega) (by omega)]; omega) (by omega)
  have g2 : getI u (IntKind.wrap .i64 (IntKind.wrap .i64 ((j : Int) + (v.length : Int)) - 1)) = some (dg u (j + m + 1)) := Ih (by rw [wrapI (n := (j : Int) + (v.length : Int)) (by omega) (by omega), wrapI (by omega) (by omega)]; omega) (by omega)
  have g3 : getI v (IntKind.wrap .i64 ((v.length : Int) - 1)) = some (dg v (m + 1)) := Ih (by rw [wrapI (by omega) (by omega)]; omega) (by omega)
  have g4 : getI v (IntKind.wrap .i64 ((v.length : Int) - 2)) = some (dg v m) := Ih (by rw [wrapI (by omega) (by omega)]; omega) (by omega)
  have g5 : getI u (IntKind.wrap .i64 (IntKind.wrap .i64 ((j : Int) + (v.length : Int)) - 2)) = some (dg u (j + m)) := Ih (by rw [wrapI (n := (j : Int) + (v.length : Int)) (by omega) (by omega), wrapI (by omega) (by omega)]; omega) (by omega)
  have hz : (dg v (m + 1) == 0) = false := beq_eq_false_iff_ne.2 (by omega)
  obtain ⟨r, h1, h2⟩ := Fp (f := fun (s : ((List Int) × ((List Int) × (Int × (Int × (Int × Int)))))) => CC s.1 s.2.1 s.2.2.1 s.2.2.2.1 s.2.2.2.2.1 s.2.2.2.2.2)
    (I := fun s => ∃ q r : Int, s = (u, (v, ((j : Int), ((v.length : Int), (q, r))))) ∧ q * dg v (m + 1) + r = dg u (j + m + 2) * 65536 + dg u (j + m + 1) ∧ 0 ≤ r ∧ val (u.drop j) / val v ≤ q ∧ q < 4294967296)
    (R := fun q => val (u.drop j) / val v ≤ q ∧ q < 65536 ∧ q * val v < val (u.drop j) + val v) (fun s => s.2.2.2.2.1.toNat) (by
      rintro s ⟨q, r, rfl, f1, f2, f3, f4⟩
      simp only
      have hQ0 := G.hQ0
      have hQ1 := G.hQ1
      have hv2 := G.hv2
      have hu2 := G.hu2
      have htop := G.htop
      have hqv : 0 ≤ q * dg v (m + 1) := Int.mul_nonneg (by omega) (by omega)
      have hqv2 : 0 ≤ q * dg v m := Int.mul_nonneg (by omega) hv2.1
      have hqv2' : q * dg v m ≤ 4294967296 * 65536 := Int.le_trans (Int.mul_le_mul_of_nonneg_left (show dg v m ≤ 65536 by omega) (by omega)) (Int.mul_le_mul_of_nonneg_right (show q ≤ 4294967296 by omega) (by omega))
      have w5 := wrapI (n := q * dg v m) (by omega) (by omega)
      have w6 := wrapI (n := r * 65536) (by omega) (by omega)
      have w7 := wrapI (n := r * 65536 + dg u (j + m)) (by omega) (by omega)
      have w8 := wrapI (n := q - 1) (by omega) (by omega)
      have w9 := wrapI (n := r + dg v (m + 1)) (by omega) (by omega)
      have less : ∀ (hgo : val (u.drop j) / val v ≤ q - 1), ∃ q' r' : Int, (u, (v, ((j : Int), ((v.length : Int), (q - 1, r + dg v (m + 1)))))) = (u, (v, ((j : Int), ((v.length : Int), (q', r'))))) ∧ q' * dg v (m + 1) + r' = dg u (j + m + 2) * 65536 + dg u (j + m + 1) ∧ 0 ≤ r' ∧ val (u.drop j) / val v ≤ q' ∧ q' < 4294967296 := by
        intro hgo
        exact ⟨q - 1, r + dg v (m + 1), rfl, by rw [Int.sub_mul]; omega, by omega, hgo, by omega⟩
      by_cases c2 : r < 65536
      · by_cases c1 : q ≥ 65536
        · refine .inl ⟨(u, (v, ((j : Int), ((v.length : Int), (q - 1, r + dg v (m + 1)))))), ?_, less (by omega), by simp only; omega⟩
          unfold CC
          rw [decide_eq_true c2, decide_eq_true c1]
          simp only [cond_true, Option.bind_some, Sum.elim_inl, Sum.elim_inr, g3, w8, w9]
        · by_cases c3 : q * dg v m > r * 65536 + dg u (j + m)
          · have hlt := Rr G.hP G.hv1 G.hv2 G.hvr G.hu2 G.hur G.hV G.hU f1 (by omega) c3
            have hne : val (u.drop j) / val v ≤ q - 1 := by
              rcases Int.lt_or_le (q - 1) (val (u.drop j) / val v) with h | h
              · have : q = val (u.drop j) / val v := by omega
                have := G.hQ
                subst q
                omega
              · exact h
            refine .inl ⟨(u, (v, ((j : Int), ((v.length : Int), (q - 1, r + dg v (m + 1)))))), ?_, less hne, by simp only; omega⟩
            unfold CC
            rw [decide_eq_true c2, decide_eq_false c1]
            simp only [cond_true, cond_false, Option.bind_some, g4, g5, w5, w6, w7, decide_eq_true c3, Sum.elim_inr, g3, w8, w9]
          · refine .inr ⟨q, ?_, f3, by omega, SH G.hP G.hv1 G.hv2 G.hvr G.hu2 G.hur G.hV G.hU f1 (by omega) (by omega) (by omega)⟩
            unfold CC
            rw [decide_eq_true c2, decide_eq_false c1]
            simp only [cond_true, cond_false, Option.bind_some, g4, g5, w5, w6, w7, decide_eq_false c3, Sum.elim_inl]
      · have hq65 : q < 65536 := by
          rcases Int.lt_or_le q 65536 with h | h
          · exact h
          · exfalso
            have := Int.mul_le_mul_of_nonneg_right h (show 0 ≤ dg v (m + 1) by omega)
            omega
        have hle := Rg G.hP G.hv1 G.hv2 G.hvr G.hu2 G.hur G.hV G.hU f1 (by omega) hq65 (by omega)
        have hV0 := G.hV0
        refine .inr ⟨q, ?_, f3, hq65, by omega⟩
        unfold CC
        rw [decide_eq_false c2]
        rfl) (u, (v, ((j : Int), ((v.length : Int), ((dg u (j + m + 2) * 65536 + dg u (j + m + 1)) / dg v (m + 1), (dg u (j + m + 2) * 65536 + dg u (j + m + 1)) % dg v (m + 1)))))) ⟨_, _, rfl, by rw [Int.mul_comm]; omega, e2, hst, by omega⟩
  refine ⟨r, ?_, h2⟩
  unfold Fq
  simp only [g1, g2, g3, Option.bind_some, hz, cond_false, w1, w2, Int.tdiv_eq_ediv_of_nonneg htop0, Int.tmod_eq_emod_of_nonneg htop0, w3]
  rw [h1]
  rfl
theorem Place.part {u v u' : List Int} {j m : Nat} (H : Place u v j m) (h1 : u'.length = u.length) (h2 : LB u') (h3 : ∀ i, j + m + 3 ≤ i → dg u' i = dg u i) {W e : Int} (h4 : val u' = val u - B j * W + B (j + m + 3) * e) :
    val (u'.drop j) = val (u.drop j) - W + B (m + 3) * e ∧ 0 ≤ val (u'.drop j) ∧ val (u'.drop j) < B (m + 3) := by
  have hz : val (u'.drop (j + (m + 3))) = 0 := JF fun i => by rw [Px, h3 _ (by omega)]; exact (H.high (by omega)).1
  have p1 := Bj (u'.drop j) (m + 3)
  rw [List.drop_drop, hz] at p1
  have p2 := BE (h2.drop j) (m + 3)
  have p3 := Bj u' j
  have p4 := Bj u j
  have p5 := BE h2 j
  have p6 := BE H.lu j
  refine ⟨?_, by omega, by omega⟩
  refine Ln p5 p6 ?_
  have e1 : B (j + m + 3) * e = B j * (B (m + 3) * e) := by rw [show j + m + 3 = j + (m + 3) by omega, KL]; grind
  rw [Int.mul_add, Int.mul_sub]
  omega
set_option maxHeartbeats 1000000 in
theorem An1 {u v out : List Int} {bits : Int} {j m : Nat} (H : Place u v j m) (hl : u.length ≤ 1000000) (hj : j < out.length) :
    ∃ u', Bd u v out bits (j : Int) = some (.inl (u', (v, (out.set j (val (u.drop j) / val v), (bits, (j : Int) - 1))))) ∧
      u'.length = u.length ∧ LB u' ∧ val u' = val u - B j * (val (u.drop j) / val v * val v) ∧ val (u'.drop j) < val v := by
  have hlen := H.len
  have hvl := H.hv
  have hQ := H.quot
  have hmod := H.mod
  have hlt := H.lt
  have hpos := H.pos
  have hB3 : B (m + 3) = 65536 * B (m + 2) := rfl
  obtain ⟨q, hg1, hg2, hg3, hg4⟩ := Ao3 H hl
  obtain ⟨u1, c, ht1, O⟩ := At1 (j := j) (q := q) H.lu H.lv ⟨by omega, hg3⟩ (by omega) hl
  have ov := O.v
  have ol := O.len
  have oc0 := O.c0
  rw [List.take_of_length_le (by simp), TC, hvl, show j + (m + 2 + 1) = j + m + 3 by omega] at ov
  have oh := O.hi
  rw [hvl, show j + (m + 2 + 1) = j + m + 3 by omega] at oh
  obtain ⟨p1, p2, p3⟩ := H.part ol O.lb oh (W := q * val v) (e := c) (by omega)
  have hge : decide ((j : Int) ≥ 0) = true := decide_eq_true (by omega)
  have w5 := wrapI (n := (j : Int) - 1) (by omega) (by omega)
  have hj0 : idxI (j : Int) out.length = some j := AP hj
  have gout : getN out j = some (dg out j) := Ag hj
  have hBp := Dk (m + 3)
  rcases H.one hg2 hg4 with hq | hq
  · have hc : c = 0 := by
      rw [hq] at p1
      have := Ln (j := m + 3) (a := val (u1.drop j)) (b := val (u.drop j) - val (u.drop j) / val v * val v) (X := 0) (Y := c) ⟨p2, p3⟩ (by omega) (by omega)
      exact this.symm
    subst hc
    refine ⟨u1, ?_, ol, O.lb, by rw [hq] at ov; omega, by rw [hq] at p1; omega⟩
    unfold Bd
    simp only [hge, cond_true, hg1, ht1, Option.bind_some, ol, decide_true, show decide ((0 : Int) > 0) = false from rfl, cond_false, hj0, gout, w5]
    rw [hq]
  · have hqv : q * val v = val (u.drop j) / val v * val v + val v := by rw [hq, Int.add_mul, Int.one_mul]
    have hc : c = 1 := by
      have := Ln (j := m + 3) (a := val (u1.drop j)) (b := val (u.drop j) - q * val v + B (m + 3)) (X := 1) (Y := c) ⟨p2, p3⟩ (by omega) (by omega)
      exact this.symm
    subst hc
    obtain ⟨u2, c2, hb1, K⟩ := Ap7 (u0 := u1) (v := v) (j := j) O.lb H.lv (by omega) (by omega)
    have kl := K.len
    have kh := K.hi
    have kv := K.v
    rw [List.take_of_length_le (by simp), TC, hvl, show j + (m + 2 + 1) = j + m + 3 by omega] at kv
    rw [hvl, show j + (m + 2 + 1) = j + m + 3 by omega] at kh
    have klb : LB u2 := Qg fun i hi => by
      rcases Nat.lt_or_ge i (j + m + 3) with g | g
      · exact K.lb i (by simp; omega)
      · rw [kh i g]; exact AI O.lb i
    have e1 : B j * (q * val v) = B j * (val (u.drop j) / val v * val v) + B j * val v := by rw [hqv, Int.mul_add]
    have hall : val u2 = val u - B j * (val (u.drop j) / val v * val v) + B (j + m + 3) * (1 - c2) := by
      rw [Int.mul_sub]; omega
    obtain ⟨k1, k2, k3⟩ := H.part (kl.trans ol) klb (fun i hi => (kh i hi).trans (oh i hi)) hall
    have hc2 : c2 = 1 := by
      have := Ln (j := m + 3) (a := val (u2.drop j)) (b := val (u.drop j) - val (u.drop j) / val v * val v) (X := 0) (Y := 1 - c2) ⟨k2, k3⟩ (by omega) (by omega)
      omega
    subst hc2
    refine ⟨u2, ?_, kl.trans ol, klb, by omega, by omega⟩
    have w7 : IntKind.wrap .i64 (q - 1) = val (u.drop j) / val v := by rw [wrapI (by omega) (by omega)]; omega
    unfold Bd
    simp only [hge, cond_true, hg1, ht1, Option.bind_some, ol, decide_true, show decide ((1 : Int) > 0) = true from rfl, hb1, kl, hj0, gout, w5, w7]
end Go.Proofs.YtgfchmagglhohaaGreat.Ev

end
section
namespace Go.Proofs.YtgfchmagglhohaaGreat.Ev
open Go
set_option linter.unusedVariables false
set_option linter.unusedSimpArgs false
set_option linter.unusedSectionVars false
theorem YE {s o t : Nat} (ho : o < 2 ^ s) (h : 2 ^ s * t + o < 4611686018427387904) : orI .i64 (o : Int) ((2 ^ s * t : Nat) : Int) = ((o + 2 ^ s * t : Nat) : Int) := by
  unfold orI
  rw [BitVec.ofInt_natCast, BitVec.ofInt_natCast, BitVec.toNat_or, BitVec.toNat_ofNat, BitVec.toNat_ofNat]
  have h64 : IntKind.bits .i64 = 64 := rfl
  rw [h64, Nat.mod_eq_of_lt (by omega), Nat.mod_eq_of_lt (by omega), Nat.or_comm, ← Nat.two_pow_add_eq_or_of_lt ho, wrapI (by omega) (by omega)]
  omega
theorem MU {x : Int} {s : Nat} (hs : s ≤ 63) (h0 : -9223372036854775808 ≤ x * 2 ^ s) (h1 : x * 2 ^ s ≤ 9223372036854775807) : shlI .i64 x (IntKind.wrap .u64 (s : Int)) = x * 2 ^ s := by
  unfold shlI
  rw [wrapU (by omega) (by omega), show min ((s : Int).toNat) (IntKind.bits .i64) = s by simp [IntKind.bits]; omega, wrapI h0 h1]
theorem Af3 {x : Int} {s : Nat} (hs : s ≤ 63) : shrI .i64 x (IntKind.wrap .u64 (s : Int)) = x / 2 ^ s := by
  unfold shrI
  rw [wrapU (by omega) (by omega), show min ((s : Int).toNat) (IntKind.bits .i64) = s by simp [IntKind.bits]; omega]
  exact Int.fdiv_eq_ediv_of_nonneg _ (Int.le_of_lt (Int.pow_pos (by decide)))
theorem J9 {s : Nat} (hs : s ≤ 16) : ∃ S T : Nat, S = 2 ^ s ∧ T = 2 ^ (16 - s) ∧ S * T = 65536 ∧ 1 ≤ S ∧ 1 ≤ T ∧ S ≤ 65536 := by
  refine ⟨2 ^ s, 2 ^ (16 - s), rfl, rfl, ?_, Nat.one_le_two_pow, Nat.one_le_two_pow, ?_⟩
  · rw [← Nat.pow_add, show s + (16 - s) = 16 by omega]
  · exact Nat.pow_le_pow_right (by decide) hs
theorem Qo {S T x : Int} (hST : S * T = 65536) (hS : 1 ≤ S) (hT : 1 ≤ T) (hx : 0 ≤ x ∧ x < 65536) :
    x * S % 65536 = S * (x % T) ∧ x * S / 65536 = x / T ∧ 0 ≤ x / T ∧ x / T < S ∧ 0 ≤ x % T ∧ x % T < T ∧ S * (x % T) + 65536 * (x / T) = x * S ∧ S * (x % T) + S ≤ 65536 := by
  have e1 := Int.emod_add_mul_ediv x T
  have e2 := Int.emod_nonneg x (show T ≠ 0 by omega)
  have e3 := Int.emod_lt_of_pos x (show 0 < T by omega)
  have e4 := Int.ediv_nonneg hx.1 (show 0 ≤ T by omega)
  have e5 : x / T < S := Int.ediv_lt_of_lt_mul (by omega) (by rw [hST]; exact hx.2)
  have e6 : x * S = S * (x % T) + 65536 * (x / T) := by
    have h2 : S * (x % T + T * (x / T)) = S * (x % T) + (S * T) * (x / T) := by rw [Int.mul_add, Int.mul_assoc]
    rw [e1, hST] at h2
    rw [← h2, Int.mul_comm]
  have e7 : S * (x % T) + S ≤ 65536 := by
    have h2 := Int.mul_le_mul_of_nonneg_left (show x % T + 1 ≤ T by omega) (show 0 ≤ S by omega)
    rw [Int.mul_add, hST] at h2
    omega
  have e8 : 0 ≤ S * (x % T) := Int.mul_nonneg (by omega) e2
  rw [e6]
  refine ⟨?_, ?_, e4, e5, e2, e3, rfl, e7⟩ <;> omega
theorem Xp {S T x y R : Int} (hST : S * T = 65536) (hS : 1 ≤ S) (hT : 1 ≤ T) (hx : 0 ≤ x ∧ x < 65536) : (x + 65536 * (y + 65536 * R)) / S = (x + 65536 * y) / S % 65536 + 65536 * ((y + 65536 * R) / S) := by
  have e1 : x + 65536 * (y + 65536 * R) = (x + 65536 * y) + S * (T * 65536 * R) := by
    have : S * (T * 65536 * R) = (S * T) * (65536 * R) := by grind
    rw [this, hST]; omega
  have e2 : (x + 65536 * (y + 65536 * R)) / S = (x + 65536 * y) / S + T * 65536 * R := by rw [e1, Int.add_mul_ediv_left _ _ (by omega)]
  have e3 : (x + 65536 * (y + 65536 * R)) / S % 65536 = (x + 65536 * y) / S % 65536 := by
    rw [e2, show T * 65536 * R = 65536 * (T * R) by grind, Int.add_mul_emod_self_left]
  have e4 : (x + 65536 * (y + 65536 * R)) / S / 65536 = (y + 65536 * R) / S := by
    rw [Int.ediv_ediv_of_nonneg (by omega), Int.mul_comm S, ← Int.ediv_ediv_of_nonneg (by decide)]
    congr 1
    omega
  have e5 := Int.emod_add_mul_ediv ((x + 65536 * (y + 65536 * R)) / S) 65536
  rw [e3, e4] at e5
  omega
structure Up (l out : List Int) (s i : Nat) : Prop where
  lb : LB out
  len : out.length = l.length + 1
  c : dg out i < 2 ^ s
  z : ∀ k, i < k → dg out k = 0
  v : val out = val (l.take i) * 2 ^ s
theorem Up.next {l out : List Int} {s i : Nat} (h : Up l out s i) (hl : LB l) (hs : s ≤ 15) (hi : i < l.length) :
    Up l ((out.set i (dg out i + dg l i * 2 ^ s % 65536)).set (i + 1) (dg l i * 2 ^ s / 65536)) s (i + 1) := by
  obtain ⟨S, T, eS, eT, hST, hS, hT, hS2⟩ := J9 (show s ≤ 16 by omega)
  have hSi : ((S : Nat) : Int) = 2 ^ s := by rw [eS]; simp
  have hc := h.c
  rw [← hSi] at hc ⊢
  have hx := AI hl i
  obtain ⟨d1, d2, d3, d4, d5, d6, d7, d8⟩ := Qo (S := (S : Int)) (T := (T : Int)) (by rw [← Int.natCast_mul, hST]; rfl) (by omega) (by omega) hx
  have ho := AI h.lb i
  have hol := h.len
  have hv := h.v
  rw [← hSi] at hv
  have m0 : 0 ≤ (S : Int) * (dg l i % T) := Int.mul_nonneg (by omega) d5
  rw [d1, d2]
  have hz := h.z (i + 1) (by omega)
  refine ⟨?_, by simp [hol], ?_, fun k hk => ?_, ?_⟩
  · refine (h.lb.set ⟨by omega, by omega⟩).set ⟨d3, by omega⟩
  · rw [Xh (by simp; omega), if_pos rfl, ← hSi]; exact d4
  · rw [A8 (by omega), A8 (by omega)]; exact h.z k (by omega)
  · rw [DE (Ag (by simp; omega)), A8 (by omega), hz, DE (Ag (show i < out.length by omega)), hv, Au, ← hSi]
    have e1 : B (i + 1) * (dg l i / T - 0) = B i * (65536 * (dg l i / T)) := by simp only [B]; grind
    have e2 : (val (l.take i) + B i * dg l i) * S = val (l.take i) * S + B i * (dg l i * S) := by grind
    rw [e1, e2, ← d7, Int.mul_add]
    have e3 : B i * (dg out i + S * (dg l i % T) - dg out i) = B i * (S * (dg l i % T)) := by congr 1; omega
    omega
theorem Ah0 {l : List Int} {s : Nat} (hl : LB l) (hs : s ≤ 15) (hn : l.length ≤ 1000000) : ∃ out, Hk l (s : Int) = some out ∧ LB out ∧ out.length = l.length + 1 ∧ val out = val l * 2 ^ s := by
  obtain ⟨out, h1, h2⟩ := FK (body := fun (s : ((List Int) × (Int × ((List Int) × (Int × Int))))) => H8 s.1 s.2.1 s.2.2.1 s.2.2.2.1 s.2.2.2.2)
    (st := fun k (b : List Int) => (b, ((s : Int), (l, ((l.length : Int), (k : Int)))))) (fin := fun b => b) (I := fun k b => Up l b s k) (e := l.length)
    (by
      rintro k out hk hI
      refine ⟨_, ?_, hI.next hl hs hk⟩
      obtain ⟨S, T, eS, eT, hST, hS, hT, hS2⟩ := J9 (show s ≤ 16 by omega)
      have hSi : ((S : Nat) : Int) = 2 ^ s := by rw [eS]; simp
      have hx := AI hl k
      have ho := AI hI.lb k
      have hol := hI.len
      have hc := hI.c
      rw [← hSi] at hc ⊢
      obtain ⟨d1, d2, d3, d4, d5, d6, d7, d8⟩ := Qo (S := (S : Int)) (T := (T : Int)) (by rw [← Int.natCast_mul, hST]; rfl) (by omega) (by omega) hx
      have hxS : 0 ≤ dg l k * (S : Int) ∧ dg l k * (S : Int) ≤ 65536 * 65536 := ⟨Int.mul_nonneg hx.1 (by omega), Int.le_trans (Int.mul_le_mul_of_nonneg_left (show (S : Int) ≤ 65536 by omega) hx.1) (Int.mul_le_mul_of_nonneg_right (by omega) (by decide))⟩
      have hsh : shlI .i64 (dg l k) (IntKind.wrap .u64 (s : Int)) = dg l k * S := by rw [hSi]; exact MU (by omega) (by rw [← hSi]; omega) (by rw [← hSi]; omega)
      have hor : orI .i64 (dg out k) (dg l k * S % 65536) = dg out k + dg l k * S % 65536 := by
        obtain ⟨o, eo⟩ : ∃ o : Nat, dg out k = (o : Int) := ⟨(dg out k).toNat, by omega⟩
        obtain ⟨t, et⟩ : ∃ t : Nat, dg l k % T = (t : Int) := ⟨(dg l k % T).toNat, by omega⟩
        rw [d1, et, eo, ← Int.natCast_mul, eS, YE (by rw [← eS]; omega) (by
          rw [← eS]
          have : ((S * t : Nat) : Int) ≤ 65536 := by rw [Int.natCast_mul, ← et]; omega
          omega)]
        simp
      have hu : IntKind.wrap .u64 (s : Int) = (s : Int) := wrapU (by omega) (by omega)
      unfold H8 getN
      dsimp only
      rw [decide_eq_true (by omega), wrap1 (by omega)]
      have i1 : idxI (k : Int) out.length = some k := AP (by omega)
      have hd : decide (IntKind.wrap .u64 (s : Int) < 0) = false := by rw [hu]; exact decide_eq_false (by omega)
      simp only [cond_true, Ao, Ag hk, Option.bind_some, hd, cond_false, i1, Ag (show k < out.length by omega), hsh, Int.tmod_eq_emod_of_nonneg hxS.1, Int.tdiv_eq_ediv_of_nonneg hxS.1, hor, List.length_set]
      rw [AP (by omega)]
      simp only [Option.bind_some]
      rw [Ag (by simp; omega)]
      simp only [Option.bind_some]
      rw [wrapI (n := dg l k * S / 65536) (by omega) (by omega)])
    (by
      rintro out _
      unfold H8
      dsimp only
      rw [decide_eq_false (Int.lt_irrefl _)]
      rfl) 0 (List.replicate (l.length + 1) 0) (by omega) ⟨LB.zeros _, by simp, by
        rw [show dg (List.replicate (l.length + 1) (0 : Int)) 0 = 0 from rfl]
        exact Int.pow_pos (by decide), fun k _ => by unfold dg; rw [List.getD_eq_getElem?_getD, List.getElem?_replicate]; split <;> rfl, by simp [Cv, val]⟩
  have hv := h2.v
  rw [List.take_length] at hv
  refine ⟨out, ?_, h2.lb, h2.len, hv⟩
  unfold Hk
  rw [wrap1 (by omega), Fm (by unfold maxBytes; omega) (by unfold maxBytes; omega)]
  simp only [Option.bind_some]
  rw [show ((0 : Nat) : Int) = 0 from rfl] at h1
  rw [h1]
  rfl
theorem Af8 {l : List Int} {s : Nat} (hl : LB l) (hs : s ≤ 15) (hn : l.length ≤ 1000000) : FY l (s : Int) = some (lim (val l / 2 ^ s).toNat) := by
  obtain ⟨S, T, eS, eT, hST, hS, hT, hS2⟩ := J9 (show s ≤ 16 by omega)
  have hSi : ((S : Nat) : Int) = 2 ^ s := by rw [eS]; simp
  have hSTi : (S : Int) * T = 65536 := by rw [← Int.natCast_mul, hST]; rfl
  obtain ⟨out, h1, h2⟩ := FK (body := fun (s : ((List Int) × ((List Int) × (Int × (Int × Int))))) => FI s.1 s.2.1 s.2.2.1 s.2.2.2.1 s.2.2.2.2)
    (st := fun k (b : List Int) => (b, (l, ((s : Int), ((l.length : Int), (k : Int)))))) (fin := fun b => b)
    (I := fun k b => LB b ∧ b.length = l.length ∧ (∀ i, k ≤ i → dg b i = 0) ∧ val b + B k * (val (l.drop k) / S) = val l / S) (e := l.length)
    (by
      rintro k out hk ⟨g1, g2, g3, g4⟩
      have hx := AI hl k
      have hy := AI hl (k + 1)
      have hm0 : 0 ≤ (dg l k + 65536 * dg l (k + 1)) / (S : Int) % 65536 ∧ (dg l k + 65536 * dg l (k + 1)) / (S : Int) % 65536 < 65536 := by omega
      refine ⟨out.set k ((dg l k + 65536 * dg l (k + 1)) / (S : Int) % 65536), ?_, g1.set hm0, by simp [g2], fun i hi => by rw [A8 (by omega)]; exact g3 i (by omega), ?_⟩
      · have hor : orI .i64 (dg l k) (shlI .i64 (dg l (k + 1)) 16) = dg l k + 65536 * dg l (k + 1) := by
          obtain ⟨o, eo⟩ : ∃ o : Nat, dg l k = (o : Int) := ⟨(dg l k).toNat, by omega⟩
          obtain ⟨t, et⟩ : ∃ t : Nat, dg l (k + 1) = (t : Int) := ⟨(dg l (k + 1)).toNat, by omega⟩
          have h16 : shlI .i64 (dg l (k + 1)) 16 = ((2 ^ 16 * t : Nat) : Int) := by
            have := MU (x := dg l (k + 1)) (s := 16) (by omega) (by omega) (by omega)
            rw [show IntKind.wrap .u64 ((16 : Nat) : Int) = 16 by decide] at this
            rw [this, et]; omega
          rw [h16, eo, YE (by omega) (by omega), et]
          omega
        have hu : IntKind.wrap .u64 (s : Int) = (s : Int) := wrapU (by omega) (by omega)
        unfold FI getN
        dsimp only
        rw [decide_eq_true (by omega), wrap1 (by omega)]
        have i1 : idxI (k : Int) out.length = some k := AP (by omega)
        have hd : decide (IntKind.wrap .u64 (s : Int) < 0) = false := by rw [hu]; exact decide_eq_false (by omega)
        have hsr : shrI .i64 (dg l k + 65536 * dg l (k + 1)) (IntKind.wrap .u64 (s : Int)) = (dg l k + 65536 * dg l (k + 1)) / (S : Int) := by rw [Af3 (by omega), hSi]
        have hq0 : 0 ≤ (dg l k + 65536 * dg l (k + 1)) / (S : Int) := Int.ediv_nonneg (by omega) (by omega)
        simp only [cond_true, Ao, Ag hk, Option.bind_some, HH, hd, cond_false, i1, Ag (show k < out.length by omega), hor, hsr, Int.tmod_eq_emod_of_nonneg hq0]
      · rw [DE (Ag (show k < out.length by omega)), g3 k (Nat.le_refl _), Int.sub_zero]
        rw [BI l k, BI l (k + 1), Xp hSTi (by omega) (by omega) hx, ← BI l (k + 1), Int.mul_add] at g4
        have e : B (k + 1) * (val (l.drop (k + 1)) / S) = B k * (65536 * (val (l.drop (k + 1)) / S)) := by simp only [B]; grind
        omega)
    (by
      rintro out _
      unfold FI
      dsimp only
      rw [decide_eq_false (Int.lt_irrefl _)]
      rfl) 0 (List.replicate l.length 0) (by omega) ⟨LB.zeros _, by simp, fun i _ => by unfold dg; rw [List.getD_eq_getElem?_getD, List.getElem?_replicate]; split <;> rfl, by rw [Cv, List.drop_zero]; simp [B]⟩
  obtain ⟨g1, g2, g3, g4⟩ := h2
  rw [List.drop_length, show val [] = 0 from rfl, Int.zero_ediv, Int.mul_zero, Int.add_zero] at g4
  unfold FY
  rw [Fm (by unfold maxBytes; omega) (by unfold maxBytes; omega)]
  simp only [Option.bind_some]
  rw [show ((0 : Nat) : Int) = 0 from rfl] at h1
  rw [h1]
  simp only [Option.bind_some]
  rw [D8 (by unfold Brief; omega)]
  simp only [Option.bind_some]
  rw [Bg g1, g4, hSi]
theorem Aq3 {a b : List Int} {t : Int} {m : Nat} (hm : b.length = m + 1) (hml : m ≤ 1000000) (ht : dg b m = t) (h1 : 1 ≤ t) (h2 : t < 65536) :
    ∃ s : Nat, s ≤ 15 ∧ t * 2 ^ s < 65536 ∧ loopM (fun (s : ((List Int) × ((List Int) × Int))) => B0 s.1 s.2.1 s.2.2) (a, (b, 0)) = some (a, (b, (s : Int))) := by
  have bound : ∀ s : Nat, t * 2 ^ s < 65536 → s ≤ 15 := fun s h => by
    have h3 : (2 : Int) ^ s < 2 ^ 16 := by
      have h4 : (1 : Int) * 2 ^ s ≤ t * 2 ^ s := Int.mul_le_mul_of_nonneg_right h1 (Int.le_of_lt (Int.pow_pos (by decide)))
      have h5 : (2 : Int) ^ 16 = 65536 := by decide
      omega
    have h5 : ((2 ^ s : Nat) : Int) < ((2 ^ 16 : Nat) : Int) := by simpa using h3
    have h6 : 2 ^ s < 2 ^ 16 := by omega
    have := (Nat.pow_lt_pow_iff_right (show 1 < 2 by decide)).1 h6
    omega
  obtain ⟨r, g1, s, rfl, g2⟩ := Fp (f := fun (s : ((List Int) × ((List Int) × Int))) => B0 s.1 s.2.1 s.2.2)
    (I := fun x => ∃ s : Nat, x = (a, (b, (s : Int))) ∧ t * 2 ^ s < 65536) (R := fun x => ∃ s : Nat, x = (a, (b, (s : Int))) ∧ t * 2 ^ s < 65536) (fun x => 100 - x.2.2.toNat) (by
      rintro x ⟨s, rfl, hs⟩
      have hb := bound s hs
      have p0 : (0 : Int) < 2 ^ s := Int.pow_pos (by decide)
      have p1 : 0 ≤ t * 2 ^ s := Int.mul_nonneg (by omega) (by omega)
      have hsh : shlI .i64 t (IntKind.wrap .u64 (s : Int)) = t * 2 ^ s := MU (by omega) (by omega) (by omega)
      have hu : IntKind.wrap .u64 (s : Int) = (s : Int) := wrapU (by omega) (by omega)
      have hd : decide (IntKind.wrap .u64 (s : Int) < 0) = false := by rw [hu]; exact decide_eq_false (by omega)
      have hg : getI b (IntKind.wrap .i64 ((b.length : Int) - 1)) = some t := by rw [← ht]; exact Ih (by rw [wrapI (by omega) (by omega)]; omega) (by omega)
      simp only
      by_cases hc : t * 2 ^ s < 32768
      · refine .inl ⟨(a, (b, ((s + 1 : Nat) : Int))), ?_, ⟨s + 1, rfl, by rw [Int.pow_succ, ← Int.mul_assoc]; omega⟩, by simp only; omega⟩
        unfold B0
        simp only [hg, Option.bind_some, hd, cond_false, hsh, decide_eq_true hc, cond_true]
        rw [wrap1 (by omega)]
      · refine .inr ⟨(a, (b, (s : Int))), ?_, s, rfl, hs⟩
        unfold B0
        simp only [hg, Option.bind_some, hd, cond_false, hsh, decide_eq_false hc]) (a, (b, 0)) ⟨0, rfl, by simp; omega⟩
  exact ⟨s, bound s g2, g2, g1⟩
theorem Ae9 {u0 v : List Int} {m : Nat} {bits : Int} (hv : LB v) (hvl : v.length = m + 2) (ht : 1 ≤ dg v (m + 1)) (hl : u0.length ≤ 1000000) {n : Nat} {out : List Int} (h : Places u0 v m n u0 out) :
    ∃ u out', loopM (fun (s : ((List Int) × ((List Int) × ((List Int) × (Int × Int))))) => Bd s.1 s.2.1 s.2.2.1 s.2.2.2.1 s.2.2.2.2) (u0, (v, (out, (bits, (n : Int) - 1)))) = some (u, (out', bits)) ∧ Places u0 v m 0 u out' := by
  obtain ⟨⟨u, out'⟩, h1, h2⟩ := Kw (body := fun (s : ((List Int) × ((List Int) × ((List Int) × (Int × Int))))) => Bd s.1 s.2.1 s.2.2.1 s.2.2.2.1 s.2.2.2.2)
    (st := fun n (b : List Int × List Int) => (b.1, (v, (b.2, (bits, (n : Int) - 1))))) (fin := fun b => (b.1, (b.2, bits))) (I := fun n b => Places u0 v m n b.1 b.2)
    (by
      rintro n ⟨u, out⟩ hI
      simp only at hI
      have H := hI.place hv hvl ht
      have hle := hI.le
      have hol := hI.olen
      have hul := hI.len
      obtain ⟨u', g1, g2, g3, g4, g5⟩ := An1 (out := out) (bits := bits) H (by omega) (by omega)
      refine ⟨(u', out.set n (val (u.drop n) / val v)), ?_, hI.next H g2 g3 g4 g5⟩
      simp only
      rw [show ((n + 1 : Nat) : Int) - 1 = (n : Int) by omega, g1])
    (by
      rintro ⟨u, out⟩ _
      unfold Bd
      dsimp only
      rw [decide_eq_false (by omega)]
      rfl) n (u0, out) h
  exact ⟨u, out', h1, h2⟩
theorem Places.start2 {u0 v : List Int} {m n : Nat} (hu : LB u0) (hn : u0.length = n + (m + 2)) (h0 : val (u0.drop n) < val v) : Places u0 v m n u0 (List.replicate n 0) :=
  ⟨rfl, hu, by omega, h0, LB.zeros n, by simp; omega, fun i hi => by unfold dg; rw [List.getD_eq_getElem?_getD, List.getElem?_replicate]; split <;> rfl, by rw [Cv]; omega⟩
set_option maxHeartbeats 1000000 in
theorem Ml {a b : Nat} (hb0 : b ≠ 0) (ha : (lim a).length ≤ 90000) (hb : (lim b).length ≤ 90000) : B2 (lim a) (lim b) = some (lim (a / b), lim (a % b)) := by
  unfold B2
  rw [D8 (by unfold Brief; omega)]
  simp only [Option.bind_some]
  rw [JN (Na a), LN (by unfold Brief; omega) (by unfold Brief; omega)]
  simp only [Option.bind_some]
  by_cases hab : a < b
  · rw [Co (by omega)]
    simp only [show decide ((-1 : Int) < 0) = true from rfl, cond_true]
    rw [Nat.div_eq_of_lt hab, Nat.mod_eq_of_lt hab, AW]
  have hc : decide (cmpZ (a : Int) b < 0) = false := by
    rcases AT (a : Int) b with ⟨h, g⟩ | ⟨h, _⟩ | ⟨h, _⟩
    · omega
    · rw [h]; rfl
    · rw [h]; rfl
  simp only [hc, cond_false]
  have hbl : (lim b).length ≠ 0 := fun h => hb0 (Fa.1 (List.eq_nil_of_length_eq_zero h))
  by_cases h1 : (lim b).length = 1
  · obtain ⟨e1, e2, e3⟩ := Y5 h1
    rw [e1]
    simp only [List.length_singleton, show (((1 : Nat) : Int) == 1) = true from rfl, cond_true]
    rw [show getI [(b : Int)] 0 = some (b : Int) from rfl]
    simp only [Option.bind_some]
    rw [Aa4 (by omega) (by omega)]
    simp only [Option.bind_some, Int.toNat_natCast]
  have hn1 : ((((lim b).length : Nat) : Int) == 1) = false := beq_eq_false_iff_ne.2 (by omega)
  obtain ⟨m, hm⟩ : ∃ m, (lim b).length = m + 2 := ⟨(lim b).length - 2, by omega⟩
  obtain ⟨t1, t2, t3, t4⟩ := PD hb0
  rw [hm, show m + 2 - 1 = m + 1 by omega] at t1 t2 t3 t4
  generalize ht : dg (lim b) (m + 1) = t at *
  obtain ⟨s, hs1, hs2, hs3⟩ := Aq3 (a := lim a) (b := lim b) (m := m + 1) (by omega) (by omega) ht t1 t2
  obtain ⟨S, T, eS, eT, hST, hS, hT, hS2⟩ := J9 (show s ≤ 16 by omega)
  have hSi : ((S : Nat) : Int) = 2 ^ s := by rw [eS]; simp
  obtain ⟨u, hu1, hu2, hu3, hu4⟩ := Ah0 (An a) hs1 (by omega)
  obtain ⟨v, hv1, hv2, hv3, hv4⟩ := Ah0 (An b) hs1 (by omega)
  rw [Ai, ← hSi, ← Int.natCast_mul] at hu4 hv4
  simp only [hn1, cond_false, hs3, Option.bind_some, hu1, hv1]
  rw [D8 (by unfold Brief; omega)]
  simp only [Option.bind_some]
  rw [Bg hv2, hv4, Int.toNat_natCast]
  have hBa : (a : Int) < B (lim a).length := Af.1 (Nat.le_refl _)
  have lb : (lim (b * S)).length = m + 2 := by
    apply Nat.le_antisymm
    · rw [Af]
      rw [show ((b * S : Nat) : Int) = (b : Int) * S by simp]
      rw [← hSi] at hs2
      have e1 : (b : Int) * S < B (m + 1) * (t + 1) * S := Int.mul_lt_mul_of_pos_right t4 (by omega)
      have hts : (t + 1) * (S : Int) ≤ 65536 := by
        obtain ⟨d1, d2, d3, d4, d5, d6, d7, d8⟩ := Qo (S := (S : Int)) (T := (T : Int)) (by rw [← Int.natCast_mul, hST]; rfl) (by omega) (by omega) (show 0 ≤ t ∧ t < 65536 by omega)
        have d9 : t * S % 65536 = t * S := Int.emod_eq_of_lt (Int.mul_nonneg (by omega) (by omega)) hs2
        rw [Int.add_mul, Int.one_mul, ← d9, d1]
        exact d8
      have e2 : B (m + 1) * ((t + 1) * (S : Int)) ≤ B (m + 1) * 65536 := Int.mul_le_mul_of_nonneg_left hts (Int.le_of_lt (Dk _))
      have e3 : B (m + 1) * (t + 1) * S = B (m + 1) * ((t + 1) * (S : Int)) := Int.mul_assoc ..
      have e4 : B (m + 2) = B (m + 1) * 65536 := by simp only [B]; omega
      omega
    · rw [← hm, Af]
      have h1 : ((b * S : Nat) : Int) < B (lim (b * S)).length := Af.1 (Nat.le_refl _)
      have : b * 1 ≤ b * S := Nat.mul_le_mul_left _ (by omega)
      omega
  have hle : (lim b).length ≤ (lim a).length := by rw [Af]; omega
  have hbS0 : b * S ≠ 0 := Nat.mul_ne_zero hb0 (by omega)
  have htop := (PD hbS0).1
  rw [lb, show m + 2 - 1 = m + 1 by omega] at htop
  generalize hn : (lim a).length - (lim b).length + 1 = n at *
  have w0 : IntKind.wrap .i64 (((lim a).length : Int) - ((lim b).length : Int)) = (n : Int) - 1 := by rw [wrapI (by omega) (by omega)]; omega
  rw [w0, wrapI (n := (n : Int) - 1 + 1) (by omega) (by omega), show (n : Int) - 1 + 1 = (n : Int) by omega, Fm (by unfold maxBytes; omega) (by unfold maxBytes; omega)]
  simp only [Option.bind_some]
  have hless : val (u.drop n) < val (lim (b * S)) := by
    rw [Ai]
    have h1 := Bj u n
    have h2 := As (hu2.take n)
    rw [hu4] at h1
    have h3 : B n * val (u.drop n) ≤ ((a * S : Nat) : Int) := by omega
    have h4 : ((a * S : Nat) : Int) < B (lim a).length * S := by rw [Int.natCast_mul]; exact Int.mul_lt_mul_of_pos_right hBa (by omega)
    have h5 : (lim a).length = n + (m + 1) := by omega
    rw [h5, KL] at h4
    have h6 : B (m + 1) * S ≤ ((b * S : Nat) : Int) := by
      rw [Int.natCast_mul]
      have : B (m + 1) * 1 ≤ B (m + 1) * t := Int.mul_le_mul_of_nonneg_left t1 (Int.le_of_lt (Dk _))
      exact Int.mul_le_mul_of_nonneg_right (by omega) (by omega)
    have h7 : B n * (val (u.drop n)) < B n * (B (m + 1) * S) := by rw [← Int.mul_assoc]; omega
    have h8 := Int.lt_of_mul_lt_mul_left h7 (Int.le_of_lt (Dk n))
    omega
  obtain ⟨u', out, hp, P⟩ := Ae9 (bits := (s : Int)) (An (b * S)) lb htop (by omega) (Places.start2 (n := n) hu2 (by omega) hless)
  rw [hp]
  simp only [Option.bind_some]
  obtain ⟨p1, p2⟩ := P.end (An _)
  rw [hu4, Ai] at p1 p2
  obtain ⟨q1, q2⟩ := RN (a := a) (b := b) (c := S) (by omega)
  have p1' : val out = ((a / b : Nat) : Int) := by rw [p1, ← q1]; simp
  have p2' : val u' = ((a % b * S : Nat) : Int) := by rw [p2, ← q2]; simp
  have hul := P.len
  have hol := P.olen
  rw [D8 (by unfold Brief; omega)]
  simp only [Option.bind_some]
  rw [D8 (by unfold Brief; omega)]
  simp only [Option.bind_some]
  rw [Bg P.lo, Bg P.lu, p1', p2', Int.toNat_natCast, Int.toNat_natCast, Af8 (An _) hs1 (by
    have : (lim (a % b * S)).length ≤ m + 2 := by
      rw [← lb, Af]
      have h1 : ((b * S : Nat) : Int) < B (lim (b * S)).length := Af.1 (Nat.le_refl _)
      have := Nat.mul_lt_mul_of_pos_right (Nat.mod_lt a (show b > 0 by omega)) (show S > 0 by omega)
      omega
    omega), Ai]
  simp only [Option.bind_some]
  rw [← hSi, Int.natCast_mul, Int.mul_ediv_cancel _ (by omega), Int.toNat_natCast]
end Go.Proofs.YtgfchmagglhohaaGreat.Ev

end
section
namespace Go.Proofs.YtgfchmagglhohaaGreat.Ev
open Go
set_option linter.unusedVariables false
set_option linter.unusedSimpArgs false
set_option linter.unusedSectionVars false
theorem DD (n : Nat) : big (n : Int) = (false, lim n) := by unfold big; rw [decide_eq_false (by omega), Int.natAbs_natCast]
theorem UL (n : Nat) : big (-(n : Int)) = (decide (n ≠ 0), lim n) := by unfold big; congr 1; exact decide_eq_decide.2 (by omega); congr 1; omega
theorem Wh (x y : Int) : ((!(decide (x < 0) == decide (y < 0))) && decide (x.natAbs / y.natAbs ≠ 0), lim (x.natAbs / y.natAbs)) = big (x.tdiv y) := by
  rcases Int.lt_or_le x 0 with hx | hx
  · obtain ⟨a, rfl⟩ : ∃ a : Nat, x = -(a : Int) := ⟨x.natAbs, by omega⟩
    rcases Int.lt_or_le y 0 with hy | hy
    · obtain ⟨b, rfl⟩ : ∃ b : Nat, y = -(b : Int) := ⟨y.natAbs, by omega⟩
      rw [Int.neg_tdiv, Int.tdiv_neg, Int.neg_neg, ← Int.ofNat_tdiv, DD, decide_eq_true hx, decide_eq_true hy, Int.natAbs_neg, Int.natAbs_neg]; rfl
    · obtain ⟨b, rfl⟩ : ∃ b : Nat, y = (b : Int) := ⟨y.natAbs, by omega⟩
      rw [Int.neg_tdiv, ← Int.ofNat_tdiv, UL, decide_eq_true hx, decide_eq_false (show ¬ (b : Int) < 0 by omega), Int.natAbs_neg]; rfl
  · obtain ⟨a, rfl⟩ : ∃ a : Nat, x = (a : Int) := ⟨x.natAbs, by omega⟩
    rcases Int.lt_or_le y 0 with hy | hy
    · obtain ⟨b, rfl⟩ : ∃ b : Nat, y = -(b : Int) := ⟨y.natAbs, by omega⟩
      rw [Int.tdiv_neg, ← Int.ofNat_tdiv, UL, decide_eq_false (show ¬ (a : Int) < 0 by omega), decide_eq_true hy, Int.natAbs_neg]; rfl
    · obtain ⟨b, rfl⟩ : ∃ b : Nat, y = (b : Int) := ⟨y.natAbs, by omega⟩
      rw [← Int.ofNat_tdiv, DD, decide_eq_false (show ¬ (a : Int) < 0 by omega), decide_eq_false (show ¬ (b : Int) < 0 by omega)]; rfl
theorem Wa (x y : Int) : (decide (x < 0) && decide (x.natAbs % y.natAbs ≠ 0), lim (x.natAbs % y.natAbs)) = big (x.tmod y) := by
  have hy : x.tmod y = x.tmod (y.natAbs : Int) := by
    rcases Int.natAbs_eq y with h | h
    · rw [← h]
    · rw [h, Int.tmod_neg, Int.natAbs_neg, Int.natAbs_natCast]
  rw [hy]
  rcases Int.lt_or_le x 0 with hx | hx
  · obtain ⟨a, rfl⟩ : ∃ a : Nat, x = -(a : Int) := ⟨x.natAbs, by omega⟩
    rw [Int.neg_tmod, ← Int.ofNat_tmod, UL, decide_eq_true hx, Int.natAbs_neg]; rfl
  · obtain ⟨a, rfl⟩ : ∃ a : Nat, x = (a : Int) := ⟨x.natAbs, by omega⟩
    rw [← Int.ofNat_tmod, DD, decide_eq_false (show ¬ (a : Int) < 0 by omega)]; rfl
theorem Gp {a b : Nat} (h : a ≤ b) : (lim a).length ≤ (lim b).length := Af.2 (Int.lt_of_le_of_lt (by omega) (Af.1 (Nat.le_refl (lim b).length)))
section
variable {x y : Int} {k : Nat}
theorem EG (hk : k ≤ 90000) (hx : (x.natAbs : Int) < B k) (hy : (y.natAbs : Int) < B k) (h0 : y ≠ 0) : BU (big x) (big y) = some (big (x.tdiv y), big (x.tmod y)) := by
  have lx := Nat.le_trans (Af.2 hx) hk
  have ly := Nat.le_trans (Af.2 hy) hk
  have l1 := Gp (Nat.div_le_self x.natAbs y.natAbs)
  have l2 := Gp (Nat.mod_le x.natAbs y.natAbs)
  unfold BU
  rw [show (big x).2 = lim x.natAbs from rfl, show (big y).2 = lim y.natAbs from rfl, PX (by omega) lx ly]
  simp only [Option.bind_some]
  rw [Ep (An _) (by unfold Brief; omega), Ep (An _) (by unfold Brief; omega), Ai, Ai, Int.toNat_natCast, Int.toNat_natCast]
  simp only [Option.bind_some]
  rw [show (big x).1 = decide (x < 0) from rfl, show (big y).1 = decide (y < 0) from rfl, Wh, Wa]
theorem Uy (hk : k ≤ 90000) (hx : (x.natAbs : Int) < B k) (hy : (y.natAbs : Int) < B k) (h0 : y ≠ 0) : EJ (big x) (big y) = some (big (x.tdiv y), big (x.tmod y)) := by
  have lx := Nat.le_trans (Af.2 hx) hk
  have ly := Nat.le_trans (Af.2 hy) hk
  have l1 := Gp (Nat.div_le_self x.natAbs y.natAbs)
  have l2 := Gp (Nat.mod_le x.natAbs y.natAbs)
  unfold EJ
  rw [show (big x).2 = lim x.natAbs from rfl, show (big y).2 = lim y.natAbs from rfl, Ml (by omega) lx ly]
  simp only [Option.bind_some]
  rw [CT (An _) (by unfold Brief; omega), CT (An _) (by unfold Brief; omega), Ai, Ai, Int.toNat_natCast, Int.toNat_natCast]
  simp only [Option.bind_some]
  rw [show (big x).1 = decide (x < 0) from rfl, show (big y).1 = decide (y < 0) from rfl, Wh, Wa]
end
theorem OA {b : Nat} (h : b ≠ 0) : decide ((((lim b).length : Nat) : Int) > 0) = true := by rw [I9, Hu]; simp [h]
theorem XQ (s : Bool × List Int) : ∀ (n a b : Nat), b < n → (lim a).length ≤ 90000 → (lim b).length ≤ 90000 →
    loopM (fun (s : ((Bool × (List Int)) × ((List Int) × (List Int)))) => Fc s.1 s.2.1 s.2.2) (s, (lim a, lim b)) = some (s, lim (Nat.gcd a b)) := by
  intro n
  induction n with
  | zero => intro a b h; omega
  | succ n ih =>
    intro a b h ha hb
    by_cases h0 : b = 0
    · subst h0
      rw [Nat.gcd_zero_right]
      refine Av ?_
      unfold Fc
      rw [AW]
      rfl
    · have hm := Nat.mod_lt a (show b > 0 by omega)
      rw [Bo (s' := (s, (lim b, lim (a % b))))]
      · rw [ih b (a % b) (by omega) hb (Nat.le_trans (Gp (Nat.mod_le _ _)) ha), Nat.gcd_comm b, ← Nat.gcd_rec, Nat.gcd_comm b]
      · unfold Fc
        dsimp only
        rw [OA h0, PX h0 ha hb]
        rfl
theorem XH : ∀ (n a b : Nat), b < n → (lim a).length ≤ 90000 → (lim b).length ≤ 90000 →
    loopM (fun (s : ((List Int) × (List Int))) => GJ s.1 s.2) (lim a, lim b) = some (lim (Nat.gcd a b)) := by
  intro n
  induction n with
  | zero => intro a b h; omega
  | succ n ih =>
    intro a b h ha hb
    by_cases h0 : b = 0
    · subst h0
      rw [Nat.gcd_zero_right]
      refine Av ?_
      unfold GJ
      rw [AW]
      rfl
    · have hm := Nat.mod_lt a (show b > 0 by omega)
      rw [Bo (s' := (lim b, lim (a % b)))]
      · rw [ih b (a % b) (by omega) hb (Nat.le_trans (Gp (Nat.mod_le _ _)) ha), Nat.gcd_comm b, ← Nat.gcd_rec, Nat.gcd_comm b]
      · unfold GJ
        dsimp only
        rw [OA h0, Ml h0 ha hb]
        rfl
theorem YC {a b : Nat} (ha : (lim a).length ≤ 90000) (hb : (lim b).length ≤ 90000) : (lim (Nat.gcd a b)).length ≤ 90000 := by
  by_cases h : a = 0
  · subst h; rw [Nat.gcd_zero_left]; exact hb
  · exact Nat.le_trans (Gp (Nat.gcd_le_left b (by omega))) ha
section
variable {x y : Int} {k : Nat}
theorem Tx (hk : k ≤ 90000) (hx : (x.natAbs : Int) < B k) (hy : (y.natAbs : Int) < B k) : DQ (big x) (big y) = some (big (Int.gcd x y : Nat)) := by
  have lx := Nat.le_trans (Af.2 hx) hk
  have ly := Nat.le_trans (Af.2 hy) hk
  have lg := YC lx ly
  unfold DQ
  rw [show (big x).2 = lim x.natAbs from rfl, show (big y).2 = lim y.natAbs from rfl, XQ _ _ _ _ (Nat.lt_succ_self _) lx ly]
  simp only [Option.bind_some]
  rw [Ep (An _) (by unfold Brief; omega), Ai, Int.toNat_natCast, DD]
  rfl
theorem YX (hk : k ≤ 90000) (hx : (x.natAbs : Int) < B k) (hy : (y.natAbs : Int) < B k) : FP (big x).2 (big y).2 = some (lim (Int.gcd x y)) := by
  have lx := Nat.le_trans (Af.2 hx) hk
  have ly := Nat.le_trans (Af.2 hy) hk
  have lg := YC lx ly
  unfold FP
  rw [show (big x).2 = lim x.natAbs from rfl, show (big y).2 = lim y.natAbs from rfl, XH _ _ _ (Nat.lt_succ_self _) lx ly]
  simp only [Option.bind_some]
  rw [D8 (by unfold Brief; omega)]
  simp only [Option.bind_some]
  rw [JN (Na _)]
  rfl
end
end Go.Proofs.YtgfchmagglhohaaGreat.Ev

end
section
namespace Go.Proofs.YtgfchmagglhohaaGreat.Ev
open Go
set_option linter.unusedVariables false
set_option linter.unusedSimpArgs false
set_option linter.unusedSectionVars false
theorem peta {α β : Type} (p : α × β) : (p.1, p.2) = p := by cases p; rfl
theorem SN {a : Bool × List Int} (h : a.2.length ≤ 1000000) : DS a a = some true := by
  have hb : Ej a.2 a.2 = some true := by
    unfold Ej
    rw [bne_self_eq_false]
    simp only [cond_false]
    obtain ⟨h1, h2⟩ := M4 (l := a.2) (body := fun (s : ((List Int) × ((List Int) × (Int × Int)))) => Eb s.1 s.2.1 s.2.2.1 s.2.2.2)
      (st := fun k (b : Unit) => (a.2, (a.2, ((a.2.length : Int), (k : Int))))) (step := fun b p => ()) (fin := fun b => .inl ()) (I := fun k b => True)
      (by
        rintro k b p hk _
        have hkl := getL hk
        unfold Eb
        simp only [H6 hk, cond_true, Ao, hk, Option.bind_some, bne_self_eq_false, cond_false, wrap1 (show k < 4611686018427387904 by omega)]
        exact ⟨trivial, trivial⟩)
      (by
        rintro b _
        unfold Eb
        simp only [PI, cond_false]) () trivial
    rw [show ((0 : Nat) : Int) = 0 from rfl] at h1
    rw [h1]
    rfl
  unfold DS
  rw [beq_self_eq_true, hb]
  rfl
theorem SU (z : Int) : AV (big z) = some (decide (z = 0)) := by
  unfold AV
  congr 1
  rw [Bool.eq_iff_iff]
  simp only [beq_iff_eq, decide_eq_true_eq]
  unfold big
  constructor
  · intro h
    have := Fa.1 (List.eq_nil_of_length_eq_zero (show (lim z.natAbs).length = 0 by simpa using h))
    omega
  · rintro rfl
    rw [show (0 : Int).natAbs = 0 from rfl, AW]; rfl
section
variable {x y : Int} (hx : (x.natAbs : Int) < B 40) (hy : (y.natAbs : Int) < B 40)
include hx hy
end
section
variable {a b : Bool × List Int} (ha : Brief a.2) (hb : Brief b.2) (h : (goodB a && goodB b) = false)
include ha hb h
end
end Go.Proofs.YtgfchmagglhohaaGreat.Ev

end
section
namespace Go.Proofs.YtgfchmagglhohaaGreat.Ev
open Go
set_option linter.unusedVariables false
set_option linter.unusedSimpArgs false
set_option linter.unusedSectionVars false
def Few (n : Nat) (l : List Int) : Prop := LB l ∧ l.length ≤ n
theorem Ad7 {s1 : Bool × List Int} {c : List Int × Int × Int} : ∀ (n : Nat) (k B' : Nat) (c : List Int × Int × Int) (l : List Int), Cur B' c → B' + 6 * n ≤ 100000000000 → n ≤ 1000 → Few k l → k + n ≤ 1000 →
    ∃ c' l', loopM (fun (s : (((List Int) × (Int × Int)) × ((Bool × (List Int)) × ((List Int) × Int)))) => Cu s.1 s.2.1 s.2.2.1 s.2.2.2) (c, (s1, (l, (n : Int)))) = some (c', (s1, l')) ∧ Cur (B' + 6 * n) c' ∧ Few (k + n) l' := by
  intro n
  induction n with
  | zero =>
    intro k B' c l hc hB hn hl hk
    exact ⟨c, l, Av (by unfold Cu; rfl), hc.mono (by omega), hl⟩
  | succ n ih =>
    intro k B' c l hc hB hn hl hk
    obtain ⟨c1, v1, e1, q1, a1, b1⟩ := HO hc (by omega) 256
    obtain ⟨c2, v2, e2, q2, a2, b2⟩ := HO q1 (by omega) 256
    have b1 := b1 (by omega)
    have b2 := b2 (by omega)
    obtain ⟨c3, v3, e3, q3, m3⟩ := HB q2 (by omega) [0, 1, 65535, 32768, 256 * v1 + v2, 7] (by simp) (by simp)
    have hv : 0 ≤ v3 ∧ v3 < 65536 := by simp at m3; omega
    obtain ⟨c', l', h1, h2, h3⟩ := ih (k + 1) (B' + 6) c3 (l ++ [v3]) (q3.mono (by omega)) (by omega) (by omega) ⟨hl.1.append (LB.cons hv LB.nil), by simp; exact hl.2⟩ (by omega)
    refine ⟨c', l', ?_, h2.mono (by omega), by rw [show k + (n + 1) = k + 1 + n by omega]; exact h3⟩
    rw [Bo (s' := (c3, (s1, (l ++ [v3], (n : Int)))))]
    · exact h1
    · unfold Cu
      have hd : decide (((n + 1 : Nat) : Int) > 0) = true := decide_eq_true (by omega)
      have hl2 := hl.2
      simp only [hd, cond_true, e1, e2, Option.bind_some, wrapI (n := 256 * v1) (by omega) (by omega), wrapI (n := 256 * v1 + v2) (by omega) (by omega), e3, app1 (show l.length ≤ 100000000 from by omega)]
      rw [wrapI (by omega) (by omega), show ((n + 1 : Nat) : Int) - 1 = (n : Int) by omega]
theorem Ai0 {B' : Nat} {c : List Int × Int × Int} (h : Cur B' c) (hB : B' ≤ 1000000000) : ∃ c' b, Cy c = some (c', b) ∧ Cur (B' + 300) c' ∧ b.2.length ≤ 100 := by
  unfold Cy
  obtain ⟨c0, v0, e0, q0, a0, b0⟩ := HO h (by omega) 6
  have b0 := b0 (by omega)
  obtain ⟨c1, v1, e1, q1⟩ := Nh q0 (by omega) 12
  simp only [e0, e1, Option.bind_some]
  have fin : ∀ (c2 : List Int × Int × Int) (n : Nat), Cur (B' + 6) c2 → n ≤ 41 → ∃ c' b, ((loopM (fun (s : (((List Int) × (Int × Int)) × ((Bool × (List Int)) × ((List Int) × Int)))) => Cu s.1 s.2.1 s.2.2.1 s.2.2.2) (c2, ((false, []), ([], (n : Int))))).bind fun x6 =>
    ((AQ (x6.1.1, (x6.1.2.1, x6.1.2.2)) (3 : Int))).bind fun x7 =>
    ((AH x7.2 x6.2.2)).bind fun x8 =>
    ((AQ (x7.1.1, (x7.1.2.1, x7.1.2.2)) (40 : Int))).bind fun x9 =>
    bif x9.2 then
      ((Aq (x9.1.1, (x9.1.2.1, x9.1.2.2)) (List.cons (0 : Int) (List.cons (-(1 : Int)) (List.cons (65536 : Int) List.nil))))).bind fun x10 =>
      ((appL 8 1 x8.1 (List.cons x10.2 List.nil))).bind fun x11 =>
      some ((x10.1.1, (x10.1.2.1, x10.1.2.2)), (x8.2, x11))
    else
    some ((x9.1.1, (x9.1.2.1, x9.1.2.2)), (x8.2, x8.1))) = some (c', b) ∧ Cur (B' + 300) c' ∧ b.2.length ≤ 100 := by
    intro c2 n q2 hn
    obtain ⟨c3, l, e3, q3, hl⟩ := Ad7 (s1 := (false, [])) (c := c2) n 0 (B' + 6) c2 [] q2 (by omega) (by omega) ⟨LB.nil, by simp⟩ (by omega)
    obtain ⟨c4, v4, e4, q4⟩ := Nh q3 (by omega) 3
    obtain ⟨c5, v5, e5, q5⟩ := Nh q4 (by omega) 40
    have hll := hl.2
    have hmk := CT hl.1 (by unfold Brief; omega) v4
    have hlen : (lim (val l).toNat).length ≤ 0 + n := Ai4 hl.1 _ 0 hl.2
    simp only [e3, e4, e5, hmk, Option.bind_some]
    cases v5
    · exact ⟨_, _, rfl, q5.mono (by omega), by simp only; omega⟩
    · obtain ⟨c6, v6, e6, q6, m6⟩ := HB q5 (by omega) [0, -(1 : Int), 65536] (by simp) (by simp)
      simp only [cond_true, e6, Option.bind_some]
      rw [app1 (by omega)]
      exact ⟨_, _, rfl, q6.mono (by omega), by simp; omega⟩
  cases v1
  · simp only [cond_false, Option.bind_some, Sum.elim_inr]
    have hv : v0 = ((v0.toNat : Nat) : Int) := by omega
    rw [hv]
    exact fin c1 v0.toNat (q1.mono (by omega)) (by omega)
  · obtain ⟨c2, v2, e2, q2, m2⟩ := HB q1 (by omega) [20, 39, 40, 41] (by simp) (by simp)
    simp only [cond_true, e2, Option.bind_some, Sum.elim_inr]
    have hm : 0 ≤ v2 ∧ v2 ≤ 41 := by simp at m2; omega
    have hv : v2 = ((v2.toNat : Nat) : Int) := by omega
    rw [hv]
    exact fin c2 v2.toNat (q2.mono (by omega)) (by omega)
end Go.Proofs.YtgfchmagglhohaaGreat.Ev

end
section
namespace Go.Proofs.YtgfchmagglhohaaGreat.Ev
open Go
set_option linter.unusedVariables false
set_option linter.unusedSimpArgs false
set_option linter.unusedSectionVars false
def rq (q : Rat) : (Bool × List Int) × (Bool × List Int) := (big q.num, big (q.den : Int))
theorem Ic {x y : Int} (hy : y ≠ 0) : x.tdiv (if y < 0 then -((Int.gcd x y : Nat) : Int) else (Int.gcd x y : Nat)) = (Rat.divInt x y).num ∧ y.tdiv (if y < 0 then -((Int.gcd x y : Nat) : Int) else (Int.gcd x y : Nat)) = ((Rat.divInt x y).den : Int) := by
  have d1 : ((Int.gcd x y : Nat) : Int) ∣ x := Int.gcd_dvd_left ..
  have d2 : ((Int.gcd x y : Nat) : Int) ∣ y := Int.gcd_dvd_right ..
  rw [Rat.num_divInt, Rat.den_divInt, if_neg hy, Int.gcd_comm y x]
  generalize Int.gcd x y = n at *
  obtain ⟨a, rfl⟩ := d1
  obtain ⟨b, rfl⟩ := d2
  have hn : n ≠ 0 := by rintro rfl; simp at hy
  have hn' : (n : Int) ≠ 0 := by omega
  have hb : b ≠ 0 := by rintro rfl; simp at hy
  have hsg : ((n : Int) * b < 0) ↔ b < 0 := by
    constructor
    · intro h
      rcases Int.lt_or_le b 0 with g | g
      · exact g
      · exact absurd (Int.mul_nonneg (show (0 : Int) ≤ (n : Int) by omega) g) (by omega)
    · intro h; exact Int.mul_neg_of_pos_of_neg (by omega) h
  rw [Int.natAbs_mul, Int.natAbs_natCast, Nat.mul_div_cancel_left _ (by omega)]
  by_cases h : b < 0
  · rw [if_pos (hsg.2 h), Int.sign_eq_neg_one_of_neg (hsg.2 h), Int.tdiv_neg, Int.tdiv_neg, Int.mul_tdiv_cancel_left _ hn', Int.mul_tdiv_cancel_left _ hn',
      show (-1 : Int) * ((n : Int) * a) = (n : Int) * (-a) by rw [Int.mul_neg, Int.neg_mul, Int.one_mul], Int.mul_ediv_cancel_left _ hn']
    exact ⟨rfl, by omega⟩
  · have h' : ¬ (n : Int) * b < 0 := fun g => h (hsg.1 g)
    have hp : 0 < (n : Int) * b := by omega
    rw [if_neg h', Int.sign_eq_one_of_pos hp, Int.mul_tdiv_cancel_left _ hn', Int.mul_tdiv_cancel_left _ hn', Int.one_mul, Int.mul_ediv_cancel_left _ hn']
    exact ⟨rfl, by omega⟩
def Sz (k : Nat) (q : Rat) : Prop := (q.num.natAbs : Int) < B k ∧ (q.den : Int) < B k
instance (k : Nat) (q : Rat) : Decidable (Sz k q) := by unfold Sz; infer_instance
theorem Sz.mono {k m : Nat} {q : Rat} (h : Sz k q) (hkm : k ≤ m) : Sz m q := by
  have := C1 hkm
  unfold Sz at *
  omega
theorem Ka (x g : Int) : (x.tdiv g).natAbs ≤ x.natAbs := by rw [Int.natAbs_tdiv]; exact Nat.div_le_self _ _
theorem Hm {x y : Int} {k : Nat} (hx : (x.natAbs : Int) < B k) (hy : (y.natAbs : Int) < B k) (h0 : y ≠ 0) : Sz k (Rat.divInt x y) := by
  obtain ⟨h1, h2⟩ := Ic (x := x) h0
  have a1 := Ka x (if y < 0 then -((Int.gcd x y : Nat) : Int) else (Int.gcd x y : Nat))
  have a2 := Ka y (if y < 0 then -((Int.gcd x y : Nat) : Int) else (Int.gcd x y : Nat))
  rw [h1] at a1
  rw [h2] at a2
  unfold Sz
  omega
theorem Ap4 (p q : Rat) : p + q = Rat.divInt (p.num * q.den + q.num * p.den) ((p.den : Int) * (q.den : Int)) := by
  rw [Rat.add_def', ← Rat.divInt_ofNat, Int.natCast_mul]
theorem Yu (p q : Rat) : p * q = Rat.divInt (p.num * q.num) ((p.den : Int) * (q.den : Int)) := by
  rw [Rat.mul_def', ← Rat.divInt_ofNat, Int.natCast_mul]
theorem Ac0 (p q : Rat) : p / q = Rat.divInt (p.num * q.den) ((p.den : Int) * q.num) := by
  rw [Rat.div_def, Rat.inv_def]
  conv => lhs; lhs; rw [← Rat.num_divInt_den p]
  rw [Rat.divInt_mul_divInt]
theorem mulB {x y : Int} {k m : Nat} (hx : (x.natAbs : Int) < B k) (hy : (y.natAbs : Int) < B m) : ((x * y).natAbs : Int) < B (k + m) := by
  rw [Int.natAbs_mul]; exact fit2 hx hy
theorem addB {x y : Int} {k : Nat} (hx : (x.natAbs : Int) < B k) (hy : (y.natAbs : Int) < B k) : ((x + y).natAbs : Int) < B (k + 1) := by
  have h1 : B (k + 1) = 65536 * B k := by rw [KL, Int.mul_comm]; rfl
  have := Dk k
  omega
theorem natB {n : Nat} {k : Nat} (h : (n : Int) < B k) : (((n : Int)).natAbs : Int) < B k := by rw [Int.natAbs_natCast]; exact h
theorem negB {x : Int} {k : Nat} (h : (x.natAbs : Int) < B k) : ((-x).natAbs : Int) < B k := by rw [Int.natAbs_neg]; exact h
theorem upB {x : Int} {k m : Nat} (h : (x.natAbs : Int) < B k) (hkm : k ≤ m) : (x.natAbs : Int) < B m := Int.lt_of_lt_of_le h (C1 hkm)
section
variable {p q : Rat} {k m : Nat} (hp : Sz k p) (hq : Sz m q)
include hp hq
theorem Gx : Sz (k + m) (p * q) := by
  rw [Yu]
  exact Hm (mulB hp.1 hq.1) (mulB (natB hp.2) (natB hq.2)) (by have := p.den_nz; have := q.den_nz; intro h; rcases Int.mul_eq_zero.1 h with h | h <;> omega)
theorem Ta : ((p.num * (q.den : Int) + q.num * (p.den : Int)).natAbs : Int) < B (k + m + 1) :=
  addB (mulB hp.1 (natB hq.2)) (by rw [Nat.add_comm]; exact mulB hq.1 (natB hp.2))
theorem Ar6 : Sz (k + m + 1) (p + q) := by
  rw [Ap4]
  exact Hm (Ta hp hq) (upB (mulB (natB hp.2) (natB hq.2)) (by omega)) (by have := p.den_nz; have := q.den_nz; intro h; rcases Int.mul_eq_zero.1 h with h | h <;> omega)
theorem Uj (h0 : q ≠ 0) : Sz (k + m) (p / q) := by
  rw [Ac0]
  exact Hm (mulB hp.1 (natB hq.2)) (mulB (natB hp.2) hq.1) (by
    have := p.den_nz
    have hn : q.num ≠ 0 := fun h => h0 (Rat.num_eq_zero.1 h)
    intro h; rcases Int.mul_eq_zero.1 h with h | h <;> omega)
end
theorem K3 {p : Rat} {k : Nat} (hp : Sz k p) : Sz k (-p) := ⟨negB hp.1, hp.2⟩
theorem B1 : B 1 = 65536 := rfl
theorem Gh {z : Int} {k : Nat} (h : (z.natAbs : Int) < B k) (hk : 1 ≤ k) : Sz k (z : Rat) := ⟨h, by
  rw [Rat.den_intCast]
  have := C1 hk
  rw [B1] at this
  omega⟩
def cmpQ (p q : Rat) : Int := if p < q then -1 else if q < p then 1 else 0
theorem UG (p q : Rat) : cmpZ (p.num * (q.den : Int)) (q.num * (p.den : Int)) = cmpQ p q := by
  unfold cmpZ cmpQ
  simp only [Rat.lt_iff]
theorem PA {p q : Rat} : cmpQ p q < 0 ↔ p < q := by
  unfold cmpQ; split
  · simp [*]
  · split <;> simp [*]
theorem Py {p q : Rat} : 0 < cmpQ p q ↔ q < p := by
  unfold cmpQ; split
  · rename_i h; simp; exact Rat.not_lt.2 (Rat.le_of_lt h)
  · split <;> simp [*]
theorem Ak5 {p q : Rat} : cmpQ p q = 0 ↔ p = q := by
  unfold cmpQ; split
  · rename_i h; simp; rintro rfl; exact Rat.lt_irrefl h
  · split
    · rename_i h; simp; rintro rfl; exact Rat.lt_irrefl h
    · simp; exact Rat.le_antisymm (Rat.not_lt.1 ‹_›) (Rat.not_lt.1 ‹_›)
theorem Jm {x d : Int} (hd : 0 < d) : (if x.tmod d < 0 then x.tdiv d - 1 else x.tdiv d) = x / d := by
  have h1 := Int.mul_tdiv_add_tmod x d
  have h2 := Int.natAbs_tmod x d
  have h3 : (x.tmod d).natAbs < d.natAbs := by rw [h2]; exact Nat.mod_lt _ (by omega)
  have h4 : x = (if x.tmod d < 0 then x.tmod d + d else x.tmod d) + d * (if x.tmod d < 0 then x.tdiv d - 1 else x.tdiv d) := by
    split
    · rw [Int.mul_sub]; omega
    · omega
  conv => rhs; rw [h4]
  rw [Int.add_mul_ediv_left _ _ (by omega), Int.ediv_eq_zero_of_lt (by split <;> omega) (by split <;> omega), Int.zero_add]
def goodQ (a : (Bool × List Int) × (Bool × List Int)) : Bool := goodB a.1 && goodB a.2 && ((!a.2.1 && !a.2.2.isEmpty) && decide (Nat.gcd (val a.1.2).toNat (val a.2.2).toNat = 1))
theorem TL {a : (Bool × List Int) × (Bool × List Int)} : goodQ a = true ↔ ∃ q : Rat, Sz 40 q ∧ a = rq q := by
  unfold goodQ
  constructor
  · intro h
    simp only [Bool.and_eq_true, decide_eq_true_eq] at h
    obtain ⟨⟨h1, h2⟩, ⟨h3, h4⟩, h5⟩ := h
    obtain ⟨x, hx, e1⟩ := C5.1 h1
    obtain ⟨y, hy, e2⟩ := C5.1 h2
    rw [e2] at h3 h4 h5
    rw [e1] at h5
    unfold big at h3 h4 h5
    simp only [Ai, Int.toNat_natCast] at h5
    simp only [Bool.not_eq_true', decide_eq_false_iff_not] at h3
    simp only [Bool.not_eq_true'] at h4
    have h6 : y ≠ 0 := by
      rintro rfl
      rw [show (0 : Int).natAbs = 0 from rfl, AW] at h4
      simp at h4
    refine ⟨⟨x, y.natAbs, by omega, h5⟩, ⟨hx, by show ((y.natAbs : Nat) : Int) < B 40; exact hy⟩, ?_⟩
    unfold rq
    rw [← e1]
    refine Prod.ext rfl ?_
    rw [e2]
    show big y = big ((y.natAbs : Nat) : Int)
    congr 1
    omega
  · rintro ⟨q, h, rfl⟩
    unfold rq
    have hd := q.den_nz
    have hb := Kk h.1
    have hb2 := Kk (natB h.2)
    simp only [hb, hb2, Bool.true_and]
    unfold big
    simp only [Ai, Int.toNat_natCast, Int.natAbs_natCast, Bool.and_eq_true, decide_eq_true_eq, Bool.not_eq_true', decide_eq_false_iff_not]
    refine ⟨⟨by omega, ?_⟩, q.reduced⟩
    have := Hu q.den
    rw [decide_eq_true hd] at this
    simpa using this
theorem Ah4 {q : Rat} (h : Sz 40 q) : goodQ (rq q) = true := TL.2 ⟨q, h, rfl⟩
end Go.Proofs.YtgfchmagglhohaaGreat.Ev

end
section
namespace Go.Proofs.YtgfchmagglhohaaGreat.Ev
open Go
set_option linter.unusedVariables false
set_option linter.unusedSimpArgs false
set_option linter.unusedSectionVars false
end Go.Proofs.YtgfchmagglhohaaGreat.Ev

end
section
namespace Go.Proofs.YtgfchmagglhohaaGreat.Ev
open Go
set_option linter.unusedVariables false
set_option linter.unusedSimpArgs false
set_option linter.unusedSectionVars false
abbrev RF := Bool × (List Int × (Bool × List Int))
def rqF (q : Rat) : RF := ((big q.num).1, ((big q.num).2, ((big (q.den : Int)).1, (big (q.den : Int)).2)))
def zF : RF := (false, ([], (false, [])))
theorem rq_n (q : Rat) : ((rqF q).1, (rqF q).2.1) = big q.num := (rfl)
theorem rq_d (q : Rat) : ((rqF q).2.2.1, (rqF q).2.2.2) = big (q.den : Int) := (rfl)
theorem JD (q : Rat) : (rqF q).2.2 = big (q.den : Int) := (rfl)
theorem rq_e (a : RF) : (a.1, (a.2.1, (a.2.2.1, a.2.2.2))) = a := (rfl)
theorem YD {x y : Int} {k : Nat} (hy : (y.natAbs : Int) < B k) (h0 : y ≠ 0) : (((Int.gcd x y : Nat) : Int).natAbs : Int) < B k := by
  rw [Int.natAbs_natCast]
  have : Int.gcd x y ≤ y.natAbs := Nat.le_of_dvd (by omega) (Nat.gcd_dvd_right ..)
  omega
theorem Ac9 {x y : Int} (h0 : y ≠ 0) : ((Int.gcd x y : Nat) : Int) ≠ 0 := by
  have : 0 < Int.gcd x y := Nat.gcd_pos_of_pos_right _ (by omega)
  omega
theorem E8 {x : Int} {k : Nat} (hk : k ≤ 1000000) (h : (x.natAbs : Int) < B k) : Brief (big x).2 := by
  have := Af.2 h; unfold big Brief; dsimp only; omega
theorem KB (x : Int) (s : Bool) : (lim (val (big x).2).toNat, s && decide ((val (big x).2).toNat ≠ 0)) = (lim x.natAbs, s && decide (x ≠ 0)) := by
  unfold big
  simp only [Ai, Int.toNat_natCast]
  congr 2
  exact decide_eq_decide.2 (by omega)
theorem NJ {x : Int} {k : Nat} (hk : k ≤ 1000000) (h : (x.natAbs : Int) < B k) : CZ (big x) = some (big (-x)) := by
  unfold CZ
  rw [Ep (show LB (big x).2 from An _) (E8 hk h), KB]
  simp only [Option.bind_some]
  congr 1
  unfold big
  simp only
  refine Prod.ext ?_ (by simp)
  simp only
  by_cases h0 : x < 0
  · rw [decide_eq_true h0]; simp; omega
  · rw [decide_eq_false h0]; simp only [Bool.not_false, Bool.true_and]; exact decide_eq_decide.2 (by omega)
theorem MR {x : Int} {k : Nat} (hk : k ≤ 1000000) (h : (x.natAbs : Int) < B k) : Dc (big x) = some (big (-x)) := by
  unfold Dc
  rw [CT (show LB (big x).2 from An _) (E8 hk h), KB]
  simp only [Option.bind_some]
  congr 1
  unfold big
  simp only
  refine Prod.ext ?_ (by simp)
  simp only
  by_cases h0 : x < 0
  · rw [decide_eq_true h0]; simp; omega
  · rw [decide_eq_false h0]; simp only [Bool.not_false, Bool.true_and]; exact decide_eq_decide.2 (by omega)
theorem Um {x : Int} {k : Nat} (hk : k ≤ 1000000) (h : (x.natAbs : Int) < B k) : AD (big x).1 (big x).2 = some ((big x).2, (big x).1) := by
  rw [Ep (show LB (big x).2 from An _) (E8 hk h), KB]
  congr 1
  unfold big
  simp only
  refine Prod.ext rfl ?_
  simp only
  by_cases h0 : x < 0
  · rw [decide_eq_true h0]; simp; omega
  · rw [decide_eq_false h0]; rfl
theorem YR {n : Nat} {k : Nat} (hk : k ≤ 1000000) (h : (n : Int) < B k) : AD false (big (n : Int)).2 = some ((big (n : Int)).2, (big (n : Int)).1) := by
  have := Um (x := (n : Int)) hk (natB h)
  rwa [show (big (n : Int)).1 = false by rw [DD]] at this ⊢
theorem SA {x : Int} {k : Nat} (hk : k ≤ 1000000) (h : (x.natAbs : Int) < B k) : AH (big x).1 (big x).2 = some ((big x).2, (big x).1) := by
  rw [CT (show LB (big x).2 from An _) (E8 hk h), KB]
  congr 1
  unfold big
  simp only
  refine Prod.ext rfl ?_
  simp only
  by_cases h0 : x < 0
  · rw [decide_eq_true h0]; simp; omega
  · rw [decide_eq_false h0]; rfl
theorem Zy {n : Nat} {k : Nat} (hk : k ≤ 1000000) (h : (n : Int) < B k) : AH false (big (n : Int)).2 = some ((big (n : Int)).2, (big (n : Int)).1) := by
  have := SA (x := (n : Int)) hk (natB h)
  rwa [show (big (n : Int)).1 = false by rw [DD]] at this ⊢
theorem PE {x y : Int} {k : Nat} (hk : k ≤ 90000) (hx : (x.natAbs : Int) < B k) (hy : (y.natAbs : Int) < B k) (h0 : y ≠ 0) : D1 (big x) (big y) = some (rqF (Rat.divInt x y)) := by
  obtain ⟨p1, p2⟩ := Ic (x := x) h0
  have hg := YD (x := x) hy h0
  have hg0 := Ac9 (x := x) h0
  unfold D1
  simp only [peta, Tx hk hx hy, Option.bind_some]
  rw [show (big y).1 = decide (y < 0) from rfl]
  by_cases hn : y < 0
  · rw [if_pos hn] at p1 p2
    rw [decide_eq_true hn]
    simp only [cond_true, NJ (show k ≤ 1000000 by omega) hg, Option.bind_some, Sum.elim_inr, EG hk hx (negB hg) (by omega), EG hk hy (negB hg) (by omega), p1, p2]
    rfl
  · rw [if_neg hn] at p1 p2
    rw [decide_eq_false hn]
    simp only [cond_false, Option.bind_some, Sum.elim_inr, EG hk hx hg hg0, EG hk hy hg hg0, p1, p2]
    rfl
theorem N1 (q : Rat) : (q.den : Int) ≠ 0 := by have := q.den_nz; omega
theorem La (p q : Rat) : (p.den : Int) * (q.den : Int) ≠ 0 := fun h => by rcases Int.mul_eq_zero.1 h with h | h <;> exact N1 _ h
theorem P0 {x y : Int} {k : Nat} (hk : k ≤ 1000000) (hx : (x.natAbs : Int) < B k) (hy : (y.natAbs : Int) < B k) : Df (big x) (big y) = some (cmpZ x y) := by
  have lx := D7 hx hk
  have ly := D7 hy hk
  have e1 := LN (a := x.natAbs) (b := y.natAbs) (by unfold Brief; omega) (by unfold Brief; omega)
  have e2 := LN (a := y.natAbs) (b := x.natAbs) (by unfold Brief; omega) (by unfold Brief; omega)
  unfold Df
  rw [show (big x).1 = decide (x < 0) from rfl, show (big y).1 = decide (y < 0) from rfl, show (big x).2 = lim x.natAbs from rfl, show (big y).2 = lim y.natAbs from rfl, e1, e2]
  by_cases h1 : x < 0
  · by_cases h2 : y < 0
    · rw [decide_eq_true h1, decide_eq_true h2]
      simp only [cond_true, cond_false, Bool.not_true, Option.bind_some]
      congr 1
      rcases AT x y with ⟨e, h⟩ | ⟨e, h⟩ | ⟨e, h⟩
      · rw [e]; exact Co (by omega)
      · rw [e]; exact Es (by omega)
      · rw [e, h]; exact HC _
    · rw [decide_eq_true h1, decide_eq_false h2, Co (show x < y by omega)]; rfl
  · by_cases h2 : y < 0
    · rw [decide_eq_false h1, decide_eq_true h2, Es (show y < x by omega)]; rfl
    · rw [decide_eq_false h1, decide_eq_false h2]
      simp only [cond_true, cond_false, Bool.not_false, Option.bind_some]
      congr 1
      rcases AT x y with ⟨e, h⟩ | ⟨e, h⟩ | ⟨e, h⟩
      · rw [e]; exact Co (by omega)
      · rw [e]; exact Es (by omega)
      · rw [e, h]; exact HC _
section
variable {p q : Rat} {k : Nat} (hk : k ≤ 20000) (hp : Sz k p) (hq : Sz k q)
include hk hp hq
theorem M6 : CK (rqF p) (rqF q) = some (rqF (p + q)) := by
  obtain ⟨r1, a1, b1⟩ := BZ (k := k) (by omega) hp.1 (natB hq.2)
  obtain ⟨r2, a2, b2⟩ := BZ (k := k) (by omega) hq.1 (natB hp.2)
  obtain ⟨r3, a3, b3⟩ := BZ (k := k) (by omega) (natB hp.2) (natB hq.2)
  unfold CK
  simp only [rq_n, rq_d, JD, a1, a2, a3, b1, b2, b3, Option.bind_some]
  rw [N2 (k := k + k) (by omega) (mulB hp.1 (natB hq.2)) (mulB hq.1 (natB hp.2))]
  simp only [Option.bind_some, peta]
  rw [PE (k := k + k + 1) (by omega) (Ta hp hq) (upB (mulB (natB hp.2) (natB hq.2)) (by omega)) (La p q), ← Ap4]
  rfl
theorem EZ : Bs (rqF p) (rqF q) = some (rqF (p * q)) := by
  obtain ⟨r1, a1, b1⟩ := BZ (k := k) (by omega) hp.1 hq.1
  obtain ⟨r3, a3, b3⟩ := BZ (k := k) (by omega) (natB hp.2) (natB hq.2)
  unfold Bs
  simp only [rq_n, rq_d, JD, a1, a3, b1, b3, Option.bind_some]
  rw [PE (k := k + k) (by omega) (mulB hp.1 hq.1) (mulB (natB hp.2) (natB hq.2)) (La p q), ← Yu]
  rfl
theorem Kl (h0 : q ≠ 0) : Ce (rqF p) (rqF q) = some (rqF (p / q)) := by
  obtain ⟨r1, a1, b1⟩ := BZ (k := k) (by omega) hp.1 (natB hq.2)
  obtain ⟨r3, a3, b3⟩ := BZ (k := k) (by omega) (natB hp.2) hq.1
  unfold Ce
  simp only [rq_n, rq_d, JD, a1, a3, b1, b3, Option.bind_some]
  rw [PE (k := k + k) (by omega) (mulB hp.1 (natB hq.2)) (mulB (natB hp.2) hq.1) (by
    intro h
    rcases Int.mul_eq_zero.1 h with h | h
    · exact N1 _ h
    · exact h0 (Rat.num_eq_zero.1 h)), ← Ac0]
  rfl
theorem FJ : Bq (rqF p) (rqF q) = some (cmpQ p q) := by
  obtain ⟨r1, a1, b1⟩ := BZ (k := k) (by omega) hp.1 (natB hq.2)
  obtain ⟨r2, a2, b2⟩ := BZ (k := k) (by omega) hq.1 (natB hp.2)
  unfold Bq
  simp only [rq_n, rq_d, JD, a1, a2, b1, b2, Option.bind_some]
  rw [H2 (k := k + k) (by omega) (mulB hp.1 (natB hq.2)) (mulB hq.1 (natB hp.2)), UG]
  rfl
theorem Lw : Cn (rqF p) (rqF q) = some (decide (p < q)) := by
  unfold Cn
  simp only [rq_e, FJ hk hp hq, Option.bind_some]
  congr 1
  exact decide_eq_decide.2 PA
theorem ML : C9 (rqF p) (rqF q) = some (cmpQ p q) := by
  unfold C9
  simp only [rq_n, rq_d, JD, GL (k := k) (by omega) hp.1 (natB hq.2), GL (k := k) (by omega) hq.1 (natB hp.2), Option.bind_some, peta]
  rw [P0 (k := k + k) (by omega) (mulB hp.1 (natB hq.2)) (mulB hq.1 (natB hp.2)), UG]
  rfl
end
theorem Oa {q : Rat} {k : Nat} (hk : k ≤ 1000000) (hq : Sz k q) : CJ (rqF q) = some (rqF (-q)) := by
  unfold CJ
  simp only [rq_n, NJ hk hq.1, Option.bind_some]
  rw [show (rqF q).2.2.2 = (big (q.den : Int)).2 from rfl, YR hk hq.2]
  rfl
theorem Ab2 {p q : Rat} {k : Nat} (hk : k ≤ 20000) (hp : Sz k p) (hq : Sz k q) : Fk (rqF p) (rqF q) = some (rqF (p - q)) := by
  unfold Fk
  simp only [rq_e, Oa (k := k) (by omega) hq, Option.bind_some, M6 hk hp (K3 hq)]
  rw [Rat.sub_eq_add_neg]
theorem XS (q : Rat) : Et (rqF q) = some (cmpQ q 0) := by
  unfold Et
  simp only [rq_n, Nz, Option.bind_some]
  congr 1
  have := UG q 0
  simpa using this
theorem BigOf1 : A7 (1 : Int) = some (big 1) := Km (by omega) (by omega)
theorem Me : BF (1 : Int) = some (big 1) := LP (by omega) (by omega)
theorem UM {n : Int} (h1 : -9223372036854775808 ≤ n) (h2 : n ≤ 9223372036854775807) : Cz n = some (rqF (n : Rat)) := by
  unfold Cz
  simp only [Km h1 h2, BigOf1, Option.bind_some]
  rfl
theorem Ak3 {n : Int} (h1 : -9223372036854775808 ≤ n) (h2 : n ≤ 9223372036854775807) : Ha n = some (rqF (n : Rat)) := by
  unfold Ha
  simp only [LP h1 h2, Me, Option.bind_some]
  rfl
theorem Mh {k : Nat} (hk : 1 ≤ k) : (((1 : Int).natAbs : Nat) : Int) < B k := by
  have := C1 hk
  rw [B1] at this
  omega
theorem Uz {x : Int} {k : Nat} (hk : k ≤ 1000000) (h : (x.natAbs : Int) < B k) : E6 (big x) = some (rqF (x : Rat)) := by
  unfold E6
  simp only [Um hk h, BigOf1, Option.bind_some]
  rfl
theorem I5 {q : Rat} {k : Nat} (hk : k ≤ 80000) (h1 : 1 ≤ k) (hq : Sz k q) : BV (rqF q) = some (big q.floor) := by
  have hd := q.den_pos
  have hf := Jm (x := q.num) (d := (q.den : Int)) (by omega)
  rw [← Rat.floor_def] at hf
  have ht := upB (m := k + 1) (k := k) (x := q.num.tdiv (q.den : Int)) (by have := Ka q.num (q.den : Int); have := hq.1; omega) (by omega)
  unfold BV Dh
  simp only [rq_n, rq_d, JD, EG (k := k) (by omega) hq.1 (natB hq.2) (N1 q), Option.bind_some, peta, Nz]
  by_cases h : q.num.tmod (q.den : Int) < 0
  · rw [if_pos h] at hf
    rw [Co h]
    simp only [show decide ((-1 : Int) < 0) = true from rfl, cond_true, BigOf1, Option.bind_some, peta]
    unfold GB
    simp only [peta, NJ (k := k + 1) (by omega) (Mh (by omega)), Option.bind_some]
    rw [N2 (k := k + 1) (by omega) ht (by simpa using Mh (k := k + 1) (by omega)), ← hf]
    simp only [Option.bind_some, peta, Int.sub_eq_add_neg]
  · rw [if_neg h] at hf
    have : decide (cmpZ (q.num.tmod (q.den : Int)) 0 < 0) = false := decide_eq_false (by rcases AT (q.num.tmod (q.den : Int)) 0 with ⟨e, g⟩ | ⟨e, g⟩ | ⟨e, g⟩ <;> omega)
    rw [this, ← hf]
    rfl
def BrF (a : RF) : Prop := Brief a.2.1 ∧ Brief a.2.2.2
def toQ (a : RF) : (Bool × List Int) × (Bool × List Int) := ((a.1, a.2.1), (a.2.2.1, a.2.2.2))
theorem Ed {q : Rat} {k : Nat} (hk : k ≤ 1000000) (h : Sz k q) : BrF (rqF q) := ⟨E8 hk h.1, E8 hk (natB h.2)⟩
theorem An9 {y : Int} : (!(big y).1 && !(big y).2.isEmpty) = decide (0 < y) := by
  unfold big
  simp only
  have := Hu y.natAbs
  rw [this]
  by_cases h : 0 < y
  · rw [decide_eq_true h, decide_eq_false (by omega), decide_eq_true (by omega)]; rfl
  · rw [decide_eq_false h]
    by_cases h0 : y = 0
    · subst h0; rfl
    · rw [decide_eq_true (show y < 0 by omega)]; rfl
theorem TV {x y : Int} (hx : (x.natAbs : Int) < B 40) (hy : (y.natAbs : Int) < B 40) : goodQ (big x, big y) = (decide (0 < y) && decide (Int.gcd x y = 1)) := by
  unfold goodQ
  simp only [Kk hx, Kk hy, Bool.true_and, An9]
  unfold big
  simp only [Ai, Int.toNat_natCast]
  rfl
theorem QT {g : Nat} : (cmpZ (g : Int) 1 == 0) = decide (g = 1) := by
  rcases AT (g : Int) 1 with ⟨e, h⟩ | ⟨e, h⟩ | ⟨e, h⟩
  · rw [e, decide_eq_false (by omega)]; rfl
  · rw [e, decide_eq_false (by omega)]; rfl
  · rw [e, decide_eq_true (by omega)]; rfl
theorem MX (y : Int) : ((((big y).2.length : Nat) : Int) == (0 : Int)) = decide (y = 0) := by
  rw [Bool.eq_iff_iff]
  simp only [beq_iff_eq, decide_eq_true_eq]
  unfold big
  constructor
  · intro h
    have := Fa.1 (List.eq_nil_of_length_eq_zero (show (lim y.natAbs).length = 0 by simpa using h))
    omega
  · rintro rfl
    rw [show (0 : Int).natAbs = 0 from rfl, AW]; rfl
theorem EY {a : RF} (h : BrF a) : Cg a = some (goodQ (toQ a)) := by
  obtain ⟨n, nl, d, dl⟩ := a
  unfold Cg toQ
  simp only
  have hl : ET [(n, nl), (d, dl)] = some (goodB (n, nl) && goodB (d, dl)) := by
    rw [Ad8 (by simp) (by intro b hb; simp at hb; rcases hb with rfl | rfl; exact h.1; exact h.2)]
    simp
  rw [hl]
  simp only [Option.bind_some]
  cases hg : goodB (n, nl) && goodB (d, dl) with
  | false => unfold goodQ; simp only [hg, Bool.false_and, cond_false]
  | true =>
    rw [Bool.and_eq_true] at hg
    obtain ⟨x, hx, e1⟩ := C5.1 hg.1
    obtain ⟨y, hy, e2⟩ := C5.1 hg.2
    simp only [e1, e2, cond_true, Nz, Option.bind_some, TV hx hy]
    rcases AT y 0 with ⟨e, g⟩ | ⟨e, g⟩ | ⟨e, g⟩
    · rw [e, decide_eq_false (show ¬ 0 < y by omega)]; rfl
    · rw [e, decide_eq_true (show 0 < y by omega)]
      simp only [show decide ((1 : Int) > 0) = true from rfl, cond_true, Tx (k := 40) (by omega) hx hy, BigOf1, Option.bind_some, peta, Bool.true_and]
      rw [H2 (k := 40) (by omega) (YD hy (by omega)) (Mh (by omega))]
      simp only [Option.bind_some, QT]
    · rw [e, decide_eq_false (show ¬ 0 < y by omega)]; rfl
theorem Cw {a : RF} (h : BrF a) : A9 a = some (goodQ (toQ a)) := by
  obtain ⟨n, nl, d, dl⟩ := a
  unfold A9 toQ
  simp only
  rw [Kc h.1]
  simp only [Option.bind_some]
  cases h1 : goodB (n, nl) with
  | false => unfold goodQ; simp only [h1, Bool.false_and, Bool.not_false, cond_true]
  | true =>
    simp only [Bool.not_true, cond_false]
    rw [Kc h.2]
    simp only [Option.bind_some]
    cases h2 : goodB (d, dl) with
    | false => unfold goodQ; simp only [h1, h2, Bool.and_false, Bool.false_and, Bool.not_false, cond_true]
    | true =>
      obtain ⟨x, hx, e1⟩ := C5.1 h1
      obtain ⟨y, hy, e2⟩ := C5.1 h2
      have f1 : nl = (big x).2 := congrArg Prod.snd e1
      have f2 : dl = (big y).2 := congrArg Prod.snd e2
      have f3 : d = (big y).1 := congrArg Prod.fst e2
      simp only [Bool.not_true, cond_false]
      rw [e1, e2, TV hx hy, f3, show (big y).1 = decide (y < 0) from rfl]
      by_cases hy0 : y < 0
      · rw [decide_eq_true hy0, decide_eq_false (show ¬ 0 < y by omega)]; rfl
      · rw [decide_eq_false hy0]
        simp only [cond_false]
        rw [f2, MX]
        by_cases h0 : y = 0
        · rw [decide_eq_true h0, decide_eq_false (show ¬ 0 < y by omega)]; rfl
        · rw [decide_eq_false h0, decide_eq_true (show 0 < y by omega)]
          simp only [cond_false]
          rw [f1, YX (k := 40) (by omega) hx hy]
          simp only [Option.bind_some]
          have hl1 : ([1] : List Int) = lim 1 := by rw [Rd (by omega), AW]; rfl
          have hgb := Af.2 (show ((Int.gcd x y : Nat) : Int) < B 40 by have := YD (x := x) hy h0; rwa [Int.natAbs_natCast] at this)
          rw [hl1, LN (by unfold Brief; omega) (by rw [← hl1]; unfold Brief; simp)]
          simp only [Option.bind_some, QT, Bool.true_and]
          exact congrArg some QT
theorem ED {q : Rat} (h : Sz 40 q) : goodQ (toQ (rqF q)) = true := Ah4 h
theorem GE {a : RF} (h : goodQ (toQ a) = true) : ∃ q, Sz 40 q ∧ a = rqF q := by
  obtain ⟨q, h1, h2⟩ := TL.1 h
  refine ⟨q, h1, ?_⟩
  have e1 := congrArg Prod.fst h2
  have e2 := congrArg Prod.snd h2
  obtain ⟨n, nl, d, dl⟩ := a
  unfold toQ rq at e1 e2
  simp only at e1 e2
  unfold rqF
  rw [← e1, ← e2]
theorem S2 {l : List ((Bool × List Int) × (Bool × List Int))} (hl : l.length ≤ 1000) (hb : ∀ a ∈ l, Brief a.1.2 ∧ Brief a.2.2) : Fi l = some (l.all goodQ) := by
  unfold Fi
  obtain ⟨h1, h2⟩ := Aj1 (l := l) (body := fun (s : (List ((Bool × (List Int)) × (Bool × (List Int)))) × (Int × Int)) => Fb s.1 s.2.1 s.2.2)
    (st := fun k (_ : Unit) => (l, ((l.length : Int), (k : Int)))) (step := fun _ a => if goodQ a then .inr () else .inl (.inr false)) (fin := fun _ => .inl ()) (I := fun _ _ => True)
    (by
      rintro k b a hk _
      have hkl := getL hk
      unfold Fb
      have ha := hb a (List.mem_of_getElem? hk)
      simp only [decide_eq_true (show (k : Int) < (l.length : Int) by omega), cond_true, Ao, hk, Option.bind_some]
      rw [EY (a := (a.1.1, (a.1.2, (a.2.1, a.2.2)))) ha]
      simp only [Option.bind_some, toQ, peta]
      cases hg : goodQ a with
      | true => left; exact ⟨(), by simp, by simp only [Bool.not_true, cond_false]; rw [wrapI (by omega) (by omega)]; rfl, trivial⟩
      | false => right; exact ⟨.inr false, by simp, by simp only [Bool.not_false, cond_true]⟩)
    (by
      rintro b _
      unfold Fb
      simp) () trivial
  rw [show ((0 : Nat) : Int) = 0 from rfl] at h1
  rw [h1]
  have key : ∀ (m : List ((Bool × List Int) × (Bool × List Int))), foldX (ρ := Unit ⊕ Bool) (fun (_ : Unit) a => if goodQ a then .inr () else .inl (.inr false)) () m = if m.all goodQ then .inr () else .inl (.inr false) := by
    intro m
    induction m with
    | nil => rfl
    | cons a m ih =>
      unfold foldX
      rw [List.all_cons]
      cases hg : goodQ a with
      | true => simp only [if_true, Bool.true_and]; exact ih
      | false => simp
  rw [key]
  cases l.all goodQ <;> rfl
def fitsQ (q : Rat) : RF × Bool := if Sz 40 q then (rqF q, true) else (zF, false)
theorem NA {q : Rat} {n : Nat} : Bu (rqF q) (n : Int) = some (decide (Sz n q)) := by
  unfold Bu
  have e1 : ((((rqF q).2.1.length : Nat) : Int) ≤ (n : Int)) ↔ ((q.num.natAbs : Int) < B n) := by rw [← Af]; exact Int.ofNat_le
  have e2 : ((((rqF q).2.2.2.length : Nat) : Int) ≤ (n : Int)) ↔ ((q.den : Int) < B n) := by
    have : (rqF q).2.2.2 = lim q.den := by show (big (q.den : Int)).2 = _; rw [DD]
    rw [this, ← Af]; exact Int.ofNat_le
  unfold Sz
  by_cases h1 : (q.num.natAbs : Int) < B n
  · rw [decide_eq_true (e1.2 h1)]
    simp only [cond_true, decide_eq_decide.2 e2, h1, true_and]
  · rw [decide_eq_false (fun h => h1 (e1.1 h))]
    simp [h1]
theorem UH (q : Rat) : CL (rqF q) = some (fitsQ q) := by
  unfold CL fitsQ
  simp only [rq_e]
  rw [show (40 : Int) = ((40 : Nat) : Int) from rfl, NA]
  by_cases h : Sz 40 q
  · simp [h]
  · simp [h]; rfl
end Go.Proofs.YtgfchmagglhohaaGreat.Ev

end
section
namespace Go.Proofs.YtgfchmagglhohaaGreat.Ev
open Go
set_option linter.unusedVariables false
set_option linter.unusedSimpArgs false
set_option linter.unusedSectionVars false
theorem PC {x y : Int} {k : Nat} (hk : k ≤ 1000000) (hx : (x.natAbs : Int) < B k) (hy : (y.natAbs : Int) < B k) : DU (big x) (big y) = some (big (x + y)) := by
  have lx := D7 hx hk
  have ly := D7 hy hk
  unfold DU big
  simp only
  by_cases hs : decide (x < 0) = decide (y < 0)
  · rw [hs, beq_self_eq_true]
    obtain ⟨r, e1, e2, e3, e4, _⟩ := U0 (An x.natAbs) (An y.natAbs) (by omega) (by omega)
    rw [Ai, Ai] at e3
    simp only [cond_true, e1, Option.bind_some]
    rw [CT e2 (by unfold Brief; omega)]
    simp only [Option.bind_some]
    have hv : (val r).toNat = (x + y).natAbs := by
      by_cases h1 : x < 0
      · have : y < 0 := by simpa [h1] using hs
        omega
      · have : ¬ y < 0 := by simpa [h1] using hs
        omega
    rw [hv]
    congr 2
    by_cases h2 : y < 0
    · have h1 : x < 0 := by simpa [h2] using hs
      rw [decide_eq_true h2, decide_eq_true (show x + y < 0 by omega), decide_eq_true (show (x + y).natAbs ≠ 0 by omega)]; rfl
    · have h1 : ¬ x < 0 := by simpa [h2] using hs
      rw [decide_eq_false h2, decide_eq_false (show ¬ x + y < 0 by omega)]; rfl
  · have hb : (decide (x < 0) == decide (y < 0)) = false := by simpa using hs
    rw [hb]
    simp only [cond_false]
    rw [LN (by unfold Brief; omega) (by unfold Brief; omega)]
    simp only [Option.bind_some]
    have hxy : (x < 0 ∧ ¬ y < 0) ∨ (¬ x < 0 ∧ y < 0) := by
      by_cases h1 : x < 0 <;> by_cases h2 : y < 0 <;> simp [h1, h2] at hs ⊢
    rcases Nat.lt_or_ge x.natAbs y.natAbs with hlt | hge
    · rw [Co (by omega), decide_eq_false (by omega)]
      simp only [cond_false]
      have hl : (lim x.natAbs).length ≤ (lim y.natAbs).length := Af.2 (by have := Af.1 (Nat.le_refl (lim y.natAbs).length); omega)
      rw [L8 (An _) (An _) hl (by omega) (by rw [Ai, Ai]; omega)]
      simp only [Option.bind_some, Ai]
      have e : ((y.natAbs : Int) - (x.natAbs : Int)).toNat = (x + y).natAbs := by omega
      rw [e, CT (An _) (by
        have : (lim (x + y).natAbs).length ≤ (lim y.natAbs).length := Af.2 (by have := Af.1 (Nat.le_refl (lim y.natAbs).length); omega)
        unfold Brief; omega)]
      simp only [Option.bind_some, Ai, Int.toNat_natCast]
      congr 2
      by_cases h2 : y < 0
      · rw [decide_eq_true h2, decide_eq_true (show x + y < 0 by omega), decide_eq_true (show (x + y).natAbs ≠ 0 by omega)]; rfl
      · rw [decide_eq_false h2, decide_eq_false (show ¬ x + y < 0 by omega)]; rfl
    · have hc : cmpZ (x.natAbs : Int) (y.natAbs : Int) ≥ 0 := by unfold cmpZ; rw [if_neg (by omega)]; split <;> omega
      rw [decide_eq_true hc]
      simp only [cond_true]
      have hl : (lim y.natAbs).length ≤ (lim x.natAbs).length := Af.2 (by have := Af.1 (Nat.le_refl (lim x.natAbs).length); omega)
      rw [L8 (An _) (An _) hl (by omega) (by rw [Ai, Ai]; omega)]
      simp only [Option.bind_some, Ai]
      have e : ((x.natAbs : Int) - (y.natAbs : Int)).toNat = (x + y).natAbs := by omega
      rw [e, CT (An _) (by
        have : (lim (x + y).natAbs).length ≤ (lim x.natAbs).length := Af.2 (by have := Af.1 (Nat.le_refl (lim x.natAbs).length); omega)
        unfold Brief; omega)]
      simp only [Option.bind_some, Ai, Int.toNat_natCast]
      congr 2
      by_cases h2 : x < 0
      · rw [decide_eq_true h2]
        by_cases h3 : x + y < 0
        · rw [decide_eq_true h3, decide_eq_true (show (x + y).natAbs ≠ 0 by omega)]; rfl
        · rw [decide_eq_false h3, decide_eq_false (show ¬ (x + y).natAbs ≠ 0 by omega)]; rfl
      · rw [decide_eq_false h2, decide_eq_false (show ¬ x + y < 0 by omega)]; rfl
theorem Ew {x y : Int} {k : Nat} (hk : k ≤ 90000) (hx : (x.natAbs : Int) < B k) (hy : (y.natAbs : Int) < B k) (h0 : y ≠ 0) : Bh (big x) (big y) = some (rqF (Rat.divInt x y)) := by
  obtain ⟨p1, p2⟩ := Ic (x := x) h0
  have hg := YD (x := x) hy h0
  have hg0 := Ac9 (x := x) h0
  have hl : (lim (Int.gcd x y)).length ≤ k := Af.2 (by rwa [Int.natAbs_natCast] at hg)
  unfold Bh
  rw [YX hk hx hy]
  simp only [Option.bind_some]
  rw [CT (An _) (by unfold Brief; omega), Ai, Int.toNat_natCast]
  simp only [Option.bind_some, Bool.false_and]
  rw [← DD]
  simp only [peta, Uy hk hx hg hg0, Uy hk hy hg hg0, Option.bind_some]
  have t1 := Ka x (Int.gcd x y : Nat)
  have t2 := Ka y (Int.gcd x y : Nat)
  obtain ⟨c, hc⟩ : ((Int.gcd x y : Nat) : Int) ∣ y := Int.gcd_dvd_right ..
  have e2 : y.tdiv (Int.gcd x y : Nat) = c := by conv => lhs; lhs; rw [hc]
                                                 exact Int.mul_tdiv_cancel_left _ hg0
  have hsg : (y < 0) ↔ c < 0 := by
    have hp : (0 : Int) < (Int.gcd x y : Nat) := by omega
    generalize ((Int.gcd x y : Nat) : Int) = g at *
    constructor
    · intro h
      rcases Int.lt_or_le c 0 with e | e
      · exact e
      · have := Int.mul_nonneg (Int.le_of_lt hp) e; omega
    · intro h; have := Int.mul_neg_of_pos_of_neg hp h; omega
  rw [show (big (y.tdiv (Int.gcd x y : Nat))).1 = decide (y.tdiv (Int.gcd x y : Nat) < 0) from rfl]
  by_cases hn : y < 0
  · rw [if_pos hn, Int.tdiv_neg] at p1 p2
    rw [decide_eq_true (by rw [e2]; exact hsg.1 hn)]
    simp only [cond_true]
    rw [MR (show k ≤ 1000000 by omega) (by omega), MR (show k ≤ 1000000 by omega) (by omega)]
    simp only [Option.bind_some, p1, p2]
    rfl
  · rw [if_neg hn] at p1 p2
    rw [decide_eq_false (by rw [e2]; exact fun h => hn (hsg.2 h))]
    simp only [cond_false, p1, p2]
    rfl
theorem Al1 {q : Rat} {k : Nat} (hk : k ≤ 1000000) (hq : Sz k q) : Hs (rqF q) = some (rqF (-q)) := by
  unfold Hs
  simp only [rq_n, MR hk hq.1, Option.bind_some]
  rfl
section
variable {p q : Rat} {k : Nat} (hk : k ≤ 20000) (hp : Sz k p) (hq : Sz k q)
include hk hp hq
theorem Y9 : FO (rqF p) (rqF q) = some (rqF (p * q)) := by
  unfold FO
  simp only [rq_n, rq_d, JD, GL (k := k) (by omega) hp.1 hq.1, GL (k := k) (by omega) (natB hp.2) (natB hq.2), Option.bind_some, peta]
  rw [Ew (k := k + k) (by omega) (mulB hp.1 hq.1) (mulB (natB hp.2) (natB hq.2)) (La p q), ← Yu]
  rfl
end
theorem Ak7 {x y : Int} {k : Nat} (hk : k ≤ 900000) (hx : (x.natAbs : Int) < B k) (hy : (y.natAbs : Int) < B k) : Hg (big x) (big y) = some (big (x - y)) := by
  unfold Hg
  simp only [peta, MR (k := k) (by omega) hy, Option.bind_some]
  rw [PC (k := k) (by omega) hx (negB hy)]
  simp only [Option.bind_some, peta, Int.sub_eq_add_neg]
theorem Tv {q : Rat} {k : Nat} (hk : k ≤ 80000) (h1 : 1 ≤ k) (hq : Sz k q) : D0 (rqF q) = some (big q.floor) := by
  have hd := q.den_pos
  have hf := Jm (x := q.num) (d := (q.den : Int)) (by omega)
  rw [← Rat.floor_def] at hf
  have ht := upB (m := k + 1) (k := k) (x := q.num.tdiv (q.den : Int)) (by have := Ka q.num (q.den : Int); have := hq.1; omega) (by omega)
  unfold D0
  simp only [rq_n, rq_d, JD, Uy (k := k) (by omega) hq.1 (natB hq.2) (N1 q), Option.bind_some, peta]
  rw [show (big (q.num.tmod (q.den : Int))).1 = decide (q.num.tmod (q.den : Int) < 0) from rfl]
  by_cases h : q.num.tmod (q.den : Int) < 0
  · rw [if_pos h] at hf
    rw [decide_eq_true h]
    simp only [cond_true, Me, Option.bind_some, peta]
    rw [Ak7 (k := k + 1) (by omega) ht (Mh (by omega)), ← hf]
    rfl
  · rw [if_neg h] at hf
    rw [decide_eq_false h, ← hf]
    rfl
theorem V7 {q : Rat} {k : Nat} (hk : k ≤ 1000000) (hq : Sz k q) : E5 (rqF q) = some (fitsQ q) := by
  unfold E5 fitsQ
  have e1 : ((((rqF q).2.1.length : Nat) : Int) > 40) ↔ ¬ ((q.num.natAbs : Int) < B 40) := by
    rw [← Af]
    show ((((lim q.num.natAbs).length : Nat) : Int) > 40) ↔ _
    omega
  have e2 : ((((rqF q).2.2.2.length : Nat) : Int) > 40) ↔ ¬ ((q.den : Int) < B 40) := by
    rw [← Af]
    have : (rqF q).2.2.2 = lim q.den := by show (big (q.den : Int)).2 = _; rw [DD]
    rw [this]
    omega
  by_cases h1 : (q.num.natAbs : Int) < B 40
  · rw [decide_eq_false (fun h => e1.1 h h1)]
    by_cases h2 : (q.den : Int) < B 40
    · rw [decide_eq_false (fun h => e2.1 h h2), if_pos ⟨h1, h2⟩]
      simp only [cond_false]
      rw [show (rqF q).1 = (big q.num).1 from rfl, show (rqF q).2.1 = (big q.num).2 from rfl, show (rqF q).2.2.2 = (big (q.den : Int)).2 from rfl, SA (k := 40) (by omega) h1, Zy (k := 40) (by omega) h2]
      rfl
    · rw [decide_eq_true (e2.2 h2), if_neg (fun h => h2 h.2)]; rfl
  · rw [decide_eq_true (e1.2 h1), if_neg (fun h => h1 h.1)]; rfl
theorem Kz {q : Rat} (h : Sz 40 q) : fitsQ q = (rqF q, true) := if_pos h
theorem Tq {q : Rat} (h : ¬ Sz 40 q) : fitsQ q = (zF, false) := if_neg h
theorem Wn {a b : RF} (ha : BrF a) (hb : BrF b) : EP a b = some (goodQ (toQ a) && goodQ (toQ b)) := by
  unfold EP
  simp only [rq_e, Cw ha, Cw hb, Option.bind_some]
  cases goodQ (toQ a) <;> rfl
section
variable {p q : Rat} (hp : Sz 40 p) (hq : Sz 40 q)
include hp hq
theorem An4 : EP (rqF p) (rqF q) = some true := by
  rw [Wn (Ed (k := 40) (by omega) hp) (Ed (k := 40) (by omega) hq), ED hp, ED hq]; rfl
end
section
variable {a b : RF} (ha : BrF a) (hb : BrF b) (h : (goodQ (toQ a) && goodQ (toQ b)) = false)
include ha hb h
end
def ratOfV (n d : Int) : RF × Bool := if d = 0 ∨ ¬ n.natAbs ≤ 4611686018427387904 ∨ ¬ d.natAbs ≤ 4611686018427387904 then (zF, false) else (rqF (Rat.divInt n d), true)
theorem B4 : B 4 = 18446744073709551616 := rfl
theorem Ao8 (n d : Int) : EM n d = some (ratOfV n d) := by
  unfold EM ratOfV
  by_cases h0 : d = 0
  · rw [if_pos (.inl h0), h0]; rfl
  · rw [show (d == 0) = false from beq_eq_false_iff_ne.2 h0]
    simp only [cond_false, HJ, Option.bind_some]
    by_cases h1 : n.natAbs ≤ 4611686018427387904
    · rw [show (decide (-4611686018427387904 ≤ n) && decide (n ≤ 4611686018427387904)) = true by simp; omega]
      by_cases h2 : d.natAbs ≤ 4611686018427387904
      · rw [show (decide (-4611686018427387904 ≤ d) && decide (d ≤ 4611686018427387904)) = true by simp; omega, if_neg (by omega)]
        simp only [Bool.not_true, cond_false, Km (n := n) (by omega) (by omega), Km (n := d) (by omega) (by omega), Option.bind_some, peta, PE (k := 4) (by omega) (x := n) (y := d) (by rw [B4]; omega) (by rw [B4]; omega) h0]
      · rw [show (decide (-4611686018427387904 ≤ d) && decide (d ≤ 4611686018427387904)) = false by
          rw [Bool.and_eq_false_iff]; simp only [decide_eq_false_iff_not]; omega, if_pos (.inr (.inr h2))]
        rfl
    · rw [show (decide (-4611686018427387904 ≤ n) && decide (n ≤ 4611686018427387904)) = false by
        rw [Bool.and_eq_false_iff]; simp only [decide_eq_false_iff_not]; omega, if_pos (.inr (.inl h1))]
      rfl
theorem Ak8 (n d : Int) : HF n d = some (ratOfV n d) := by
  unfold HF ratOfV
  simp only [Mt, Option.bind_some]
  by_cases h1 : n.natAbs ≤ 4611686018427387904
  · rw [show (decide (-4611686018427387904 ≤ n) && decide (n ≤ 4611686018427387904)) = true by simp; omega]
    by_cases h2 : d.natAbs ≤ 4611686018427387904
    · rw [show (decide (-4611686018427387904 ≤ d) && decide (d ≤ 4611686018427387904)) = true by simp; omega]
      by_cases h0 : d = 0
      · rw [if_pos (.inl h0), h0]; rfl
      · rw [show (d == 0) = false from beq_eq_false_iff_ne.2 h0, if_neg (by omega)]
        simp only [Bool.not_true, cond_false, LP (n := n) (by omega) (by omega), LP (n := d) (by omega) (by omega), Option.bind_some, peta, Ew (k := 4) (by omega) (x := n) (y := d) (by rw [B4]; omega) (by rw [B4]; omega) h0]
    · rw [show (decide (-4611686018427387904 ≤ d) && decide (d ≤ 4611686018427387904)) = false by
        rw [Bool.and_eq_false_iff]; simp only [decide_eq_false_iff_not]; omega, if_pos (.inr (.inr h2))]
      rfl
  · rw [show (decide (-4611686018427387904 ≤ n) && decide (n ≤ 4611686018427387904)) = false by
      rw [Bool.and_eq_false_iff]; simp only [decide_eq_false_iff_not]; omega, if_pos (.inr (.inl h1))]
    rfl
theorem Yg {n d : Int} (h0 : d ≠ 0) (h1 : n.natAbs ≤ 4611686018427387904) (h2 : d.natAbs ≤ 4611686018427387904) : ratOfV n d = (rqF (Rat.divInt n d), true) := by
  unfold ratOfV; rw [if_neg (by omega)]
theorem Aj7 {n d : Int} (h0 : d ≠ 0) (h1 : n.natAbs ≤ 4611686018427387904) (h2 : d.natAbs ≤ 4611686018427387904) : Sz 4 (Rat.divInt n d) := Hm (by rw [B4]; omega) (by rw [B4]; omega) h0
theorem YA {q : Rat} {k : Nat} (h : Sz k q) : ((q.floor.natAbs : Nat) : Int) < B k := by
  have hd := q.den_pos
  have hf := Jm (x := q.num) (d := (q.den : Int)) (by omega)
  rw [← Rat.floor_def] at hf
  have h2 : (q.num.tdiv (q.den : Int)).natAbs = q.num.natAbs / q.den := by rw [Int.natAbs_tdiv]; rfl
  rw [← hf]
  have h1 := h.1
  split
  · rename_i hm
    have hne : q.den ≠ 1 := by
      intro e
      rw [e] at hm
      simp at hm
    have h3 : q.num.natAbs / q.den ≤ q.num.natAbs / 2 := Nat.div_le_div_left (by omega) (by omega)
    have h4 : q.num.natAbs ≠ 0 := by
      intro e
      have : q.num = 0 := by omega
      rw [this] at hm
      simp at hm
    omega
  · have := Nat.div_le_self q.num.natAbs q.den
    omega
theorem SQ {a : RF} (h1 : a.2.1.length ≤ 1000000) (h2 : a.2.2.2.length ≤ 1000000) : AN a a = some true := by
  unfold AN
  rw [SN (a := (a.1, a.2.1)) h1, SN (a := (a.2.2.1, a.2.2.2)) h2]
  rfl
theorem UV {q : Rat} {k : Nat} (hk : k ≤ 1000000) (h : Sz k q) : AN (rqF q) (rqF q) = some true :=
  SQ (Nat.le_trans (Af.2 h.1) hk) (Nat.le_trans (Af.2 (natB h.2)) hk)
end Go.Proofs.YtgfchmagglhohaaGreat.Ev

end
section
namespace Go.Proofs.YtgfchmagglhohaaGreat.Ev
open Go
set_option linter.unusedVariables false
set_option linter.unusedSimpArgs false
set_option linter.unusedSectionVars false
def ShF (a : RF) : Prop := a.2.1.length ≤ 100 ∧ a.2.2.2.length ≤ 100
theorem ShF.br {a : RF} (h : ShF a) : BrF a := by unfold ShF at h; unfold BrF Brief; omega
theorem Sy {q : Rat} {k : Nat} (hk : k ≤ 100) (h : Sz k q) : ShF (rqF q) := ⟨Nat.le_trans (Af.2 h.1) hk, Nat.le_trans (Af.2 (natB h.2)) hk⟩
theorem Ai5 : ShF zF := by unfold ShF zF; simp
theorem ZS (n d : Int) : ShF (ratOfV n d).1 := by
  unfold ratOfV
  split
  · exact Ai5
  · exact Sy (k := 4) (by omega) (Aj7 (by omega) (by omega) (by omega))
theorem LO {a : RF} (h : ShF a) : AN a a = some true := SQ (by unfold ShF at h; omega) (by unfold ShF at h; omega)
theorem PO {B' : Nat} {c : List Int × Int × Int} (h : Cur B' c) (hB : B' ≤ 900000000) : ∃ c' a, Bn c = some (c', a) ∧ Cur (B' + 700) c' ∧ ShF a := by
  unfold Bn
  obtain ⟨c0, v0, e0, q0⟩ := Nh h (by omega) 12
  simp only [e0, obs, peta]
  cases v0
  · obtain ⟨c1, v1, e1, q1, a1, b1⟩ := HO q0 (by omega) 41
    obtain ⟨c2, v2, e2, q2, a2, b2⟩ := HO q1 (by omega) 12
    simp only [cF, e1, e2, obs, Ak8, peta]
    exact ⟨_, _, rfl, q2.mono (by omega), ZS _ _⟩
  · obtain ⟨c1, x, e1, q1, l1⟩ := Ai0 q0 (by omega)
    obtain ⟨c2, y, e2, q2, l2⟩ := Ai0 q1 (by omega)
    simp only [cT, e1, e2, obs, peta, Kc (show Brief x.2 by unfold Brief; omega), Kc (show Brief y.2 by unfold Brief; omega)]
    have fin : ∃ c' a, (some ((c2, (x.1, (x.2, y))) : (List Int × Int × Int) × RF)) = some (c', a) ∧ Cur (B' + 700) c' ∧ ShF a := ⟨_, _, rfl, q2.mono (by omega), l1, l2⟩
    cases hx : goodB x with
    | false => simp only [cF]; exact fin
    | true =>
      simp only [cT]
      cases hy : goodB y with
      | false => simp only [cF]; exact fin
      | true =>
        simp only [cT]
        obtain ⟨u, hu, rfl⟩ := C5.1 hx
        obtain ⟨v, hv, rfl⟩ := C5.1 hy
        have hz := MX v
        by_cases h0 : v = 0
        · subst h0
          have : decide ((((big 0).2.length : Nat) : Int) > 0) = false := by simp [big, AW]
          rw [this]
          simp only [cF]
          exact fin
        · rw [decide_eq_false h0] at hz
          have : decide ((((big v).2.length : Nat) : Int) > 0) = true := by
            rw [beq_eq_false_iff_ne] at hz
            exact decide_eq_true (by omega)
          rw [this]
          simp only [cT, Ew (k := 40) (by omega) hu hv h0, obs]
          exact ⟨_, _, rfl, q2.mono (by omega), Sy (k := 40) (by omega) (Hm hu hv h0)⟩
theorem Af0 {l : List Int} (h : Cur 0 (l, 0, 0)) : ∃ a, Cs l = some a ∧ ShF a := by
  unfold Cs
  obtain ⟨c, a, e, q, s⟩ := PO h (by omega)
  simp only [e, obs, peta]
  exact ⟨_, rfl, s⟩
end Go.Proofs.YtgfchmagglhohaaGreat.Ev

end
section
namespace Go.Proofs.YtgfchmagglhohaaGreat.Ev
open Go
set_option linter.unusedVariables false
set_option linter.unusedSimpArgs false
set_option linter.unusedSectionVars false
theorem Ae7 : Cz (1 : Int) = some (rqF 1) := UM (by omega) (by omega)
end Go.Proofs.YtgfchmagglhohaaGreat.Ev

end
section
namespace Go.Proofs.YtgfchmagglhohaaGreat.Ev
open Go
set_option linter.unusedVariables false
set_option linter.unusedSimpArgs false
set_option linter.unusedSectionVars false
abbrev SF := Bool × (List Int × (Bool × (List Int × (Bool × (List Int × (Bool × List Int))))))
abbrev RQ := (Bool × List Int) × (Bool × List Int)
def sF (a b : RF) : SF := (a.1, (a.2.1, (a.2.2.1, (a.2.2.2, b))))
def zS : SF := sF zF zF
theorem II (a b : RF) : ((sF a b).1, ((sF a b).2.1, ((sF a b).2.2.1, (sF a b).2.2.2.1))) = a := (rfl)
theorem IL (a b : RF) : (sF a b).2.2.2.2 = b := (rfl)
theorem sF_q (a b : RF) : (((sF a b).1, (sF a b).2.1), ((sF a b).2.2.1, (sF a b).2.2.2.1)) = toQ a := (rfl)
theorem Ag5 (a : RF) : ((a.1, a.2.1), a.2.2) = toQ a := (rfl)
theorem As6 (q : Rat) : toQ (rqF q) = rq q := (rfl)
theorem Zb (a b : RF) : (a.1, (a.2.1, (a.2.2.1, (a.2.2.2, b)))) = sF a b := (rfl)
def GS (s : SF) (g : Bool) : Prop := Bx s = some g ∧ Cp s = some g
theorem Ap5 {p q : Rat} (hp : Sz 40 p) (hq : Sz 40 q) : GS (sF (rqF p) (rqF q)) (decide (p ≤ q)) := by
  have hle : ∀ (x y : Rat), (cmpQ x y ≤ 0) ↔ x ≤ y := fun x y => by rw [← Rat.not_lt, ← Py]; omega
  constructor
  · unfold Bx
    simp only [peta, II, IL, sF_q, Ag5]
    rw [S2 (by simp) (by intro x hx; simp at hx; rcases hx with rfl | rfl; exact Ed (k := 40) (by omega) hp; exact Ed (k := 40) (by omega) hq)]
    simp only [List.all_cons, List.all_nil, ED hp, ED hq, Bool.true_and, Bool.and_true, obs, cT, Lw (k := 40) (by omega) hq hp]
    congr 1
    by_cases h : p ≤ q
    · rw [decide_eq_true h, decide_eq_false (Rat.not_lt.2 h)]; rfl
    · rw [decide_eq_false h, decide_eq_true (Rat.not_le.1 h)]; rfl
  · unfold Cp
    simp only [peta, II, IL, An4 hp hq, obs, cT, ML (k := 40) (by omega) hp hq]
    congr 1
    exact decide_eq_decide.2 (hle p q)
theorem As4 {a b : RF} (ha : BrF a) (hb : BrF b) (h : (goodQ (toQ a) && goodQ (toQ b)) = false) : GS (sF a b) false := by
  constructor
  · unfold Bx
    simp only [peta, II, IL, sF_q, Ag5]
    rw [S2 (by simp) (by intro x hx; simp at hx; rcases hx with rfl | rfl; exact ha; exact hb)]
    simp only [List.all_cons, List.all_nil, Bool.and_true, h, obs, cF]
  · unfold Cp
    simp only [peta, II, IL, Wn ha hb, h, obs, cF]
def SpK (s : SF) : Prop := ∃ g, GS s g ∧ (g = true → ∃ p q : Rat, Sz 40 p ∧ Sz 40 q ∧ p ≤ q ∧ s = sF (rqF p) (rqF q))
theorem spK {a b : RF} (ha : BrF a) (hb : BrF b) : SpK (sF a b) := by
  cases h : (goodQ (toQ a) && goodQ (toQ b)) with
  | false => exact ⟨false, As4 ha hb h, fun e => by cases e⟩
  | true =>
    rw [Bool.and_eq_true] at h
    obtain ⟨p, hp, rfl⟩ := GE h.1
    obtain ⟨q, hq, rfl⟩ := GE h.2
    exact ⟨_, Ap5 hp hq, fun e => ⟨p, q, hp, hq, of_decide_eq_true e, rfl⟩⟩
def fitsS (p q : Rat) : SF × Bool := if Sz 40 p ∧ Sz 40 q then (sF (rqF p) (rqF q), true) else (zS, false)
theorem VM {q : Rat} {k : Nat} (hk : k ≤ 1000000) (h : Sz k q) : EO (rqF q) = some (rqF q) := by
  unfold EO
  rw [show (rqF q).1 = (big q.num).1 from rfl, show (rqF q).2.1 = (big q.num).2 from rfl, show (rqF q).2.2.2 = (big (q.den : Int)).2 from rfl, Um hk h.1, YR hk h.2]
  rfl
theorem Dr (p q : Rat) : Ba (rqF p) (rqF q) = some (fitsS p q) := by
  unfold Ba fitsS
  simp only [rq_e]
  rw [show (40 : Int) = ((40 : Nat) : Int) from rfl, NA, NA]
  by_cases h1 : Sz 40 p
  · by_cases h2 : Sz 40 q
    · rw [decide_eq_true h1, decide_eq_true h2, if_pos ⟨h1, h2⟩]
      simp only [obs, nT, cF, VM (k := 40) (by omega) h1, VM (k := 40) (by omega) h2]
      rfl
    · rw [decide_eq_true h1, decide_eq_false h2, if_neg (fun h => h2 h.2)]; rfl
  · rw [decide_eq_false h1, if_neg (fun h => h1 h.1)]; rfl
theorem MZ {p q : Rat} {k : Nat} (hk : k ≤ 1000000) (hp : Sz k p) (hq : Sz k q) : CI (sF (rqF p) (rqF q)) = some (fitsS p q) := by
  unfold CI fitsS
  simp only [peta, II, IL, V7 hk hp, V7 hk hq, obs]
  by_cases h1 : Sz 40 p
  · by_cases h2 : Sz 40 q
    · rw [Kz h1, Kz h2, if_pos ⟨h1, h2⟩]; rfl
    · rw [Kz h1, Tq h2, if_neg (fun h => h2 h.2)]; rfl
  · rw [Tq h1, if_neg (fun h => h1 h.1)]; rfl
theorem Lc {p q : Rat} (h : (fitsS p q).2 = true) : Sz 40 p ∧ Sz 40 q ∧ fitsS p q = (sF (rqF p) (rqF q), true) := by
  unfold fitsS at h ⊢
  split at h
  · rename_i hc; exact ⟨hc.1, hc.2, if_pos hc⟩
  · cases h
theorem Ro {a b : RF} (ha : ShF a) (hb : ShF b) : Ar (sF a b) (sF a b) = some true := by
  unfold Ar
  simp only [peta, II, IL, LO ha, LO hb, obs, cT]
theorem C6 : Ar zS zS = some true := Ro Ai5 Ai5
theorem Fz (p q : Rat) : Ar (fitsS p q).1 (fitsS p q).1 = some true := by
  unfold fitsS
  split
  · rename_i h; exact Ro (Sy (k := 40) (by omega) h.1) (Sy (k := 40) (by omega) h.2)
  · exact C6
def mnQ (l : List Rat) (a : Rat) : Rat := l.foldl (fun m x => if x < m then x else m) a
def mxQ (l : List Rat) (a : Rat) : Rat := l.foldl (fun m x => if m < x then x else m) a
theorem Af2 : ∀ (l : List Rat) (a : Rat), mnQ l a ≤ a ∧ ∀ x ∈ l, mnQ l a ≤ x
  | [], a => ⟨Rat.le_refl, by simp⟩
  | x :: l, a => by
    obtain ⟨h1, h2⟩ := Af2 l (if x < a then x else a)
    have e : mnQ (x :: l) a = mnQ l (if x < a then x else a) := rfl
    rw [e]
    have c : (if x < a then x else a) ≤ a ∧ (if x < a then x else a) ≤ x := by
      split
      · exact ⟨Rat.le_of_lt ‹_›, Rat.le_refl⟩
      · exact ⟨Rat.le_refl, Rat.not_lt.1 ‹_›⟩
    refine ⟨Rat.le_trans h1 c.1, fun y hy => ?_⟩
    rcases List.mem_cons.1 hy with rfl | hy
    · exact Rat.le_trans h1 c.2
    · exact h2 y hy
theorem Ah8 : ∀ (l : List Rat) (a : Rat), a ≤ mxQ l a ∧ ∀ x ∈ l, x ≤ mxQ l a
  | [], a => ⟨Rat.le_refl, by simp⟩
  | x :: l, a => by
    obtain ⟨h1, h2⟩ := Ah8 l (if a < x then x else a)
    have e : mxQ (x :: l) a = mxQ l (if a < x then x else a) := rfl
    rw [e]
    have c : a ≤ (if a < x then x else a) ∧ x ≤ (if a < x then x else a) := by
      split
      · exact ⟨Rat.le_of_lt ‹_›, Rat.le_refl⟩
      · exact ⟨Rat.le_refl, Rat.not_lt.1 ‹_›⟩
    refine ⟨Rat.le_trans c.1 h1, fun y hy => ?_⟩
    rcases List.mem_cons.1 hy with rfl | hy
    · exact Rat.le_trans c.2 h1
    · exact h2 y hy
theorem rq_f (q : Rat) : ((rq q).1.1, ((rq q).1.2, (rq q).2)) = rqF q := (rfl)
section
variable {k : Nat} {l : List Rat} {a : Rat} (hk : k ≤ 20000) (ha : Sz k a) (hl : ∀ x ∈ l, Sz k x) (hn : l.length ≤ 1000)
include hk ha hl hn
theorem Zs : AA ((a :: l).map rq) = some (rqF (mnQ l a)) := by
  have hlen : ((a :: l).map rq).length = l.length + 1 := by simp
  obtain ⟨h1, h2⟩ := M4 (l := l) (body := fun (s : (RF × (RF × ((List RQ) × Int)))) => Al s.1 s.2.1 s.2.2.1 s.2.2.2)
    (st := fun j (m : Rat) => (zF, (rqF m, ((a :: l).map rq, ((j + 1 : Nat) : Int))))) (step := fun m x => if x < m then x else m) (fin := fun m => (zF, rqF m)) (I := fun _ m => Sz k m)
    (by
      rintro j m x hj hm
      have hjl := getL hj
      have hx := hl x (List.mem_of_getElem? hj)
      have he : ((a :: l).map rq)[j + 1]? = some (rq x) := by rw [List.getElem?_map, List.getElem?_cons_succ, hj]; rfl
      refine ⟨?_, by split; exact hx; exact hm⟩
      have key : ∀ w : RF, Al w (rqF m) ((a :: l).map rq) ((j + 1 : Nat) : Int) = some (.inl (w, (rqF (if x < m then x else m), ((a :: l).map rq, ((j + 1 + 1 : Nat) : Int))))) := by
        intro w
        unfold Al
        rw [decide_eq_true (show ((j + 1 : Nat) : Int) < (((a :: l).map rq).length : Int) by rw [hlen]; omega)]
        simp only [cT, Ao, he, obs, peta, rq_f, rq_e, FJ hk hx hm, wrap1 (show j + 1 < 4611686018427387904 by omega)]
        by_cases h : x < m
        · rw [decide_eq_true (PA.2 h), if_pos h]; rfl
        · rw [decide_eq_false (fun g => h (PA.1 g)), if_neg h]; rfl
      exact key zF)
    (by
      rintro m hm
      show Al zF (rqF m) ((a :: l).map rq) ((l.length + 1 : Nat) : Int) = _
      unfold Al
      rw [hlen, decide_eq_false (by omega)]
      simp only [cF, peta]) a ha
  unfold AA
  rw [hlen, decide_eq_false (by omega)]
  have h0 : getI ((a :: l).map rq) 0 = some (rq a) := by rw [show (0 : Int) = ((0 : Nat) : Int) from rfl, Ao]; rfl
  simp only [cF, h0, obs, peta, rq_f]
  have h1' : loopM (fun (s : (RF × (RF × ((List RQ) × Int)))) => Al s.1 s.2.1 s.2.2.1 s.2.2.2) ((false, (([] : List Int), (false, ([] : List Int)))), (rqF a, ((a :: l).map rq, (1 : Int)))) = _ := h1
  rw [h1']
  rfl
theorem ZD : Ay ((a :: l).map rq) = some (rqF (mxQ l a)) := by
  have hlen : ((a :: l).map rq).length = l.length + 1 := by simp
  obtain ⟨h1, h2⟩ := M4 (l := l) (body := fun (s : (RF × (RF × ((List RQ) × Int)))) => Am s.1 s.2.1 s.2.2.1 s.2.2.2)
    (st := fun j (m : Rat) => (zF, (rqF m, ((a :: l).map rq, ((j + 1 : Nat) : Int))))) (step := fun m x => if m < x then x else m) (fin := fun m => (zF, rqF m)) (I := fun _ m => Sz k m)
    (by
      rintro j m x hj hm
      have hjl := getL hj
      have hx := hl x (List.mem_of_getElem? hj)
      have he : ((a :: l).map rq)[j + 1]? = some (rq x) := by rw [List.getElem?_map, List.getElem?_cons_succ, hj]; rfl
      refine ⟨?_, by split; exact hx; exact hm⟩
      have key : ∀ w : RF, Am w (rqF m) ((a :: l).map rq) ((j + 1 : Nat) : Int) = some (.inl (w, (rqF (if m < x then x else m), ((a :: l).map rq, ((j + 1 + 1 : Nat) : Int))))) := by
        intro w
        unfold Am
        rw [decide_eq_true (show ((j + 1 : Nat) : Int) < (((a :: l).map rq).length : Int) by rw [hlen]; omega)]
        simp only [cT, Ao, he, obs, peta, rq_f, rq_e, FJ hk hx hm, wrap1 (show j + 1 < 4611686018427387904 by omega)]
        by_cases h : m < x
        · rw [decide_eq_true (Py.2 h), if_pos h]; rfl
        · rw [decide_eq_false (fun g => h (Py.1 g)), if_neg h]; rfl
      exact key zF)
    (by
      rintro m hm
      show Am zF (rqF m) ((a :: l).map rq) ((l.length + 1 : Nat) : Int) = _
      unfold Am
      rw [hlen, decide_eq_false (by omega)]
      simp only [cF, peta]) a ha
  unfold Ay
  rw [hlen, decide_eq_false (by omega)]
  have h0 : getI ((a :: l).map rq) 0 = some (rq a) := by rw [show (0 : Int) = ((0 : Nat) : Int) from rfl, Ao]; rfl
  simp only [cF, h0, obs, peta, rq_f]
  have h1' : loopM (fun (s : (RF × (RF × ((List RQ) × Int)))) => Am s.1 s.2.1 s.2.2.1 s.2.2.2) ((false, (([] : List Int), (false, ([] : List Int)))), (rqF a, ((a :: l).map rq, (1 : Int)))) = _ := h1
  rw [h1']
  rfl
theorem Af6 : CP ((a :: l).map rq) = some (fitsS (mnQ l a) (mxQ l a)) := by
  unfold CP
  rw [Zs hk ha hl hn, ZD hk ha hl hn]
  simp only [obs, peta, Dr]
end
end Go.Proofs.YtgfchmagglhohaaGreat.Ev

end
section
namespace Go.Proofs.YtgfchmagglhohaaGreat.Ev
open Go
set_option linter.unusedVariables false
set_option linter.unusedSimpArgs false
set_option linter.unusedSectionVars false
theorem sF_e (a b : RF) : ((sF a b).1, ((sF a b).2.1, ((sF a b).2.2.1, ((sF a b).2.2.2.1, b)))) = sF a b := (rfl)
theorem S0 {k : Nat} (hk : 1 ≤ k) : Sz k ((0 : Int) : Rat) := Gh (by have := Dk k; simpa using this) hk
theorem Aj5 : Cz (0 : Int) = some (rqF 0) := by rw [UM (by omega) (by omega)]; rfl
theorem S0' {k : Nat} (hk : 1 ≤ k) : Sz k (0 : Rat) := S0 hk
theorem Uu {x y : Rat} : (cmpQ x y ≤ 0) ↔ x ≤ y := by rw [← Rat.not_lt, ← Py]; omega
section
variable {s t : SF} {g h : Bool} (hs : GS s g) (ht : GS t h)
include hs ht
end
section
variable {s : SF} (hs : GS s false)
include hs
end
section
variable {p q : Rat} (hp : Sz 40 p) (hq : Sz 40 q) (hpq : p ≤ q)
include hp hq hpq
theorem MP : GS (sF (rqF p) (rqF q)) true := by have := Ap5 hp hq; rwa [decide_eq_true hpq] at this
theorem KW {x : Rat} (hx : Sz 40 x) : C8 (sF (rqF p) (rqF q)) (rqF x) = some (decide (p ≤ x ∧ x ≤ q)) := by
  unfold C8
  simp only [peta, II, IL, sF_e, Lw (k := 40) (by omega) hx hp, Lw (k := 40) (by omega) hq hx, obs]
  by_cases h1 : p ≤ x
  · rw [decide_eq_false (Rat.not_lt.2 h1)]
    simp only [nF, cT]
    congr 1
    by_cases h2 : x ≤ q
    · rw [decide_eq_false (Rat.not_lt.2 h2), decide_eq_true ⟨h1, h2⟩]; rfl
    · rw [decide_eq_true (Rat.not_le.1 h2), decide_eq_false (fun h => h2 h.2)]; rfl
  · rw [decide_eq_true (Rat.not_le.1 h1), decide_eq_false (show ¬ (p ≤ x ∧ x ≤ q) from fun h => h1 h.1)]; rfl
theorem As8 {x : Rat} (hx : Sz 40 x) : Jk (sF (rqF p) (rqF q)) (rqF x) = some (decide (p ≤ x ∧ x ≤ q)) := by
  unfold Jk
  simp only [peta, II, IL, sF_e, ML (k := 40) (by omega) hp hx, ML (k := 40) (by omega) hx hq, obs]
  by_cases h1 : p ≤ x
  · rw [decide_eq_true (Uu.2 h1)]
    simp only [cT]
    congr 1
    exact decide_eq_decide.2 (by rw [Uu]; simp [h1])
  · rw [decide_eq_false (fun h => h1 (Uu.1 h)), decide_eq_false (show ¬ (p ≤ x ∧ x ≤ q) from fun h => h1 h.1)]; rfl
theorem QQ {x : Rat} (hx : Sz 40 x) : AY (sF (rqF p) (rqF q)) (rqF x) = some (decide (p ≤ x ∧ x ≤ q)) := by
  unfold AY CY
  simp only [peta, (MP hp hq hpq).1, EY (Ed (k := 40) (by omega) hx), ED hx, KW hp hq hpq hx, obs, nT, cF, cT]
theorem Zq : CQ (sF (rqF p) (rqF q)) = some (fitsQ (q - p)) := by
  unfold CQ
  simp only [peta, (MP hp hq hpq).1, obs, nT, cF, II, IL, sF_e, Ab2 (k := 40) (by omega) hq hp, UH]
def sqL (p q : Rat) : List Rat := if p ≤ 0 ∧ 0 ≤ q then [q * q, 0] else [q * q]
theorem Ar3 : (∀ x ∈ sqL p q, Sz 80 x) ∧ (sqL p q).length ≤ 1000 ∧ Sz 80 (p * p) := by
  have h1 : Sz 80 (p * p) := (Gx hp hp).mono (by omega)
  have h2 : Sz 80 (q * q) := (Gx hq hq).mono (by omega)
  unfold sqL
  split
  · exact ⟨by intro x hx; simp at hx; rcases hx with rfl | rfl; exact h2; exact S0' (by omega), by simp, h1⟩
  · exact ⟨by intro x hx; simp at hx; subst hx; exact h2, by simp, h1⟩
theorem appQ {l : List RQ} {x : RQ} (h : l.length ≤ 100000) : appL 64 4 l [x] = some (l ++ [x]) := Yr (by simp [maxBytes]; omega) (by simp [maxBytes]; omega)
theorem UT : BK (sF (rqF p) (rqF q)) = some (fitsS (mnQ (sqL p q) (p * p)) (mxQ (sqL p q) (p * p))) := by
  obtain ⟨l1, l2, l3⟩ := Ar3 hp hq hpq
  have ha := Af6 (k := 80) (by omega) l3 l1 l2
  unfold BK
  simp only [peta, (MP hp hq hpq).1, obs, nT, cF, II, IL, sF_e, EZ (k := 40) (by omega) hp hp, EZ (k := 40) (by omega) hq hq, Aj5, KW hp hq hpq (S0' (by omega)), Ag5, As6]
  unfold sqL at ha ⊢
  by_cases h : p ≤ 0 ∧ 0 ≤ q
  · rw [if_pos h] at ha ⊢
    rw [decide_eq_true h]
    simp only [cT]
    rw [appQ hp hq hpq (by simp)]
    simp only [obs]
    have ha' : CP ([rq (p * p), rq (q * q)] ++ [rq 0]) = _ := ha
    rw [ha']
    simp only [obs, peta]
  · rw [if_neg h] at ha ⊢
    rw [decide_eq_false h]
    simp only [cF]
    have ha' : CP [rq (p * p), rq (q * q)] = _ := ha
    rw [ha']
    simp only [obs, peta]
end
section
variable {p q r t : Rat} (hp : Sz 40 p) (hq : Sz 40 q) (hpq : p ≤ q) (hr : Sz 40 r) (ht : Sz 40 t) (hrt : r ≤ t)
include hp hq hpq hr ht hrt
end
end Go.Proofs.YtgfchmagglhohaaGreat.Ev

end
