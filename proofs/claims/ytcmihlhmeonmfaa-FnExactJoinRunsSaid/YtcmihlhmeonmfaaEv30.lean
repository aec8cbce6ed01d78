/- What a law is handed, as values of the evaluator. -/
import Derived.Test.YtcmihlhmeonmfaaEv26
import Derived.ProofKit
import Derived.OpenShut
import Derived.ShutString
import Derived.ChangeOld
import Derived.SizedLaws
namespace Go.Proofs.Ytcmihlhmeonmfaa.Ev
open Go
set_option linter.unusedVariables false
set_option linter.unusedSimpArgs false

variable {P : Program} {w : World}

/-- The shapes of what a law is handed. -/
inductive Sh where
  | int (k : IntKind)
  | str
  | bool
  | sl (bytes : Nat) (e : Sh)
  | pair (a b : Sh)

def Sh.size : Sh → Nat
  | .pair a b => a.size + b.size
  | _ => 1

def DV : Sh → List V → Prop
  | .int k, xs => ∃ n, xs = [.v (.int k n)] ∧ (Lit.int k n).wf = true
  | .str, xs => ∃ s : ByteArray, xs = [.v (.string s)] ∧ s.size ≤ maxBytes
  | .bool, xs => ∃ b, xs = [.v (.bool b)]
  | .sl bytes e, xs => ∃ rows, xs = [.im rows] ∧ (∀ r ∈ rows, DV e r) ∧ rows.length * bytes ≤ maxBytes
  | .pair a b, xs => ∃ l r, xs = l ++ r ∧ DV a l ∧ DV b r

mutual
inductive Fits (P : Program) : TypeId → Sh → Prop
  | int {t : TypeId} {k : IntKind} : P.underlying t = some (.int k) → Fits P t (.int k)
  | str {t : TypeId} : P.underlying t = some .string → Fits P t .str
  | bool {t : TypeId} : P.underlying t = some .bool → Fits P t .bool
  | sl {t e : TypeId} {n : Nat} {s : Sh} : P.underlying t = some (.slice e) → P.cellsOf e = s.size → P.bytesOf e = n → Fits P e s → Fits P t (.sl n s)
  | st {t : TypeId} {fs : Array Field} {a b : Sh} : P.underlying t = some (.struct fs) → P.cellsOf t = (Sh.pair a b).size → FitsF P 0 fs.toList (.pair a b) → Fits P t (.pair a b)
inductive FitsF (P : Program) : Nat → List Field → Sh → Prop
  | one {o : Nat} {f : Field} {s : Sh} : f.offset = o → P.cellsOf f.type = s.size → Fits P f.type s → FitsF P o [f] s
  | cons {o : Nat} {f g : Field} {l : List Field} {a b : Sh} : f.offset = o → P.cellsOf f.type = a.size → Fits P f.type a → FitsF P (o + a.size) (g :: l) b → FitsF P o (f :: g :: l) (.pair a b)
end

theorem Sh.pos : ∀ s : Sh, 0 < s.size
  | .pair a b => by have := a.pos; simp only [Sh.size]; omega
  | .int _ | .str | .bool | .sl _ _ => by simp [Sh.size]

abbrev Told (w : World) (xs : List V) (cs : List Value) : Prop := VL (Rep w (fun b => b < w.heap.size)) xs cs

theorem pick_rows {len : Nat} {R : Nat → List V → Prop} (h : ∀ i, i < len → ∃ row, R i row) : ∃ rows : List (List V), rows.length = len ∧ ∀ i row, rows[i]? = some row → R i row := by
  refine ⟨(List.range len).map fun i => if h' : i < len then Classical.choose (h i h') else [], by simp, fun i row hi => ?_⟩
  simp only [List.getElem?_map, Option.map_eq_some_iff] at hi
  obtain ⟨j, hj, hr⟩ := hi
  have hlt : i < len := by have := (List.getElem?_eq_some_iff.1 hj).1; simpa using this
  have : j = i := by have := List.getElem?_eq_some_iff.1 hj; simpa using this.2.symm
  subst this
  rw [dif_pos hlt] at hr
  subst hr
  exact Classical.choose_spec (h j hlt)

theorem weights_all {H : Type} {e : TypeId} : ∀ {elems : List (DataW H)} {i : Nat} {d : DataW H}, elems[i]? = some d → ∀ n ∈ d.weights P e, n ∈ DataW.weightsAll P e elems
  | [], i, d, h, _, _ => by simp at h
  | x :: l, 0, d, h, n, hn => by simp at h; subst h; simp [DataW.weightsAll, hn]
  | x :: l, i + 1, d, h, n, hn => by
    have := weights_all (elems := l) (by simpa using h) n hn
    simp [DataW.weightsAll, this]

theorem trod_told {H : Type} {enc : TypeId × Value → H} : ∀ (fuel : Nat) (t : TypeId) (sh : Sh) (cs : List Value) (x : DataW H × List MemPlace), Fits P t sh → DataW.trod enc P w 0 (fun _ => true) true fuel t cs = some x →
    (∀ n ∈ x.1.weights P t, n ≤ reachBytes) → ∃ xs, DV sh xs ∧ xs.length = sh.size ∧ Told w xs cs
  | 0, t, sh, cs, x, _, h, _ => by simp [DataW.trod] at h
  | fuel + 1, t, sh, cs, x, hf, h, hw => by
    cases hf with
    | int ht =>
      obtain ⟨n, rfl, rfl, hn⟩ := DataW.trod_int ht h
      exact ⟨_, ⟨n, rfl, hn⟩, rfl, .v _ rfl, trivial⟩
    | str ht =>
      obtain ⟨s, rfl, rfl, hn⟩ := DataW.trod_string ht h
      refine ⟨_, ⟨s, rfl, ?_⟩, rfl, .v _ rfl, trivial⟩
      have := hw s.data.toList.length (by simp [DataW.weights])
      simpa [reachBytes, maxBytes] using this
    | bool ht =>
      obtain ⟨b, rfl, rfl⟩ := DataW.trod_bool ht h
      exact ⟨_, ⟨b, rfl⟩, rfl, .v _ rfl, trivial⟩
    | @sl _ e n s ht hc hb hfe =>
      rcases DataW.trod_slice ht h with ⟨rfl, rfl⟩ | ⟨a, len, cap, elems, rest, n', hn', rfl, rfl, _, hl, hm, hlen, hel, _, _⟩
      · exact ⟨[.im []], ⟨[], rfl, by simp, by simp⟩, rfl, .im0 none 0, trivial⟩
      · cases hn'
        have hwt : len * n ≤ maxBytes := by
          have := hw ((elems.length + rest.length) * P.bytesOf e) (by simp [DataW.weights, ht])
          rw [hb] at this
          have h2 : len * n ≤ (elems.length + rest.length) * n := Nat.mul_le_mul_right _ (by omega)
          unfold reachBytes at this
          unfold maxBytes
          omega
        have hrow : ∀ i, i < len → ∃ row, DV s row ∧ row.length = s.size ∧ ∃ cs', w.cells? 0 (a.add (i * s.size)) s.size = some cs' ∧ Told w row cs' := by
          intro i hi
          have h1 := hel i hi
          rw [hc] at h1
          have hei : elems[i]? = some (elems[i]'(by omega)) := List.getElem?_eq_getElem (by omega)
          rw [hei] at h1
          cases hcs : w.cells? 0 (a.add (i * s.size)) s.size with
          | none => rw [hcs] at h1; cases h1
          | some cs' =>
            rw [hcs, Option.bind_some] at h1
            obtain ⟨row, q1, q2, q3⟩ := trod_told fuel e s cs' _ hfe h1 fun m hm => hw m (by
              simp only [DataW.weights, ht, List.mem_cons, List.mem_append]
              exact .inr (.inl (weights_all (i := i) (d := (elems[i]'(by omega)).1) (by simp [hei]) m hm)))
            exact ⟨row, q1, q2, cs', rfl, q3⟩
        obtain ⟨rows, hrl, hrows⟩ := pick_rows hrow
        refine ⟨[.im rows], ⟨rows, rfl, fun r hr => ?_, by rw [hrl]; exact hwt⟩, rfl, ?_, trivial⟩
        · obtain ⟨i, hi⟩ := List.getElem?_of_mem hr
          exact (hrows i r hi).1
        · rw [← hrl]
          by_cases h0 : rows = []
          · subst h0; exact .im0 (some a) cap
          · have hpos : 0 < rows.length := List.length_pos_iff.2 h0
            have hcell : ∀ (i j : Nat) (row : List V), rows[i]? = some row → j < s.size → ∃ y, w.cell? (a.add (i * s.size + j)) = some y ∧ ∀ x, row[j]? = some x → Rep w (fun b => b < w.heap.size) x y := by
              intro i j row hi hj
              obtain ⟨_, q2, cs', q3, q4⟩ := hrows i row hi
              obtain ⟨_, r1, r2⟩ := World.cells?_some q3
              have h1 := r2 j hj
              have hx : row[j]? = some (row[j]'(by omega)) := List.getElem?_eq_getElem (by omega)
              obtain ⟨y, hy, hrep⟩ := q4.get j _ hx
              rw [hy] at h1
              refine ⟨y, ?_, fun x hx' => by rw [hx] at hx'; cases hx'; exact hrep⟩
              rw [← h1, Addr.add_add]
            obtain ⟨y0, hy0, _⟩ := hcell 0 0 _ (List.getElem?_eq_getElem hpos) s.pos
            have hspot : a.spot = none ∧ a.block < w.heap.size := by
              have h1 : w.cell? a = some y0 := by simpa [Addr.add] using hy0
              unfold World.cell? at h1
              split at h1
              · rename_i c t' fz hh
                split at h1
                · cases h1
                · rename_i hs
                  exact ⟨by simpa using hs, (Array.getElem?_eq_some_iff.1 hh).1⟩
              · cases h1
            obtain ⟨bb, off, sp⟩ := a
            obtain ⟨hsp, hbb⟩ := hspot
            simp only at hsp hbb
            subst hsp
            have hadd : ∀ m, Addr.add ⟨bb, off, none⟩ m = ⟨bb, off + m, none⟩ := fun m => by unfold Addr.add; split <;> simp_all
            refine .im bb off cap s.size rows (fun i j => (w.cell? ⟨bb, off + i * s.size + j, none⟩).getD undef) hbb s.pos (by omega) hm (fun i row hi => (hrows i row hi).2.1) (fun i j row x hi hx => ?_) (fun i j row x hi hx => ?_)
            · have hj : j < s.size := by rw [← (hrows i row hi).2.1]; exact (List.getElem?_eq_some_iff.1 hx).1
              obtain ⟨y, hy, _⟩ := hcell i j row hi hj
              rw [hadd, ← Nat.add_assoc] at hy
              rw [hy]; rfl
            · have hj : j < s.size := by rw [← (hrows i row hi).2.1]; exact (List.getElem?_eq_some_iff.1 hx).1
              obtain ⟨y, hy, hrep⟩ := hcell i j row hi hj
              rw [hadd, ← Nat.add_assoc] at hy
              rw [hy]
              exact hrep x hx
    | @st _ fs a b ht hc hff =>
      obtain ⟨parts, n', hn', rfl, hcs, hpl, hpart⟩ := DataW.trod_struct ht h
      cases hn'
      have key : ∀ (l : List Field) (o : Nat) (s : Sh) (ps : List (DataW H × List MemPlace)), FitsF P o l s → ps.length = l.length → (∀ (i : Nat) (f : Field), l[i]? = some f → DataW.trod enc P w 0 (fun _ => true) true fuel f.type ((cs.drop f.offset).take (P.cellsOf f.type)) = ps[i]?) →
          (∀ n ∈ DataW.weightsEach P (l.map (·.type)) (ps.map (·.1)), n ≤ reachBytes) → o + s.size ≤ cs.length → ∃ xs, DV s xs ∧ xs.length = s.size ∧ Told w xs ((cs.drop o).take s.size) := by
        intro l
        induction l with
        | nil => intro o s ps hf; cases hf
        | cons f l ih =>
          intro o s ps hf hlen hp hwt hle
          cases ps with
          | nil => simp at hlen
          | cons p ps =>
            cases hf with
            | one h1 h2 h3 =>
              have := hp 0 f rfl
              rw [h1, h2] at this
              exact trod_told fuel f.type s _ p h3 (by simpa using this) fun m hm => hwt m (by simp [DataW.weightsEach, hm])
            | @cons _ _ g l' a b h1 h2 h3 h4 =>
              have h5 := hp 0 f rfl
              rw [h1, h2] at h5
              simp only [Sh.size] at hle
              obtain ⟨xs, q1, q2, q3⟩ := trod_told fuel f.type a _ p h3 (by simpa using h5) fun m hm => hwt m (by simp [DataW.weightsEach, hm])
              obtain ⟨ys, q4, q5, q6⟩ := ih (o + a.size) b ps h4 (by simpa using hlen) (fun i f' hi => by simpa using hp (i + 1) f' (by simpa using hi)) (fun m hm => hwt m (by
                simp only [List.map_cons, DataW.weightsEach, List.mem_append]
                exact .inr hm)) (by omega)
              refine ⟨xs ++ ys, ⟨xs, ys, rfl, q1, q4⟩, by simp [Sh.size, q2, q5], ?_⟩
              have : (cs.drop o).take (Sh.pair a b).size = (cs.drop o).take a.size ++ (cs.drop (o + a.size)).take b.size := by
                simp only [Sh.size]
                rw [List.take_add, List.drop_drop]
              rw [this]
              exact VL.append q3 q6
      obtain ⟨xs, q1, q2, q3⟩ := key fs.toList 0 (.pair a b) parts hff (by simpa using hpl) (fun i f hi => hpart i f (by simpa using hi)) (fun m hm => hw m (by simp only [DataW.weights, ht]; exact hm)) (by omega)
      refine ⟨xs, q1, q2, ?_⟩
      rw [List.drop_zero, ← hc, ← hcs, List.take_length] at q3
      exact q3

end Go.Proofs.Ytcmihlhmeonmfaa.Ev
