/- A law: what it is handed, read as data; the row. -/
import Derived.Test.YtcmihlhmeonmfaaEvXf
import Derived.Test.YtcmihlhmeonmfaaEv31
namespace Go.Proofs.Ytcmihlhmeonmfaa.Ev
open Go Go.RowKit
set_option linter.unusedVariables false
set_option linter.unusedSimpArgs false

def shT : Sh → Ty
  | .int k => .int k
  | .str => .str
  | .bool => .bool
  | .sl _ e => .sl (shT e)
  | .pair a b => .pair (shT a) (shT b)

/-- What is known of what a law is handed. -/
def WFS : (s : Sh) → (shT s).den → Prop
  | .int k, n => (Lit.int k n).wf = true
  | .str, s => s.length ≤ maxBytes
  | .bool, _ => True
  | .sl bytes e, l => (∀ a ∈ (show List (shT e).den from l), WFS e a) ∧ (show List (shT e).den from l).length * bytes ≤ maxBytes
  | .pair a b, x => WFS a (show (shT a).den × (shT b).den from x).1 ∧ WFS b (show (shT a).den × (shT b).den from x).2

theorem dv_re : ∀ {s : Sh} {xs : List V}, DV s xs → ∃ x, RE (shT s) x xs ∧ WFS s x
  | .int k, xs, h => by obtain ⟨n, rfl, hn⟩ := h; exact ⟨n, rfl, hn⟩
  | .str, xs, h => by obtain ⟨s, rfl, hs⟩ := h; exact ⟨s.data.toList, by simp [RE, shT], by show s.data.toList.length ≤ maxBytes; rw [Array.length_toList]; exact hs⟩
  | .bool, xs, h => by obtain ⟨b, rfl⟩ := h; exact ⟨b, rfl, trivial⟩
  | .sl bytes e, xs, h => by
    obtain ⟨rows, rfl, hr, hb⟩ := h
    have key : ∀ rows : List (List V), (∀ r ∈ rows, DV e r) → ∃ l : List (shT e).den, RLx (RE (shT e)) l rows ∧ ∀ a ∈ l, WFS e a := by
      intro rows
      induction rows with
      | nil => intro _; exact ⟨[], RLx.nil, by simp⟩
      | cons r rows ih =>
        intro h
        obtain ⟨a, h1, h2⟩ := dv_re (h r (by simp))
        obtain ⟨l, h3, h4⟩ := ih fun r' hr' => h r' (by simp [hr'])
        refine ⟨a :: l, RLx.cons h1 h3, fun b hb => ?_⟩
        rcases List.mem_cons.1 hb with rfl | hb
        · exact h2
        · exact h4 b hb
    obtain ⟨l, h1, h2⟩ := key rows hr
    exact ⟨l, .inr ⟨rows, rfl, h1⟩, h2, by rw [← h1.1]; exact hb⟩
  | .pair a b, xs, h => by
    obtain ⟨l, r, rfl, h1, h2⟩ := h
    obtain ⟨x, q1, q2⟩ := dv_re h1
    obtain ⟨y, q3, q4⟩ := dv_re h2
    exact ⟨(x, y), ⟨l, r, rfl, q1, q3⟩, q2, q4⟩

def acOf : Sh → AC
  | .int k => .int k
  | .str => .str
  | .bool => .bool
  | .sl _ e => .im (shT e)
  | .pair _ _ => .bool

def oneS : Sh → Bool
  | .pair _ _ => false
  | _ => true

def WFC : (s : Sh) → (acOf s).den → Prop
  | .int k, n => WFS (.int k) n
  | .str, s => WFS .str s
  | .bool, b => True
  | .sl n e, l => WFS (.sl n e) l
  | .pair _ _, _ => True

theorem dv_cell {s : Sh} {x : V} (ho : oneS s = true) (h : DV s [x]) : ∃ d : (acOf s).den, WFC s d ∧ ∀ hp, RV2 hp (encC (acOf s) d) x := by
  obtain ⟨d, h1, h2⟩ := dv_re h
  cases s with
  | int k =>
    have h1 : [x] = [V.v (.int k d)] := h1
    cases h1
    exact ⟨d, h2, fun hp => rfl⟩
  | str =>
    have h1 : [x] = [V.v (.string ⟨Array.mk d⟩)] := h1
    cases h1
    exact ⟨d, h2, fun hp => rfl⟩
  | bool =>
    have h1 : [x] = [V.v (.bool d)] := h1
    cases h1
    exact ⟨d, trivial, fun hp => rfl⟩
  | sl n e =>
    refine ⟨d, h2, fun hp => ?_⟩
    rcases h1 with ⟨e1, e2⟩ | ⟨rows, e2, e3⟩
    · cases e2; exact .inl ⟨e1, rfl⟩
    · cases e2; exact .inr ⟨rows, rfl, e3⟩
  | pair a b => cases ho

/-- The parameters of a law. -/
def parI : Nat → List Sh → List Item
  | _, [] => []
  | i, s :: l => .slot i (.cell (acOf s)) :: parI (i + 1) l

def WFP : (i : Nat) → (l : List Sh) → denI (parI i l) → Prop
  | _, [], _ => True
  | i, s :: l, d => WFC s (hdI (.slot i (.cell (acOf s))) (parI (i + 1) l) d) ∧ WFP (i + 1) l (tlI (.slot i (.cell (acOf s))) (parI (i + 1) l) d)

/-- Values, one by one, as told. -/
def DVs : List Sh → List V → Prop
  | [], [] => True
  | s :: l, x :: xs => DV s [x] ∧ DVs l xs
  | _, _ => False

theorem DVs.length : ∀ {l : List Sh} {xs : List V}, DVs l xs → xs.length = l.length
  | [], [], _ => rfl
  | _ :: l, _ :: xs, h => by simp [DVs.length h.2]
  | [], _ :: _, h => h.elim
  | _ :: _, [], h => h.elim

theorem par_rel : ∀ (l : List Sh) (i : Nat) {xs : List V}, l.all oneS = true → DVs l xs → ∃ d : denI (parI i l), WFP i l d ∧ (∀ k, (encI id k (parI i l) d).2 = []) ∧ ∀ k hp, RT hp (encI id k (parI i l) d).1 (lk .any (enum i xs))
  | [], i, [], _, _ => ⟨(), trivial, fun _ => rfl, fun k hp t => trivial⟩
  | s :: l, i, x :: xs, ho, h => by
    simp only [List.all_cons, Bool.and_eq_true] at ho
    obtain ⟨a, h1, h2⟩ := dv_cell ho.1 h.1
    obtain ⟨d, h3, h4, h5⟩ := par_rel l (i + 1) ho.2 h.2
    refine ⟨consI (.slot i (.cell (acOf s))) (parI (i + 1) l) a d, ⟨?_, ?_⟩, fun k => ?_, fun k hp => ?_⟩
    · rw [hd_cons (.slot i (.cell (acOf s)))]; exact h1
    · rw [tl_cons (.slot i (.cell (acOf s)))]; exact h3
    · simp only [parI, encI]
      rw [tl_cons (.slot i (.cell (acOf s)))]
      exact h4 k
    · simp only [parI, encI]
      rw [tl_cons (.slot i (.cell (acOf s))), hd_cons (.slot i (.cell (acOf s)))]
      intro t
      show RV2 hp (getV ((i, encSV id k (.cell (acOf s)) a) :: _) t) (if t = i then x else lk .any (enum (i + 1) xs) t)
      rw [getV_cons]
      split
      · exact h2 hp
      · exact h5 k hp t
  | [], _, _ :: _, _, h => h.elim
  | _ :: _, _, [], _, h => h.elim

section
variable {P : Program}

/-- The shapes of the parameters. -/
def FitsL (P : Program) : List TypeId → List Sh → Prop
  | [], [] => True
  | t :: ts, s :: l => Fits P t s ∧ FitsL P ts l
  | _, _ => False

theorem told_args {H : Type} {enc : TypeId × Value → H} {W : World} : ∀ {ts : List TypeId} {l : List Sh} {vs : List Value} {ds : List (DataW H)} {p : List MemPlace}, FitsL P ts l → l.all oneS = true → DataW.TrodAll enc P W 0 (fun _ => true) true ts vs ds p →
    (∀ (j : Nat) t v, ts[j]? = some t → vs[j]? = some v → ∃ base, Value.okWide P W .any base t v) → (∀ n ∈ DataW.weightsEach P ts ds, n ≤ reachBytes) → ∃ xs, DVs l xs ∧ Told W xs vs
  | [], [], vs, ds, p, _, _, h, _, _ => by
    obtain ⟨rfl, rfl, rfl⟩ := ChangeShapes.trodAll_nil h
    exact ⟨[], trivial, trivial⟩
  | t :: ts, s :: l, vs, ds, p, hf, ho, h, hv, hw => by
    obtain ⟨v, vs', d, ds', p1, q, rfl, rfl, rfl, ⟨fuel, h1⟩, h2⟩ := ChangeShapes.trodAll_cons h
    simp only [List.all_cons, Bool.and_eq_true] at ho
    obtain ⟨xs, q1, q2, q3⟩ := trod_told fuel t s _ _ hf.1 h1 fun n hn => hw n (by simp [DataW.weightsEach, hn])
    obtain ⟨ys, q4, q5⟩ := told_args hf.2 ho.2 h2 (fun j t v h1 h2 => hv (j + 1) t v (by simpa using h1) (by simpa using h2)) fun n hn => hw n (by simp [DataW.weightsEach, hn])
    have hs1 : s.size = 1 := by cases s <;> first | rfl | (cases ho.1)
    obtain ⟨x, rfl⟩ := List.length_eq_one_iff.1 (by rw [q2, hs1])
    refine ⟨x :: ys, ⟨q1, q4⟩, ?_, q5⟩
    obtain ⟨base, hok⟩ := hv 0 t v rfl rfl
    have hc : v.cells.toList = [v] := by
      cases hf.1 with
      | int ht => simp only [Value.okWide, ht, Cell.okWide] at hok; cases v <;> simp_all [Cell.ok, Value.cells]
      | str ht => simp only [Value.okWide, ht, Cell.okWide] at hok; cases v <;> simp_all [Cell.ok, Value.cells]
      | bool ht => simp only [Value.okWide, ht, Cell.okWide] at hok; cases v <;> simp_all [Cell.ok, Value.cells]
      | sl ht => obtain ⟨a, n, c, rfl⟩ := WideShapes.okWide_slice ht hok; rfl
      | st => cases ho.1
    rw [hc] at q3
    exact q3.1
  | [], _ :: _, _, _, _, h, _, _, _, _ => h.elim
  | _ :: _, [], _, _, _, h, _, _, _, _ => h.elim

theorem trod_below {H : Type} {enc : TypeId × Value → H} {W W' : World} (hl : laidOutB P = true) (hb : Below W.heap.size W W') : ∀ {ts : List TypeId} {vs : List Value} {ds : List (DataW H)} {p : List MemPlace}, (∀ t ∈ ts, P.readableRec t = true ∧ t < P.types.size) → DataW.TrodAll enc P W 0 (fun _ => true) true ts vs ds p →
    ∃ q, DataW.TrodAll enc P W' 0 (fun b => decide (b < W.heap.size)) true ts vs ds q
  | [], vs, ds, p, _, h => by
    obtain ⟨rfl, rfl, rfl⟩ := ChangeShapes.trodAll_nil h
    exact ⟨[], ChangeShapes.trodAll_mk0⟩
  | t :: ts, vs, ds, p, hr, h => by
    obtain ⟨v, vs', d, ds', p1, q, rfl, rfl, rfl, h1, h2⟩ := ChangeShapes.trodAll_cons h
    obtain ⟨q', h3⟩ := trod_below hl hb (fun t ht => hr t (by simp [ht])) h2
    have hlt : ∀ x ∈ p1, x.block < W.heap.size := by obtain ⟨m, hm⟩ := h1; exact DataW.trod_lt m _ _ _ hm
    obtain ⟨r1, r2⟩ := hr t (by simp)
    exact ⟨_, trodAll_cons_mk (Below.trod hl r1 r2 h1 hb hlt) h3⟩
end
end Go.Proofs.Ytcmihlhmeonmfaa.Ev
