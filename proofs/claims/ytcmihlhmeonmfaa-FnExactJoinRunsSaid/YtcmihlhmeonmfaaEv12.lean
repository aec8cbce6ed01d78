/- A slice of a slice, an append: what they do in memory is what the evaluator says. -/
import Derived.Test.YtcmihlhmeonmfaaEv11
namespace Go.Proofs.Ytcmihlhmeonmfaa.Ev
open Go
set_option linter.unusedVariables false
set_option linter.unusedSimpArgs false

variable {P : Program} {w w' w0 : World} {E E' : Env} {hp hp' : Hp} {G G' U A W F S : Nat → Prop} {B : Nat → Prop} {ρ : Operand → V} {ρr : Operand → Value}

theorem sliceAt_run {t e : TypeId} {d : TyD} {a : Option Addr} {n cap l h : Nat} {lo hi : Option Operand} (hρ : ∀ x, VR2 w E hp G (ρ x) (ρr x)) (he : (tyOf P t).bind (·.elem) = some e) (hd : tyOf P e = some d)
    (h1 : bnd ρ lo 0 = some l) (h2 : bnd ρ hi n = some h) (hlh : l ≤ h) (hh : h ≤ cap) :
    (Instr.sliceAt t (.slice a n cap) (lo.map ρr) (hi.map ρr) none).run P w = .ok (.slice (if cap = l then a else a.map (·.add (l * d.size))) (h - l) (cap - l)) w := by
  unfold Instr.sliceAt
  simp only [Sem.run_bind, run_underlying (elem_under he), Result.andThen_ok]
  unfold Instr.slice
  simp only [Sem.run_bind, run_underlying (elem_under he), Result.andThen_ok]
  rw [run_bounds hρ true h1 h2 hlh hh]
  simp only [Result.andThen_ok, Sem.run_bind, run_size hd, Sem.run_pure]

theorem addr_add (b o n : Nat) : (⟨b, o, none⟩ : Addr).add n = ⟨b, o + n, none⟩ := by
  unfold Addr.add; split <;> simp_all

theorem slice_sound {t : TypeId} {s : Operand} {lo hi : Option Operand} {b : Nat} {o : Oper} {a : Act} {K : Cont} (c : MCtx P w0 U A B E G hp w ρ a.eval b) (ho : o.op = .slice t s lo hi none) (h : weSlice P t (ρ s) lo hi ρ hp K) :
    ∃ x hp' cls, K x hp' cls ∧ StepsTo P w0 U A B E G hp w o a x hp' ∧ WfOut B b x hp' := by
  unfold weSlice at h
  obtain ⟨e, he, h⟩ := caseO_some' h
  obtain ⟨d, hd, h⟩ := caseO_some' h
  have hs := c.rel s
  have hpos := tyOf_pos hd
  split at h
  · rename_i hx
    obtain ⟨l, hl, h⟩ := caseO_some' h
    obtain ⟨r, hr, h⟩ := caseO_some' h
    obtain ⟨rfl, rfl, hK⟩ := h
    rw [hx] at hs
    obtain ⟨ad, hy⟩ := vr2_em hs
    refine ⟨_, _, _, hK, MGives.steps (MGives.same c (gives_of ⟨_, fun o ho => by simp only [execOp, ho] <;> rfl, _, by rw [hy]; exact sliceAt_run c.rel he hd hl hr (Nat.le_refl _) (Nat.le_refl _), ?_⟩)) ho, fun id hid => by simp [refs2, refs1, refs0] at hid, c.wf.more b⟩
    exact Rep.em _
  · rename_i rows hx
    obtain ⟨l, hl, h⟩ := caseO_some' h
    obtain ⟨r, hr, h⟩ := caseO_some' h
    obtain ⟨hlr, hrn, hrl, hK⟩ := h
    rw [hx] at hs
    have hs : Rep w G (.im rows) (a.eval s) := hs
    generalize hye : a.eval s = ye at hs
    have hfin : ∀ (aa : Option Addr) (cap : Nat), ye = .slice aa rows.length cap → rows.length ≤ cap → Rep w G (.im ((rows.take r).drop l)) (.slice (if cap = l then aa else aa.map (·.add (l * d.size))) (r - l) (cap - l)) →
        ∃ x hp' cls, K x hp' cls ∧ StepsTo P w0 U A B E G hp w o a x hp' ∧ WfOut B b x hp' := by
      intro aa cap h1 h2 h3
      exact ⟨_, _, _, hK, MGives.steps (MGives.same c (gives_of ⟨_, fun o ho => by simp only [execOp, ho] <;> rfl, _, by rw [hye, h1]; exact sliceAt_run c.rel he hd hl hr hlr (Nat.le_trans hrn h2), h3⟩)) ho, fun id hid => by simp [refs2, refs1, refs0] at hid, c.wf.more b⟩
    cases hs with
    | im0 aa cap =>
      refine hfin aa cap rfl (by simp) ?_
      have hr0 : r - l = 0 := by simp at hrn; omega
      rw [hr0]
      simp only [List.take_nil, List.drop_nil]
      exact .im0 _ _
    | im bb off cap size _ f hb h0 hrc hc hlen hcell hrep =>
      refine hfin _ cap rfl hrc ?_
      have hlen2 : ((rows.take r).drop l).length = r - l := by simp; omega
      by_cases hz : r - l = 0
      · have : (rows.take r).drop l = [] := List.eq_nil_of_length_eq_zero (by omega)
        rw [this, hz]
        exact .im0 _ _
      · have hlt : l < rows.length := by omega
        have hsz : size = d.size := by
          have h1 := hlen l _ (List.getElem?_eq_getElem hlt)
          have h2 := hrl _ (List.getElem_mem hlt)
          omega
        rw [if_neg (by omega)]
        simp only [Option.map_some, addr_add]
        rw [← hlen2]
        have hget : ∀ (i : Nat) (row : List V), ((rows.take r).drop l)[i]? = some row → rows[l + i]? = some row := by
          intro i row hi
          rw [List.getElem?_drop, List.getElem?_take] at hi
          split at hi
          · exact hi
          · cases hi
        refine .im bb (off + l * d.size) (cap - l) size _ (fun i j => f (l + i) j) hb h0 (by omega) (by omega) (fun i row hi => hlen _ row (hget i row hi)) (fun i j row x hi hj => ?_) (fun i j row x hi hj => hrep _ j row x (hget i row hi) hj)
        have := hcell _ j row x (hget i row hi) hj
        rw [← hsz]
        rw [show off + l * size + i * size + j = off + (l + i) * size + j by rw [Nat.add_mul]; omega]
        exact this
  · rename_i id l0 n hx
    obtain ⟨l, hl, h⟩ := caseO_some' h
    obtain ⟨r, hr, h⟩ := caseO_some' h
    obtain ⟨k, hk, h⟩ := caseO_some' h
    obtain ⟨hlr, hrn, hks, hK⟩ := h
    rw [hx] at hs
    obtain ⟨aa, cap, hy, hrel⟩ := hs
    obtain ⟨k1, k2, k3⟩ := hrel k hk
    have hnc : n ≤ cap := by rcases k3 with ⟨h1, h2⟩ | ⟨_, _, _, _, _, _, h3, _⟩ <;> omega
    refine ⟨_, _, _, hK, MGives.steps (MGives.same c (gives_of ⟨_, fun o ho => by simp only [execOp, ho] <;> rfl, _, by rw [hy]; exact sliceAt_run c.rel he hd hl hr hlr (by omega), ?_⟩)) ho, fun j hj => .inl (c.ids s j (by rw [hx]; exact hj)), c.wf.more b⟩
    refine ⟨_, _, rfl, fun k' hk' => ?_⟩
    rw [hk] at hk'
    cases hk'
    refine ⟨k1, by omega, ?_⟩
    rcases k3 with ⟨h1, h2⟩ | ⟨b', cur, ty, fz, q1, q2, q3, q4, q5⟩
    · exact .inl (by omega)
    · by_cases hcl : cap = l
      · exact .inl (by omega)
      · refine .inr ⟨b', cur, ty, fz, q1, ?_, by omega, q4, ?_⟩
        · rw [if_neg hcl, q2]
          simp only [Option.map_some, addr_add]
          rw [← hks, ← Nat.add_mul]
        · rw [q5]; congr 1; omega
  · exact h.elim

/-- The cells of a slice that is only read, one after the other. -/
theorem news_of {rows : List (List V)} {y : Value} {size : Nat} (h : Rep w S (.im rows) y) (hlen : ∀ r ∈ rows, r.length = size) :
    ∃ xa xc, y = .slice xa rows.length xc ∧ (rows = [] ∨ ∃ (ad : Addr) (news : List Value), xa = some ad ∧ news.length = rows.length * size ∧ (∀ (j : Nat) (u : Value), news[j]? = some u → w.cell? (ad.add j) = some u) ∧ (∀ u ∈ news, u.oneCell' = true) ∧
      ∀ (i j : Nat) (row : List V) (x : V), rows[i]? = some row → row[j]? = some x → ∃ u, news[i * size + j]? = some u ∧ Rep w S x u) := by
  cases h with
  | im0 a cap => exact ⟨a, cap, rfl, .inl rfl⟩
  | im b off cap sz _ f hb h0 hrc hc hl hcell hrep =>
    refine ⟨_, _, rfl, ?_⟩
    by_cases hr : rows = []
    · exact .inl hr
    right
    have hsz : sz = size := by
      cases rows with
      | nil => exact absurd rfl hr
      | cons r l => rw [← hl 0 r (by simp), hlen r (by simp)]
    subst hsz
    have hex : ∀ q, q < rows.length * sz → ∃ row x, rows[q / sz]? = some row ∧ row[q % sz]? = some x := by
      intro q hq
      have h1 : q / sz < rows.length := by rw [Nat.div_lt_iff_lt_mul h0]; exact hq
      have h2 : q % sz < sz := Nat.mod_lt _ h0
      have h3 := hl _ _ (List.getElem?_eq_getElem h1)
      exact ⟨_, _, List.getElem?_eq_getElem h1, List.getElem?_eq_getElem (by rw [h3]; exact h2)⟩
    refine ⟨⟨b, off, none⟩, (List.range (rows.length * sz)).map fun q => f (q / sz) (q % sz), rfl, by simp, fun j u hj => ?_, fun u hu => ?_, fun i j row x hi hj => ?_⟩
    · have hjl : j < rows.length * sz := by have := (List.getElem?_eq_some_iff.1 hj).1; simpa using this
      have hu : u = f (j / sz) (j % sz) := by simp [hjl] at hj; exact hj.symm
      obtain ⟨row, x, h1, h2⟩ := hex j hjl
      have := hcell _ _ row x h1 h2
      rw [addr_add, hu, ← this]
      congr 2
      have := Nat.div_add_mod j sz
      rw [Nat.mul_comm] at this
      omega
    · simp only [List.mem_map, List.mem_range] at hu
      obtain ⟨q, hq, rfl⟩ := hu
      obtain ⟨row, x, h1, h2⟩ := hex q hq
      exact (hrep _ _ row x h1 h2).one
    · have hjs : j < sz := by rw [← hl i row hi]; exact (List.getElem?_eq_some_iff.1 hj).1
      have hil : i < rows.length := (List.getElem?_eq_some_iff.1 hi).1
      have hlt : i * sz + j < rows.length * sz := by
        have := Nat.mul_le_mul_right sz (show i + 1 ≤ rows.length by omega)
        rw [Nat.add_mul, Nat.one_mul] at this; omega
      have hd : (i * sz + j) / sz = i := by rw [Nat.add_comm, Nat.add_mul_div_right _ _ h0, Nat.div_eq_of_lt hjs]; omega
      have hm : (i * sz + j) % sz = j := by rw [Nat.add_comm, Nat.add_mul_mod_self_right, Nat.mod_eq_of_lt hjs]
      refine ⟨f i j, ?_, hrep i j row x hi hj⟩
      simp [hlt, hd, hm]

theorem scalar_rows {rows : List (List V)} (h : scalarRows rows = true) {i j : Nat} {row : List V} {x : V} (hi : rows[i]? = some row) (hj : row[j]? = some x) : scalarV x = true := by
  unfold scalarRows at h
  exact List.all_eq_true.1 (List.all_eq_true.1 h row (List.mem_of_getElem? hi)) x (List.mem_of_getElem? hj)

/-- What is appended, in memory. -/
structure SrcRel (w : World) (E : Env) (hp : Hp) (G : Nat → Prop) (size : Nat) (rows : List (List V)) (kills : List Nat) (deep : Bool) (y : Value) : Prop where
  ids : ∀ i ∈ kills, ∃ k, hp i = some k ∧ k.kind = .arr
  rel : (∀ r ∈ rows, r.length = size) → ∃ xa xc, y = .slice xa rows.length xc ∧ (rows = [] ∨ ∃ (ad : Addr) (news : List Value), xa = some ad ∧ news.length = rows.length * size ∧ (∀ (j : Nat) (u : Value), news[j]? = some u → w.cell? (ad.add j) = some u) ∧ (∀ u ∈ news, u.oneCell' = true) ∧
      ∀ (i j : Nat) (row : List V) (x : V), rows[i]? = some row → row[j]? = some x → ∃ u, news[i * size + j]? = some u ∧ Rep w (fun z => (deep = false ∧ G z) ∨ Held E hp kills z) x u)

theorem srcRel_of {size : Nat} {rows : List (List V)} {kills : List Nat} {deep : Bool} {y : Value} (hids : ∀ i ∈ kills, ∃ k, hp i = some k ∧ k.kind = .arr) (h : Rep w S (.im rows) y)
    (hS : scalarRows rows = true ∨ ∀ z, S z → (deep = false ∧ G z) ∨ Held E hp kills z) : SrcRel w E hp G size rows kills deep y := by
  refine ⟨hids, fun hlen => ?_⟩
  obtain ⟨xa, xc, h1, h2⟩ := news_of h hlen
  refine ⟨xa, xc, h1, h2.imp (fun h => h) ?_⟩
  rintro ⟨ad, news, q1, q2, q3, q4, q5⟩
  refine ⟨ad, news, q1, q2, q3, q4, fun i j row x hi hj => ?_⟩
  obtain ⟨u, hu, hr⟩ := q5 i j row x hi hj
  refine ⟨u, hu, ?_⟩
  rcases hS with hs | hs
  · exact hr.scalar (scalar_rows hs hi hj)
  · exact hr.mono hs

theorem src_sound (hI : HpInv w0 U A E G hp w) {d : TyD} {x : V} {y : Value} {K : List (List V) → List Nat → Bool → Prop} (hv : VR2 w E hp G x y) (h : srcRows d x hp K) :
    ∃ rows kills deep, K rows kills deep ∧ SrcRel w E hp G d.size rows kills deep y := by
  unfold srcRows at h
  split at h
  · obtain ⟨a, rfl⟩ := vr2_em hv
    exact ⟨_, _, _, h, ⟨fun i hi => by simp at hi, fun _ => ⟨a, 0, rfl, .inl rfl⟩⟩⟩
  · rename_i rows
    refine ⟨_, _, _, h, srcRel_of (fun i hi => by simp at hi) (S := G) hv ?_⟩
    cases hs : scalarRows rows with
    | true => exact .inl rfl
    | false => exact .inr fun z hz => .inl ⟨by simp, hz⟩
  · rename_i id lo n
    split at h
    · rename_i k hk
      have hv0 : VR0 w E hp G (.ar id lo n) y := hv
      split at h
      · exact h.elim
      · rename_i hkk
        refine ⟨_, _, _, h, srcRel_of (fun i hi => by simp at hi) (S := G) (ar_im hI hv0 hk (fun b hb => ?_) (fun b hb => ?_)) ?_⟩
        · have := hI.blk id k hk
          unfold BlkRel at this
          simp only [hkk] at this
          rcases this with ⟨_, h2⟩ | ⟨b', _, _, _, h1, h1', _⟩
          · rw [hb] at h2; cases h2
          · rw [hb] at h1; cases h1; exact h1'
        · rw [if_neg (by simp [hkk])] at hb; exact hb
        · cases hs : scalarRows ((k.rows.take (lo + n)).drop lo) with
          | true => exact .inl rfl
          | false => exact .inr fun z hz => .inl ⟨by simp, hz⟩
      · rename_i hkk
        have hl : liveB k = true := by simp [liveB, hkk]
        split at h
        · obtain ⟨hs, hK⟩ := h
          exact ⟨_, _, _, hK, srcRel_of (fun i hi => by simp at hi) (S := fun _ => True) (ar_im hI hv0 hk (fun _ _ => trivial) (fun _ _ => trivial)) (.inl hs)⟩
        · refine ⟨_, _, _, h, srcRel_of (fun i hi => by simp at hi; subst hi; exact ⟨k, hk, hkk⟩) (S := fun z => (k.deep = false ∧ G z) ∨ Held E hp [id] z) (ar_im hI hv0 hk (fun b hb => ?_) (fun b hb => ?_)) (.inr fun z hz => hz)⟩
          · exact .inr ⟨id, by simp, k, hk, hl, .inl hb⟩
          · cases hd : k.deep with
            | true => rw [if_pos ⟨hkk, hd⟩] at hb; exact .inr ⟨id, by simp, k, hk, hl, .inr hb⟩
            | false => rw [if_neg (by simp [hd])] at hb; exact .inl ⟨rfl, hb⟩
    · exact h.elim
  · exact h.elim

end Go.Proofs.Ytcmihlhmeonmfaa.Ev
