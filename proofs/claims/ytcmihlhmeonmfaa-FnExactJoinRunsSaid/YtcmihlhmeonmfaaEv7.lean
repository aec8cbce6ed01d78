/- Operations that look at blocks, and may lay a new one, come to what the evaluator says: all of them. -/
import Derived.Test.YtcmihlhmeonmfaaEv6
import Derived.Laws.MakeOwn
import Derived.Laws.Cells
import Derived.Laws.BytesString
import Derived.Lib.ConvBytes
namespace Go.Proofs.Ytcmihlhmeonmfaa.Ev
open Go
set_option linter.unusedVariables false
set_option linter.unusedSimpArgs false

variable {P : Program} {w w' w0 : World} {E E' : Env} {hp hp' : Hp} {G G' U A : Nat → Prop} {B : Nat → Prop} {ρ : Operand → V} {ρr : Operand → Value}

theorem Rep.vr0 {x : V} {y : Value} (h : Rep w G x y) : VR0 w E hp G x y := by
  cases h with
  | v _ h => exact Rep.v _ h
  | em a => exact Rep.em a
  | im0 a cap => exact Rep.im0 a cap
  | im b off cap size rows f h1 h2 h3 h4 h5 h6 h7 => exact Rep.im b off cap size rows f h1 h2 h3 h4 h5 h6 h7

theorem Rep.scalar {x : V} {y : Value} (hx : scalarV x = true) (h : Rep w G x y) : Rep w G' x y := by
  cases h with
  | v _ h => exact Rep.v _ h
  | em a => exact Rep.em a
  | im0 a cap => simp [scalarV] at hx
  | im b off cap size rows f h1 h2 h3 h4 h5 h6 h7 => simp [scalarV] at hx

theorem seg_some {cs l : List V} {off n : Nat} (h : seg cs off n = some l) : l = (cs.drop off).take n ∧ off + n ≤ cs.length ∧ l.length = n := by
  unfold seg at h
  split at h
  · rename_i hn
    have h := Option.some.inj h
    subst h
    exact ⟨rfl, hn, by simp; omega⟩
  · cases h

theorem cell_at {b o : Nat} {cur : Array Value} {ty : TypeId} {fz : Nat × Nat} (h : w.heap[b]? = some (.cells cur ty fz)) : w.cell? ⟨b, o, none⟩ = cur[o]? := by
  simp [World.cell?, h]

/-- A part of a row of a block of ours, in memory. -/
theorem cells_of (hI : HpInv w0 U A E G hp w) {id r c n : Nat} {k : Blk} {row cs : List V} (hk : hp id = some k) (hr : k.rows[r]? = some row) (hs : seg row c n = some cs)
    (hd : k.kind = .box ∨ k.kind = .frz ∨ k.deep = false ∨ cs.all scalarV = true) :
    ∃ b us, E.m id = some b ∧ VL (VR0 w E hp G) cs us ∧ ∀ (j : Nat) (v : Value), us[j]? = some v → w.cell? ⟨b, r * k.size + c + j, none⟩ = some v := by
  obtain ⟨hcs, hle, hlen⟩ := seg_some hs
  have hb := hI.blk id k hk
  unfold BlkRel at hb
  cases hkk : k.kind with
  | box =>
    simp only [hkk] at hb
    obtain ⟨b, row0, cur, h1, h2, h3, h4, h5, h6⟩ := hb
    rw [h3] at hr
    cases r with
    | succ r => simp at hr
    | zero =>
      simp at hr
      subst hr
      refine ⟨b, (cur.toList.drop c).take n, h1, ?_, fun j v hv => ?_⟩
      · rw [hcs]
        exact ((h6.mono fun _ _ _ h => h.1).drop c).take n
      · rw [List.getElem?_take] at hv
        split at hv
        · rw [List.getElem?_drop] at hv
          rw [cell_at h2, Nat.zero_mul, Nat.zero_add]
          simpa using hv
        · cases hv
  | arr =>
    simp only [hkk] at hb
    rcases hb with ⟨h1, h2⟩ | ⟨b, cur, cap, h1, h2, h3, h4, h5, h6, h7, h8⟩
    · rw [h1] at hr; simp at hr
    · have hrow := h7 r row hr
      have hrl : r < k.rows.length := (List.getElem?_eq_some_iff.1 hr).1
      have hbig : r * k.size + k.size ≤ cap * k.size := by
        have := Nat.mul_le_mul_right k.size (show r + 1 ≤ cap by omega)
        rwa [Nat.add_mul, Nat.one_mul] at this
      have hul : (((cur.toList.drop (r * k.size + c)).take n)).length = cs.length := by
        simp; omega
      refine ⟨b, (cur.toList.drop (r * k.size + c)).take n, h1, VL.of_get hul fun j x y hx hy => ?_, fun j v hv => ?_⟩
      · have hxr : row[c + j]? = some x := by
          rw [hcs, List.getElem?_take] at hx
          split at hx
          · rwa [List.getElem?_drop] at hx
          · cases hx
        obtain ⟨u, hu, hrep⟩ := h8 r (c + j) row x hr hxr
        have hyu : y = u := by
          rw [List.getElem?_take] at hy
          split at hy
          · rw [List.getElem?_drop] at hy
            have : cur[r * k.size + c + j]? = some y := by simpa using hy
            rw [Nat.add_assoc, hu] at this
            exact (Option.some.inj this).symm
          · cases hy
        subst hyu
        rcases hd with hd | hd | hd | hd
        · rw [hkk] at hd; cases hd
        · rw [hkk] at hd; cases hd
        · rw [hd] at hrep; exact hrep.vr0
        · have : scalarV x = true := List.all_eq_true.1 hd x (List.mem_of_getElem? hx)
          exact (hrep.scalar (G' := G) this).vr0
      · rw [List.getElem?_take] at hv
        split at hv
        · rw [List.getElem?_drop] at hv
          rw [cell_at h2]
          simpa using hv
        · cases hv
  | frz =>
    simp only [hkk] at hb
    rcases hb with ⟨h1, h2⟩ | ⟨b, cur, cap, fz, h1, h1', h2, h3, h4, h5, h6, h7, h8⟩
    · rw [h1] at hr; simp at hr
    · have hrow := h7 r row hr
      have hrl : r < k.rows.length := (List.getElem?_eq_some_iff.1 hr).1
      have hbig : r * k.size + k.size ≤ cap * k.size := by
        have := Nat.mul_le_mul_right k.size (show r + 1 ≤ cap by omega)
        rwa [Nat.add_mul, Nat.one_mul] at this
      have hul : (((cur.toList.drop (r * k.size + c)).take n)).length = cs.length := by
        simp; omega
      refine ⟨b, (cur.toList.drop (r * k.size + c)).take n, h1, VL.of_get hul fun j x y hx hy => ?_, fun j v hv => ?_⟩
      · have hxr : row[c + j]? = some x := by
          rw [hcs, List.getElem?_take] at hx
          split at hx
          · rwa [List.getElem?_drop] at hx
          · cases hx
        obtain ⟨u, hu, hrep⟩ := h8 r (c + j) row x hr hxr
        have hyu : y = u := by
          rw [List.getElem?_take] at hy
          split at hy
          · rw [List.getElem?_drop] at hy
            have : cur[r * k.size + c + j]? = some y := by simpa using hy
            rw [Nat.add_assoc, hu] at this
            exact (Option.some.inj this).symm
          · cases hy
        subst hyu
        exact hrep.vr0
      · rw [List.getElem?_take] at hv
        split at hv
        · rw [List.getElem?_drop] at hv
          rw [cell_at h2]
          simpa using hv
        · cases hv

theorem run_load_cell {a : Addr} {v : Value} (h : w.cell? a = some v) : (load a).run P w = .ok v w := by
  simp [h]

/-- A variable that is read. -/
theorem run_loadVar {t : TypeId} {d : TyD} {cs : List V} {us : List Value} {x : V} {b o : Nat} (ht : tyOf P t = some d) (hlen : cs.length = d.size) (hv : VL (VR0 w E hp G) cs us)
    (hc : ∀ (j : Nat) (v : Value), us[j]? = some v → w.cell? ⟨b, o + j, none⟩ = some v) (hm : mk d.agg cs = some x) :
    ∃ y, (loadVar t ⟨b, o, none⟩).run P w = .ok y w ∧ VR2 w E hp G x y := by
  obtain ⟨hr, hone⟩ := mk_rel hm hv
  have hul := hv.length
  unfold loadVar
  simp only [Sem.run_bind, run_agg ht, Result.andThen_ok]
  cases hg : d.agg with
  | true =>
    simp only [if_true, Sem.run_bind, run_size ht, Result.andThen_ok, Sem.run_pure]
    rw [hg] at hr
    have hl := run_loadCells_list (P := P) w ⟨b, o, none⟩ us (fun j v hj => by
      have : (⟨b, o, none⟩ : Addr).add j = ⟨b, o + j, none⟩ := by unfold Addr.add; split <;> simp_all
      rw [this]; exact hc j v hj)
    rw [← hlen, ← hul, hl]
    exact ⟨_, rfl, hr⟩
  | false =>
    have h1 := hone hg
    subst h1
    rw [hg] at hr
    cases us with
    | nil => exact hv.elim
    | cons u us =>
      refine ⟨u, ?_, by simpa using hr⟩
      simp only [Bool.false_eq_true, if_false]
      exact run_load_cell (by simpa using hc 0 u (by simp))

/-- What an operation of the second kind gives. -/
def MGives (P : Program) (w0 : World) (U A B : Nat → Prop) (E : Env) (G : Nat → Prop) (hp : Hp) (w : World) (op : Op) (ρr : Operand → Value) (x : V) (hp' : Hp) : Prop :=
  ∀ o : Oper, o.op = op → ∃ y w' E' G', (execOp ρr o).run P w = .ok (.value y) w' ∧ HpInv w0 U A E' G' hp' w' ∧ VR2 w' E' hp' G' x y ∧ Ext B E G hp w E' G' hp' w'

theorem mgives_of {op : Op} {x : V} (h : ∃ s : Sem Value, (∀ o : Oper, o.op = op → execOp ρr o = (do pure (Next.value (← s)))) ∧
    ∃ y w' E' G', s.run P w = .ok y w' ∧ HpInv w0 U A E' G' hp' w' ∧ VR2 w' E' hp' G' x y ∧ Ext B E G hp w E' G' hp' w') : MGives P w0 U A B E G hp w op ρr x hp' := by
  obtain ⟨s, hs, y, w', E', G', hy, h1, h2, h3⟩ := h
  intro o ho
  exact ⟨y, w', E', G', by rw [hs o ho]; exact run_v hy, h1, h2, h3⟩

theorem newRow_run (e : TypeId) (c : Array Value) (w : World) : (newRow e c).run P w = .ok ⟨w.heap.size, 0, none⟩ (w.alloc (.cells c e)) := by
  rfl

theorem alloc_new (w : World) (o : Obj) : (w.alloc o).heap[w.heap.size]? = some o := by
  simp only [World.alloc]; rw [Array.getElem?_push]; simp

theorem alloc_size (w : World) (o : Obj) : (w.alloc o).heap.size = w.heap.size + 1 := by simp only [World.alloc]; rw [Array.size_push]

/-- A new box. -/
theorem box_add (hI : HpInv w0 U A E G hp w) (hw : HpWf B hp) {i : Nat} (hi : ¬ B i) {t : TypeId} {cs : List V} {us : Array Value} (h0 : 0 < cs.length) (hB : ∀ x ∈ cs, ∀ j ∈ refs0 x, B j)
    (hl : VL (fun x y => VR0 w E hp G x y ∧ y.oneCell' = true) cs us.toList) :
    ∃ E', HpInv w0 U A E' G (upd hp i (some (boxOf t cs))) (w.alloc (.cells us t)) ∧ VR2 (w.alloc (.cells us t)) E' (upd hp i (some (boxOf t cs))) G (.rf i 0 0) (.pointer (some ⟨w.heap.size, 0, none⟩)) ∧
      Ext B E G hp w E' G (upd hp i (some (boxOf t cs))) (w.alloc (.cells us t)) := by
  have hfr := Fr0.alloc w (.cells us t)
  have hne : ∀ j, B j → j ≠ i := fun j hj he => hi (he ▸ hj)
  obtain ⟨h1, h2⟩ := hI.add hw hi hfr Loose.none (fun _ h => h.elim) (boxOf t cs) (some w.heap.size) (fun _ => False) (by
    intro b hb
    have := Option.some.inj hb
    subst this
    exact ⟨hI.new_free hfr (Nat.le_refl _) (by rw [alloc_size]; omega), fun h => h⟩) (fun b h => h.elim) (by
    unfold BlkRel boxOf
    refine ⟨w.heap.size, cs, us, by simp [upd], alloc_new w _, rfl, rfl, h0, hl.mono fun x hx y hxy => ⟨hxy.1.grow hfr (hI.G_lt Loose.none) (fun _ h => h) fun j hj => ?_, hxy.2⟩⟩
    have := hne j (hB x hx j hj)
    simp only [upd, if_neg this, and_self])
  refine ⟨_, h1, ⟨w.heap.size, 0, rfl, fun k hk => ⟨by simp [upd], by simp⟩⟩, h2⟩

theorem M_load {t : TypeId} {a : Operand} {b : Nat} {x : V} {new : List Blk} (hI : HpInv w0 U A E G hp w) (hρ : ∀ x, VR2 w E hp G (ρ x) (ρr x)) (h : nevM P (.load t a) ρ hp b = some (x, new)) :
    new = [] ∧ ∃ y, (Instr.loadAt t (ρr a)).run P w = .ok y w ∧ VR2 w E hp G x y := by
  simp only [nevM] at h
  split at h
  · rename_i d hd
    have ha := hρ a
    split at h
    · rename_i row c hx
      split at h
      · rename_i x' hb
        have h := Option.some.inj h
        cases h
        refine ⟨rfl, ?_⟩
        rw [hx] at ha
        obtain ⟨bb, off, f, hg, hy, hrel⟩ := ha
        cases hseg : seg row c d.size with
        | none => simp [hseg] at hb
        | some cs =>
          rw [hseg, Option.bind_some] at hb
          obtain ⟨hcs, hle, hlen⟩ := seg_some hseg
          have hv : VL (VR0 w E hp G) cs ((List.range d.size).map fun j => f (c + j)) := VL.of_get (by simp [hlen]) fun j q r hq hr => by
            rw [hcs, List.getElem?_take] at hq
            split at hq
            · rename_i hj
              rw [List.getElem?_drop] at hq
              have : r = f (c + j) := by simp [hj] at hr; exact hr.symm
              rw [this]
              exact (hrel _ _ hq).2.vr0
            · cases hq
          obtain ⟨y, hy1, hy2⟩ := run_loadVar (b := bb) (o := off + c) hd hlen hv (fun j v hj => by
            have hjl : j < d.size := by have := (List.getElem?_eq_some_iff.1 hj).1; simpa using this
            have hjv : v = f (c + j) := by simp [hjl] at hj; exact hj.symm
            have hlt : c + j < row.length := by omega
            rw [Nat.add_assoc, (hrel (c + j) _ (List.getElem?_eq_getElem hlt)).1, hjv]) hb
          refine ⟨y, ?_, hy2⟩
          unfold Instr.loadAt
          rw [hy]
          simp only [Instr.sureAddr, Sem.run_bind, Sem.run_pure, Result.andThen_ok]
          exact hy1
      · cases h
    · rename_i id r c hx
      split at h
      · rename_i k hk
        split at h
        · rename_i row hr
          split at h
          · rename_i cs hseg
            split at h
            · rename_i hc
              split at h
              · rename_i x' hm
                have h := Option.some.inj h
                cases h
                refine ⟨rfl, ?_⟩
                rw [hx] at ha
                obtain ⟨bb, off, hy, hrel⟩ := ha
                obtain ⟨h1, h2⟩ := hrel k hk
                obtain ⟨b', us, hb', hv, hcell⟩ := cells_of hI hk hr hseg (by
                  simp only [Bool.or_eq_true, Bool.not_eq_true', decide_eq_true_eq] at hc
                  rcases hc with (hc | hc) | hc
                  · exact .inl hc
                  · exact .inr (.inr (.inl hc))
                  · exact .inr (.inr (.inr hc)))
                rw [h1] at hb'
                cases hb'
                obtain ⟨y, hy1, hy2⟩ := run_loadVar (b := bb) (o := off) hd (seg_some hseg).2.2 hv (fun j v hj => by rw [h2]; exact hcell j v hj) hm
                refine ⟨y, ?_, hy2⟩
                unfold Instr.loadAt
                rw [hy]
                simp only [Instr.sureAddr, Sem.run_bind, Sem.run_pure, Result.andThen_ok]
                exact hy1
              · cases h
            · cases h
          · cases h
        · cases h
      · cases h
    · cases h
  · cases h

theorem refs_flat {x : V} {c : V} {j : Nat} (hc : c ∈ flat x) (hj : j ∈ refs0 c) (hk : (flat x).all okCell = true) : j ∈ refs2 x := by
  cases x with
  | agg cs => exact List.mem_flatMap.2 ⟨c, hc, hj⟩
  | tup vs => simp [flat, okCell] at hk
  | cl f caps =>
    simp only [flat, List.mem_singleton] at hc
    subst hc
    simp [refs0] at hj
  | _ =>
    simp only [flat, List.mem_singleton] at hc
    subst hc
    exact hj

theorem bytes_rows : ∀ {rows : List (List V)} {bs : List UInt8}, bytesOfRows rows = some bs → bs.length = rows.length ∧ ∀ (i : Nat) (row : List V), rows[i]? = some row → ∃ n, row = [.v (.int .u8 n)] ∧ bs[i]? = some (UInt8.ofNat n.toNat)
  | [], bs, h => by simp [bytesOfRows] at h; subst h; exact ⟨rfl, fun i row hi => by simp at hi⟩
  | r :: l, bs, h => by
    simp only [bytesOfRows] at h
    split at h
    · rename_i b bs' hb hbs
      have h := Option.some.inj h
      subst h
      obtain ⟨h1, h2⟩ := bytes_rows hbs
      refine ⟨by simp [h1], fun i row hi => ?_⟩
      cases i with
      | zero =>
        simp at hi
        subst hi
        unfold byteOfRow at hb
        split at hb
        · rename_i n
          exact ⟨n, rfl, by simp; exact (Option.some.inj hb).symm⟩
        · cases hb
      | succ i => simpa using h2 i row (by simpa using hi)
    · cases h

theorem foldl_push : ∀ (ns : List Int) (s : ByteArray), ns.foldl (fun r n => r.push (UInt8.ofNat n.toNat)) s = ⟨(s.data.toList ++ ns.map fun n => UInt8.ofNat n.toNat).toArray⟩
  | [], s => by simp
  | n :: ns, s => by
    simp only [List.foldl_cons, foldl_push ns, List.map_cons]
    congr 1
    apply Array.ext'
    simp [ByteArray.push]

/-- Bytes read as a string. -/
theorem run_toString {a : Option Addr} {cap : Nat} {rows : List (List V)} {bs : List UInt8} (hb : bytesOfRows rows = some bs)
    (hc : rows = [] ∨ ∃ b o, a = some ⟨b, o, none⟩ ∧ ∀ (i : Nat) (n : Int), rows[i]? = some [.v (.int .u8 n)] → w.cell? ⟨b, o + i, none⟩ = some (.int .u8 n)) :
    (Conv.bytesToString (.slice a rows.length cap)).run P w = .ok (.string ⟨bs.toArray⟩) w := by
  obtain ⟨hlen, hget⟩ := bytes_rows hb
  have hns : ∃ ns : List Int, ns.length = rows.length ∧ (∀ (i : Nat) (n : Int), ns[i]? = some n → rows[i]? = some [.v (.int .u8 n)]) ∧ ns.map (fun n => UInt8.ofNat n.toNat) = bs := by
    clear hc
    induction rows generalizing bs with
    | nil => exact ⟨[], rfl, fun i n h => by simp at h, by simp [bytesOfRows] at hb; simp [hb]⟩
    | cons r l ih =>
      simp only [bytesOfRows] at hb
      split at hb
      · rename_i b bs' hb1 hb2
        have h := Option.some.inj hb
        subst h
        obtain ⟨h1, h2⟩ := bytes_rows hb2
        obtain ⟨ns, hn1, hn2, hn3⟩ := ih hb2 h1 h2
        unfold byteOfRow at hb1
        split at hb1
        · rename_i n
          refine ⟨n :: ns, by simp [hn1], fun i m hi => ?_, by simp [hn3]; exact Option.some.inj hb1⟩
          cases i with
          | zero => simp at hi; subst hi; simp
          | succ i => simpa using hn2 i m (by simpa using hi)
        · cases hb1
      · cases hb
  obtain ⟨ns, hn1, hn2, hn3⟩ := hns
  rcases hc with h0 | ⟨b, o, ha, hcell⟩
  · subst h0
    have hb0 : bs = [] := by simp [bytesOfRows] at hb; exact hb
    subst hb0
    cases a with
    | none => rfl
    | some a =>
      exact run_bytesToString (P := P) w a 0 cap [] (by rfl)
  · subst ha
    have hl : (loadCells ⟨b, o, none⟩ rows.length).run P w = .ok (ns.map (Value.int .u8)).toArray w := by
      have := run_loadCells_list (P := P) w ⟨b, o, none⟩ (ns.map (Value.int .u8)) (fun j v hj => by
        have hadd : (⟨b, o, none⟩ : Addr).add j = ⟨b, o + j, none⟩ := by unfold Addr.add; split <;> simp_all
        rw [hadd]
        simp only [List.getElem?_map, Option.map_eq_some_iff] at hj
        obtain ⟨n, hn, hv⟩ := hj
        rw [← hv]
        exact hcell j n (hn2 j n hn))
      simpa [hn1] using this
    rw [run_bytesToString (P := P) w _ _ cap ns hl, foldl_push, hn3]
    rfl

theorem str_bytes {t : TypeId} (h : isBytes P t = true) : ∃ e, P.underlying t = some (.slice e) ∧ P.underlying e = some (.int .u8) := by
  unfold isBytes at h
  split at h
  · rename_i e he
    split at h
    · rename_i d hd
      refine ⟨e, elem_under he, ?_⟩
      obtain ⟨i, u, z, _, hu, _, h0, _, _, rfl⟩ := tyOf_some hd
      rw [hu]
      cases u <;> simp [intD] at h
      rw [h]
    · cases h
  · cases h

theorem run_convert_bytes {s d : TypeId} (hs : isBytes P s = true) (hd : isStr P d = true) {a : Option Addr} {n cap : Nat} {y : Value} (h : (Conv.bytesToString (.slice a n cap)).run P w = .ok y w) :
    (convert s d (.slice a n cap)).run P w = .ok y w := by
  obtain ⟨e, h1, h2⟩ := str_bytes hs
  unfold convert
  simp only [Sem.run_bind, run_underlying h1, run_underlying (str_under hd), Result.andThen_ok]
  simp only [Sem.run_bind, run_underlying h2, Result.andThen_ok]
  exact h

/-- The rows of a slice of ours, in memory. -/
theorem rows_at (hI : HpInv w0 U A E G hp w) {id lo n : Nat} {k : Blk} {y : Value} (hy : VR2 w E hp G (.ar id lo n) y) (hk : hp id = some k) :
    ∃ a cap, y = .slice a n cap ∧ n ≤ cap ∧ lo + n ≤ k.rows.length ∧ (n = 0 ∨ ∃ b cur ty fz, a = some ⟨b, lo * k.size, none⟩ ∧ E.m id = some b ∧ w.heap[b]? = some (.cells cur ty fz) ∧ cap ≤ maxLen ∧ 0 < k.size ∧
      (∀ (i : Nat) (row : List V), k.rows[i]? = some row → row.length = k.size) ∧
      ∀ (i j : Nat) (row : List V) (x : V), k.rows[i]? = some row → row[j]? = some x → ∃ u, cur[i * k.size + j]? = some u ∧ Rep w (if k.kind = .arr ∧ k.deep = true then E.N id else G) x u) := by
  obtain ⟨a, cap, hy, hrel⟩ := hy
  obtain ⟨h1, h2, h3⟩ := hrel k hk
  have hb := hI.blk id k hk
  rcases h3 with ⟨h3, h4⟩ | ⟨b, cur, ty, fz, hm, ha, hn, hh, hs⟩
  · exact ⟨a, cap, hy, by omega, h2, .inl h3⟩
  · refine ⟨a, cap, hy, hn, h2, ?_⟩
    by_cases h0 : n = 0
    · exact .inl h0
    right
    unfold BlkRel at hb
    cases hkk : k.kind with
    | box => exact absurd hkk h1
    | arr =>
      simp only [hkk] at hb
      rcases hb with ⟨q1, q2⟩ | ⟨b', cur', cap', q1, q2, q3, q4, q5, q6, q7, q8⟩
      · rw [q1] at h2; simp at h2; omega
      · rw [hm] at q1
        cases q1
        rw [hh] at q2
        cases q2
        refine ⟨b, cur, _, _, ha, hm, hh, ?_, q3, q7, fun i j row x hi hj => ?_⟩
        · have : (lo + cap) * k.size = cap' * k.size := by rw [← hs, q4]
          have := Nat.eq_of_mul_eq_mul_right q3 this
          omega
        · obtain ⟨u, hu, hr⟩ := q8 i j row x hi hj
          refine ⟨u, hu, ?_⟩
          cases hd : k.deep <;> simp [hd] at hr ⊢ <;> exact hr
    | frz =>
      simp only [hkk] at hb
      rcases hb with ⟨q1, q2⟩ | ⟨b', cur', cap', fz', q1, q1', q2, q3, q4, q5, q6, q7, q8⟩
      · rw [q1] at h2; simp at h2; omega
      · rw [hm] at q1
        cases q1
        rw [hh] at q2
        cases q2
        refine ⟨b, cur, _, _, ha, hm, hh, ?_, q3, q7, fun i j row x hi hj => ?_⟩
        · have : (lo + cap) * k.size = cap' * k.size := by rw [← hs, q4]
          have := Nat.eq_of_mul_eq_mul_right q3 this
          omega
        · obtain ⟨u, hu, hr⟩ := q8 i j row x hi hj
          refine ⟨u, hu, ?_⟩
          simpa using hr

/-- What the arguments bear, and what is new. -/
structure MCtx (P : Program) (w0 : World) (U A B : Nat → Prop) (E : Env) (G : Nat → Prop) (hp : Hp) (w : World) (ρ : Operand → V) (ρr : Operand → Value) (b : Nat) : Prop where
  inv : HpInv w0 U A E G hp w
  wf : HpWf B hp
  rel : ∀ x, VR2 w E hp G (ρ x) (ρr x)
  ids : ∀ x, ∀ id ∈ refs2 (ρ x), B id
  new : ∀ j, j < 16 → ¬ B (b + j)

theorem MGives.same {op : Op} {x : V} {b : Nat} (c : MCtx P w0 U A B E G hp w ρ ρr b) (h : Gives P w E hp G op ρr x) : MGives P w0 U A B E G hp w op ρr x hp := by
  intro o ho
  obtain ⟨y, h1, h2⟩ := h o ho
  exact ⟨y, w, E, G, h1, c.inv, h2, Ext.refl _ _ _ _ _⟩

theorem M_alloc {t : TypeId} {x : V} {b : Nat} {new : List Blk} (c : MCtx P w0 U A B E G hp w ρ ρr b) (h : nevM P (.alloc t) ρ hp b = some (x, new)) : MGives P w0 U A B E G hp w (.alloc t) ρr x (inst hp b new) := by
  simp only [nevM] at h
  split at h
  · rename_i d hd
    have h := Option.some.inj h
    cases h
    obtain ⟨z, hz, hzl, hzs⟩ := zero_run (w := w) (E := E) (hp := hp) (G := G) hd
    have hp := tyOf_pos hd
    have hlen : d.zero.length = d.size := by have := hzl.length; simp at this; omega
    obtain ⟨E', h1, h2, h3⟩ := box_add (us := z.cells) (t := t) c.inv c.wf (c.new 0 (by omega)) (by omega) (by
      intro x hx j hj
      exfalso
      obtain ⟨i, u, z', _, _, _, _, _, _, rfl⟩ := tyOf_some hd
      simp only [List.mem_map] at hx
      obtain ⟨cc, _, hcc⟩ := hx
      subst hcc
      unfold ofCell at hj
      split at hj
      · simp [refs0] at hj
      · split at hj <;> simp [refs0] at hj) hzl
    refine mgives_of ⟨_, fun o ho => by simp only [execOp, ho] <;> rfl, .pointer (some ⟨w.heap.size, 0, none⟩), _, E', G, ?_, h1, h2, h3⟩
    unfold Instr.alloc
    simp only [Sem.run_bind, hz, Result.andThen_ok, newVar, newRow_run, Sem.run_pure]
  · cases h

theorem M_box {t : TypeId} {a : Operand} {x : V} {b : Nat} {new : List Blk} (c : MCtx P w0 U A B E G hp w ρ ρr b) (h : nevM P (.box t a) ρ hp b = some (x, new)) : MGives P w0 U A B E G hp w (.box t a) ρr x (inst hp b new) := by
  simp only [nevM] at h
  split at h
  · rename_i d hd
    split at h
    · rename_i hc
      simp only [Bool.and_eq_true, decide_eq_true_eq] at hc
      have h := Option.some.inj h
      cases h
      have hl := flat_cells (c.rel a) hc.2
      have hones := VL.ones hc.2 hl
      obtain ⟨E', h1, h2, h3⟩ := box_add (us := (ρr a).cells) (t := t) c.inv c.wf (c.new 0 (by omega)) (by have := tyOf_pos hd; omega) (by
        intro x hx j hj
        exact c.ids a j (refs_flat hx hj hc.2)) (VL.of_get hl.length fun j x y hx hy => by
          obtain ⟨y', hy', hr⟩ := hl.get j x hx
          rw [hy] at hy'
          cases hy'
          exact ⟨hr, hones y (List.mem_of_getElem? hy)⟩)
      refine mgives_of ⟨_, fun o ho => by simp only [execOp, ho] <;> rfl, .pointer (some ⟨w.heap.size, 0, none⟩), _, E', G, ?_, h1, h2, h3⟩
      unfold Instr.box
      simp only [Sem.run_bind, Result.andThen_ok, newVar, newRow_run, Sem.run_pure]
    · cases h
  · cases h

theorem M_index {t : TypeId} {a i : Operand} {x : V} {b : Nat} {new : List Blk} (c : MCtx P w0 U A B E G hp w ρ ρr b) (h : nevM P (.indexAddr t a i) ρ hp b = some (x, new)) : MGives P w0 U A B E G hp w (.indexAddr t a i) ρr x (inst hp b new) := by
  simp only [nevM] at h
  split at h
  · rename_i id lo n kk j ha hi
    split at h
    · rename_i e he
      split at h
      · rename_i d k hd hk
        split at h
        · rename_i hc
          obtain ⟨hsz, hj0, hjn⟩ := hc
          have h := Option.some.inj h
          cases h
          have h1 := c.rel a
          have h2 := c.rel i
          rw [ha] at h1
          rw [hi] at h2
          obtain ⟨ad, cap, hy, hcap, hle, hor⟩ := rows_at c.inv h1 hk
          rcases hor with h0 | ⟨bb, cur, ty, fz, had, hm, hh, hmax, hpos, hrows, hcells⟩
          · omega
          · refine MGives.same (x := .rf id (lo + j.toNat) 0) c (gives_of ⟨_, fun o ho => by simp only [execOp, ho] <;> rfl, ?_⟩)
            rw [hy, (vr2_v h2).1, had]
            refine ⟨.pointer (some ⟨bb, lo * k.size + j.toNat * d.size, none⟩), ?_, bb, _, rfl, fun k' hk' => ?_⟩
            · unfold Instr.indexAt
              simp only [asIntOf, Sem.run_bind, Sem.run_pure, Result.andThen_ok, run_underlying (elem_under he)]
              rw [if_pos ⟨hj0, by omega⟩]
              simp only [Sem.run_bind, run_size hd, Result.andThen_ok, Sem.run_pure]
              unfold Addr.add
              split <;> simp_all
            · rw [hk] at hk'
              cases hk'
              refine ⟨hm, ?_⟩
              rw [← hsz, ← Nat.add_mul]; omega
        · cases h
      · cases h
    · cases h
  · cases h

theorem made_get (z : Array Value) (m i j : Nat) (hz : 0 < z.size) (hj : j < z.size) (hi : i < m) : (madeCells z (m * z.size))[i * z.size + j]? = some (z[j]'hj) := by
  have hlt : i * z.size + j < m * z.size := by
    have := Nat.mul_le_mul_right z.size (show i + 1 ≤ m by omega)
    rw [Nat.add_mul, Nat.one_mul] at this
    omega
  simp only [madeCells, Array.getElem?_map]
  rw [Array.getElem?_range]
  rw [if_pos hlt]
  simp only [Option.map_some]
  have : (i * z.size + j) % z.size = j := by
    rw [Nat.add_comm, Nat.add_mul_mod_self_right, Nat.mod_eq_of_lt hj]
  rw [this]
  simp [hj]

theorem M_make {t : TypeId} {l m : Operand} {x : V} {b : Nat} {new : List Blk} (c : MCtx P w0 U A B E G hp w ρ ρr b) (h : nevM P (.makeSlice t l m) ρ hp b = some (x, new)) : MGives P w0 U A B E G hp w (.makeSlice t l m) ρr x (inst hp b new) := by
  simp only [nevM] at h
  split at h
  · rename_i k1 n k2 q e hl hm he
    split at h
    · rename_i d hd
      split at h
      · rename_i hc
        obtain ⟨h0, hnm, hb1, hb2, hz⟩ := hc
        have h := Option.some.inj h
        cases h
        have h1 := c.rel l
        have h2 := c.rel m
        rw [hl] at h1
        rw [hm] at h2
        obtain ⟨i, u, z, hi, hu, hzz, hs0, hzs, hone, hdd⟩ := tyOf_some hd
        have hds : d.size = i.size := by rw [hdd]
        have hdb : d.bytes = i.bytes := by rw [hdd]
        have hdz : d.zero = z.cells.toList.map ofCell := by rw [hdd]
        have hpos := tyOf_pos hd
        have hqs : q.toNat ≤ q.toNat * d.size := Nat.le_mul_of_pos_right _ hpos
        have hq63 : q ≤ 9223372036854775807 := by unfold maxBytes at hb2; omega
        have hby : (i.bytes : Int) * q ≤ 281474976710656 := by
          have : ((i.bytes * q.toNat : Nat) : Int) ≤ 281474976710656 := by rw [Nat.mul_comm, ← hdb]; unfold maxBytes at hb1; omega
          rw [Int.natCast_mul] at this
          have hq : ((q.toNat : Nat) : Int) = q := by omega
          rwa [hq] at this
        have hrun := run_make (P := P) w t e i z (elem_under he) hi hzz k1 k2 n q h0 hnm hby hq63
        have hfr := Fr0.alloc w (.cells (madeCells z.cells (q.toNat * i.size)) e)
        have hzlen : d.zero.length = d.size := by rw [hdz]; simp; omega
        obtain ⟨g1, g2⟩ := c.inv.add c.wf (c.new 0 (by omega)) hfr Loose.none (fun _ h => h.elim) (arrOf e d.size true (List.replicate n.toNat d.zero)) (some w.heap.size) (fun _ => False) (by
          intro b hb
          have := Option.some.inj hb
          subst this
          exact ⟨c.inv.new_free hfr (Nat.le_refl _) (by rw [alloc_size]; omega), fun h => h⟩) (fun b h => h.elim) (by
          unfold BlkRel arrOf
          refine .inr ⟨w.heap.size, madeCells z.cells (q.toNat * i.size), q.toNat, by simp [upd], alloc_new w _, hpos, by rw [size_madeCells, hds], by simp only [maxLen]; omega, by simp; omega, ?_, ?_⟩
          · intro i' row hrow
            rw [List.getElem?_replicate] at hrow
            split at hrow
            · cases hrow; exact hzlen
            · cases hrow
          · intro i' j row x hrow hx
            rw [List.getElem?_replicate] at hrow
            split at hrow
            · rename_i hi'
              cases hrow
              have hj : j < z.cells.size := by have := (List.getElem?_eq_some_iff.1 hx).1; omega
              refine ⟨z.cells[j], ?_, ?_⟩
              · have := made_get z.cells q.toNat i' j (by omega) hj (by omega)
                rw [hzs] at this
                rw [hds]; exact this
              · have hxz : x = ofCell (z.cells[j]'hj) := by
                  rw [hdz] at hx
                  simp [hj] at hx
                  exact hx.symm
                have hsx : scalarV x = true := List.all_eq_true.1 hz x (List.mem_of_getElem? hx)
                have hrel := ofCell_rel (w := w.alloc (.cells (madeCells z.cells (q.toNat * i.size)) e)) (E := E) (hp := hp) (G := fun _ => False) (z.cells[j]'hj)
                rw [← hxz] at hrel
                simp only [if_true, upd]
                cases x with
                | v a => exact Rep.scalar rfl hrel
                | em => exact Rep.scalar rfl hrel
                | _ => simp [scalarV] at hsx
            · cases hrow)
        refine mgives_of ⟨_, fun o ho => by simp only [execOp, ho] <;> rfl, .slice (some ⟨w.heap.size, 0, none⟩) n.toNat q.toNat, _, _, G, ?_, g1, ?_, g2⟩
        · rw [(vr2_v h1).1, (vr2_v h2).1]
          exact hrun
        · refine ⟨_, _, rfl, fun k hk => ?_⟩
          simp only [inst, upd, if_true, Option.some.injEq] at hk
          subst hk
          refine ⟨by simp [arrOf], by simp [arrOf], .inr ⟨w.heap.size, _, _, _, by simp [upd], by simp, by omega, alloc_new w _, ?_⟩⟩
          rw [size_madeCells]; simp [arrOf, hds]
      · cases h
    · cases h
  · cases h

theorem M_convert {s d : TypeId} {a : Operand} {x : V} {b : Nat} {new : List Blk} (c : MCtx P w0 U A B E G hp w ρ ρr b) (h : nevM P (.convert s d a) ρ hp b = some (x, new)) : MGives P w0 U A B E G hp w (.convert s d a) ρr x (inst hp b new) := by
  simp only [nevM] at h
  have h1 := c.rel a
  split at h
  · rename_i rows ha
    split at h
    · rename_i hc
      simp only [Bool.and_eq_true] at hc
      split at h
      · rename_i bs hbs
        have h := Option.some.inj h
        cases h
        rw [ha] at h1
        refine MGives.same (x := .v (.string ⟨bs.toArray⟩)) c (gives_of ⟨_, fun o ho => by simp only [execOp, ho] <;> rfl, .string ⟨bs.toArray⟩, ?_, Rep.v _ rfl⟩)
        have h1 : Rep w G (.im rows) (ρr a) := h1
        generalize ρr a = y at h1
        cases h1 with
        | im0 ad cap => exact run_convert_bytes hc.1 hc.2 (run_toString (rows := []) hbs (.inl rfl))
        | im bb off cap size rows f hb h0 hr hcp hl hcell hrep =>
          refine run_convert_bytes hc.1 hc.2 (run_toString hbs (.inr ⟨bb, off, rfl, fun i n hi => ?_⟩))
          have hsz : size = 1 := by have := hl i _ hi; simpa using this.symm
          have := hcell i 0 _ (.v (.int .u8 n)) hi (by simp)
          have hv := hrep i 0 _ (.v (.int .u8 n)) hi (by simp)
          rw [(rep_v hv).1, hsz] at this
          simpa using this
      · cases h
    · cases h
  · rename_i id lo n ha
    split at h
    · rename_i k hk
      split at h
      · rename_i hc
        simp only [Bool.and_eq_true, decide_eq_true_eq, ne_eq] at hc
        split at h
        · rename_i bs hbs
          have h := Option.some.inj h
          cases h
          rw [ha] at h1
          refine MGives.same (x := .v (.string ⟨bs.toArray⟩)) c (gives_of ⟨_, fun o ho => by simp only [execOp, ho] <;> rfl, .string ⟨bs.toArray⟩, ?_, Rep.v _ rfl⟩)
          obtain ⟨ad, cap, hy, hcap, hle, hor⟩ := rows_at c.inv h1 hk
          rw [hy]
          have hlen : ((k.rows.take (lo + n)).drop lo).length = n := by simp; omega
          rcases hor with h0 | ⟨bb, cur, ty, fz, had, hm, hh, hmax, hpos, hrows, hcells⟩
          · subst h0
            have := run_convert_bytes (w := w) hc.2.1 hc.2.2 (run_toString (a := ad) (cap := cap) hbs (.inl (by simp)))
            rw [hlen] at this
            exact this
          · have := run_convert_bytes (w := w) hc.2.1 hc.2.2 (run_toString (a := ad) (cap := cap) hbs (.inr ⟨bb, lo * k.size, had, fun i v hi => by
              have hi' : k.rows[lo + i]? = some [.v (.int .u8 v)] := by
                rw [List.getElem?_drop, List.getElem?_take] at hi
                split at hi
                · exact hi
                · cases hi
              have hsz : k.size = 1 := by have := hrows _ _ hi'; simpa using this.symm
              obtain ⟨u, hu, hr⟩ := hcells _ 0 _ (.v (.int .u8 v)) hi' (by simp)
              rw [cell_at hh, (rep_v hr).1.symm]
              rw [hsz] at hu ⊢
              simpa using hu⟩))
            rw [hlen] at this
            exact this
        · cases h
      · cases h
    · cases h
  · rename_i str ha
    split at h
    · rename_i hc
      simp only [Bool.and_eq_true, decide_eq_true_eq] at hc
      have h := Option.some.inj h
      cases h
      rw [ha] at h1
      obtain ⟨e, he1, he2⟩ := str_bytes hc.1.2
      have hrun := Lib.run_convert_string_bytes (P := P) w s d e str (str_under hc.1.1) he1 he2
      have hfr : Fr0 w (Lib.bytesWorld w e str) := .mk' rfl rfl rfl (by rw [Lib.bytesWorld_size]; omega) (fun b hb _ => Lib.bytesWorld_at_old w e str b hb) (fun b _ _ _ h _ => h.elim)
      obtain ⟨g1, g2⟩ := c.inv.grow (B := B) (G' := fun b => G b ∨ b = w.heap.size) hfr Loose.none (fun _ h => h.elim) (fun b hb => .inl hb) (fun b hb => hb.imp (fun h => h) (fun h => by subst h; exact c.inv.new_free hfr (Nat.le_refl _) (by rw [Lib.bytesWorld_size]; omega)))
      refine mgives_of ⟨_, fun o ho => by simp only [execOp, ho] <;> rfl, _, _, E, _, by rw [(vr2_v h1).1]; exact hrun, g1, ?_, g2⟩
      have hlen : (u8rows str).length = str.size := by simp [u8rows]
      have hcapm : grownCap w str.size 0 e ≤ maxLen := by
        have : str.size ≤ maxLen := by have := hc.2; unfold maxBytes at this; simp only [maxLen]; omega
        exact grownCap_le_maxLen w str.size 0 e this
      have hrep : Rep (Lib.bytesWorld w e str) (fun b => G b ∨ b = w.heap.size) (.im (u8rows str)) (.slice (some ⟨w.heap.size, 0, none⟩) (u8rows str).length (grownCap w str.size 0 e)) :=
        .im w.heap.size 0 _ 1 (u8rows str) (fun i _ => .int .u8 (str.data.toList.getD i 0).toNat) (.inr rfl) (by omega) (by rw [hlen]; exact grownCap_ge w str.size 0 e) hcapm
          (fun i row hi => by
            simp only [u8rows, List.getElem?_map, Option.map_eq_some_iff] at hi
            obtain ⟨q, _, rfl⟩ := hi
            rfl)
          (fun i j row x hi hj => by
            have hil : i < str.size := by rw [← hlen]; exact (List.getElem?_eq_some_iff.1 hi).1
            simp only [u8rows, List.getElem?_map, Option.map_eq_some_iff] at hi
            obtain ⟨q, hq, rfl⟩ := hi
            have hj0 : j = 0 := by have := (List.getElem?_eq_some_iff.1 hj).1; simp at this; exact this
            subst hj0
            rw [show 0 + i * 1 + 0 = i by omega]
            exact Lib.bytesWorld_cell w e str i hil)
          (fun i j row x hi hj => by
            simp only [u8rows, List.getElem?_map, Option.map_eq_some_iff] at hi
            obtain ⟨q, hq, rfl⟩ := hi
            have hj0 : j = 0 := by have := (List.getElem?_eq_some_iff.1 hj).1; simp at this; exact this
            subst hj0
            simp at hj
            subst hj
            have : str.data.toList.getD i 0 = q := by simp only [List.getD, hq, Option.getD_some]
            rw [this]
            exact .v _ rfl)
      rw [hlen] at hrep
      exact hrep
    · cases h
  · rename_i ha
    split at h
    · rename_i hc
      simp only [Bool.and_eq_true] at hc
      have h := Option.some.inj h
      cases h
      rw [ha] at h1
      refine MGives.same (x := .v (.string ⟨#[]⟩)) c (gives_of ⟨_, fun o ho => by simp only [execOp, ho] <;> rfl, .string ⟨#[]⟩, ?_, Rep.v _ rfl⟩)
      obtain ⟨ad, hy⟩ := vr2_em h1
      rw [hy]
      exact run_convert_bytes hc.1 hc.2 (run_toString (rows := []) (bs := []) rfl (.inl rfl))
    · cases h
  · cases h

theorem M_ok {op : Op} {x : V} {b : Nat} {new : List Blk} (c : MCtx P w0 U A B E G hp w ρ ρr b) (h : nevM P op ρ hp b = some (x, new)) : MGives P w0 U A B E G hp w op ρr x (inst hp b new) := by
  cases op with
  | alloc t => exact M_alloc c h
  | box t a => exact M_box c h
  | load t a =>
    obtain ⟨rfl, y, h1, h2⟩ := M_load c.inv c.rel h
    exact MGives.same c (gives_of ⟨_, fun o ho => by simp only [execOp, ho] <;> rfl, y, h1, h2⟩)
  | indexAddr t a i => exact M_index c h
  | makeSlice t l m => exact M_make c h
  | convert s d a => exact M_convert c h
  | _ => simp [nevM] at h

end Go.Proofs.Ytcmihlhmeonmfaa.Ev
