/- An append to a row of ours: what it does in memory is what the evaluator says. -/
import Derived.Test.YtcmihlhmeonmfaaEv13
namespace Go.Proofs.Ytcmihlhmeonmfaa.Ev
open Go
set_option linter.unusedVariables false
set_option linter.unusedSimpArgs false

variable {P : Program} {w w' w0 : World} {E E' : Env} {hp hp' : Hp} {G G' U A W F S : Nat → Prop} {B : Nat → Prop} {ρ : Operand → V} {ρr : Operand → Value}

theorem append_own {s x : Operand} {t : TypeId} {d : TyD} {b : Nat} {o : Oper} {a : Act} (c : MCtx P w0 U A B E G hp w ρ a.eval b) (ho : o.op = .call { callee := .builtin .append, args := #[s, x], argTypes := #[t, t] })
    {id n : Nat} {k : Blk} (hs : ρ s = .ar id 0 n) (hk : hp id = some k) (hkk : k.kind = .arr) (hks : k.size = d.size)
    (he : (tyOf P t).bind (·.elem) = some k.ty) (hd : tyOf P k.ty = some d) {rows : List (List V)} {kills : List Nat} {deep : Bool} (hsrc : SrcRel w E hp G d.size rows kills deep (a.eval x))
    (hb1 : (n + rows.length) * d.bytes ≤ maxBytes) (hb2 : (n + rows.length) * d.size ≤ maxBytes) (hrl : ∀ r ∈ rows, r.length = d.size) (hnd : nodupB (id :: kills) = true) :
    StepsTo P w0 U A B E G hp w o a (.ar b 0 (n + rows.length)) (upd (kill hp (id :: kills)) b (some (arrOf k.ty d.size (k.deep && deep) (k.rows.take n ++ rows)))) := by
  obtain ⟨i, u, z, hi, hu, hz, hs0, hzs, hone, hdd⟩ := tyOf_some hd
  have hds : d.size = i.size := by rw [hdd]
  have hdb : d.bytes = i.bytes := by rw [hdd]
  have hpos := tyOf_pos hd
  have ht := elem_under he
  have hlv : liveB k = true := by simp [liveB, hkk]
  have hidk : id ∉ kills := nodupB_cons hnd
  have hsv := c.rel s
  rw [hs] at hsv
  obtain ⟨sa, cap, hsy, hncap, hnrows, hown, hlens⟩ := own_at c.inv hsv hk hkk
  rcases hown with ⟨hn0, hc0⟩ | ⟨nb, cur, hsa, hm, hh, hcm, hcs, hcells⟩
  · -- nothing lies there
    subst hn0
    subst hc0
    have hb1' : rows.length * d.bytes ≤ maxBytes := by simpa using hb1
    have hb2' : rows.length * d.size ≤ maxBytes := by simpa using hb2
    have hsrc' : SrcRel w E hp G d.size rows kills (k.deep && deep) (a.eval x) := ⟨hsrc.ids, fun h => by
      obtain ⟨xa, xc, h1, h2⟩ := hsrc.rel h
      refine ⟨xa, xc, h1, h2.imp (fun h => h) ?_⟩
      rintro ⟨ad, news, q1, q2, q3, q4, q5⟩
      refine ⟨ad, news, q1, q2, q3, q4, fun i j row x hi hj => ?_⟩
      obtain ⟨u, hu, hr⟩ := q5 i j row x hi hj
      exact ⟨u, hu, hr.mono fun y hy => hy.imp (fun h => ⟨by simp [h.1], h.2⟩) (fun h => h)⟩⟩
    have := append_new (extra := [id]) c ho he hd hsrc' hb1' hb2' hrl hsy
    simpa using this
  · obtain ⟨xa, xc, hx, hor⟩ := hsrc.rel hrl
    have hHeld : ∀ y, Held E hp kills y → Held E hp (id :: kills) y := fun y ⟨j, h1, h2⟩ => ⟨j, by simp [h1], h2⟩
    have hNheld : ∀ y, E.N id y → Held E hp (id :: kills) y := fun y hy => ⟨id, by simp, k, hk, hlv, .inr hy⟩
    have hnbheld : Held E hp (id :: kills) nb := ⟨id, by simp, k, hk, hlv, .inl hm⟩
    have hNnb : ∀ y, E.N id y → y ≠ nb := fun y hy he => c.inv.self id k nb hk hlv hm (he ▸ hy)
    have hGnb : ∀ y, G y → y ≠ nb := fun y hg he => c.inv.g2 y hg (he ▸ ⟨id, k, hk, hlv, .inl hm⟩)
    have hHnb : ∀ y, Held E hp kills y → y ≠ nb := by
      rintro y ⟨j, hj, kj, hkj, hlj, hoj⟩ he
      subst he
      have := c.inv.dis j kj id k hkj hlj hk hlv y hoj (.inl hm)
      exact hidk (this ▸ hj)
    let F : Nat → Prop := fun y => (((k.deep && deep) = false ∧ G y) ∨ Held E hp (id :: kills) y) ∧ y ≠ nb
    have hold : ∀ (i j : Nat) (row : List V) (x : V), (k.rows.take n)[i]? = some row → row[j]? = some x → ∃ u, cur[i * d.size + j]? = some u ∧ Rep w F x u := by
      intro i j row x hi hj
      obtain ⟨u, hu, hr⟩ := hcells i j row x hi hj
      rw [← hks]
      refine ⟨u, hu, hr.mono fun y hy => ?_⟩
      cases hkd : k.deep with
      | true => rw [hkd, if_pos rfl] at hy; exact ⟨.inr (hNheld y hy), hNnb y hy⟩
      | false => rw [hkd, if_neg (by simp)] at hy; exact ⟨.inl ⟨by simp [hkd], hy⟩, hGnb y hy⟩
    have hsrcF : ∀ y, ((deep = false ∧ G y) ∨ Held E hp kills y) → F y := by
      intro y hy
      rcases hy with ⟨h1, h2⟩ | h
      · exact ⟨.inl ⟨by simp [h1], h2⟩, hGnb y h2⟩
      · exact ⟨.inr (hHeld y h), hHnb y h⟩
    have hlenall : ∀ (i : Nat) (row : List V), (k.rows.take n ++ rows)[i]? = some row → row.length = d.size := by
      intro i row hi
      rw [List.getElem?_append] at hi
      split at hi
      · rw [List.getElem?_take] at hi
        split at hi
        · rcases hlens i row hi with h | h
          · omega
          · rw [hm] at h; cases h
        · cases hi
      · exact hrl row (List.mem_of_getElem? hi)
    have htl : (k.rows.take n).length = n := by simp; omega
    have hFdef : ∀ y, F y → (((k.deep && deep) = false ∧ G y) ∨ Held E hp (id :: kills) y) := fun y hy => hy.1
    have hcap63 : n + rows.length ≤ maxLen := by
      have := Nat.le_mul_of_pos_right (n + rows.length) hpos
      unfold maxBytes at hb2; simp only [maxLen]; omega
    have hvr : ∀ (w' : World) (E' : Env) (G' : Nat → Prop) (bb : Nat) (cc : Nat) (cu : Array Value) (ty : TypeId) (fz : Nat × Nat), E'.m b = some bb → n + rows.length ≤ cc → w'.heap[bb]? = some (.cells cu ty fz) → cu.size = cc * d.size →
        VR2 w' E' (upd (kill hp (id :: kills)) b (some (arrOf k.ty d.size (k.deep && deep) (k.rows.take n ++ rows)))) G' (.ar b 0 (n + rows.length)) (.slice (some ⟨bb, 0, none⟩) (n + rows.length) cc) := by
      intro w' E' G' bb cc cu ty fz h1 h2 h3 h4
      refine ⟨_, _, rfl, fun k' hk' => ?_⟩
      simp only [upd, if_true, Option.some.injEq] at hk'
      subst hk'
      refine ⟨by simp [arrOf], by simp [arrOf, htl], .inr ⟨bb, cu, ty, fz, h1, by simp, h2, h3, by simpa [arrOf] using h4⟩⟩
    by_cases hm0 : rows.length = 0
    · have h0 : rows = [] := List.eq_nil_of_length_eq_zero hm0
      subst h0
      obtain ⟨E', G', g1, g2, g3⟩ := newArr (F := F) (mb := some nb) (e := k.ty) (size := d.size) (deep := k.deep && deep) (rows := k.rows.take n ++ []) c.inv c.wf (c.new 0 (by omega)) (kills := id :: kills) (Fr.refl (fun _ => False) w) (fun y h => h.elim) hpos hlenall
        (.inr ⟨nb, cur, cap, rfl, hh, .inr hnbheld, fun hf => hf.2 rfl, by rw [hcs, hks], hcm, by simp; omega, fun i j row x hi hj => hold i j row x (by simpa using hi) hj⟩) hFdef (fun y _ h => h)
      refine steps_value (append_exec ho (by rw [hsy, hx]; exact run_append_zero ht hi sa xa n cap xc hncap)) g1 ?_ g2
      rw [hsa]
      exact hvr w E' G' nb cap cur _ _ g3 (by simpa using hncap) hh (by rw [hcs, hks])
    · rcases hor with h0 | ⟨ad, news, hxa, hnl, hnc, hn1, hnr⟩
      · exact absurd (by rw [h0]; rfl) hm0
      have hrowsF : ∀ (i j : Nat) (row : List V) (x : V), rows[i]? = some row → row[j]? = some x → ∃ u, news[i * d.size + j]? = some u ∧ Rep w F x u := by
        intro i j row x hi hj
        obtain ⟨u, hu, hr⟩ := hnr i j row x hi hj
        exact ⟨u, hu, hr.mono hsrcF⟩
      have holds : ∀ (j : Nat) (v : Value), (cur.toList.take (n * d.size))[j]? = some v → w.cell? ((⟨nb, 0, none⟩ : Addr).add j) = some v := by
        intro j v hj
        rw [addr_add, cell_at hh]
        rw [List.getElem?_take] at hj
        split at hj
        · simpa using hj
        · cases hj
      have hnsz : n * d.size ≤ cur.size := by rw [hcs, hks]; exact Nat.mul_le_mul_right _ hncap
      have hol : (cur.toList.take (n * d.size)).length = n * d.size := by simp; omega
      have holdT : ∀ (i j : Nat) (row : List V) (x : V), (k.rows.take n)[i]? = some row → row[j]? = some x → ∃ u, (cur.toList.take (n * d.size))[i * d.size + j]? = some u ∧ Rep w F x u := by
        intro i j row x hi hj
        obtain ⟨u, hu, hr⟩ := hold i j row x hi hj
        refine ⟨u, ?_, hr⟩
        have hil : i < n := by have := (List.getElem?_eq_some_iff.1 hi).1; omega
        have hjs : j < d.size := by
          rw [← hlenall i row (by rw [List.getElem?_append_left (by omega)]; exact hi)]
          exact (List.getElem?_eq_some_iff.1 hj).1
        have : i * d.size + j < n * d.size := by
          have := Nat.mul_le_mul_right d.size (show i + 1 ≤ n by omega)
          rw [Nat.add_mul, Nat.one_mul] at this; omega
        rw [List.getElem?_take, if_pos this]
        simpa using hu
      have hall := rows_append htl hol holdT hrowsF hlenall
      subst hxa
      by_cases hroom : n + rows.length ≤ cap
      · -- in place
        have hfit : n * i.size + news.length ≤ cur.size := by
          rw [hnl, ← hds, ← Nat.add_mul, hcs, hks]; exact Nat.mul_le_mul_right _ hroom
        have hrun := run_append_room (P := P) w t o.type k.ty i ht hi nb n cap cur hh ad rows.length xc news (by rw [← hds]; exact hnl) hnc hn1 hroom hfit
        have hsize : (cur.toList.take (n * i.size) ++ news ++ cur.toList.drop (n * i.size + news.length)).toArray.size = cur.size := by
          simp; omega
        have hfr := Fr.setRow hh hsize
        have hcell : ∀ (i' j : Nat) (row : List V) (x : V), (k.rows.take n ++ rows)[i']? = some row → row[j]? = some x → ∃ u, (cur.toList.take (n * i.size) ++ news ++ cur.toList.drop (n * i.size + news.length)).toArray[i' * d.size + j]? = some u ∧ Rep w F x u := by
          intro i' j row x hi' hj
          obtain ⟨u, hu, hr⟩ := hall i' j row x hi' hj
          refine ⟨u, ?_, hr⟩
          rw [← hds]
          simp only [List.getElem?_toArray]
          rw [List.getElem?_append_left (List.getElem?_eq_some_iff.1 hu).1]
          exact hu
        obtain ⟨E', G', g1, g2, g3⟩ := newArr (F := F) (mb := some nb) (e := k.ty) (size := d.size) (deep := k.deep && deep) (rows := k.rows.take n ++ rows) c.inv c.wf (c.new 0 (by omega)) (kills := id :: kills) hfr
          (fun y hy => by
            subst hy
            have hf := c.inv.freedL hnbheld
            exact ⟨hf.2.1, hf.2.2.1, hf.2.2.2⟩) hpos hlenall
          (.inr ⟨nb, _, cap, rfl, setRow_heap w nb cur _ _ _ hh, .inr hnbheld, fun hf => hf.2 rfl, by rw [hsize, hcs, hks], hcm, by simp; omega, hcell⟩) hFdef (fun y hy => hy.2)
        refine steps_value (append_exec ho (by rw [hsy, hx, hsa]; exact hrun)) g1 ?_ g2
        exact hvr _ E' G' nb cap _ _ _ g3 hroom (setRow_heap w nb cur _ _ _ hh) (by rw [hsize, hcs, hks])
      · -- a new row
        have hgc := grownCap_ge w (n + rows.length) cap k.ty
        have hgm := grownCap_le_maxLen w (n + rows.length) cap k.ty hcap63
        have hrun := run_append_grow (P := P) w t o.type k.ty i z ht hi hz ⟨nb, 0, none⟩ n cap (cur.toList.take (n * d.size)) (by rw [hol, hds]) holds ad rows.length xc news (by rw [← hds]; exact hnl) hnc (by omega) (by simp only [maxLen] at hcap63; omega) (growslice_fits (by omega) (by rw [← hdb]; unfold maxBytes at hb1; omega))
        have hsize : ((cur.toList.take (n * d.size)).toArray ++ news.toArray ++ Builtin.zeroCells z.cells (grownCap w (n + rows.length) cap k.ty - (n + rows.length))).size = grownCap w (n + rows.length) cap k.ty * d.size := by
          simp only [Array.size_append, List.size_toArray, size_zeroCells, hzs, hnl, hol]
          rw [← hds, ← Nat.add_mul, ← Nat.add_mul]; congr 1; omega
        obtain ⟨E', G', g1, g2, g3⟩ := newArr (F := F) (mb := some w.heap.size) (e := k.ty) (size := d.size) (deep := k.deep && deep) (rows := k.rows.take n ++ rows) c.inv c.wf (c.new 0 (by omega)) (kills := id :: kills)
          (fr_grow w (.cells ((cur.toList.take (n * d.size)).toArray ++ news.toArray ++ Builtin.zeroCells z.cells (grownCap w (n + rows.length) cap k.ty - (n + rows.length))) k.ty)) (fun y h => h.elim) hpos hlenall
          (.inr ⟨w.heap.size, _, grownCap w (n + rows.length) cap k.ty, rfl, grow_new w _, .inl (Nat.le_refl _), fun hf => by
            rcases hf.1 with ⟨_, hg⟩ | hh'
            · have := (c.inv.g1 _ hg).1; omega
            · have := (c.inv.freedL hh').1; omega, hsize, hgm, by simp; omega, fun i' j row x hi' hj => by
            obtain ⟨u, hu, hr⟩ := hall i' j row x hi' hj
            exact ⟨u, grown_get hu, hr⟩⟩) hFdef (fun y _ h => h)
        refine steps_value (append_exec ho (by rw [hsy, hx, hsa]; exact hrun)) g1 ?_ g2
        exact hvr _ E' G' _ _ _ _ _ g3 hgc (grow_new w _) hsize

theorem append_sound {args : Array Operand} {tys : Array TypeId} {s x : Operand} {b : Nat} {o : Oper} {a : Act} {K : Cont} (c : MCtx P w0 U A B E G hp w ρ a.eval b) (ho : o.op = .call { callee := .builtin .append, args := args, argTypes := tys }) (hargs : args.toList = [s, x])
    (h : weAppend P tys.toList (ρ s) (ρ x) hp b K) : ∃ y hp' cls, K y hp' cls ∧ StepsTo P w0 U A B E G hp w o a y hp' ∧ WfOut B b y hp' := by
  unfold weAppend at h
  split at h
  · rename_i t t' htys
    obtain ⟨e, he, ha1⟩ := caseO_some' h
    obtain ⟨d, hd, ha2⟩ := caseO_some' ha1
    obtain ⟨rfl, ha3⟩ := ha2
    clear h ha1
    have ha : args = #[s, x] := by apply Array.ext'; simpa using hargs
    have ht : tys = #[t', t'] := by apply Array.ext'; simpa using htys
    subst ha
    subst ht
    obtain ⟨rows, kills, deep, h, hsrc⟩ := src_sound c.inv (c.rel x) ha3
    split at h
    · rename_i hs
      obtain ⟨hb1, hb2, hrl, hnd, hK⟩ := h
      have hsv := c.rel s
      rw [hs] at hsv
      obtain ⟨sa, hsy⟩ := vr2_em hsv
      exact ⟨_, _, _, hK, by simpa using append_new (extra := []) c ho he hd hsrc hb1 hb2 hrl hsy, wfout_arr c.wf⟩
    · rename_i id lo n hs
      obtain ⟨k, hk, hkk, rfl, rfl, hks, hnd, hb1, hb2, hrl, hK⟩ := caseO_some' h
      exact ⟨_, _, _, hK, append_own c ho hs hk hkk hks he hd hsrc hb1 hb2 hrl hnd, wfout_arr c.wf⟩
    · exact h.elim
  · exact h.elim

end Go.Proofs.Ytcmihlhmeonmfaa.Ev
