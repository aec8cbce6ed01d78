/- Rules: a call from what its body does; a loop from its rounds. -/
import Derived.Test.YtcmihlhmeonmfaaEv27
namespace Go.Proofs.Ytcmihlhmeonmfaa.Ev
open Go
set_option linter.unusedVariables false
set_option linter.unusedSimpArgs false

variable {P : Program} {cf : Cfg} {R : Rel} {Rk : Nat → Rel}

def One1 (T : Rel → (St → Prop) → Prop) (R : Rel) (Rk : Nat → Rel) (K : St → Prop) : Prop :=
  ∃ k s, K s ∧ (∀ k', k ≤ k' → ∀ K' : St → Prop, K' s → T (Rk k') K') ∧ (Uniq R → ∀ K' : St → Prop, T R K' → K' s)

def One2 (T : Rel → Post → Prop) (R : Rel) (Rk : Nat → Rel) (Q : Post) : Prop :=
  ∃ k ex s, Q ex s ∧ (∀ k', k ≤ k' → ∀ Q' : Post, Q' ex s → T (Rk k') Q') ∧ (Uniq R → ∀ Q' : Post, T R Q' → Q' ex s)

theorem drawn_iff {draw ok : Bool} {cls : Cls} {A : Prop} (h : drawn draw ok cls A) : A ∧ ∀ A' : Prop, drawn draw ok cls A' ↔ A' := by
  cases draw <;> cases cls <;> first | exact ⟨h, fun _ => Iff.rfl⟩ | exact ⟨h.2, fun _ => ⟨fun h' => h'.2, fun h' => ⟨h.1, h'⟩⟩⟩

theorem weOps_one (hm : Mono Rk) (hS : Sub R Rk) {all : List Oper} {draw : Bool} : ∀ (l : List Oper) (i : Nat) (st : St) (K : St → Prop), weOps P R cf all draw l i st K → One1 (fun R K => weOps P R cf all draw l i st K) R Rk K
  | [], i, st, K, h => ⟨0, st, h, fun k' _ K' h' => h', fun _ K' h' => h'⟩
  | o :: l, i, st, K, h => by
    have hop : ∀ {hp : Hp}, opAt P R cf draw o.op (16 * (st.c + i)) (opnd st.tm) hp (fun x hp cls =>
        drawn draw (eOK all i) cls (weOps P R cf all draw l (i + 1) { tm := put st.tm o.dst x, hp := hp, c := st.c } K)) →
        One1 (fun R K => opAt P R cf draw o.op (16 * (st.c + i)) (opnd st.tm) hp (fun x hp cls =>
        drawn draw (eOK all i) cls (weOps P R cf all draw l (i + 1) { tm := put st.tm o.dst x, hp := hp, c := st.c } K))) R Rk K := by
      intro hp h
      obtain ⟨k1, x, hp', cls, h1, h2, hu⟩ := opAt_one hm hS h
      obtain ⟨h1, hdr⟩ := drawn_iff h1
      obtain ⟨k2, s, h3, h4, hv⟩ := weOps_one hm hS l (i + 1) _ K h1
      exact ⟨max k1 k2, s, h3, fun k' hle K' h' => h2 k' (by omega) _ ((hdr _).2 (h4 k' (by omega) K' h')), fun hU K' h' => hv hU K' ((drawn_iff (hu hU _ h')).1)⟩
    unfold weOps at h
    split at h
    · rename_i hg
      obtain ⟨k, s, h1, h2, h3⟩ := hop h
      exact ⟨k, s, h1, fun k' hle K' h' => by unfold weOps; rw [hg]; exact h2 k' hle K' h', fun hU K' h' => h3 hU K' (by unfold weOps at h'; rw [hg] at h'; exact h')⟩
    · rename_i j want hg
      obtain ⟨y, hy, h⟩ := caseO_some' h
      obtain ⟨t, hyt, h'⟩ := caseO_some' h
      clear h
      cases t with
      | true =>
        simp only [if_true] at h'
        obtain ⟨k, s, h1, h2, h3⟩ := hop h'
        exact ⟨k, s, h1, fun k' hle K' h' => by unfold weOps; rw [hg]; simp only [hy, hyt, caseO_some, if_true]; exact h2 k' hle K' h',
          fun hU K' h' => h3 hU K' (by unfold weOps at h'; rw [hg] at h'; simp only [hy, hyt, caseO_some, if_true] at h'; exact h')⟩
      | false =>
        simp only [Bool.false_eq_true, if_false] at h'
        obtain ⟨k, s, h1, h2, h3⟩ := weOps_one hm hS l (i + 1) _ K h'
        exact ⟨k, s, h1, fun k' hle K' h' => by unfold weOps; rw [hg]; simp only [hy, hyt, caseO_some, Bool.false_eq_true, if_false]; exact h2 k' hle K' h',
          fun hU K' h' => h3 hU K' (by unfold weOps at h'; rw [hg] at h'; simp only [hy, hyt, caseO_some, Bool.false_eq_true, if_false] at h'; exact h')⟩

theorem canon0_one {e : Nat} {keep : List Nat} {st : St} {K : St → Prop} (h : canon0 e keep st K) : ∃ s, K s ∧ ∀ K' : St → Prop, canon0 e keep st K' ↔ K' s := by
  unfold canon0 at h
  split at h
  · rename_i order ho
    exact ⟨_, h.2.2, fun K' => by unfold canon0; simp only [ho]; exact ⟨fun h' => h'.2.2, fun h' => ⟨h.1, h.2.1, h'⟩⟩⟩
  · exact h.elim

theorem canon_one {e : Nat} {keep : List (Nat × Mds)} {st : St} {K : St → Prop} (h : canon e keep st K) : ∃ s, K s ∧ ∀ K' : St → Prop, canon e keep st K' ↔ K' s := by
  unfold canon at h
  obtain ⟨s1, h1, h⟩ := caseO_some' h
  obtain ⟨s, h2, h3⟩ := canon0_one h
  exact ⟨s, h2, fun K' => by unfold canon; rw [h1]; exact h3 K'⟩

theorem meet_one {e : Nat} {j : Option (List (Nat × Mds))} {st : St} {K : St → Prop} (h : meet e j st K) : ∃ s, K s ∧ ∀ K' : St → Prop, meet e j st K' ↔ K' s := by
  cases j with
  | some keep => exact canon_one h
  | none => exact ⟨st, h, fun _ => Iff.rfl⟩

theorem iter_one {F : Rel → St → Post → Prop} {e : Nat} {keep : List (Nat × Mds)} {out : Ex → List (Nat × Mds)} (hF : ∀ st Q, F R st Q → One2 (fun R Q => F R st Q) R Rk Q) : ∀ (n : Nat) (st : St) (Q : Post), iter (F R) e keep out n st Q →
    ∃ k ex s, Q ex s ∧ (∀ k', k ≤ k' → ∀ Q' : Post, Q' ex s → iter (F (Rk k')) e keep out n st Q') ∧ (Uniq R → ∀ n' (Q' : Post), iter (F R) e keep out n' st Q' → Q' ex s)
  | 0, st, Q, h => h.elim
  | n + 1, st, Q, h => by
    obtain ⟨s, h1, hc⟩ := canon_one h
    obtain ⟨k1, ex, s1, h2, h3, hu⟩ := hF s _ h1
    have hback : ∀ n' (Q' : Post), Uniq R → iter (F R) e keep out n' st Q' → ∃ m, n' = m + 1 ∧ (match ex with | .normal => iter (F R) e keep out m s1 Q' | ex => canon e (out ex) s1 (Q' ex)) := by
      intro n' Q' hU h'
      cases n' with
      | zero => exact h'.elim
      | succ m =>
        refine ⟨m, rfl, ?_⟩
        have := hu hU _ ((hc _).1 h')
        cases ex <;> exact this
    cases ex with
    | normal =>
      obtain ⟨k2, ex2, s2, h4, h5, hv⟩ := iter_one hF n s1 Q h2
      refine ⟨max k1 k2, ex2, s2, h4, fun k' hle Q' h' => (hc _).2 (h3 k' (by omega) _ (h5 k' (by omega) Q' h')), fun hU n' Q' h' => ?_⟩
      obtain ⟨m, rfl, h6⟩ := hback n' Q' hU h'
      exact hv hU m Q' h6
    | exit id =>
      obtain ⟨s2, h4, h5⟩ := canon_one h2
      refine ⟨k1, .exit id, s2, h4, fun k' hle Q' h' => (hc _).2 (h3 k' hle _ ((h5 _).2 h')), fun hU n' Q' h' => ?_⟩
      obtain ⟨m, rfl, h6⟩ := hback n' Q' hU h'
      exact (h5 _).1 h6
    | ret =>
      obtain ⟨s2, h4, h5⟩ := canon_one h2
      refine ⟨k1, .ret, s2, h4, fun k' hle Q' h' => (hc _).2 (h3 k' hle _ ((h5 _).2 h')), fun hU n' Q' h' => ?_⟩
      obtain ⟨m, rfl, h6⟩ := hback n' Q' hU h'
      exact (h5 _).1 h6

theorem we_one (hm : Mono Rk) (hS : Sub R Rk) {g e : Nat} : ∀ (c : Code) (st : St) (Q : Post), we P R cf g e c st Q → One2 (fun R Q => we P R cf g e c st Q) R Rk Q
  | .skip, st, Q, h => ⟨0, .normal, st, h, fun k' _ Q' h' => h', fun _ Q' h' => h'⟩
  | .exit id, st, Q, h => ⟨0, .exit id, st, h, fun k' _ Q' h' => h', fun _ Q' h' => h'⟩
  | .ret, st, Q, h => ⟨0, .ret, st, h, fun k' _ Q' h' => h', fun _ Q' h' => h'⟩
  | .region id ops draw, st, Q, h => by
    unfold we at h
    obtain ⟨k, s, h1, h2, h3⟩ := weOps_one hm hS _ _ _ _ h
    exact ⟨k, .normal, _, h1, fun k' hle Q' h' => by unfold we; exact h2 k' hle _ h', fun hU Q' h' => by unfold we at h'; have := h3 hU _ h'; exact this⟩
  | .seq a b, st, Q, h => by
    unfold we at h
    obtain ⟨k1, ex, s, h1, h2, h3⟩ := we_one hm hS a st _ h
    cases ex with
    | normal =>
      obtain ⟨sm, h1, hmt⟩ := meet_one h1
      obtain ⟨k2, ex2, s2, h4, h5, h6⟩ := we_one hm hS b sm Q h1
      exact ⟨max k1 k2, ex2, s2, h4, fun k' hle Q' h' => by unfold we; exact h2 k' (by omega) _ ((hmt _).2 (h5 k' (by omega) Q' h')), fun hU Q' h' => by unfold we at h'; exact h6 hU _ ((hmt _).1 (h3 hU _ h'))⟩
    | exit id => exact ⟨k1, .exit id, s, h1, fun k' hle Q' h' => by unfold we; exact h2 k' hle _ h', fun hU Q' h' => by unfold we at h'; have := h3 hU _ h'; exact this⟩
    | ret => exact ⟨k1, .ret, s, h1, fun k' hle Q' h' => by unfold we; exact h2 k' hle _ h', fun hU Q' h' => by unfold we at h'; have := h3 hU _ h'; exact this⟩
  | .cond c x y, st, Q, h => by
    unfold we at h
    obtain ⟨t, ht, h'⟩ := caseB_true h
    cases t with
    | true =>
      simp only [if_true] at h'
      obtain ⟨k, ex, s, h1, h2, h3⟩ := we_one hm hS x st Q h'
      exact ⟨k, ex, s, h1, fun k' hle Q' h' => by unfold we; rw [ht]; simp only [caseB_v, if_true]; exact h2 k' hle Q' h', fun hU Q' h' => by unfold we at h'; rw [ht] at h'; simp only [caseB_v, if_true] at h'; exact h3 hU _ h'⟩
    | false =>
      simp only [Bool.false_eq_true, if_false] at h'
      obtain ⟨k, ex, s, h1, h2, h3⟩ := we_one hm hS y st Q h'
      exact ⟨k, ex, s, h1, fun k' hle Q' h' => by unfold we; rw [ht]; simp only [caseB_v, Bool.false_eq_true, if_false]; exact h2 k' hle Q' h', fun hU Q' h' => by unfold we at h'; rw [ht] at h'; simp only [caseB_v, Bool.false_eq_true, if_false] at h'; exact h3 hU _ h'⟩
  | .block id c, st, Q, h => by
    unfold we at h
    obtain ⟨k, ex, s, h1, h2, h3⟩ := we_one hm hS c st _ h
    cases ex with
    | normal => exact ⟨k, .normal, s, h1, fun k' hle Q' h' => by unfold we; exact h2 k' hle _ h', fun hU Q' h' => by unfold we at h'; have := h3 hU _ h'; exact this⟩
    | ret => exact ⟨k, .ret, s, h1, fun k' hle Q' h' => by unfold we; exact h2 k' hle _ h', fun hU Q' h' => by unfold we at h'; have := h3 hU _ h'; exact this⟩
    | exit j =>
      by_cases hj : j = id
      · simp only [if_pos hj] at h1
        exact ⟨k, .normal, s, h1, fun k' hle Q' h' => by unfold we; exact h2 k' hle _ (by simp only [if_pos hj]; exact h'), fun hU Q' h' => by unfold we at h'; have := h3 hU _ h'; simp only [if_pos hj] at this; exact this⟩
      · simp only [if_neg hj] at h1
        exact ⟨k, .exit j, s, h1, fun k' hle Q' h' => by unfold we; exact h2 k' hle _ (by simp only [if_neg hj]; exact h'), fun hU Q' h' => by unfold we at h'; have := h3 hU _ h'; simp only [if_neg hj] at this; exact this⟩
  | .loop c, st, Q, h => by
    unfold we at h
    obtain ⟨n, h⟩ := h
    obtain ⟨k, ex, s, h1, h2, h3⟩ := iter_one (F := fun R st Q => we P R cf g e c st Q) (fun st Q h => we_one hm hS c st Q h) n st Q h
    exact ⟨k, ex, s, h1, fun k' hle Q' h' => by unfold we; exact ⟨n, h2 k' hle Q' h'⟩, fun hU Q' h' => by unfold we at h'; obtain ⟨n', h'⟩ := h'; exact h3 hU n' Q' h'⟩
  | .scope c, _, _, h => by simp [we] at h
  | .label l, _, _, h => by simp [we] at h
  | .goto l, _, _, h => by simp [we] at h
  | .rangeFunc .., _, _, h => by simp [we] at h

/-- One outcome. -/
theorem we_det {g e : Nat} {c : Code} {st : St} {Q : Post} (h : we P R cf g e c st Q) : ∃ ex s, Q ex s ∧ ∀ Q' : Post, Q' ex s → we P R cf g e c st Q' := by
  obtain ⟨k, ex, s, h1, h2, _⟩ := we_one (Rk := fun _ => R) (fun _ _ _ _ _ _ _ _ h => h) (fun _ _ _ _ _ h => ⟨0, h⟩) c st Q h
  exact ⟨ex, s, h1, fun Q' h' => h2 k (Nat.le_refl _) Q' h'⟩

theorem we_mono {g e : Nat} {c : Code} {st : St} {Q Q' : Post} (h : we P R cf g e c st Q) (hq : ∀ ex s, Q ex s → Q' ex s) : we P R cf g e c st Q' := by
  obtain ⟨ex, s, h1, h2⟩ := we_det h
  exact h2 _ (hq ex s h1)

theorem we_rel {R' : Rel} {g e : Nat} {c : Code} {st : St} {Q : Post} (hR : ∀ g a b r b', R g a b r b' → R' g a b r b') (h : we P R cf g e c st Q) : we P R' cf g e c st Q := by
  obtain ⟨k, ex, s, h1, h2, _⟩ := we_one (Rk := fun _ => R') (fun _ _ _ _ _ _ _ _ h => h) (fun _ _ _ _ _ h => ⟨0, hR _ _ _ _ _ h⟩) c st Q h
  exact h2 k (Nat.le_refl _) Q h1

theorem runs_step {ext : Rel} : ∀ k g a b r b', runsN P cf ext k g a b r b' → runsN P cf ext (k + 1) g a b r b'
  | 0, g, a, b, r, b', h => .inl h
  | k + 1, g, a, b, r, b', h => by
    rcases h with h | ⟨h0, fn, c, h1, h2, h3, h4, h⟩
    · exact .inl h
    · exact .inr ⟨h0, fn, c, h1, h2, h3, h4, we_rel (runs_step k) h⟩

theorem runs_mono {ext : Rel} : Mono (runsN P cf ext) := by
  intro k k' g a b r b' hle h
  induction hle with
  | refl => exact h
  | step _ ih => exact runs_step _ _ _ _ _ _ ih

/-- A call, from what its body does. -/
theorem Runs.intro {ext : Rel} {g : FuncId} {fn : Func} {c : Code} {a b : _} {r : V} {b' : List Blk} (h0 : cf.isExt g = false) (h1 : P.funcs[g]? = some fn) (h2 : fn.body = some c) (h3 : bodyOK fn c a.length = true) (h4 : idsOK a b = true)
    (h : we P (Runs P cf ext) cf g (a.flatMap refs1).eraseDups.length c (entry a b) (outs P fn.results.toList (cf.res g) (a.flatMap refs1).eraseDups.length r b')) : Runs P cf ext g a b r b' := by
  obtain ⟨k, ex, s, h5, h6, _⟩ := we_one (Rk := runsN P cf ext) runs_mono (fun _ _ _ _ _ h => h) c _ _ h
  exact ⟨k + 1, .inr ⟨h0, fn, c, h1, h2, h3, h4, h6 k (Nat.le_refl _) _ h5⟩⟩

theorem Runs.ext {ext : Rel} {g : FuncId} {a b : _} {r : V} {b' : List Blk} (h : ext g a b r b') : Runs P cf ext g a b r b' := ⟨0, h⟩

/-- What is done behind a round. -/
def after (e : Nat) (keep : List (Nat × Mds)) (out : Ex → List (Nat × Mds)) (K : St → Prop) (Q : Post) : Post := fun ex s =>
  match ex with
  | .normal => canon e keep s K
  | ex => canon e (out ex) s (Q ex)

/-- A loop whose head has just been reached. -/
def loopAt (P : Program) (R : Rel) (cf : Cfg) (g : FuncId) (e : Nat) (c : Code) (st : St) (Q : Post) : Prop :=
  ∃ n, we P R cf g e c st fun ex s => match ex with | .normal => iter (we P R cf g e c) e (cf.live g (rid c)) (cf.out g (rid c)) n s Q | ex => canon e (cf.out g (rid c) ex) s (Q ex)

theorem loop_in {g e : Nat} {c : Code} {st : St} {Q : Post} : we P R cf g e (.loop c) st Q = canon e (cf.live g (rid c)) st fun s => loopAt P R cf g e c s Q := by
  apply propext
  constructor
  · intro h
    unfold we at h
    obtain ⟨n, h⟩ := h
    cases n with
    | zero => exact h.elim
    | succ n =>
      obtain ⟨s, h1, h2⟩ := canon_one h
      exact (h2 _).2 ⟨n, h1⟩
  · intro h
    obtain ⟨s, ⟨n, h1⟩, h2⟩ := canon_one h
    unfold we
    exact ⟨n + 1, (h2 _).2 h1⟩

theorem loop_round {g e : Nat} {c : Code} {st : St} {Q : Post} : loopAt P R cf g e c st Q = we P R cf g e c st (after e (cf.live g (rid c)) (cf.out g (rid c)) (fun s => loopAt P R cf g e c s Q) Q) := by
  apply propext
  constructor
  · rintro ⟨n, h⟩
    obtain ⟨ex, s, h1, h2⟩ := we_det h
    refine h2 _ ?_
    cases ex with
    | normal =>
      cases n with
      | zero => exact h1.elim
      | succ n =>
        obtain ⟨s', h3, h4⟩ := canon_one h1
        exact (h4 _).2 ⟨n, h3⟩
    | exit id => exact h1
    | ret => exact h1
  · intro h
    obtain ⟨ex, s, h1, h2⟩ := we_det h
    cases ex with
    | normal =>
      obtain ⟨s', ⟨n, h3⟩, h4⟩ := canon_one h1
      exact ⟨n + 1, h2 _ ((h4 _).2 h3)⟩
    | exit id => exact ⟨0, h2 _ h1⟩
    | ret => exact ⟨0, h2 _ h1⟩

/-! ### one result for each call -/
theorem out1_uniq {hp : Hp} {e : Nat} {x r r2 : V} {b b2 : List Blk} (h : out1 hp e x r b) (h' : out1 hp e x r2 b2) : r = r2 ∧ b = b2 := by
  unfold out1 at h h'
  split at h
  · rename_i order ho
    simp only [ho] at h'
    exact ⟨h.2.1.trans h'.2.1.symm, h.2.2.trans h'.2.2.symm⟩
  · exact h.elim

theorem resVs_uniq {st : St} : ∀ {l : List ResultVar} {K K' : List V → Prop}, resVs P st l K → resVs P st l K' → ∃ xs, K xs ∧ K' xs
  | [], K, K', h, h' => ⟨[], h, h'⟩
  | r :: l, K, K', h, h' => by
    unfold resVs resV at h h'
    cases r with
    | tmp t =>
      simp only at h h'
      exact resVs_uniq (l := l) (K := fun xs => K (st.tm t :: xs)) (K' := fun xs => K' (st.tm t :: xs)) h h' |>.elim fun xs ⟨h1, h2⟩ => ⟨_, h1, h2⟩
    | cell a t =>
      simp only at h h'
      split at h
      · rename_i x n hx
        simp only [hx] at h'
        exact resVs_uniq (l := l) (K := fun xs => K (x :: xs)) (K' := fun xs => K' (x :: xs)) h h' |>.elim fun xs ⟨h1, h2⟩ => ⟨_, h1, h2⟩
      · exact h.elim

theorem outL_uniq {hp : Hp} {e : Nat} {r r2 : V} {b b2 : List Blk} {xs : List V} (h1 : outL hp e r b xs) (h2 : outL hp e r2 b2 xs) : r = r2 ∧ b = b2 := by
  match xs, h1, h2 with
  | [x], h1, h2 => exact out1_uniq h1 h2
  | [], h1, h2 => exact out1_uniq h1.2 h2.2
  | _ :: _ :: _, h1, h2 => exact out1_uniq h1.2 h2.2

theorem outs_uniq {rs : List ResultVar} {ms : List Mds} {e : Nat} {r r2 : V} {b b2 : List Blk} {ex : Ex} {st : St} (h : outs P rs ms e r b ex st) (h' : outs P rs ms e r2 b2 ex st) : r = r2 ∧ b = b2 := by
  have key : (resVs P st rs fun xs => caseO (normR ms xs st.hp (st.c + 1)) fun z => outL z.2.1 e r b z.1) → (resVs P st rs fun xs => caseO (normR ms xs st.hp (st.c + 1)) fun z => outL z.2.1 e r2 b2 z.1) → r = r2 ∧ b = b2 := by
    intro h h'
    obtain ⟨xs, h1, h2⟩ := resVs_uniq h h'
    obtain ⟨z, hz, h1⟩ := caseO_some' h1
    rw [hz] at h2
    exact outL_uniq h1 h2
  cases ex with
  | exit id => exact h.elim
  | normal => exact key h h'
  | ret => exact key h h'

theorem runs_uniq {ext : Rel} (hu : Uniq ext) (hx : ∀ g a b r b', ext g a b r b' → cf.isExt g = true) : ∀ k, Uniq (runsN P cf ext k)
  | 0 => hu
  | k + 1 => by
    intro g a b r b' r2 b2 h h'
    rcases h with h | ⟨h0, fn, c, h1, h2, h3, h4, h⟩
    · rcases h' with h' | ⟨h0, _⟩
      · exact hu _ _ _ _ _ _ _ h h'
      · rw [hx _ _ _ _ _ h] at h0; cases h0
    · rcases h' with h' | ⟨_, fn', c', h1', h2', h3', h4', h'⟩
      · rw [hx _ _ _ _ _ h'] at h0; cases h0
      · rw [h1] at h1'
        cases h1'
        rw [h2] at h2'
        cases h2'
        obtain ⟨_, ex, s, q1, _, q3⟩ := we_one (Rk := fun _ => runsN P cf ext k) (fun _ _ _ _ _ _ _ _ h => h) (fun _ _ _ _ _ h => ⟨0, h⟩) c _ _ h
        exact outs_uniq q1 (q3 (runs_uniq hu hx k) _ h')

theorem Runs.uniq {ext : Rel} (hu : Uniq ext) (hx : ∀ g a b r b', ext g a b r b' → cf.isExt g = true) : Uniq (Runs P cf ext) := by
  intro g a b r b' r2 b2 ⟨k, h⟩ ⟨k', h'⟩
  exact runs_uniq hu hx (max k k') _ _ _ _ _ _ _ (runs_mono _ _ _ _ _ _ _ (Nat.le_max_left _ _) h) (runs_mono _ _ _ _ _ _ _ (Nat.le_max_right _ _) h')

/-- A call is what its body does. -/
theorem Runs.iff {ext : Rel} {g : FuncId} {fn : Func} {c : Code} {a b : _} {r : V} {b' : List Blk} (h0 : cf.isExt g = false) (hx : ∀ a b r b', ¬ ext g a b r b') (h1 : P.funcs[g]? = some fn) (h2 : fn.body = some c) (h3 : bodyOK fn c a.length = true) (h4 : idsOK a b = true) :
    Runs P cf ext g a b r b' ↔ we P (Runs P cf ext) cf g (a.flatMap refs1).eraseDups.length c (entry a b) (outs P fn.results.toList (cf.res g) (a.flatMap refs1).eraseDups.length r b') := by
  constructor
  · rintro ⟨k, h⟩
    cases k with
    | zero => exact absurd h (hx _ _ _ _)
    | succ k =>
      rcases h with h | ⟨_, fn', c', e1, e2, e3, e4, h⟩
      · exact absurd h (hx _ _ _ _)
      · rw [h1] at e1
        cases e1
        rw [h2] at e2
        cases e2
        exact we_rel (fun _ _ _ _ _ h => ⟨k, h⟩) h
  · exact Runs.intro h0 h1 h2 h3 h4

/-- A call whose result is known. -/
theorem call_eq {R : Rel} (hu : Uniq R) {g : FuncId} {a : List V} {b : List Blk} {r : V} {b' : List Blk} (h : R g a b r b') (F : V → List Blk → Prop) : callR R g a b F = F r b' := by
  apply propext
  constructor
  · rintro ⟨r2, b2, h2, hF⟩
    obtain ⟨rfl, rfl⟩ := hu _ _ _ _ _ _ _ h h2
    exact hF
  · exact fun hF => ⟨r, b', h, hF⟩

end Go.Proofs.Ytcmihlhmeonmfaa.Ev
