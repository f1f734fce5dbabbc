/-
  The pure machine, part Wb: code comes to one outcome: contracts with a relation at their end; words for stores.
-/
import Derived.Test.YtbfmlkdpeaeblaaPvW
set_option linter.all false
set_option linter.unusedSimpArgs false
set_option linter.unusedVariables false
namespace Go.Pv

theorem OpsW_pick {E : Env} {ops : Array Oper} {K : Fr → Store → Prop} : ∀ (l : List Oper) (fr : Fr) (st : Store), OpsW E ops l fr st K → ∃ fr1 st1, K fr1 st1 ∧ OpsW E ops l fr st fun fr' st' => fr' = fr1 ∧ st' = st1
  | [], fr, st, h => ⟨fr, st, h, rfl, rfl⟩
  | o :: rest, fr, st, h => by
    unfold OpsW at h
    cases hg : guardF ops fr o with
    | none => rw [hg] at h; exact h.elim
    | some g =>
      rw [hg] at h
      cases g with
      | true =>
        obtain ⟨v, st', hs, h⟩ := h.1 rfl
        obtain ⟨fr1, st1, hk, hw⟩ := OpsW_pick rest _ _ h
        refine ⟨fr1, st1, hk, ?_⟩
        unfold OpsW
        rw [hg]
        exact Br.mk (fun _ => ⟨v, st', hs, hw⟩) (fun q => by cases q)
      | false =>
        obtain ⟨fr1, st1, hk, hw⟩ := OpsW_pick rest _ _ (h.2 rfl)
        refine ⟨fr1, st1, hk, ?_⟩
        unfold OpsW
        rw [hg]
        exact Br.mk (fun q => by cases q) (fun _ => hw)

def Picks (E : Env) (N : Nat) (c : Code) : Prop := ∀ (fr : Fr) (st : Store) (Q : Exit → Fr → Store → Prop), W E N c fr st Q → ∃ e fr1 st1, Q e fr1 st1 ∧ W E N c fr st fun e' fr' st' => e' = e ∧ fr' = fr1 ∧ st' = st1

theorem LoopW_pick {E : Env} {N : Nat} {b : Code} (hb : Picks E N b) {Q : Exit → Fr → Store → Prop} : ∀ n fr st, LoopW (fun fr st Q => W E N b fr st Q) Q n fr st → ∃ e fr1 st1, Q e fr1 st1 ∧ LoopW (fun fr st Q => W E N b fr st Q) (fun e' fr' st' => e' = e ∧ fr' = fr1 ∧ st' = st1) n fr st
  | 0, _, _, h => h.elim
  | n + 1, fr, st, h => by
    obtain ⟨e, fr1, st1, hq, hw⟩ := hb fr st _ h
    cases e
    case normal =>
      obtain ⟨e2, fr2, st2, hq2, hw2⟩ := LoopW_pick hb n fr1 st1 hq
      refine ⟨e2, fr2, st2, hq2, ?_⟩
      exact W.mono b _ _ (fun e' fr' st' q => by obtain ⟨rfl, rfl, rfl⟩ := q; exact hw2) fr st hw
    all_goals
      refine ⟨_, fr1, st1, hq, ?_⟩
      exact W.mono b _ _ (fun e' fr' st' q => by obtain ⟨rfl, rfl, rfl⟩ := q; exact ⟨rfl, rfl, rfl⟩) fr st hw

theorem W_pick {E : Env} {N : Nat} : ∀ (c : Code), Picks E N c
  | .skip, fr, st, Q, h => ⟨.normal, fr, st, h, rfl, rfl, rfl⟩
  | .region id ops d, fr, st, Q, h => by
    obtain ⟨fr1, st1, hk, hw⟩ := OpsW_pick ops.toList fr st h
    exact ⟨.normal, fr1, st1, hk, OpsW.mono (fun _ _ q => ⟨rfl, q.1, q.2⟩) _ _ _ hw⟩
  | .seq a b, fr, st, Q, h => by
    obtain ⟨e, fr1, st1, hq, hw⟩ := W_pick a fr st _ h
    cases e
    case normal =>
      obtain ⟨e2, fr2, st2, hq2, hw2⟩ := W_pick b fr1 st1 _ hq
      refine ⟨e2, fr2, st2, hq2, ?_⟩
      exact W.mono a _ _ (fun e' fr' st' q => by obtain ⟨rfl, rfl, rfl⟩ := q; exact hw2) fr st hw
    all_goals
      refine ⟨_, fr1, st1, hq, ?_⟩
      exact W.mono a _ _ (fun e' fr' st' q => by obtain ⟨rfl, rfl, rfl⟩ := q; exact ⟨rfl, rfl, rfl⟩) fr st hw
  | .cond c x y, fr, st, Q, h => by
    rw [W_cond] at h
    cases hc : evalO E fr c <;> rw [hc] at h <;> try exact h.elim
    rename_i b
    cases b with
    | true =>
      obtain ⟨e, fr1, st1, hq, hw⟩ := W_pick x fr st Q (h.1 rfl)
      exact ⟨e, fr1, st1, hq, by rw [W_cond, hc]; exact Br.mk (fun _ => hw) (fun q => by cases q)⟩
    | false =>
      obtain ⟨e, fr1, st1, hq, hw⟩ := W_pick y fr st Q (h.2 rfl)
      exact ⟨e, fr1, st1, hq, by rw [W_cond, hc]; exact Br.mk (fun q => by cases q) (fun _ => hw)⟩
  | .block id b, fr, st, Q, h => by
    obtain ⟨e, fr1, st1, hq, hw⟩ := W_pick b fr st _ h
    cases e
    case exit i =>
      by_cases hi : i = id
      · refine ⟨.normal, fr1, st1, by simpa [hi] using hq, ?_⟩
        exact W.mono b _ _ (fun e' fr' st' q => by obtain ⟨rfl, rfl, rfl⟩ := q; simp [hi]) fr st hw
      · refine ⟨.exit i, fr1, st1, by simpa [hi] using hq, ?_⟩
        exact W.mono b _ _ (fun e' fr' st' q => by obtain ⟨rfl, rfl, rfl⟩ := q; simp [hi]) fr st hw
    all_goals
      refine ⟨_, fr1, st1, hq, ?_⟩
      exact W.mono b _ _ (fun e' fr' st' q => by obtain ⟨rfl, rfl, rfl⟩ := q; exact ⟨rfl, rfl, rfl⟩) fr st hw
  | .loop b, fr, st, Q, h => by
    obtain ⟨n, h⟩ := h
    obtain ⟨e, fr1, st1, hq, hw⟩ := LoopW_pick (W_pick b) n fr st h
    exact ⟨e, fr1, st1, hq, n, hw⟩
  | .exit i, fr, st, Q, h => ⟨.exit i, fr, st, h, rfl, rfl, rfl⟩
  | .label _, fr, st, Q, h => ⟨.normal, fr, st, h, rfl, rfl, rfl⟩
  | .ret, fr, st, Q, h => ⟨.ret, fr, st, h, rfl, rfl, rfl⟩
  | .rangeFunc g ps asg body, fr, st, Q, h => by
    rw [W_range] at h
    unfold RangeW at h
    cases hg : evalO E fr g <;> rw [hg] at h <;> try exact h.elim
    obtain ⟨v, st1, a1, fr1, ps1, asg1, body1, nt1, s, pd, a2, a3, a4⟩ := h
    have fin : ∀ e, (match pd with | none => e = Exit.normal | some .ret => e = .ret | some (.exit i) => e = .exit i | _ => False) → Q e fr (st1.set st.length deadLoop) →
        ∃ e fr2 st2, Q e fr2 st2 ∧ W E N (.rangeFunc g ps asg body) fr st fun e' fr' st' => e' = e ∧ fr' = fr2 ∧ st' = st2 := by
      intro e he hq
      refine ⟨e, fr, _, hq, ?_⟩
      rw [W_range]
      unfold RangeW
      rw [hg]
      refine ⟨v, st1, a1, fr1, ps1, asg1, body1, nt1, s, pd, a2, a3, ?_⟩
      split at he <;> first | (subst he; exact ⟨rfl, rfl, rfl⟩) | exact he.elim
    split at a4
    · exact fin .normal rfl a4
    · exact fin .ret rfl a4
    · exact fin _ rfl a4
    · exact a4.elim
  | .goto _, _, _, _, h => h.elim
  | .scope _, _, _, _, h => h.elim
  | .refuse _, _, _, _, h => h.elim

/-- A contract whose end is told by a relation. -/
def SpecQ (E : Env) (f : FuncId) (args : List PV) (st : Store) (Q : PV → Store → Prop) : Prop := ∃ v st', Spec E f args st v st' ∧ Q v st'
theorem specQ_of_W {E : Env} (hE : EnvOk E) {f : FuncId} {N : Nat} {rs : List ResultVar} {c : Code} (hok : FnOk E f N rs c) {args : List PV} {st : Store} {Q : PV → Store → Prop} (hl : args.length ≤ N) (h : BodyW E N rs c args st Q) : SpecQ E f args st Q := by
  obtain ⟨e, fr1, st1, ⟨he, v, hv, hq⟩, hw⟩ := W_pick c _ _ _ h
  refine ⟨v, st1, spec_of_W hE hok hl (W.mono c _ _ (fun e' fr' st' q => ?_) _ _ hw), hq⟩
  obtain ⟨rfl, rfl, rfl⟩ := q
  exact ⟨he, v, hv, rfl, rfl⟩

def YSpecQ (E : Env) (l : Nat) (args : List PV) (st : Store) (Q : PV → Store → Prop) : Prop := ∃ v st', YSpec E l args st v st' ∧ Q v st'
theorem yspecQ_of_W {E : Env} (hE : EnvOk E) {N l : Nat} {fr : Fr} {ps : List Nat} {asg body : Code} {args : List PV} {st : Store} {Q : PV → Store → Prop} (hst : st[l]? = some (.loop fr ps asg body N 0 none))
    (ha : okC E.pl N false asg = true) (hbd : okC E.pl N false body = true) (hl : args.length = ps.length) (h : RoundW E N l fr ps asg body args st Q) : YSpecQ E l args st Q := by
  unfold RoundW at h
  obtain ⟨e, fr1, st1, ⟨rfl, h1, h2⟩, hw⟩ := W_pick asg _ _ _ h
  obtain ⟨e2, fr2, st2, ⟨h3, h4⟩, hw2⟩ := W_pick body _ _ _ h2
  have go : ∀ v st', (∀ (R : PV → Store → Prop), R v st' → (match e2 with
      | .normal => R (.bool true) (st2.set l (.loop fr ps asg body N 0 none))
      | .ret => R (.bool false) (st2.set l (.loop fr ps asg body N 1 (some .ret)))
      | .exit i => R (.bool false) (st2.set l (.loop fr ps asg body N 1 (some (.exit i))))
      | _ => False)) → Q v st' → YSpecQ E l args st Q := by
    intro v st' hv hq
    refine ⟨v, st', yspec_of_W hE hst ha hbd hl ?_, hq⟩
    unfold RoundW
    refine W.mono asg _ _ (fun e' fr' st'' q => ?_) _ _ hw
    obtain ⟨rfl, rfl, rfl⟩ := q
    refine ⟨rfl, h1, W.mono body _ _ (fun e' fr' st'' q => ?_) _ _ hw2⟩
    obtain ⟨rfl, rfl, rfl⟩ := q
    refine ⟨h3, ?_⟩
    have q := hv (fun v1 st1 => v1 = v ∧ st1 = st') ⟨rfl, rfl⟩
    clear hv
    cases e' <;> exact q
  cases e2 with
  | normal => exact go _ _ (fun R r => r) h4
  | ret => exact go _ _ (fun R r => r) h4
  | exit i => exact go _ _ (fun R r => r) h4
  | goto _ => exact h4.elim
  | panic _ => exact h4.elim
  | outgrown => exact h4.elim

/-! ### Stores -/
theorem get_last (l : Store) (x : Ob) : (l ++ [x])[l.length]? = some x := by simp
theorem set_last (l : Store) (x y : Ob) : (l ++ [x]).set l.length y = l ++ [y] := by simp
theorem get_lt {st : Store} {i : Nat} {o : Ob} (h : st[i]? = some o) : i < st.length := (List.getElem?_eq_some_iff.1 h).1
theorem get_set_ne {st : Store} {i j : Nat} (o : Ob) (h : i ≠ j) : (st.set i o)[j]? = st[j]? := List.getElem?_set_ne h
theorem get_set_eq {st : Store} {i : Nat} (h : i < st.length) (o' : Ob) : (st.set i o')[i]? = some o' := by simp [h]

end Go.Pv
