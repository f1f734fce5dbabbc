/-
  The pure machine, part X: contracts of functions out of their code.
-/
import Derived.Test.YtbfmlkdpeaeblaaPvV
set_option linter.all false
set_option linter.unusedSimpArgs false
set_option linter.unusedVariables false
namespace Go.Pv

/-- A result variable's value. -/
def resOne (E : Env) (fr : Fr) (st : Store) : ResultVar → Option PV
  | .tmp t => some (fr t)
  | .cell a t => match E.T t, fr a with
    | some te, .optr id tot off => (match st[id]? with
      | some (.cells cs) => if tot = cs.length then partF te cs off else none
      | _ => none)
    | some te, .rptr cs => partF te cs 0
    | _, _ => none
def resAll (E : Env) (fr : Fr) (st : Store) : List ResultVar → Option (List PV)
  | [] => some []
  | r :: rs => match resOne E fr st r, resAll E fr st rs with
    | some p, some ps => some (p :: ps)
    | _, _ => none
def resF (E : Env) (rs : List ResultVar) (fr : Fr) (st : Store) : Option PV := (resAll E fr st rs).map fun ps => match ps with | [p] => p | ps => .tup ps
def resIn (N : Nat) : ResultVar → Bool | .tmp t => decide (t < N) | .cell a _ => decide (a < N)

def resRun (tmps : Array Value) : ResultVar → Sem Value
  | .tmp t => pure (tmps.getD t undef)
  | .cell a t => do loadVar t (← asAddr (tmps.getD a undef))
theorem results_eq (fn : Func) (tmps : Array Value) : results fn tmps = (do let vs ← fn.results.mapM (resRun tmps); pure (if h : vs.size = 1 then vs[0] else .tuple vs)) := by
  unfold results
  congr 1

theorem resOne_run {E : Env} (hE : EnvOk E) {K ι st w fr} (h : Rel E.G K ι st w) {tmps : Array Value} (hf : FrRel K ι st fr tmps) {r : ResultVar} (hr : resIn tmps.size r = true) {p : PV} (ho : resOne E fr st r = some p) :
    ∃ v, (resRun tmps r).run E.P w = .ok v w ∧ VRel K ι st p v := by
  have at_ : ∀ t, t < tmps.size → ∃ v, tmps.getD t undef = v ∧ VRel K ι st (fr t) v := fun t ht =>
    ⟨tmps[t], by simp [Array.getD_eq_getD_getElem?, ht], hf t _ (Array.getElem?_eq_getElem ht)⟩
  cases r with
  | tmp t =>
    simp only [resOne, Option.some.injEq] at ho
    subst ho
    obtain ⟨v, e, hv⟩ := at_ t (by simpa [resIn] using hr)
    exact ⟨v, by simp [resRun, e, Sem.run_pure], hv⟩
  | cell a t =>
    obtain ⟨v, e, hv⟩ := at_ a (by simpa [resIn] using hr)
    simp only [resOne] at ho
    have ld : ∀ ad, v = .pointer (some ad) → (resRun tmps (.cell a t)).run E.P w = (Instr.loadAt t v).run E.P w := by
      intro ad hv'
      subst hv'
      simp [resRun, e, asAddr, Instr.loadAt, Instr.sureAddr]
    split at ho
    · rename_i te id tot off hT hfa
      rw [hfa] at hv
      obtain ⟨ad, hv'⟩ := hv.optrV
      rw [ld ad hv']
      split at ho
      · rename_i cs hst
        split at ho
        · rename_i htot
          exact (load_pure hE h hT hv (v := p) (st' := st) (by simp [hst, htot, ho])).2
        · cases ho
      · cases ho
    · rename_i te cs hT hfa
      rw [hfa] at hv
      obtain ⟨b, off, f, hv', _⟩ := hv.rptrV
      rw [ld _ hv']
      exact (load_pure hE h hT hv (v := p) (st' := st) (by simp [ho])).2
    · cases ho

theorem resAll_run {E : Env} (hE : EnvOk E) {K ι st w fr} (h : Rel E.G K ι st w) {tmps : Array Value} (hf : FrRel K ι st fr tmps) : ∀ (rs : List ResultVar), rs.all (resIn tmps.size) = true → ∀ ps, resAll E fr st rs = some ps →
    ∃ vs : List Value, (rs.mapM (resRun tmps)).run E.P w = .ok vs w ∧ ps.length = vs.length ∧ ∀ (i : Nat) (p : PV) (v : Value), ps[i]? = some p → vs[i]? = some v → VRel K ι st p v
  | [], _, ps, hp => ⟨[], by simp [Sem.run_pure], by simp [resAll] at hp; subst hp; rfl, by simp⟩
  | r :: rs, hr, ps, hp => by
    simp only [List.all_cons, Bool.and_eq_true] at hr
    unfold resAll at hp
    split at hp
    · rename_i p ps' h1 h2
      cases hp
      obtain ⟨v, e1, r1⟩ := resOne_run hE h hf hr.1 h1
      obtain ⟨vs, e2, l2, r2⟩ := resAll_run hE h hf rs hr.2 ps' h2
      refine ⟨v :: vs, by simp [List.mapM_cons, Sem.run_bind, e1, e2, Sem.run_pure], by simp [l2], fun i p' v' hp hv => ?_⟩
      cases i with
      | zero => simp at hp hv; subst hp hv; exact r1
      | succ i => exact r2 i p' v' (by simpa using hp) (by simpa using hv)
    · cases hp

theorem resF_run {E : Env} (hE : EnvOk E) {K ι st w fr} (h : Rel E.G K ι st w) {fn : Func} {tmps : Array Value} (hf : FrRel K ι st fr tmps) (hr : fn.results.toList.all (resIn tmps.size) = true) {p : PV} (hp : resF E fn.results.toList fr st = some p) :
    ∃ v, (results fn tmps).run E.P w = .ok v w ∧ VRel K ι st p v := by
  obtain ⟨ps, h1, h2⟩ := Option.map_eq_some_iff.1 hp
  obtain ⟨vs, e1, l, r⟩ := resAll_run hE h hf _ hr ps h1
  have hm : (fn.results.mapM (resRun tmps)).run E.P w = .ok vs.toArray w := by
    have : fn.results = fn.results.toList.toArray := by simp
    rw [this, List.mapM_toArray]
    simp [e1]
  refine ⟨_, by rw [results_eq, Sem.run_bind, hm]; rfl, ?_⟩
  match ps, l, r, h2 with
  | [q], l, r, h2 =>
    match vs, l with
    | [v], _ =>
      simp at h2
      subst h2
      exact r 0 q v rfl rfl
  | [], l, r, h2 =>
    match vs, l with
    | [], _ =>
      subst h2
      exact .tree _ _ (.tup [] #[] rfl (by simp))
  | q1 :: q2 :: ps, l, r, h2 =>
    match vs, l with
    | v1 :: v2 :: vs, l =>
      subst h2
      rw [dif_neg (by simp)]
      exact .tup _ _ (by simpa using l) (fun i p v hp hv => r i p v hp (by simpa using hv))

end Go.Pv
