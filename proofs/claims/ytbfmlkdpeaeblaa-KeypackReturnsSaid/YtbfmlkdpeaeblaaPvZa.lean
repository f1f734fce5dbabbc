/-
  The pure machine, part Za: rounds of a range over a function.
-/
import Derived.Test.YtbfmlkdpeaeblaaPvZ
set_option linter.all false
set_option linter.unusedSimpArgs false
set_option linter.unusedVariables false
namespace Go.Pv

def setPs : List Nat → List PV → Fr → Fr
  | p :: ps, x :: xs, fr => setPs ps xs (upd fr (some p) x)
  | _, _, fr => fr

/-- What a round comes to: the loop's assignment, its body, the jump. -/
def RoundW (E : Env) (N l : Nat) (fr : Fr) (ps : List Nat) (asg body : Code) (args : List PV) (st : Store) (Q : PV → Store → Prop) : Prop :=
  W E N asg (setPs ps args fr) st fun e fr1 st1 => e = .normal ∧ st1[l]? = some (.loop fr ps asg body N 0 none) ∧
    W E N body fr1 (st1.set l (.loop fr ps asg body N 2 none)) fun e _ st2 => st2[l]? = some (.loop fr ps asg body N 2 none) ∧ match e with
      | .normal => Q (.bool true) (st2.set l (.loop fr ps asg body N 0 none))
      | .ret => Q (.bool false) (st2.set l (.loop fr ps asg body N 1 (some .ret)))
      | .exit i => Q (.bool false) (st2.set l (.loop fr ps asg body N 1 (some (.exit i))))
      | _ => False

theorem setPs_rel {K ι st} : ∀ (ps : List Nat) (args : List PV) (vs : List Value) (fr : Fr) (tm : Array Value), args.length = vs.length → (∀ (i : Nat) (p : PV) (v : Value), args[i]? = some p → vs[i]? = some v → VRel K ι st p v) → FrRel K ι st fr tm →
    FrRel K ι st (setPs ps args fr) ((ps.zip vs).foldl (fun tm q => tm.setIfInBounds q.1 q.2) tm) ∧ ((ps.zip vs).foldl (fun tm q => tm.setIfInBounds q.1 q.2) tm).size = tm.size
  | [], args, vs, fr, tm, _, _, h => by simp [setPs, h]
  | p :: ps, [], [], fr, tm, _, _, h => by simp [setPs, h]
  | p :: ps, x :: xs, v :: vs, fr, tm, hl, hr, h => by
    have h1 : FrRel K ι st (upd fr (some p) x) (tm.setIfInBounds p v) := FrRel.put (a := { tmps := tm, defers := [] }) (d := some p) h (hr 0 x v rfl rfl)
    obtain ⟨a1, a2⟩ := setPs_rel ps xs vs _ _ (by simpa using hl) (fun i p v hp hv => hr (i + 1) p v (by simpa using hp) (by simpa using hv)) h1
    refine ⟨by simpa [setPs] using a1, ?_⟩
    rw [List.zip_cons_cons, List.foldl_cons, a2]
    simp
  | p :: ps, [], v :: vs, fr, tm, hl, _, _ => by simp at hl
  | p :: ps, x :: xs, [], fr, tm, hl, _, _ => by simp at hl

theorem loopOf {G K ι st w} (h : Rel G K ι st w) {l : Nat} {fr ps asg body nt s pd} (hst : st[l]? = some (.loop fr ps asg body nt s pd)) {b : Nat} (hb : ι l = .pointer (some ⟨b, 0, none⟩)) :
    ∃ r, w.heap[b]? = some (.loop r) ∧ loopIs K ι st fr ps asg body nt s pd r := by
  obtain ⟨b', r, hh, hw, hl⟩ := h.obj l _ hst
  rw [hb] at hh
  injection hh with hh
  injection hh with hh
  injection hh with hh
  subst hh
  exact ⟨r, hw, hl⟩

theorem ι_loop {K ι st K' ι' st'} (x : Ext K ι st K' ι' st') {l : Nat} {fr ps asg body nt s pd} (hst : st[l]? = some (.loop fr ps asg body nt s pd)) : ι' l = ι l := by
  obtain ⟨o', _, hle⟩ := x.ids l _ hst
  cases o' <;> simp [Ob.le] at hle
  exact hle.symm

/-- **A round's contract, out of the code.** -/
theorem yspec_of_W {E : Env} (hE : EnvOk E) {N l : Nat} {fr : Fr} {ps : List Nat} {asg body : Code} {args : List PV} {st : Store} {v : PV} {st' : Store} (hst : st[l]? = some (.loop fr ps asg body N 0 none))
    (ha : okC E.pl N false asg = true) (hbd : okC E.pl N false body = true) (hl : args.length = ps.length) (h : RoundW E N l fr ps asg body args st fun v1 st1 => v1 = v ∧ st1 = st') : YSpec E l args st v st' := by
  intro K ι w vs b hr hargs hb hlt
  obtain ⟨r, hw, hloop⟩ := loopOf hr hst hb
  obtain ⟨⟨q1, q2, q3, q4, q5⟩, q6, q7, _⟩ := hloop (by omega)
  have hpsz : r.params.size = vs.size := by
    have := congrArg List.length q3
    simp at this
    rw [this, ← hl, hargs.1]
  have hp := setPs_rel (K := K) (ι := ι) (st := st) ps args vs.toList fr r.tmps (by simpa using hargs.1) (fun i p v hp hv => hargs.2 i p v hp (by simpa using hv)) q5
  have hfold : (r.params.zip vs).foldl (fun tmps (t, a) => tmps.setIfInBounds t a) r.tmps = (ps.zip vs.toList).foldl (fun tm q => tm.setIfInBounds q.1 q.2) r.tmps := by
    rw [← q3, ← Array.foldl_toList, Array.toList_zip]
  refine ⟨r.fn, (ps.zip vs.toList).foldl (fun tm q => tm.setIfInBounds q.1 q.2) r.tmps, asg, body, ?_, ?_⟩
  · simp only [Instr.yield, Sem.run_bind, run_getLoop hw, Result.andThen_ok]
    rw [if_neg (by omega)]
    simp only [q1, q2, hfold]
    rfl
  refine roundIn_of_wpIn trivial ?_
  refine W_sound hE (b0 := 0) (Nat.zero_le _) asg _ (.inr ⟨b, rfl⟩) false (fun q => by cases q) ha _ _ (fun e K1 ι1 st1 fr1 a1 w1 q s f z d => ?_) K ι st (setPs ps args fr) _ w (.refl hr) hp.1 (by simp only; rw [hp.2]; exact q4) ⟨[], rfl, by simp, by simp⟩ h
  obtain ⟨rfl, hst1, hbody⟩ := q
  have hb1 : ι1 l = .pointer (some ⟨b, 0, none⟩) := by rw [ι_loop s.ext hst, hb]
  obtain ⟨r1, hw1, hl1⟩ := loopOf s.rel hst1 hb1
  obtain ⟨⟨p1, p2, p3, p4, p5⟩, p6, p7, _⟩ := hl1 (by omega)
  have sB := Stp.loopSet s.rel l hst1 (fr' := fr) (ps' := ps) (asg' := asg) (body' := body) (nt' := N) (s' := 2) (pd' := none) hb1 hw1 (l' := { r1 with state := .busy })
    (fun x _ => ⟨⟨p1, p2, p3, p4, fun t v hv => (p5 t v hv).mono x⟩, fun q => by omega, fun q => by omega, fun q => by omega⟩)
  refine ⟨_, run_beginRound hw1 (p7 rfl), ?_⟩
  refine W_sound hE (b0 := 0) (Nat.zero_le _) body _ (.inr ⟨b, rfl⟩) false (fun q => by cases q) hbd _ _ (fun e K2 ι2 st2 fr2 a2 w2 q s2 f2 z2 d2 => ?_) K1 ι1 _ fr1 a1 _ (.refl sB.rel) (f.mono sB.ext) z (d.step s.rel sB) hbody
  obtain ⟨hst2, hq⟩ := q
  have hl1' : (st1.set l (.loop fr ps asg body N 2 none))[l]? = some (.loop fr ps asg body N 2 none) := by
    have := (List.getElem?_eq_some_iff.1 hst1).1
    simp [this]
  have hb2 : ι2 l = .pointer (some ⟨b, 0, none⟩) := by rw [ι_loop s2.ext hl1', hb1]
  obtain ⟨r2, hw2, hl2⟩ := loopOf s2.rel hst2 hb2
  obtain ⟨⟨t1, t2, t3, t4, t5⟩, _⟩ := hl2 (by omega)
  have fin : ∀ (jump : Option Code) (s' : Nat), (s' = 0 ∧ jump = none ∨ s' = 1 ∧ jump.isNone = false) → ∀ v1, v1 = PV.bool jump.isNone → (v1 = v ∧ st2.set l (.loop fr ps asg body N s' jump) = st') →
      ∃ u w3, (Instr.endRound b jump).run E.P w2 = .ok u w3 ∧ ∃ (K' : Know) (ι' : Nat → Value) (rv : Value), Ending.returned u = .returned rv ∧ Stp E.G K ι st w K' ι' st' w3 ∧ VRel K' ι' st' v rv := by
    rintro jump s' hs' v1 rfl ⟨rfl, rfl⟩
    have sC := Stp.loopSet s2.rel l hst2 (fr' := fr) (ps' := ps) (asg' := asg) (body' := body) (nt' := N) (s' := s') (pd' := jump) hb2 hw2 (l' := { r2 with state := if jump.isNone then .ready else .done, pending := jump })
      (fun x _ => ⟨⟨t1, t2, t3, t4, fun t v hv => (t5 t v hv).mono x⟩, fun _ => rfl, fun q => by
        rcases hs' with ⟨_, rfl⟩ | ⟨e, _⟩
        · rfl
        · omega, fun q => by
        rcases hs' with ⟨e, _⟩ | ⟨_, e⟩
        · omega
        · simp only [e]; rfl⟩)
    exact ⟨_, _, run_endRound hw2 jump, K2, ι2, _, rfl, (s.trans sB).trans (s2.trans sC), .tree _ _ (.bool _)⟩
  cases e with
  | normal => exact fin none 0 (.inl ⟨rfl, rfl⟩) _ rfl hq
  | ret => exact fin (some .ret) 1 (.inr ⟨rfl, rfl⟩) _ rfl hq
  | exit i => exact fin (some (.exit i)) 1 (.inr ⟨rfl, rfl⟩) _ rfl hq
  | goto _ => exact hq.elim
  | panic _ => exact hq.elim
  | outgrown => exact hq.elim

end Go.Pv
