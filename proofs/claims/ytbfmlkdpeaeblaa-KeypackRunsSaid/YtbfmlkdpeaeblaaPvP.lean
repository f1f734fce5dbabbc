/-
  The pure machine, part P: contracts of functions; the operations of a region in the order of the text.
-/
import Derived.Test.YtbfmlkdpeaeblaaPvO
import Derived.TacticsIn
set_option linter.all false
set_option linter.unusedSimpArgs false
set_option linter.unusedVariables false
namespace Go.Pv

/-- A call of the function enters its body. -/
def Enters (P : Program) (f : FuncId) : Prop := ∃ fn, P.funcs[f]? = some fn ∧ (fn.name == "runtime.NumGoroutine") = false ∧ fn.body.isNone = false

def ArgsRel (K : Know) (ι : Nat → Value) (st : Store) (ps : List PV) (vs : Array Value) : Prop :=
  ps.length = vs.size ∧ ∀ (i : Nat) (p : PV) (v : Value), ps[i]? = some p → vs[i]? = some v → VRel K ι st p v

/-- **A contract**: called with these, over this store, the function hands back this, and leaves that store. -/
def Spec (E : Env) (f : FuncId) (args : List PV) (st : Store) (v : PV) (st' : Store) : Prop :=
  Enters E.P f ∧ ∀ (K : Know) (ι : Nat → Value) (w : World) (vs : Array Value), Rel E.G K ι st w → ArgsRel K ι st args vs →
    Calls E.P f vs w fun e w' => ∃ (K' : Know) (ι' : Nat → Value) (rv : Value), e = .returned rv ∧ Stp E.G K ι st w K' ι' st' w' ∧ VRel K' ι' st' v rv

/-- **A plain contract**: no store on either side. -/
def Plain (E : Env) (f : FuncId) (args : List PV) (v : PV) : Prop :=
  Enters E.P f ∧ ∀ (K : Know) (w : World) (vs : Array Value), Rel E.G K (fun _ => undef) [] w → (args.length = vs.size ∧ ∀ (i : Nat) (p : PV) (u : Value), args[i]? = some p → vs[i]? = some u → TRel K p u) →
    Calls E.P f vs w fun e w' => ∃ (K' : Know) (rv : Value), e = .returned rv ∧ Stp E.G K (fun _ => undef) [] w K' (fun _ => undef) [] w' ∧ TRel K' v rv

/-- A round of the range over a function whose record is object 'l'. -/
def YSpec (E : Env) (l : Nat) (args : List PV) (st : Store) (v : PV) (st' : Store) : Prop :=
  ∀ (K : Know) (ι : Nat → Value) (w : World) (vs : Array Value) (b : Nat), Rel E.G K ι st w → ArgsRel K ι st args vs → ι l = .pointer (some ⟨b, 0, none⟩) → l < st.length →
    ∃ fn tmps asg body, (Instr.yield b vs).run E.P w = .ok (.round b fn tmps asg body) w ∧
      RoundIn Fence.wide 0 E.P b fn tmps asg body w fun e w' => ∃ (K' : Know) (ι' : Nat → Value) (rv : Value), e = .returned rv ∧ Stp E.G K ι st w K' ι' st' w' ∧ VRel K' ι' st' v rv

/-- With nothing in the store, nothing is owned. -/
theorem Rel.none {G K ι st w} (h : Rel G K ι st w) (ι' : Nat → Value) : Rel G K ι' [] w :=
  ⟨h.know, h.glob, fun id o e => by simp at e, fun i j b hi => by simp at hi⟩
theorem not_owned_nil {ι : Nat → Value} {b : Nat} : ¬ Owned ι [] b := fun ⟨id, h, _⟩ => by simp at h

/-- What is done beside the store leaves the store as it was. -/
theorem Stp.beside {G K ι st w K' ι' ι'' w'} (h : Rel G K ι st w) (s : Stp G K ι' [] w K' ι'' [] w') : Stp G K ι st w K' ι st w' := by
  have hx : Ext K ι st K' ι st := ⟨s.ext.know, Nat.le_refl _, fun id o e => ⟨o, e, Ob.le_refl _ _⟩⟩
  have own_lt : ∀ b, Owned ι st b → b < w.heap.size := fun b hb => h.owned_lt hb
  refine ⟨⟨s.rel.know, s.rel.glob, fun id o e => ?_, h.apart⟩, hx, s.os, s.tape, s.output, s.size, fun b hb _ => s.block b hb not_owned_nil, fun b hb _ => hb, fun a v e => ?_⟩
  · have hid : id < st.length := (List.getElem?_eq_some_iff.1 e).1
    refine (h.obj id o e).carry hx (fun b hb => s.block b (own_lt b ⟨id, hid, hb⟩) not_owned_nil) (fun b hb j hj => ?_)
    cases hk : K' ⟨b, j, none⟩ with
    | none => rfl
    | some v =>
      rcases s.fresh _ _ hk with q | q | q
      · rw [hj] at q; cases q
      · exact absurd (own_lt b ⟨id, hid, hb⟩) (by simpa using q)
      · exact absurd q not_owned_nil
  · rcases s.fresh a v e with q | q | q
    · exact .inl q
    · exact .inr (.inl q)
    · exact absurd q not_owned_nil

/-- A value without references: read with nothing of the store. -/
theorem strip1_rel {K ι st} {p q : PV} {v : Value} (h : VRel K ι st p v) (e : strip1 p = some q) : TRel K q v := by
  have cell : ∀ (p : PV) (v : Value), VRel K ι st p v → cellOk (tokRo p) = true → TRel K (tokRo p) v := fun p v h hc => share_cell h hc
  unfold strip1 at e
  split at e
  · rename_i cs
    obtain ⟨cs', hs, rfl⟩ := Option.map_eq_some_iff.1 e
    unfold share at hs
    split at hs
    · rename_i hall
      cases hs
      obtain ⟨vs, rfl, hl, h1, hr⟩ := h.aggV
      refine .agg _ vs (by simpa using hl) h1 (fun i p v hp hv => ?_)
      rw [List.getElem?_map] at hp
      obtain ⟨p0, hp0, rfl⟩ := Option.map_eq_some_iff.1 hp
      rw [List.all_eq_true] at hall
      exact cell p0 v (hr i p0 v hp0 hv) (hall _ (List.mem_map.2 ⟨p0, List.mem_of_getElem? hp0, rfl⟩))
    · cases hs
  · cases e
    cases h with | tree _ _ h => exact h
  · split at e
    · rename_i hc
      cases e
      exact cell p v h hc
    · cases e

theorem strips_rel {K ι st} : ∀ (ps qs : List PV), strips ps = some qs → qs.length = ps.length ∧ ∀ (i : Nat) (q : PV), qs[i]? = some q → ∃ p, ps[i]? = some p ∧ ∀ v, VRel K ι st p v → TRel K q v
  | [], qs, h => by simp [strips] at h; subst h; simp
  | p :: ps, qs, h => by
    unfold strips at h
    split at h
    · rename_i q qs' h1 h2
      cases h
      obtain ⟨l, r⟩ := strips_rel ps qs' h2
      refine ⟨by simp [l], fun i x hx => ?_⟩
      cases i with
      | zero => simp at hx; subst hx; exact ⟨p, rfl, fun v hv => strip1_rel hv h1⟩
      | succ i => simpa using r i x (by simpa using hx)
    · cases h

theorem Plain.spec {E : Env} {f : FuncId} {args xs : List PV} {v : PV} (h : Plain E f xs v) (hs : strips args = some xs) (st : Store) : Spec E f args st v st := by
  refine ⟨h.1, fun K ι w vs hr ha => ?_⟩
  obtain ⟨l, r⟩ := strips_rel (K := K) (ι := ι) (st := st) args xs hs
  refine Calls.mono (h.2 K w vs (hr.none _) ⟨by rw [l]; exact ha.1, fun i p u hp hu => ?_⟩) (fun e w' q => ?_)
  · obtain ⟨p0, hp0, hq⟩ := r i p hp
    exact hq u (ha.2 i p0 u hp0 hu)
  · obtain ⟨K', rv, e1, s, t⟩ := q
    exact ⟨K', ι, rv, e1, s.beside hr, .tree _ _ t⟩

/-! ### Operations, calls and all -/

def callArgs (E : Env) (fr : Fr) (c : Call) : List PV := (c.args.toList.zip c.argTypes.toList).map fun q => evalT E q.2 fr q.1

/-- A call's plain meaning. -/
def CallR (E : Env) (fr : Fr) (st : Store) (g : Operand) (c : Call) (v : PV) (st' : Store) : Prop :=
  c.args.size = c.argTypes.size ∧
  match evalO E fr g with
  | .fn f caps => if E.pl f then (caps = [] ∧ st' = st ∧ ∃ xs, strips (callArgs E fr c) = some xs ∧ Plain E f xs v) else Spec E f (callArgs E fr c ++ caps) st v st'
  | .yld l => YSpec E l (callArgs E fr c) st v st'
  | _ => False

/-- One operation's plain meaning. -/
def StepR (E : Env) (fr : Fr) (st : Store) (o : Oper) (v : PV) (st' : Store) : Prop :=
  match o.op with
  | .call c => (match c.callee with
    | .value g => CallR E fr st g c v st'
    | _ => opF E o.type fr st o.op = some (v, st'))
  | op => opF E o.type fr st op = some (v, st')

def guardF (ops : Array Oper) (fr : Fr) (o : Oper) : Option Bool :=
  match o.guard with
  | none => some true
  | some (j, b) => match (ops[j]?).bind (·.dst) with
    | none => some false
    | some t => match fr t with
      | .bool c => some (c == b)
      | .tup [] => some false
      | _ => none

/-- A test, and what hangs on it: looked at once the test is decided. -/
def Br (b : Bool) (A B : Prop) : Prop := (b = true → A) ∧ (b = false → B)
@[congr] theorem Br_congr {b b' : Bool} {A B : Prop} (h : b = b') : Br b A B = Br b' A B := by rw [h]
@[simp] theorem Br_true {A B : Prop} : Br true A B = A := by simp [Br]
@[simp] theorem Br_false {A B : Prop} : Br false A B = B := by simp [Br]
theorem Br.mk {b : Bool} {A B : Prop} (h : b = true → A) (h' : b = false → B) : Br b A B := And.intro h h'

/-- The operations of a region, in the order of the text. -/
def OpsW (E : Env) (ops : Array Oper) : List Oper → Fr → Store → (Fr → Store → Prop) → Prop
  | [], fr, st, K => K fr st
  | o :: rest, fr, st, K => match guardF ops fr o with
    | some g => Br g (∃ v st', StepR E fr st o v st' ∧ OpsW E ops rest (upd fr o.dst v) st' K) (OpsW E ops rest (upd fr o.dst (.tup [])) st K)
    | none => False

theorem OpsW.mono {E : Env} {ops : Array Oper} {K K' : Fr → Store → Prop} (hk : ∀ fr st, K fr st → K' fr st) : ∀ (l : List Oper) (fr : Fr) (st : Store), OpsW E ops l fr st K → OpsW E ops l fr st K'
  | [], fr, st, h => hk _ _ h
  | o :: rest, fr, st, h => by
    unfold OpsW at h ⊢
    split at h
    · refine Br.mk (fun hg => ?_) (fun hg => OpsW.mono hk rest _ _ (h.2 hg))
      obtain ⟨v, st', a, b⟩ := h.1 hg
      exact ⟨v, st', a, OpsW.mono hk rest _ _ b⟩
    · exact h.elim

def FenceOk (F : Fence) : Prop := F = Fence.wide ∨ ∃ l, F = Fence.wide.inRound l
theorem FenceOk.fn {F : Fence} (h : FenceOk F) (f : FuncId) : F.fn f := by
  rcases h with rfl | ⟨l, rfl⟩ <;> trivial
theorem FenceOk.depth {F : Fence} (h : FenceOk F) : F.depth = none := by
  rcases h with rfl | ⟨l, rfl⟩ <;> rfl
theorem FenceOk.calls {F : Fence} (h : FenceOk F) {n : Nat} {P f args w R} (c : Calls P f args w R) : CallsIn F n P f args w R := by
  rcases h with rfl | ⟨l, rfl⟩
  · exact callsIn_wide.2 c
  · exact CallsIn.inRound l (callsIn_wide.2 c)

theorem run_callFunc {P : Program} {f : FuncId} (h : Enters P f) (args : Array Value) (w : World) : (callFunc f args).run P w = .ok (.enter f args) w := by
  obtain ⟨fn, h1, h2, h3⟩ := h
  have h2' : ¬ fn.name = "runtime.NumGoroutine" := by simpa using h2
  cases hb : fn.body with
  | none => rw [hb] at h3; cases h3
  | some c => simp [callFunc, Sem.run_bind, run_program, h1, h2', hb, Sem.run_pure]

theorem FenceOk.round {F : Fence} (h : FenceOk F) {n : Nat} {P l f tmps asg body w R} (c : RoundIn Fence.wide 0 P l f tmps asg body w R) : RoundIn F n P l f tmps asg body w R := by
  refine ⟨h.fn _, fun c' cs _ => ?_⟩
  obtain ⟨e, w', hR, s⟩ := c.2 c' cs (room_wide _)
  refine ⟨e, w', hR, ?_⟩
  rcases h with rfl | ⟨l, rfl⟩ <;> exact s

theorem callArgs_rel {E : Env} {K ι st w fr} {a : Act} (h : Rel E.G K ι st w) (hf : FrRel K ι st fr a.tmps) {c : Call} (hsz : c.args.size = c.argTypes.size) (hin : ∀ x ∈ c.args, opdIn a.tmps.size x = true) :
    ArgsRel K ι st (callArgs E fr c) (c.args.map a.eval) := by
  refine ⟨by simp [callArgs, hsz], fun i p v hp hv => ?_⟩
  refine zip_rel (evalT E · fr ·) (fun t x hx => evalT_rel h hf t x hx) c.args.toList c.argTypes.toList (by simpa using hsz) (fun x hx => hin x (by simpa using hx)) i p v hp ?_
  rw [← hv, Array.getElem?_map, List.getElem?_map]
  simp

theorem stepR_sound {E : Env} (hE : EnvOk E) {F : Fence} (hF : FenceOk F) {n : Nat} {K ι st w fr} {a : Act} (h : Rel E.G K ι st w) (hf : FrRel K ι st fr a.tmps) {o : Oper} (hin : opIn a.tmps.size o.op = true) {v : PV} {st' : Store}
    (ho : StepR E fr st o v st') {next : Act → World → Prop} {Q : Exit → Act → World → Prop}
    (hk : ∀ (K' : Know) (ι' : Nat → Value) (w' : World) (rv : Value), Stp E.G K ι st w K' ι' st' w' → VRel K' ι' st' v rv → next (a.put o.dst rv) w') : o.wpIn F n E.P a w next Q := by
  have nd : ∀ c, o.op ≠ .defer c := by
    intro c e
    unfold StepR at ho
    rw [e] at ho
    simp [opF] at ho
  refine ⟨fun f _ => hF.fn f, ?_⟩
  rw [Oper.semAt_eq _ _ _ nd]
  have plainOp : opF E o.type fr st o.op = some (v, st') → o.uponIn F n E.P a next Q ((execOp a.eval o).run E.P w) := by
    intro e
    obtain ⟨K', ι', w', nx, rv, e1, e2, s, r⟩ := opF_sound hE h hf hin e
    rw [e1]
    rcases e2 with rfl | ⟨rfl, rfl⟩
    · exact hk K' ι' w' rv s r
    · exact hk K' ι' w' _ s r
  unfold StepR at ho
  split at ho
  · rename_i c hop
    split at ho
    · rename_i g hcal
      obtain ⟨hsz, ho⟩ := ho
      obtain ⟨callee, args, argTypes⟩ := c
      simp only at hcal
      subst hcal
      have hops : o.op.operands = #[g] ++ args := by rw [hop]; rfl
      have hg := evalO_rel h hf g (opIn_mem hin (by rw [hops]; simp))
      have hargs := callArgs_rel (E := E) h hf (c := ⟨.value g, args, argTypes⟩) hsz (fun x hx => opIn_mem hin (by rw [hops]; simp at hx ⊢; exact .inr hx))
      have hexec : execOp a.eval o = (do let d ← resolve a.eval ⟨.value g, args, argTypes⟩ o.type; invoke d.target d.args) := by unfold execOp; rw [hop]
      have enter : ∀ f (caps : Array Value) (w0 : World), a.eval g = .func (.func f) #[] caps → Enters E.P f → (execOp a.eval o).run E.P w0 = .ok (.enter f (args.map a.eval ++ caps)) w0 := by
        intro f caps w0 e he
        rw [hexec]
        simp [Sem.run_bind, resolve, Deferred.ofValue, e, invoke, Sem.run_pure, run_callFunc he]
      split at ho
      · rename_i f caps he
        rw [he] at hg
        obtain ⟨vcs, e1, hcl, hcr⟩ : ∃ vs, a.eval g = .func (.func f) #[] vs ∧ caps.length = vs.size ∧ ∀ (i : Nat) (p : PV) (v : Value), caps[i]? = some p → vs[i]? = some v → VRel K ι st p v := by
          generalize a.eval g = z at hg ⊢
          cases hg with
          | tree _ _ q => cases q; exact ⟨_, rfl, rfl, fun i p v hp => by simp at hp⟩
          | fn _ _ vs hl hr => exact ⟨vs, rfl, hl, hr⟩
        have go : Spec E f (callArgs E fr ⟨.value g, args, argTypes⟩ ++ caps) st v st' → o.uponIn F n E.P a next Q ((execOp a.eval o).run E.P w) := by
          intro hs
          rw [enter f vcs w e1 hs.1]
          refine ⟨fun q => by rw [hF.depth] at q; simp at q, hF.calls ((hs.2 K ι w _ h ⟨?_, fun i p u hp hu => ?_⟩).mono fun e w' q => ?_)⟩
          · rw [List.length_append, Array.size_append, hargs.1, hcl]
          · by_cases hi : i < (args.map a.eval).size
            · rw [Array.getElem?_append_left hi] at hu
              rw [List.getElem?_append_left (by rw [hargs.1]; exact hi)] at hp
              exact hargs.2 i p u hp hu
            · rw [Array.getElem?_append_right (by omega)] at hu
              rw [List.getElem?_append_right (by rw [hargs.1]; simpa using hi), hargs.1] at hp
              exact hcr _ p u hp hu
          · obtain ⟨K', ι', rv, rfl, s, r⟩ := q
            exact hk K' ι' w' rv s r
        split at ho
        · obtain ⟨rfl, rfl, xs, hx, hp⟩ := ho
          exact go (by rw [List.append_nil]; exact hp.spec hx _)
        · exact go ho
      · rename_i l he
        rw [he] at hg
        obtain ⟨b, e1, e2, hlt⟩ : ∃ b, a.eval g = .func (.yield b) #[] #[] ∧ ι l = .pointer (some ⟨b, 0, none⟩) ∧ l < st.length := by
          generalize a.eval g = z at hg ⊢
          cases hg with
          | tree _ _ q => cases q
          | yld _ b fr ps asg body nt r pd hst hb => exact ⟨b, rfl, hb, (List.getElem?_eq_some_iff.1 hst).1⟩
        obtain ⟨fn, tmps, asg, body, e3, e4⟩ := ho K ι w _ b h hargs e2 hlt
        have : (execOp a.eval o).run E.P w = .ok (.round b fn tmps asg body) w := by
          rw [hexec]
          simp only [Sem.run_bind, resolve, Deferred.ofValue, e1, Sem.run_pure, Result.andThen_ok, invoke]
          simpa using e3
        rw [this]
        refine ⟨fun q => by rw [hF.depth] at q; simp at q, hF.round (RoundIn.mono e4 fun e w' q => ?_)⟩
        obtain ⟨K', ι', rv, rfl, s, r⟩ := q
        exact hk K' ι' w' rv s r
      · exact ho.elim
    · exact plainOp (by rw [hop] at ho ⊢; exact ho)
  · exact plainOp ho

end Go.Pv
