/-
  The pure machine, part N: that the operations on plain values are the model's own: all of them.
-/
import Derived.Test.YtbfmlkdpeaeblaaPvM
set_option linter.all false
set_option linter.unusedSimpArgs false
set_option linter.unusedVariables false
namespace Go.Pv

/-- What an operation of the model has come to. -/
def Does (G : Nat → PV) (K : Know) (ι : Nat → Value) (st : Store) (w : World) (r : Result Next) (v : PV) (st' : Store) : Prop :=
  ∃ (K' : Know) (ι' : Nat → Value) (w' : World) (nx : Next) (rv : Value), r = .ok nx w' ∧ (nx = Next.value rv ∨ (nx = Next.skip ∧ rv = undef)) ∧ Stp G K ι st w K' ι' st' w' ∧ VRel K' ι' st' v rv

theorem Gives.does {G : Nat → PV} {P : Program} {K ι st w} {s : Sem Value} {v : PV} {st' : Store} (h : Gives G K ι st w (s.run P w) v st') : Does G K ι st w ((do Pure.pure (Next.value (← s)) : Sem Next).run P w) v st' := by
  obtain ⟨K', ι', w', rv, e, stp, hv⟩ := h
  exact ⟨K', ι', w', .value rv, rv, by rw [Sem.run_bind, e]; rfl, .inl rfl, stp, hv⟩
theorem does_unit {G : Nat → PV} {P : Program} {K ι st w} {s : Sem Unit} {st' : Store} {K' ι' w'} (e : s.run P w = .ok () w') (stp : Stp G K ι st w K' ι' st' w') : Does G K ι st w ((do s; pure Next.skip : Sem Next).run P w) (.tup []) st' :=
  ⟨K', ι', w', .skip, undef, by rw [Sem.run_bind, e]; rfl, .inr ⟨rfl, rfl⟩, stp, .tree _ _ (.tup [] #[] rfl (by simp))⟩
theorem does_pure {G : Nat → PV} {P : Program} {K ι st w} (h : Rel G K ι st w) {v : PV} {rv : Value} (hv : VRel K ι st v rv) : Does G K ι st w ((pure (Next.value rv) : Sem Next).run P w) v st :=
  ⟨K, ι, w, .value rv, rv, rfl, .inl rfl, .refl h, hv⟩

/-- Every operand lies within the frame. -/
def opIn (N : Nat) (op : Op) : Bool := op.operands.all (opdIn N)
theorem opIn_mem {N : Nat} {op : Op} (h : opIn N op = true) {x : Operand} (hx : x ∈ op.operands) : opdIn N x = true := Array.all_eq_true_iff_forall_mem.1 h x hx

theorem toV_gives {G : Nat → PV} {K ι st w} (h : Rel G K ι st w) {p : PV} (hf : flat0 p = true) : Gives G K ι st w (.ok (toV p) w) p st := Gives.pure h (.tree _ _ (toV_rel K hf))

theorem opt_rel {E : Env} {K ι st w fr} {a : Act} (h : Rel E.G K ι st w) (hf : FrRel K ι st fr a.tmps) (o : Option Operand) (ho : ∀ x, o = some x → opdIn a.tmps.size x = true) :
    (∀ p, o.map (evalO E fr) = some p → ∃ b, o.map a.eval = some b ∧ VRel K ι st p b) ∧ (o.map (evalO E fr) = none → o.map a.eval = none) := by
  cases o with
  | none => exact ⟨fun p q => (by cases q), fun _ => rfl⟩
  | some x => exact ⟨fun p q => ⟨_, rfl, by simp at q; subst q; exact evalO_rel h hf x (ho x rfl)⟩, fun q => by cases q⟩

theorem len_run {P : Program} {t : TypeId} {d : TypeDesc} {b : Value} {n : Nat} (hu : P.underlying t = some d) (hd : (∃ e, d = .slice e) ∧ (∃ A c, b = .slice A n c) ∨ d = .string ∧ (∃ s, b = .string s ∧ s.size = n)) (ty : TypeId) (w : World) :
    (Builtin.len_ #[t] ty #[b]).run P w = .ok (.int .i64 n) w := by
  rcases hd with ⟨⟨e, rfl⟩, ⟨A, c, rfl⟩⟩ | ⟨rfl, ⟨s, rfl, rfl⟩⟩ <;> simp [Builtin.len_, run_underlying hu, goInt]

theorem callB_sound {E : Env} (hE : EnvOk E) {K ι st w} (h : Rel E.G K ι st w) {b : Builtin} {ts : List TypeId} {xs : List PV} {vs : List Value} (hl : xs.length = vs.length) (hx : ∀ (j : Nat) (p : PV) (v : Value), xs[j]? = some p → vs[j]? = some v → VRel K ι st p v)
    {v : PV} {st' : Store} (ho : callB E st b ts xs = some (v, st')) (ty : TypeId) (cs : Array Bool) : Does E.G K ι st w ((builtin b ts.toArray ty cs vs.toArray).run E.P w) v st' := by
  unfold callB at ho
  split at ho
  · rename_i t x
    obtain ⟨b, rfl⟩ : ∃ b, vs = [b] := by
      match vs, hl with
      | [b], _ => exact ⟨b, rfl⟩
    have hb := hx 0 x b rfl rfl
    refine Gives.does (s := Builtin.len_ #[t] ty #[b]) ?_
    split at ho
    · cases ho
    · rename_i ti hT
      obtain ⟨d, i, tyf⟩ := hE.ty hT
      split at ho
      · rename_i e k es tok hk
        simp only [Option.some.injEq, Prod.mk.injEq] at ho
        obtain ⟨rfl, rfl⟩ := ho
        obtain ⟨A, c, _, _, _, rfl, _⟩ := hb.slTree.slCells
        rw [len_run (kind_slice tyf hk) (.inl ⟨⟨_, rfl⟩, ⟨_, _, rfl⟩⟩)]
        exact Gives.pure h (.tree _ _ (.int _ _))
      · rename_i e id tot off n k hk
        simp only [Option.some.injEq, Prod.mk.injEq] at ho
        obtain ⟨rfl, rfl⟩ := ho
        obtain ⟨A, c, rfl⟩ : ∃ A c, b = .slice A n c := by
          cases hb with
          | tree _ _ q => cases q
          | osl _ _ _ _ _ A c => exact ⟨A, c, rfl⟩
        rw [len_run (kind_slice tyf hk) (.inl ⟨⟨_, rfl⟩, ⟨_, _, rfl⟩⟩)]
        exact Gives.pure h (.tree _ _ (.int _ _))
      · rename_i s hk
        simp only [Option.some.injEq, Prod.mk.injEq] at ho
        obtain ⟨rfl, rfl⟩ := ho
        rw [hb.strV, len_run (n := s.length) (kind_str tyf hk) (.inr ⟨rfl, ⟨_, rfl, by simp [bytesV, ByteArray.size]⟩⟩)]
        exact Gives.pure h (.tree _ _ (.int _ _))
      · rename_i tk tv hk
        simp only [Option.some.injEq, Prod.mk.injEq] at ho
        obtain ⟨rfl, rfl⟩ := ho
        have : b = .map none := by cases hb with | tree _ _ q => cases q; rfl
        subst this
        have : (Builtin.len_ #[t] ty #[.map none]).run E.P w = .ok (.int .i64 0) w := by simp [Builtin.len_, run_underlying (kind_map tyf hk), goInt]
        rw [this]
        exact Gives.pure h (.tree _ _ (.int _ _))
      · rename_i tk tv id hk
        split at ho
        · rename_i es hst
          simp only [Option.some.injEq, Prod.mk.injEq] at ho
          obtain ⟨rfl, rfl⟩ := ho
          obtain ⟨bb, ents, clock, hh, hw, hl', hr, _⟩ := h.obj id _ hst
          cases hb with
          | tree _ _ q => cases q
          | map _ es' b' hst' hb =>
            rw [hb] at hh
            injection hh with hh
            injection hh with hh
            subst hh
            have : (Builtin.len_ #[t] ty #[.map (some b')]).run E.P w = .ok (.int .i64 es.length) w := by
              simp [Builtin.len_, run_underlying (kind_map tyf hk), goInt, getObj, Sem.run, hw, hl']
            rw [this]
            exact Gives.pure h (.tree _ _ (.int _ _))
        · cases ho
      · cases ho
  · rename_i k x k' y
    split at ho
    · rename_i hk
      subst hk
      simp only [Option.some.injEq, Prod.mk.injEq] at ho
      obtain ⟨rfl, rfl⟩ := ho
      obtain ⟨b, c, rfl⟩ : ∃ b c, vs = [b, c] := by
        match vs, hl with
        | [b, c], _ => exact ⟨b, c, rfl⟩
      rw [(hx 0 _ b rfl rfl).intV, (hx 1 _ c rfl rfl).intV]
      refine Gives.does (s := Builtin.max_ ts.toArray ty #[.int k x, .int k y]) ?_
      have : (Builtin.max_ ts.toArray ty #[.int k x, .int k y]).run E.P w = .ok (.int k (if y > x then y else x)) w := by simp [Builtin.max_, Builtin.max2]
      rw [this]
      exact Gives.pure h (.tree _ _ (.int _ _))
    · cases ho
  · rename_i k x k' y
    split at ho
    · rename_i hk
      subst hk
      simp only [Option.some.injEq, Prod.mk.injEq] at ho
      obtain ⟨rfl, rfl⟩ := ho
      obtain ⟨b, c, rfl⟩ : ∃ b c, vs = [b, c] := by
        match vs, hl with
        | [b, c], _ => exact ⟨b, c, rfl⟩
      rw [(hx 0 _ b rfl rfl).intV, (hx 1 _ c rfl rfl).intV]
      refine Gives.does (s := Builtin.min_ ts.toArray ty #[.int k x, .int k y]) ?_
      have : (Builtin.min_ ts.toArray ty #[.int k x, .int k y]).run E.P w = .ok (.int k (if y < x then y else x)) w := by simp [Builtin.min_, Builtin.min2]
      rw [this]
      exact Gives.pure h (.tree _ _ (.int _ _))
    · cases ho
  · rename_i k x k' y k'' z
    split at ho
    · rename_i hk
      obtain ⟨rfl, rfl⟩ := hk
      simp only [Option.some.injEq, Prod.mk.injEq] at ho
      obtain ⟨rfl, rfl⟩ := ho
      obtain ⟨b, c, d, rfl⟩ : ∃ b c d, vs = [b, c, d] := by
        match vs, hl with
        | [b, c, d], _ => exact ⟨b, c, d, rfl⟩
      rw [(hx 0 _ b rfl rfl).intV, (hx 1 _ c rfl rfl).intV, (hx 2 _ d rfl rfl).intV]
      refine Gives.does (s := Builtin.max_ ts.toArray ty #[.int k x, .int k y, .int k z]) ?_
      have : (Builtin.max_ ts.toArray ty #[.int k x, .int k y, .int k z]).run E.P w = .ok (.int k (if z > (if y > x then y else x) then z else (if y > x then y else x))) w := by simp [Builtin.max_, Builtin.max2]
      rw [this]
      exact Gives.pure h (.tree _ _ (.int _ _))
    · cases ho
  · rename_i k x k' y k'' z
    split at ho
    · rename_i hk
      obtain ⟨rfl, rfl⟩ := hk
      simp only [Option.some.injEq, Prod.mk.injEq] at ho
      obtain ⟨rfl, rfl⟩ := ho
      obtain ⟨b, c, d, rfl⟩ : ∃ b c d, vs = [b, c, d] := by
        match vs, hl with
        | [b, c, d], _ => exact ⟨b, c, d, rfl⟩
      rw [(hx 0 _ b rfl rfl).intV, (hx 1 _ c rfl rfl).intV, (hx 2 _ d rfl rfl).intV]
      refine Gives.does (s := Builtin.min_ ts.toArray ty #[.int k x, .int k y, .int k z]) ?_
      have : (Builtin.min_ ts.toArray ty #[.int k x, .int k y, .int k z]).run E.P w = .ok (.int k (if z < (if y < x then y else x) then z else (if y < x then y else x))) w := by simp [Builtin.min_, Builtin.min2]
      rw [this]
      exact Gives.pure h (.tree _ _ (.int _ _))
    · cases ho
  · rename_i t tx s x
    obtain ⟨a, b, rfl⟩ : ∃ a b, vs = [a, b] := by
      match vs, hl with
      | [a, b], _ => exact ⟨a, b, rfl⟩
    refine Gives.does (s := Builtin.append_ #[t, tx] ty #[a, b]) ?_
    split at ho
    · rename_i e sz z hT
      split at ho
      · rename_i e' sz' z' k2 es2 tok2 hTx
        exact gives_append hE h hT rfl (hx 0 _ a rfl rfl) (hx 1 _ b rfl rfl) es2 k2 (.inl ⟨_, _, _, hTx, rfl, rfl⟩) ho
      · rename_i sz' z' bs hTx
        exact gives_append hE h hT rfl (hx 0 _ a rfl rfl) (hx 1 _ b rfl rfl) _ 1 (.inr ⟨_, _, hTx, rfl, rfl, rfl, rfl⟩) ho
      · cases ho
    · cases ho
  · cases ho

end Go.Pv
