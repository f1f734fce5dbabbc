/-
  The pure machine, part S: regions, carried over to the model.
-/
import Derived.Test.YtbfmlkdpeaeblaaPvR
set_option linter.all false
set_option linter.unusedSimpArgs false
set_option linter.unusedVariables false
namespace Go.Pv

theorem FrRel.put {K ι st fr} {a : Act} {d : Option Nat} {p : PV} {v : Value} (h : FrRel K ι st fr a.tmps) (hv : VRel K ι st p v) : FrRel K ι st (upd fr d p) (a.put d v).tmps := by
  intro t u hu
  cases d with
  | none => exact h t u hu
  | some d =>
    simp only [Act.put] at hu
    simp only [upd]
    by_cases e : t = d
    · subst e
      have hlt : t < a.tmps.size := by simpa using (Array.getElem?_eq_some_iff.1 hu).1
      rw [Array.getElem?_setIfInBounds_self_of_lt hlt] at hu
      cases hu
      rw [if_pos rfl]
      exact hv
    · rw [Array.getElem?_setIfInBounds_ne (fun q => e q.symm)] at hu
      rw [if_neg e]
      exact h t u hu
theorem put_size (a : Act) (d : Option Nat) (v : Value) : (a.put d v).tmps.size = a.tmps.size := by cases d <;> simp [Act.put]
theorem put_defers (a : Act) (d : Option Nat) (v : Value) : (a.put d v).defers = a.defers := by cases d <;> rfl
theorem FrRel.congr {K ι st fr fr' tm} (h : FrRel K ι st fr tm) (e : fr' = fr) : FrRel K ι st fr' tm := e ▸ h

theorem undef_rel (K ι st) : VRel K ι st (.tup []) undef := .tree _ _ (.tup [] #[] rfl (by simp))
theorem tup_undef {K ι st} {v : Value} (h : VRel K ι st (.tup []) v) : v = undef := by
  obtain ⟨vs, rfl, hl, _⟩ := h.tupV
  have : vs = #[] := by simpa using hl.symm
  subst this; rfl

/-- Every operand and every destination lies within the frame. -/
def regIn (N : Nat) (ops : Array Oper) : Bool := ops.all fun o => opIn N o.op && (match o.dst with | some d => decide (d < N) | none => true)
theorem regIn_at {N : Nat} {ops : Array Oper} (h : regIn N ops = true) {i : Nat} {o : Oper} (ho : ops[i]? = some o) : opIn N o.op = true ∧ ∀ d, o.dst = some d → d < N := by
  unfold regIn at h
  rw [Array.all_eq_true_iff_forall_mem] at h
  have := h o (Array.mem_of_getElem? ho)
  simp only [Bool.and_eq_true] at this
  refine ⟨this.1, fun d hd => ?_⟩
  have h2 := this.2
  rw [hd] at h2
  simpa using h2

theorem guard_rel {ops : Array Oper} {K ι st fr} {a : Act} (hreg : regIn a.tmps.size ops = true) (hf : FrRel K ι st fr a.tmps) {o : Oper} {b : Bool} (h : guardF ops fr o = some b) : Region.wanted o (yielded ops a.tmps) = b := by
  unfold guardF at h
  unfold Region.wanted
  split at h
  · rename_i e; rw [e]; simp at h; simp [h]
  · rename_i j c e
    rw [e]
    simp only
    split at h
    · rename_i hd
      cases h
      simp [yielded, hd]
    · rename_i t hd
      cases ht : a.tmps[t]? with
      | none =>
        obtain ⟨oj, hoj, hod⟩ := Option.bind_eq_some_iff.1 hd
        have := (regIn_at hreg hoj).2 t hod
        rw [Array.getElem?_eq_getElem this] at ht
        cases ht
      | some v =>
        have hv := hf t v ht
        split at h
        · rename_i x hx
          rw [hx] at hv
          cases h
          have := hv.boolV
          subst this
          have : yielded ops a.tmps j = some x := by simp [yielded, hd, ht]
          rw [this]
          cases x <;> cases c <;> rfl
        · rename_i hx
          rw [hx] at hv
          cases h
          have := tup_undef hv
          subst this
          have : yielded ops a.tmps j = none := by simp [yielded, hd, ht, undef]
          rw [this]
          rfl
        · cases h


/-- **A region in the order of the text.** -/
theorem opsW_list {E : Env} (hE : EnvOk E) {F : Fence} (hF : FenceOk F) {n : Nat} {ops : Array Oper} {Q : Exit → Act → World → Prop} {KK : Fr → Store → Prop} {K0 : Know} {ι0 : Nat → Value} {st0 : Store} {w0 : World} {N : Nat} {df : List Deferred}
    (hreg : regIn N ops = true)
    (hQ : ∀ (K : Know) (ι : Nat → Value) (st : Store) (fr : Fr) (a : Act) (w : World), KK fr st → Stp E.G K0 ι0 st0 w0 K ι st w → FrRel K ι st fr a.tmps → a.tmps.size = N → a.defers = df → Q .normal a w) :
    ∀ (l : List Oper), (∀ o ∈ l, ∃ i : Nat, ops[i]? = some o) → ∀ (K : Know) (ι : Nat → Value) (st : Store) (fr : Fr) (a : Act) (w : World), Stp E.G K0 ι0 st0 w0 K ι st w → FrRel K ι st fr a.tmps → a.tmps.size = N → a.defers = df → OpsW E ops l fr st KK → wpListIn F n E.P ops Q l a w
  | [], _, K, ι, st, fr, a, w, hs, hf, hn, hd, h => hQ K ι st fr a w h hs hf hn hd
  | o :: rest, hl, K, ι, st, fr, a, w, hs, hf, hn, hd, h => by
    obtain ⟨i, hi⟩ := hl o (by simp)
    have hin := regIn_at hreg hi
    unfold OpsW at h
    unfold wpListIn
    have h : (guardF ops fr o = some true ∧ ∃ v st', StepR E fr st o v st' ∧ OpsW E ops rest (upd fr o.dst v) st' KK) ∨ (guardF ops fr o = some false ∧ OpsW E ops rest (upd fr o.dst (.tup [])) st KK) := by
      split at h
      · rename_i g hg
        cases g with
        | true => exact .inl ⟨hg, h.1 rfl⟩
        | false => exact .inr ⟨hg, h.2 rfl⟩
      · exact h.elim
    rcases h with ⟨hg, h⟩ | ⟨hg, h⟩
    · rw [if_pos (guard_rel (by rw [hn]; exact hreg) hf hg)]
      obtain ⟨v, st', hst, h⟩ := h
      refine stepR_sound hE hF hs.rel hf (by rw [hn]; exact hin.1) hst (fun K' ι' w' rv s r => ?_)
      exact opsW_list hE hF hreg hQ rest (fun x hx => hl x (by simp [hx])) K' ι' st' _ _ w' (hs.trans s) ((hf.mono s.ext).put r) (by rw [put_size]; exact hn) (by rw [put_defers]; exact hd) h
    · rw [if_neg (by rw [guard_rel (by rw [hn]; exact hreg) hf hg]; simp)]
      refine ⟨fun f _ => hF.fn f, ?_⟩
      exact opsW_list hE hF hreg hQ rest (fun x hx => hl x (by simp [hx])) K ι st _ _ w hs (hf.put (undef_rel K ι st)) (by rw [put_size]; exact hn) (by rw [put_defers]; exact hd) h

theorem guardF_congr {ops : Array Oper} {fr fr' : Fr} {o : Oper} (h : ∀ t ∈ tmpsOf ops o, fr' t = fr t) : guardF ops fr' o = guardF ops fr o := by
  unfold guardF
  cases hg : o.guard with
  | none => rfl
  | some q =>
    obtain ⟨j, b⟩ := q
    simp only
    cases hd : (ops[j]?).bind (·.dst) with
    | none => rfl
    | some t => simp only; rw [h t (by simp [tmpsOf, Oper.looksAt, hg, hd])]

theorem tmps_ops {ops : Array Oper} {o : Oper} {t : Nat} (h : Operand.tmp t ∈ o.op.operands) : t ∈ tmpsOf ops o := by
  unfold tmpsOf Oper.looksAt
  exact List.mem_append_left _ (List.mem_filterMap.2 ⟨.tmp t, by simpa using h, rfl⟩)

def Lof (listed : Array Bool) : Nat → Bool := fun i => listed.getD i false
def unl (ops : Array Oper) (listed : Array Bool) : Nat := (List.range ops.size).countP fun i => !Lof listed i

theorem countP_lt {α : Type} {p q : α → Bool} : ∀ (l : List α), (∀ x ∈ l, q x = true → p x = true) → ∀ x0 ∈ l, p x0 = true → q x0 = false → l.countP q < l.countP p
  | [], _, x0, h, _, _ => by simp at h
  | y :: l, hpq, x0, h, h1, h2 => by
    have mono : l.countP q ≤ l.countP p := List.countP_mono_left fun x hx => hpq x (by simp [hx])
    rw [List.countP_cons, List.countP_cons]
    rcases List.mem_cons.1 h with rfl | h
    · rw [h1, h2]; simp; omega
    · have ih := countP_lt l (fun x hx => hpq x (by simp [hx])) x0 h h1 h2
      cases hq : q y with
      | false => simp; split <;> omega
      | true => rw [hpq y (by simp) hq]; simp; omega

theorem Lof_set {listed : Array Bool} {i : Nat} (h : i < listed.size) : Lof (listed.setIfInBounds i true) = adds (Lof listed) i := by
  funext j
  unfold Lof adds
  by_cases e : j = i
  · subst e; simp [Array.getD_eq_getD_getElem?, h]
  · simp [Array.getD_eq_getD_getElem?, e, Array.getElem?_setIfInBounds_ne (fun q => e q.symm)]

end Go.Pv
