/-
  The pure machine, part Y: contracts of functions out of their code (2).
-/
import Derived.Test.YtbfmlkdpeaeblaaPvX
set_option linter.all false
set_option linter.unusedSimpArgs false
set_option linter.unusedVariables false
namespace Go.Pv

/-- A frame's own block is shut. -/
theorem Stp.shut {G K0 ι0 st0 w0 K ι st w} (h : Stp G K0 ι0 st0 w0 K ι st w) {r : Nat} {x} (hr : w.heap[r]? = some (.deferred x)) (h0 : w0.heap.size ≤ r) (y) :
    Stp G K0 ι0 st0 w0 K ι st { w with heap := w.heap.setIfInBounds r (.deferred y) } := by
  have hno := not_owned_deferred h.rel hr
  refine ⟨⟨fun a v e => ?_, h.rel.glob, fun id o e => ?_, h.rel.apart⟩, h.ext, h.os, h.tape, h.output, by simpa using h.size, fun b hb ho => ?_, h.owns, h.fresh⟩
  · have hc := h.rel.know a v e
    have hab : a.block ≠ r := fun q => by rw [World.cell?, q, hr] at hc; simp at hc
    rw [← hc]; exact World.cell?_of_block (w := w) (heap_set_other w r a.block _ hab)
  · have hid := (List.getElem?_eq_some_iff.1 e).1
    exact (h.rel.obj id o e).carry (.refl _ _ _) (fun b hb => heap_set_other w r b _ (fun q => hno ⟨id, hid, q ▸ hb⟩)) (fun _ _ _ q => q)
  · have : b ≠ r := by omega
    rw [heap_set_other w r b _ this]; exact h.block b hb ho

theorem run_takeDeferred {P : Program} {w : World} {r : Nat} (h : w.heap[r]? = some (.deferred (some []))) : (Instr.takeDeferred r).run P w = .ok [] { w with heap := w.heap.setIfInBounds r (.deferred none) } := by
  have : (setObj r (.deferred none)).run P w = .ok () { w with heap := w.heap.setIfInBounds r (.deferred none) } := setObj_run h (by simp)
  simp [Instr.takeDeferred, getObj, Sem.run, h, this] <;> simp [setObj, Sem.run, h]

theorem leaves_marks {P : Program} {G : Nat → PV} {n : Nat} {fn : Func} {tmps : Array Value} {R : Ending → World → Prop} {K0 ι0 st0 w0} {K : Know} {ι : Nat → Value} {st : Store} :
    ∀ (rs : List Nat) (w : World), rs.Nodup → (∀ r ∈ rs, w0.heap.size ≤ r ∧ w.heap[r]? = some (.deferred (some []))) → Stp G K0 ι0 st0 w0 K ι st w →
      (∀ w', Stp G K0 ι0 st0 w0 K ι st w' → ∃ v, (results fn tmps).run P w' = .ok v w' ∧ R (.returned v) w') →
      LeavesInM Fence.wide n P fn tmps R (rs.map fun r => { target := .collected r, args := #[] }) .returning w
  | [], w, _, _, hs, hR => hR w hs
  | r :: rs, w, hn, hr, hs, hR => by
    obtain ⟨h1, h2⟩ := hr r (by simp)
    obtain ⟨hn1, hn2⟩ := List.nodup_cons.1 hn
    refine ⟨by simp, .inl ⟨r, _, rfl, run_takeDeferred h2, ?_⟩⟩
    refine leaves_marks rs _ hn2 (fun r' hr' => ⟨(hr r' (by simp [hr'])).1, ?_⟩) (hs.shut h2 h1 none) hR
    rw [heap_set_other w r r' _ (fun q => hn1 (q ▸ hr'))]
    exact (hr r' (by simp [hr'])).2

/-- A function, and what is looked at beforehand. -/
structure FnOk (E : Env) (f : FuncId) (N : Nat) (rs : List ResultVar) (c : Code) : Prop where
  ex : ∃ fn : Func, E.P.funcs[f]? = some fn ∧ fn.body = some c ∧ fn.ntmps = N ∧ fn.results.toList = rs ∧ (fn.name == "runtime.NumGoroutine") = false
  code : okC E.pl N true c = true
  res : rs.all (resIn N) = true

theorem FnOk.enters {E f N rs c} (h : FnOk E f N rs c) : Enters E.P f := by
  obtain ⟨fn, h1, h2, _, _, h5⟩ := h.ex
  exact ⟨fn, h1, h5, by rw [h2]; rfl⟩

/-- What a function's frame begins with. -/
def argFr (args : List PV) : Fr := fun t => (args[t]?).getD (.tup [])

theorem argFr_rel {K ι st} {args : List PV} {vs : Array Value} (h : ArgsRel K ι st args vs) (m : Nat) : FrRel K ι st (argFr args) (vs ++ Array.replicate m undef) := by
  intro t v hv
  unfold argFr
  by_cases ht : t < vs.size
  · rw [Array.getElem?_append_left ht] at hv
    have : t < args.length := by rw [h.1]; exact ht
    rw [List.getElem?_eq_getElem this]
    exact h.2 t _ v (List.getElem?_eq_getElem this) hv
  · rw [Array.getElem?_append_right (by omega), Array.getElem?_replicate] at hv
    rw [List.getElem?_eq_none (by rw [h.1]; omega)]
    split at hv
    · cases hv; exact undef_rel K ι st
    · cases hv

/-- What a function's code comes to. -/
def BodyW (E : Env) (N : Nat) (rs : List ResultVar) (c : Code) (args : List PV) (st : Store) (Q : PV → Store → Prop) : Prop :=
  W E N c (argFr args) st fun e fr1 st1 => (e = .normal ∨ e = .ret) ∧ ∃ v, resF E rs fr1 st1 = some v ∧ Q v st1

theorem calls_of_W {E : Env} (hE : EnvOk E) {f : FuncId} {N : Nat} {rs : List ResultVar} {c : Code} (hok : FnOk E f N rs c) {args : List PV} {st : Store} {Q : PV → Store → Prop} (hl : args.length ≤ N) (h : BodyW E N rs c args st Q)
    {K : Know} {ι : Nat → Value} {w : World} {vs : Array Value} (hr : Rel E.G K ι st w) (ha : ArgsRel K ι st args vs) :
    Calls E.P f vs w fun e w' => ∃ (K' : Know) (ι' : Nat → Value) (st' : Store) (v : PV) (rv : Value), e = .returned rv ∧ Q v st' ∧ Stp E.G K ι st w K' ι' st' w' ∧ VRel K' ι' st' v rv := by
  obtain ⟨fn, h1, h2, h3, h4, _⟩ := hok.ex
  subst h3 h4
  refine callsIn_wide.1 (callsIn_of_wp_marks (n := 0) h1 h2 trivial ?_)
  refine W_sound hE (b0 := w.heap.size) (Nat.le_refl _) c Fence.wide (.inl rfl) true (fun _ => rfl) hok.code _ _ (fun e K' ι' st' fr' a' w' q s f z d => ?_) K ι st (argFr args) _ w (.refl hr) (argFr_rel ha _) (by simp; have := ha.1; omega) ⟨[], rfl, by simp, by simp⟩ h
  obtain ⟨he, v, hv, hQ⟩ := q
  obtain ⟨ms, hms, nd, hrs⟩ := d
  have : LeavesInM Fence.wide 0 E.P fn a'.tmps (fun e w' => ∃ (K' : Know) (ι' : Nat → Value) (st' : Store) (v : PV) (rv : Value), e = .returned rv ∧ Q v st' ∧ Stp E.G K ι st w K' ι' st' w' ∧ VRel K' ι' st' v rv) a'.defers .returning w' := by
    rw [hms]
    refine leaves_marks ms w' nd hrs s (fun w'' s' => ?_)
    obtain ⟨rv, e1, r1⟩ := resF_run hE s'.rel (fn := fn) f (by rw [z]; exact hok.res) hv
    exact ⟨rv, e1, K', ι', st', v, rv, rfl, hQ, s', r1⟩
  rcases he with rfl | rfl <;> exact this

/-- **A contract, out of the code.** -/
theorem spec_of_W {E : Env} (hE : EnvOk E) {f : FuncId} {N : Nat} {rs : List ResultVar} {c : Code} (hok : FnOk E f N rs c) {args : List PV} {st : Store} {v : PV} {st' : Store} (hl : args.length ≤ N) (h : BodyW E N rs c args st fun v' st1 => v' = v ∧ st1 = st') :
    Spec E f args st v st' :=
  ⟨hok.enters, fun K ι w vs hr ha => (calls_of_W hE hok hl h hr ha).mono fun e w' q => by
    obtain ⟨K', ι', st1, v1, rv, e1, ⟨rfl, rfl⟩, s, r⟩ := q
    exact ⟨K', ι', rv, e1, s, r⟩⟩

/-! ### What is handed out -/
def allSome (f : PV → Option PV) : List PV → Option (List PV)
  | [] => some []
  | p :: ps => match f p, allSome f ps with
    | some q, some qs => some (q :: qs)
    | _, _ => none
theorem allSome_get {f : PV → Option PV} : ∀ {ps qs : List PV}, allSome f ps = some qs → qs.length = ps.length ∧ ∀ (i : Nat) (q : PV), qs[i]? = some q → ∃ p, ps[i]? = some p ∧ f p = some q
  | [], qs, h => by simp [allSome] at h; subst h; simp
  | p :: ps, qs, h => by
    unfold allSome at h
    split at h
    · rename_i q qs' h1 h2
      cases h
      obtain ⟨l, r⟩ := allSome_get h2
      refine ⟨by simp [l], fun i x hx => ?_⟩
      cases i with
      | zero => simp at hx; subst hx; exact ⟨p, rfl, h1⟩
      | succ i => simpa using r i x (by simpa using hx)
    · cases h

def allRows (f : PV → Option PV) (cs : List PV) (off k : Nat) : Nat → Option (List (List PV))
  | 0 => some []
  | n + 1 => match allSome f ((cs.drop off).take k), allRows f cs (off + k) k n with
    | some r, some rs => some (r :: rs)
    | _, _ => none
theorem allRows_get {f : PV → Option PV} {cs : List PV} {k : Nat} : ∀ {n off : Nat} {rows : List (List PV)}, allRows f cs off k n = some rows → rows.length = n ∧
    ∀ (j : Nat) (r : List PV), rows[j]? = some r → allSome f ((cs.drop (off + j * k)).take k) = some r
  | 0, off, rows, h => by simp [allRows] at h; subst h; simp
  | n + 1, off, rows, h => by
    unfold allRows at h
    split at h
    · rename_i r rs h1 h2
      cases h
      obtain ⟨l, g⟩ := allRows_get h2
      refine ⟨by simp [l], fun j x hx => ?_⟩
      cases j with
      | zero => simp at hx; subst hx; simpa using h1
      | succ j =>
        have := g j x (by simpa using hx)
        rw [show off + (j + 1) * k = off + k + j * k by rw [Nat.add_mul]; omega]
        exact this
    · cases h

/-- A value, handed out: what it leads to is never changed again. -/
def pub (st : Store) : Nat → PV → Option PV
  | 0, _ => none
  | n + 1, p => match p with
    | .osl id tot off len k => (match st[id]? with
      | some (.cells cs) => if tot = cs.length ∧ off + len * k ≤ tot ∧ len ≤ LIM then (allRows (pub st n) cs off k len).map fun rows => .sl k rows .ro else none
      | _ => none)
    | .optr id tot off => (match st[id]? with
      | some (.cells cs) => if tot = cs.length then (allSome (pub st n) (cs.drop off)).map .rptr else none
      | _ => none)
    | .agg cs => (allSome (pub st n) cs).map .agg
    | .tup cs => (allSome (pub st n) cs).map .tup
    | .rptr cs => some (.rptr cs)
    | p => if cellOk (tokRo p) then some (tokRo p) else none

end Go.Pv
