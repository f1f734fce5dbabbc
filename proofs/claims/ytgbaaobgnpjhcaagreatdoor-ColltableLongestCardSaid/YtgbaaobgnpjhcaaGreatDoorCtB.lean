/-
  The pure machine, part V: code, carried over to the model.
-/
import Derived.Test.YtgbaaobgnpjhcaaGreatDoorPvU
import Derived.LoopNIn
import Derived.Lib.ItoaNum
import Derived.Test.YtgbaaobgnpjhcaaGreatDoorChecked
set_option linter.all false
set_option linter.unusedSimpArgs false
set_option linter.unusedVariables false
section
namespace Go.Pv

/-- A loop's record turns. -/
theorem Stp.loopSet {G K ι st w} (h : Rel G K ι st w) (id : Nat) {fr ps asg body nt s pd} (hid : st[id]? = some (.loop fr ps asg body nt s pd)) {fr' ps' asg' body' nt' s' pd'} {b : Nat} {l l' : Loop} (hh : ι id = .pointer (some ⟨b, 0, none⟩)) (hw : w.heap[b]? = some (.loop l))
    (ho : Ext K ι st K ι (st.set id (.loop fr' ps' asg' body' nt' s' pd')) → loopIs K ι (st.set id (.loop fr' ps' asg' body' nt' s' pd')) fr' ps' asg' body' nt' s' pd' l') :
    Stp G K ι st w K ι (st.set id (.loop fr' ps' asg' body' nt' s' pd')) { w with heap := w.heap.setIfInBounds b (.loop l') } := by
  have key := Stp.setOb h id _ (.loop fr' ps' asg' body' nt' s' pd') hid (ι id) (by simp [Ob.le]) K (fun _ _ q => q) { w with heap := w.heap.setIfInBounds b (.loop l') } b b (by rw [hh]; rfl) (by rw [hh]; rfl) (.inl rfl) rfl rfl rfl (by simp)
    (fun k _ hk => heap_set_other w b k _ hk)
    (fun a v q => by
      have hc := h.know a v q
      by_cases hab : a.block = b
      · rw [World.cell?, hab, hw] at hc; simp at hc
      · rw [← hc]; exact World.cell?_of_block (w := w) (heap_set_other w b a.block _ hab))
    (fun a v q => .inl q) (fun x => by
      rw [ins_id] at x ⊢
      exact ⟨b, l', hh, heap_set_same w b _ _ hw, ho x⟩)
  rw [ins_id] at key
  exact key

theorem run_getLoop {P : Program} {w : World} {b : Nat} {l : Loop} (h : w.heap[b]? = some (.loop l)) : (Instr.getLoop b).run P w = .ok l w := by
  simp [Instr.getLoop, getObj, Sem.run, h]
theorem run_setLoop {P : Program} {w : World} {b : Nat} {l : Loop} (h : w.heap[b]? = some (.loop l)) (o : Go.Obj) : (setObj b o).run P w = .ok () { w with heap := w.heap.setIfInBounds b o } :=
  setObj_run h (by simp)

theorem run_endLoop {P : Program} {w : World} {b : Nat} {l : Loop} (h : w.heap[b]? = some (.loop l)) (hs : l.state = .ready ∨ l.state = .done) : (Instr.endLoop b).run P w = .ok l.pending { w with heap := w.heap.setIfInBounds b (.loop { l with state := .exhausted }) } := by
  rcases hs with hs | hs <;> simp [Instr.endLoop, run_getLoop h, run_setLoop h, hs]
theorem run_beginRound {P : Program} {w : World} {b : Nat} {l : Loop} (h : w.heap[b]? = some (.loop l)) (hs : l.state = .ready) : (Instr.beginRound b).run P w = .ok () { w with heap := w.heap.setIfInBounds b (.loop { l with state := .busy }) } := by
  simp [Instr.beginRound, run_getLoop h, run_setLoop h, hs]
theorem run_endRound {P : Program} {w : World} {b : Nat} {l : Loop} (h : w.heap[b]? = some (.loop l)) (jump : Option Code) : (Instr.endRound b jump).run P w = .ok (.bool jump.isNone) { w with heap := w.heap.setIfInBounds b (.loop { l with state := if jump.isNone then .ready else .done, pending := jump }) } := by
  simp [Instr.endRound, run_getLoop h, run_setLoop h]

theorem run_enterLoop {P : Program} (w : World) (fn : FuncId) (tmps : Array Value) (ps : Array Tmp) (asg body : Code) :
    (Instr.enterLoop fn tmps ps asg body none).run P w = .ok (w.heap.size + 1, [{ target := .collected w.heap.size, args := #[] }])
      ((w.alloc (.deferred (some []))).alloc (.loop { state := .ready, pending := none, fn, tmps, params := ps, assign := asg, body, defers := w.heap.size })) := by
  simp [Instr.enterLoop]

/-- **Code, carried over to the model.** -/
theorem W_sound {E : Env} (hE : EnvOk E) {n N b0 : Nat} {K0 : Know} {ι0 : Nat → Value} {st0 : Store} {w0 : World} (hb : b0 ≤ w0.heap.size) : ∀ (c : Code) (F : Fence) (_ : FenceOk F) (rf : Bool) (_ : rf = true → F = Fence.wide) (_ : okC E.pl E.xr N rf c = true)
    (Qv : Exit → Fr → Store → Prop) (Q : Exit → Act → World → Prop)
    (_ : ∀ (e : Exit) (K : Know) (ι : Nat → Value) (st : Store) (fr : Fr) (a : Act) (w : World), Qv e fr st → Stp E.G K0 ι0 st0 w0 K ι st w → FrRel K ι st fr a.tmps → a.tmps.size = N → Dfs b0 w a.defers → Q e a w)
    (K : Know) (ι : Nat → Value) (st : Store) (fr : Fr) (a : Act) (w : World), Stp E.G K0 ι0 st0 w0 K ι st w → FrRel K ι st fr a.tmps → a.tmps.size = N → Dfs b0 w a.defers → W E N c fr st Qv → c.wpIn F n E.P Q a w
  | .skip, F, hF, rf, hrf, hok, Qv, Q, hQ, K, ι, st, fr, a, w, hs, hf, hn, hd, h => wpIn_skip (hQ _ K ι st fr a w h hs hf hn hd)
  | .region id ops draw, F, hF, rf, hrf, hok, Qv, Q, hQ, K, ι, st, fr, a, w, hs, hf, hn, hd, h => by
    simp only [okC, Bool.and_eq_true] at hok
    obtain ⟨hreg, hdr⟩ := hok
    have fin : ∀ (K' : Know) (ι' : Nat → Value) (st' : Store) (fr' : Fr) (a' : Act) (w' : World), Qv .normal fr' st' → Stp E.G K ι st w K' ι' st' w' → FrRel K' ι' st' fr' a'.tmps → a'.tmps.size = N → a'.defers = a.defers → Q .normal a' w' :=
      fun K' ι' st' fr' a' w' q s f z d => hQ _ K' ι' st' fr' a' w' q (hs.trans s) f z (by rw [d]; exact hd.step hs.rel s)
    cases draw with
    | true =>
      unfold W at h
      split at h
      · exact any_region_sound hE hF hreg hs.rel hf hn h fin
      · rename_i hx
        have hx : E.xr id = false := by simpa using hx
        rw [hx] at hdr
        exact draw_sound hE hF (by simpa using hdr) hreg hs.rel hf hn h fin
    | false =>
      unfold W at h
      rw [if_neg (by simp)] at h
      exact wpIn_region_list (opsW_list hE hF hreg (df := a.defers) (K0 := K) (ι0 := ι) (st0 := st) (w0 := w) (fun K' ι' st' fr' a' w' q s f z d => fin K' ι' st' fr' a' w' q s f z d) ops.toList (fun o ho => by
        obtain ⟨i, hi⟩ := List.mem_iff_getElem?.1 ho
        exact ⟨i, by simpa using hi⟩) K ι st fr a w (.refl hs.rel) hf hn rfl h)
  | .seq x y, F, hF, rf, hrf, hok, Qv, Q, hQ, K, ι, st, fr, a, w, hs, hf, hn, hd, h => by
    simp only [okC, Bool.and_eq_true] at hok
    refine wpIn_seq (W_sound hE hb x F hF rf hrf hok.1 (fun e fr' st' => match e with | .normal => W E N y fr' st' Qv | e => Qv e fr' st') _ (fun e K' ι' st' fr' a' w' q s f z d => ?_) K ι st fr a w hs hf hn hd h)
    cases e
    case normal => exact W_sound hE hb y F hF rf hrf hok.2 Qv Q hQ K' ι' st' fr' a' w' s f z d q
    all_goals exact hQ _ K' ι' st' fr' a' w' q s f z d
  | .cond c x y, F, hF, rf, hrf, hok, Qv, Q, hQ, K, ι, st, fr, a, w, hs, hf, hn, hd, h => by
    simp only [okC, Bool.and_eq_true] at hok
    have hc := evalO_rel hs.rel hf c (by rw [hn]; exact hok.1)
    unfold W at h
    split at h
    · rename_i b e
      rw [e] at hc
      cases b with
      | true => exact wpIn_cond_true hc.boolV (W_sound hE hb x F hF rf hrf hok.2.1 Qv Q hQ K ι st fr a w hs hf hn hd (h.1 rfl))
      | false => exact wpIn_cond_false hc.boolV (W_sound hE hb y F hF rf hrf hok.2.2 Qv Q hQ K ι st fr a w hs hf hn hd (h.2 rfl))
    · exact h.elim
  | .block id x, F, hF, rf, hrf, hok, Qv, Q, hQ, K, ι, st, fr, a, w, hs, hf, hn, hd, h => by
    refine wpIn_block (W_sound hE hb x F hF rf hrf hok (fun e fr' st' => match e with | .exit i => if i = id then Qv .normal fr' st' else Qv (.exit i) fr' st' | e => Qv e fr' st') _ (fun e K' ι' st' fr' a' w' q s f z d => ?_) K ι st fr a w hs hf hn hd h)
    cases e <;> first
      | exact hQ _ K' ι' st' fr' a' w' q s f z d
      | skip
    rename_i i
    simp only [Exit.inBlock] at q ⊢
    split at q
    · rename_i e; rw [if_pos e]; exact hQ _ K' ι' st' fr' a' w' q s f z d
    · rename_i e; rw [if_neg e]; exact hQ _ K' ι' st' fr' a' w' q s f z d
  | .loop x, F, hF, rf, hrf, hok, Qv, Q, hQ, K, ι, st, fr, a, w, hs, hf, hn, hd, h => by
    obtain ⟨m, h⟩ := h
    refine wpIn_loop_rounds m ?_
    induction m generalizing K ι st fr a w with
    | zero => exact h.elim
    | succ m ih =>
      rw [roundsIn_succ]
      refine W_sound hE hb x F hF rf hrf hok (fun e fr' st' => match e with | .normal => LoopW (fun fr st Q => W E N x fr st Q) Qv m fr' st' | e => Qv e fr' st') _ (fun e K' ι' st' fr' a' w' q s f z d => ?_) K ι st fr a w hs hf hn hd h
      cases e
      case normal => exact ih K' ι' st' fr' a' w' s f z d q
      all_goals exact hQ _ K' ι' st' fr' a' w' q s f z d
  | .exit i, F, hF, rf, hrf, hok, Qv, Q, hQ, K, ι, st, fr, a, w, hs, hf, hn, hd, h => wpIn_exit (hQ _ K ι st fr a w h hs hf hn hd)
  | .label i, F, hF, rf, hrf, hok, Qv, Q, hQ, K, ι, st, fr, a, w, hs, hf, hn, hd, h => wpIn_label (hQ _ K ι st fr a w h hs hf hn hd)
  | .ret, F, hF, rf, hrf, hok, Qv, Q, hQ, K, ι, st, fr, a, w, hs, hf, hn, hd, h => wpIn_ret (hQ _ K ι st fr a w h hs hf hn hd)
  | .rangeFunc g ps asg body, F, hF, rf, hrf, hok, Qv, Q, hQ, K, ι, st, fr, a, w, hs, hf, hn, hd, h => by
    simp only [okC, Bool.and_eq_true] at hok
    obtain ⟨hrf', hgo, _⟩ := hok
    have hFw := hrf hrf'
    subst hFw
    have hg := evalO_rel hs.rel hf g (by rw [hn]; exact hgo)
    unfold W RangeW at h
    split at h
    · rename_i f caps eg
      rw [eg] at hg
      obtain ⟨v, st1, hspec, fr1, ps1, asg1, body1, nt1, s1, pd, hst1, hs2, hfin⟩ := h
      obtain ⟨vcs, e1, hcl, hcr⟩ : ∃ vs, a.eval g = .func (.func f) #[] vs ∧ caps.length = vs.size ∧ ∀ (i : Nat) (p : PV) (v : Value), caps[i]? = some p → vs[i]? = some v → VRel K ι st p v := by
        generalize a.eval g = z at hg ⊢
        cases hg with
        | tree _ _ q => cases q; exact ⟨_, rfl, rfl, fun i p v hp => by simp at hp⟩
        | fn _ _ vs hl hr => exact ⟨vs, rfl, hl, hr⟩
      refine wpIn_rangeFunc (fun fn _ => ?_)
      let w1 := w.alloc (.deferred (some []))
      let rec0 : Loop := { state := .ready, pending := none, fn, tmps := a.tmps, params := ps, assign := asg, body, defers := w.heap.size }
      let hv : Value := .pointer (some ⟨w.heap.size + 1, 0, none⟩)
      let o0 : Ob := .loop fr ps.toList asg body N 0 none
      have sA : Stp E.G K ι st w K ι st w1 := Stp.allocOther hs.rel _
      have hsz1 : w1.heap.size = w.heap.size + 1 := by simp [w1]
      have sB : Stp E.G K ι st w1 K (ins ι st.length hv) (st ++ [o0]) (w1.alloc (.loop rec0)) := by
        refine Stp.newOb sA.rel o0 (.loop rec0) hv (by rw [hsz1]; rfl) (fun x _ => ⟨w.heap.size + 1, rec0, rfl, ?_, fun _ => ⟨⟨rfl, rfl, rfl, hn, fun t u hu => (hf t u hu).mono x⟩, fun _ => rfl, fun _ => rfl, fun q => by cases q⟩⟩)
        rw [← hsz1]; exact heap_alloc_new w1 _
      have sAB := sA.trans sB
      have hargs : ArgsRel K (ins ι st.length hv) (st ++ [o0]) (.yld st.length :: caps) (#[.func (.yield (w.heap.size + 1)) #[] #[]] ++ vcs) := by
        refine ⟨by simp [hcl]; omega, fun i p u hp hu => ?_⟩
        cases i with
        | zero =>
          have hu' : u = .func (.yield (w.heap.size + 1)) #[] #[] := by
            rw [Array.getElem?_append_left (by simp)] at hu
            simpa using hu.symm
          simp at hp
          subst hp hu'
          exact .yld st.length (w.heap.size + 1) fr ps.toList asg body N 0 none (by simp [o0]) (by rw [ins_same])
        | succ i =>
          rw [Array.getElem?_append_right (by simp)] at hu
          exact (hcr i p u (by simpa using hp) (by simpa using hu)).mono sB.ext
      refine ⟨w.heap.size + 1, [{ target := .collected w.heap.size, args := #[] }], w1.alloc (.loop rec0), { target := .fn (.func f) vcs, args := #[] ++ #[.func (.yield (w.heap.size + 1)) #[] #[]] }, w1.alloc (.loop rec0), f, #[.func (.yield (w.heap.size + 1)) #[] #[]] ++ vcs, w1.alloc (.loop rec0), run_enterLoop w fn a.tmps ps asg body, ?_, fun _ _ => trivial, ?_, ?_, ?_⟩
      · have : (Array.map a.eval #[Operand.const (Value.func (Fn.yield (w.heap.size + 1)) #[] #[])]) = #[Value.func (Fn.yield (w.heap.size + 1)) #[] #[]] := by simp [Act.eval]
        simp only [resolve, rangeCall, e1, Deferred.ofValue, Sem.run_pure, this]
      · simp only [invoke]
        have : (#[] ++ #[Value.func (Fn.yield (w.heap.size + 1)) #[] #[]] ++ vcs) = #[Value.func (Fn.yield (w.heap.size + 1)) #[] #[]] ++ vcs := by simp
        rw [this]
        exact run_callFunc hspec.1 _ _
      · intro q; simp [Fence.wide] at q
      · refine callsIn_wide.2 ((hspec.2 K (ins ι st.length hv) _ _ sB.rel hargs).mono fun e w3 q => ?_)
        obtain ⟨K', ι', rv, rfl, sC, _⟩ := q
        have hlt : st.length < st1.length := (List.getElem?_eq_some_iff.1 hst1).1
        obtain ⟨o', ho', hle⟩ := sC.ext.ids st.length o0 (by simp [o0])
        rw [hst1] at ho'
        injection ho' with ho'
        subst ho'
        have hιl : ι' st.length = hv := by
          have : ins ι st.length hv st.length = ι' st.length := hle
          rw [ins_same] at this; exact this.symm
        obtain ⟨b, l, hh, hw, hl⟩ := sC.rel.obj st.length _ hst1
        rw [hιl] at hh
        simp only [hv, Value.pointer.injEq, Option.some.injEq, Addr.mk.injEq] at hh
        obtain ⟨rfl, _⟩ := hh
        obtain ⟨_, hp, hr0, hr1⟩ := hl (by omega)
        have hstate : l.state = .ready ∨ l.state = .done := by
          rcases (by omega : s1 = 0 ∨ s1 = 1) with q | q
          · exact .inl (hr0 q)
          · exact .inr (hr1 q)
        have sD := Stp.loopSet sC.rel st.length hst1 (fr' := fun _ => .bad) (ps' := []) (asg' := .skip) (body' := .skip) (nt' := 0) (s' := 3) (pd' := none) hιl hw (l' := { l with state := .exhausted }) (fun _ q => by omega)
        have sAll := (hs.trans sAB).trans (sC.trans sD)
        have hfx : FrRel K' ι' (st1.set st.length deadLoop) fr a.tmps := ((hf.mono sAB.ext).mono sC.ext).mono sD.ext
        have hdx : Dfs b0 { w3 with heap := w3.heap.setIfInBounds (w.heap.size + 1) (.loop { l with state := .exhausted }) } ([{ target := .collected w.heap.size, args := #[] }] ++ a.defers) := by
          have hd1 : Dfs b0 (w1.alloc (.loop rec0)) ([{ target := .collected w.heap.size, args := #[] }] ++ a.defers) := by
            obtain ⟨rs, e, nd, hrs⟩ := hd.step hs.rel sAB
            have hold : ∀ r ∈ rs, r < w.heap.size := by
              obtain ⟨rs', e', nd', hrs'⟩ := hd
              intro r hr
              have : r ∈ rs' := by
                have : ({ target := .collected r, args := #[] } : Deferred) ∈ a.defers := by rw [e]; exact List.mem_map.2 ⟨r, hr, rfl⟩
                rw [e'] at this
                obtain ⟨r', h1, h2⟩ := List.mem_map.1 this
                injection h2 with h2 _
                injection h2 with h2
                rw [← h2]; exact h1
              exact heap_lt (hrs' r this).2
            refine ⟨w.heap.size :: rs, by rw [e]; rfl, List.nodup_cons.2 ⟨fun q => absurd (hold _ q) (by omega), nd⟩, fun r hr => ?_⟩
            rcases List.mem_cons.1 hr with rfl | hr
            · refine ⟨Nat.le_trans hb hs.size, ?_⟩
              rw [heap_alloc_old w1 _ _ (by omega)]
              exact heap_alloc_new w _
            · exact hrs r hr
          exact (hd1.step sB.rel sC).step sC.rel sD
        refine ⟨pd, _, (run_endLoop hw hstate).trans (congrArg (fun z => Result.ok z _) (hp hs2)), ?_⟩
        split at hfin
        · exact hQ _ K' ι' _ fr { a with defers := [{ target := .collected w.heap.size, args := #[] }] ++ a.defers } _ hfin sAll hfx hn hdx
        · exact wpIn_ret (hQ _ K' ι' _ fr { a with defers := [{ target := .collected w.heap.size, args := #[] }] ++ a.defers } _ hfin sAll hfx hn hdx)
        · exact wpIn_exit (hQ _ K' ι' _ fr { a with defers := [{ target := .collected w.heap.size, args := #[] }] ++ a.defers } _ hfin sAll hfx hn hdx)
        · exact hfin.elim
    · exact h.elim
  | .goto _, _, _, _, _, _, _, _, _, _, _, _, _, _, _, _, _, _, _, h => h.elim
  | .scope _, _, _, _, _, _, _, _, _, _, _, _, _, _, _, _, _, _, _, h => h.elim
  | .refuse _, _, _, _, _, _, _, _, _, _, _, _, _, _, _, _, _, _, _, h => h.elim

end Go.Pv
end
section
namespace Go.Pv

/-- A result variable's value. -/
def resOne (E : Env) (fr : Fr) (st : Store) : ResultVar → Option PV
  | .tmp t => some (fr t)
  | .cell a t => match E.T t, fr a with
    | some te, .optr id tot off => (match st[id]? with
      | some (.cells cs) => if tot = cs.length then partF te cs off else none
      | _ => none)
    | some te, .rptr cs => partF te cs 0
    | _, _ => none
def resAll (E : Env) (fr : Fr) (st : Store) : List ResultVar → Option (List PV)
  | [] => some []
  | r :: rs => match resOne E fr st r, resAll E fr st rs with
    | some p, some ps => some (p :: ps)
    | _, _ => none
def resF (E : Env) (rs : List ResultVar) (fr : Fr) (st : Store) : Option PV := (resAll E fr st rs).map fun ps => match ps with | [p] => p | ps => .tup ps
def resIn (N : Nat) : ResultVar → Bool | .tmp t => decide (t < N) | .cell a _ => decide (a < N)

def resRun (tmps : Array Value) : ResultVar → Sem Value
  | .tmp t => pure (tmps.getD t undef)
  | .cell a t => do loadVar t (← asAddr (tmps.getD a undef))
theorem results_eq (fn : Func) (tmps : Array Value) : results fn tmps = (do let vs ← fn.results.mapM (resRun tmps); pure (if h : vs.size = 1 then vs[0] else .tuple vs)) := by
  unfold results
  congr 1

theorem resOne_run {E : Env} (hE : EnvOk E) {K ι st w fr} (h : Rel E.G K ι st w) {tmps : Array Value} (hf : FrRel K ι st fr tmps) {r : ResultVar} (hr : resIn tmps.size r = true) {p : PV} (ho : resOne E fr st r = some p) :
    ∃ v, (resRun tmps r).run E.P w = .ok v w ∧ VRel K ι st p v := by
  have at_ : ∀ t, t < tmps.size → ∃ v, tmps.getD t undef = v ∧ VRel K ι st (fr t) v := fun t ht =>
    ⟨tmps[t], by simp [Array.getD_eq_getD_getElem?, ht], hf t _ (Array.getElem?_eq_getElem ht)⟩
  cases r with
  | tmp t =>
    simp only [resOne, Option.some.injEq] at ho
    subst ho
    obtain ⟨v, e, hv⟩ := at_ t (by simpa [resIn] using hr)
    exact ⟨v, by simp [resRun, e, Sem.run_pure], hv⟩
  | cell a t =>
    obtain ⟨v, e, hv⟩ := at_ a (by simpa [resIn] using hr)
    simp only [resOne] at ho
    have ld : ∀ ad, v = .pointer (some ad) → (resRun tmps (.cell a t)).run E.P w = (Instr.loadAt t v).run E.P w := by
      intro ad hv'
      subst hv'
      simp [resRun, e, asAddr, Instr.loadAt, Instr.sureAddr]
    split at ho
    · rename_i te id tot off hT hfa
      rw [hfa] at hv
      obtain ⟨ad, hv'⟩ := hv.optrV
      rw [ld ad hv']
      split at ho
      · rename_i cs hst
        split at ho
        · rename_i htot
          exact (load_pure hE h hT hv (v := p) (st' := st) (by simp [hst, htot, ho])).2
        · cases ho
      · cases ho
    · rename_i te cs hT hfa
      rw [hfa] at hv
      obtain ⟨b, off, f, hv', _⟩ := hv.rptrV
      rw [ld _ hv']
      exact (load_pure hE h hT hv (v := p) (st' := st) (by simp [ho])).2
    · cases ho

theorem resAll_run {E : Env} (hE : EnvOk E) {K ι st w fr} (h : Rel E.G K ι st w) {tmps : Array Value} (hf : FrRel K ι st fr tmps) : ∀ (rs : List ResultVar), rs.all (resIn tmps.size) = true → ∀ ps, resAll E fr st rs = some ps →
    ∃ vs : List Value, (rs.mapM (resRun tmps)).run E.P w = .ok vs w ∧ ps.length = vs.length ∧ ∀ (i : Nat) (p : PV) (v : Value), ps[i]? = some p → vs[i]? = some v → VRel K ι st p v
  | [], _, ps, hp => ⟨[], by simp [Sem.run_pure], by simp [resAll] at hp; subst hp; rfl, by simp⟩
  | r :: rs, hr, ps, hp => by
    simp only [List.all_cons, Bool.and_eq_true] at hr
    unfold resAll at hp
    split at hp
    · rename_i p ps' h1 h2
      cases hp
      obtain ⟨v, e1, r1⟩ := resOne_run hE h hf hr.1 h1
      obtain ⟨vs, e2, l2, r2⟩ := resAll_run hE h hf rs hr.2 ps' h2
      refine ⟨v :: vs, by simp [List.mapM_cons, Sem.run_bind, e1, e2, Sem.run_pure], by simp [l2], fun i p' v' hp hv => ?_⟩
      cases i with
      | zero => simp at hp hv; subst hp hv; exact r1
      | succ i => exact r2 i p' v' (by simpa using hp) (by simpa using hv)
    · cases hp

theorem resF_run {E : Env} (hE : EnvOk E) {K ι st w fr} (h : Rel E.G K ι st w) {fn : Func} {tmps : Array Value} (hf : FrRel K ι st fr tmps) (hr : fn.results.toList.all (resIn tmps.size) = true) {p : PV} (hp : resF E fn.results.toList fr st = some p) :
    ∃ v, (results fn tmps).run E.P w = .ok v w ∧ VRel K ι st p v := by
  obtain ⟨ps, h1, h2⟩ := Option.map_eq_some_iff.1 hp
  obtain ⟨vs, e1, l, r⟩ := resAll_run hE h hf _ hr ps h1
  have hm : (fn.results.mapM (resRun tmps)).run E.P w = .ok vs.toArray w := by
    have : fn.results = fn.results.toList.toArray := by simp
    rw [this, List.mapM_toArray]
    simp [e1]
  refine ⟨_, by rw [results_eq, Sem.run_bind, hm]; rfl, ?_⟩
  match ps, l, r, h2 with
  | [q], l, r, h2 =>
    match vs, l with
    | [v], _ =>
      simp at h2
      subst h2
      exact r 0 q v rfl rfl
  | [], l, r, h2 =>
    match vs, l with
    | [], _ =>
      subst h2
      exact .tree _ _ (.tup [] #[] rfl (by simp))
  | q1 :: q2 :: ps, l, r, h2 =>
    match vs, l with
    | v1 :: v2 :: vs, l =>
      subst h2
      rw [dif_neg (by simp)]
      exact .tup _ _ (by simpa using l) (fun i p v hp hv => r i p v hp (by simpa using hv))

end Go.Pv
end
section
namespace Go.Pv

/-- A frame's own block is shut. -/
theorem Stp.shut {G K0 ι0 st0 w0 K ι st w} (h : Stp G K0 ι0 st0 w0 K ι st w) {r : Nat} {x} (hr : w.heap[r]? = some (.deferred x)) (h0 : w0.heap.size ≤ r) (y) :
    Stp G K0 ι0 st0 w0 K ι st { w with heap := w.heap.setIfInBounds r (.deferred y) } := by
  have hno := not_owned_deferred h.rel hr
  refine ⟨⟨fun a v e => ?_, h.rel.glob, fun id o e => ?_, h.rel.apart, h.rel.gsz.keep fun b hb cs e => heap_set_other w r b _ (fun q => ?_), h.rel.gown⟩, h.ext, h.os, h.tape, h.output, by simpa using h.size, fun b hb ho => ?_, h.owns, h.fresh⟩
  · have hc := h.rel.know a v e
    have hab : a.block ≠ r := fun q => by rw [World.cell?, q, hr] at hc; simp at hc
    rw [← hc]; exact World.cell?_of_block (w := w) (heap_set_other w r a.block _ hab)
  · have hid := (List.getElem?_eq_some_iff.1 e).1
    exact (h.rel.obj id o e).carry (.refl _ _ _) (fun b hb => heap_set_other w r b _ (fun q => hno ⟨id, hid, q ▸ hb⟩)) (fun _ _ _ q => q)
  · obtain ⟨arr, t, fz, h1, _⟩ := h.rel.gsz b cs e
    rw [q, hr] at h1
    cases h1
  · have : b ≠ r := by omega
    rw [heap_set_other w r b _ this]; exact h.block b hb ho

theorem run_takeDeferred {P : Program} {w : World} {r : Nat} (h : w.heap[r]? = some (.deferred (some []))) : (Instr.takeDeferred r).run P w = .ok [] { w with heap := w.heap.setIfInBounds r (.deferred none) } := by
  have : (setObj r (.deferred none)).run P w = .ok () { w with heap := w.heap.setIfInBounds r (.deferred none) } := setObj_run h (by simp)
  simp [Instr.takeDeferred, getObj, Sem.run, h, this] <;> simp [setObj, Sem.run, h]

theorem leaves_marks {P : Program} {G : Nat → PV} {n : Nat} {fn : Func} {tmps : Array Value} {R : Ending → World → Prop} {K0 ι0 st0 w0} {K : Know} {ι : Nat → Value} {st : Store} :
    ∀ (rs : List Nat) (w : World), rs.Nodup → (∀ r ∈ rs, w0.heap.size ≤ r ∧ w.heap[r]? = some (.deferred (some []))) → Stp G K0 ι0 st0 w0 K ι st w →
      (∀ w', Stp G K0 ι0 st0 w0 K ι st w' → ∃ v, (results fn tmps).run P w' = .ok v w' ∧ R (.returned v) w') →
      LeavesInM Fence.wide n P fn tmps R (rs.map fun r => { target := .collected r, args := #[] }) .returning w
  | [], w, _, _, hs, hR => hR w hs
  | r :: rs, w, hn, hr, hs, hR => by
    obtain ⟨h1, h2⟩ := hr r (by simp)
    obtain ⟨hn1, hn2⟩ := List.nodup_cons.1 hn
    refine ⟨by simp, .inl ⟨r, _, rfl, run_takeDeferred h2, ?_⟩⟩
    refine leaves_marks rs _ hn2 (fun r' hr' => ⟨(hr r' (by simp [hr'])).1, ?_⟩) (hs.shut h2 h1 none) hR
    rw [heap_set_other w r r' _ (fun q => hn1 (q ▸ hr'))]
    exact (hr r' (by simp [hr'])).2

/-- A function, and what is looked at beforehand. -/
structure FnOk (E : Env) (f : FuncId) (N : Nat) (rs : List ResultVar) (c : Code) : Prop where
  ex : ∃ fn : Func, E.P.funcs[f]? = some fn ∧ fn.body = some c ∧ fn.ntmps = N ∧ fn.results.toList = rs ∧ (fn.name == "runtime.NumGoroutine") = false
  code : okC E.pl E.xr N true c = true
  res : rs.all (resIn N) = true

theorem FnOk.enters {E f N rs c} (h : FnOk E f N rs c) : Enters E.P f := by
  obtain ⟨fn, h1, h2, _, _, h5⟩ := h.ex
  exact ⟨fn, h1, h5, by rw [h2]; rfl⟩

/-- What a function's frame begins with. -/
def argFr (args : List PV) : Fr := fun t => (args[t]?).getD (.tup [])

theorem argFr_rel {K ι st} {args : List PV} {vs : Array Value} (h : ArgsRel K ι st args vs) (m : Nat) : FrRel K ι st (argFr args) (vs ++ Array.replicate m undef) := by
  intro t v hv
  unfold argFr
  by_cases ht : t < vs.size
  · rw [Array.getElem?_append_left ht] at hv
    have : t < args.length := by rw [h.1]; exact ht
    rw [List.getElem?_eq_getElem this]
    exact h.2 t _ v (List.getElem?_eq_getElem this) hv
  · rw [Array.getElem?_append_right (by omega), Array.getElem?_replicate] at hv
    rw [List.getElem?_eq_none (by rw [h.1]; omega)]
    split at hv
    · cases hv; exact undef_rel K ι st
    · cases hv

/-- What a function's code comes to. -/
def BodyW (E : Env) (N : Nat) (rs : List ResultVar) (c : Code) (args : List PV) (st : Store) (Q : PV → Store → Prop) : Prop :=
  W E N c (argFr args) st fun e fr1 st1 => (e = .normal ∨ e = .ret) ∧ ∃ v, resF E rs fr1 st1 = some v ∧ Q v st1

theorem calls_of_W {E : Env} (hE : EnvOk E) {f : FuncId} {N : Nat} {rs : List ResultVar} {c : Code} (hok : FnOk E f N rs c) {args : List PV} {st : Store} {Q : PV → Store → Prop} (hl : args.length ≤ N) (h : BodyW E N rs c args st Q)
    {K : Know} {ι : Nat → Value} {w : World} {vs : Array Value} (hr : Rel E.G K ι st w) (ha : ArgsRel K ι st args vs) :
    Calls E.P f vs w fun e w' => ∃ (K' : Know) (ι' : Nat → Value) (st' : Store) (v : PV) (rv : Value), e = .returned rv ∧ Q v st' ∧ Stp E.G K ι st w K' ι' st' w' ∧ VRel K' ι' st' v rv := by
  obtain ⟨fn, h1, h2, h3, h4, _⟩ := hok.ex
  subst h3 h4
  refine callsIn_wide.1 (callsIn_of_wp_marks (n := 0) h1 h2 trivial ?_)
  refine W_sound hE (b0 := w.heap.size) (Nat.le_refl _) c Fence.wide (.inl rfl) true (fun _ => rfl) hok.code _ _ (fun e K' ι' st' fr' a' w' q s f z d => ?_) K ι st (argFr args) _ w (.refl hr) (argFr_rel ha _) (by simp; have := ha.1; omega) ⟨[], rfl, by simp, by simp⟩ h
  obtain ⟨he, v, hv, hQ⟩ := q
  obtain ⟨ms, hms, nd, hrs⟩ := d
  have : LeavesInM Fence.wide 0 E.P fn a'.tmps (fun e w' => ∃ (K' : Know) (ι' : Nat → Value) (st' : Store) (v : PV) (rv : Value), e = .returned rv ∧ Q v st' ∧ Stp E.G K ι st w K' ι' st' w' ∧ VRel K' ι' st' v rv) a'.defers .returning w' := by
    rw [hms]
    refine leaves_marks ms w' nd hrs s (fun w'' s' => ?_)
    obtain ⟨rv, e1, r1⟩ := resF_run hE s'.rel (fn := fn) f (by rw [z]; exact hok.res) hv
    exact ⟨rv, e1, K', ι', st', v, rv, rfl, hQ, s', r1⟩
  rcases he with rfl | rfl <;> exact this

/-- **A contract, out of the code.** -/
theorem spec_of_W {E : Env} (hE : EnvOk E) {f : FuncId} {N : Nat} {rs : List ResultVar} {c : Code} (hok : FnOk E f N rs c) {args : List PV} {st : Store} {v : PV} {st' : Store} (hl : args.length ≤ N) (h : BodyW E N rs c args st fun v' st1 => v' = v ∧ st1 = st') :
    Spec E f args st v st' :=
  ⟨hok.enters, fun K ι w vs hr ha => (calls_of_W hE hok hl h hr ha).mono fun e w' q => by
    obtain ⟨K', ι', st1, v1, rv, e1, ⟨rfl, rfl⟩, s, r⟩ := q
    exact ⟨K', ι', rv, e1, s, r⟩⟩

/-! ### What is handed out -/
def allSome (f : PV → Option PV) : List PV → Option (List PV)
  | [] => some []
  | p :: ps => match f p, allSome f ps with
    | some q, some qs => some (q :: qs)
    | _, _ => none
theorem allSome_get {f : PV → Option PV} : ∀ {ps qs : List PV}, allSome f ps = some qs → qs.length = ps.length ∧ ∀ (i : Nat) (q : PV), qs[i]? = some q → ∃ p, ps[i]? = some p ∧ f p = some q
  | [], qs, h => by simp [allSome] at h; subst h; simp
  | p :: ps, qs, h => by
    unfold allSome at h
    split at h
    · rename_i q qs' h1 h2
      cases h
      obtain ⟨l, r⟩ := allSome_get h2
      refine ⟨by simp [l], fun i x hx => ?_⟩
      cases i with
      | zero => simp at hx; subst hx; exact ⟨p, rfl, h1⟩
      | succ i => simpa using r i x (by simpa using hx)
    · cases h

def allRows (f : PV → Option PV) (cs : List PV) (off k : Nat) : Nat → Option (List (List PV))
  | 0 => some []
  | n + 1 => match allSome f ((cs.drop off).take k), allRows f cs (off + k) k n with
    | some r, some rs => some (r :: rs)
    | _, _ => none
theorem allRows_get {f : PV → Option PV} {cs : List PV} {k : Nat} : ∀ {n off : Nat} {rows : List (List PV)}, allRows f cs off k n = some rows → rows.length = n ∧
    ∀ (j : Nat) (r : List PV), rows[j]? = some r → allSome f ((cs.drop (off + j * k)).take k) = some r
  | 0, off, rows, h => by simp [allRows] at h; subst h; simp
  | n + 1, off, rows, h => by
    unfold allRows at h
    split at h
    · rename_i r rs h1 h2
      cases h
      obtain ⟨l, g⟩ := allRows_get h2
      refine ⟨by simp [l], fun j x hx => ?_⟩
      cases j with
      | zero => simp at hx; subst hx; simpa using h1
      | succ j =>
        have := g j x (by simpa using hx)
        rw [show off + (j + 1) * k = off + k + j * k by rw [Nat.add_mul]; omega]
        exact this
    · cases h

/-- A value, handed out: what it leads to is never changed again. -/
def pub (st : Store) : Nat → PV → Option PV
  | 0, _ => none
  | n + 1, p => match p with
    | .osl id tot off len k => (match st[id]? with
      | some (.cells cs) => if tot = cs.length ∧ off + len * k ≤ tot ∧ len ≤ LIM then (allRows (pub st n) cs off k len).map fun rows => .sl k rows .ro else none
      | _ => none)
    | .optr id tot off => (match st[id]? with
      | some (.cells cs) => if tot = cs.length then (allSome (pub st n) (cs.drop off)).map .rptr else none
      | _ => none)
    | .agg cs => (allSome (pub st n) cs).map .agg
    | .tup cs => (allSome (pub st n) cs).map .tup
    | .rptr cs => some (.rptr cs)
    | p => if cellOk (tokRo p) then some (tokRo p) else none

end Go.Pv
end
section
namespace Go.Pv

/-- What is known when a function has ended that began with nothing: all that it laid. -/
def KEnd (K : Know) (n0 : Nat) (w : World) : Know := fun a => if a.block < n0 then K a else w.cell? a

section
variable {G : Nat → PV} {K : Know} {ι0 : Nat → Value} {w0 : World} {K' : Know} {ι : Nat → Value} {st : Store} {w : World}

theorem KEnd.ge (h0 : Rel G K ι0 [] w0) (s : Stp G K ι0 [] w0 K' ι st w) : ∀ a v, K' a = some v → KEnd K w0.heap.size w a = some v := by
  intro a v e
  unfold KEnd
  split
  · rename_i hlt
    rcases s.fresh a v e with q | q | q
    · exact q
    · omega
    · exact absurd q not_owned_nil
  · exact s.rel.know a v e

theorem own_new (s : Stp G K ι0 [] w0 K' ι st w) {id : Nat} (hid : id < st.length) {b : Nat} (hb : hblk (ι id) = some b) : w0.heap.size ≤ b := by
  rcases Nat.lt_or_ge b w0.heap.size with q | q
  · exact absurd (s.owns b ⟨id, hid, hb⟩ q) not_owned_nil
  · exact q

/-- An object's cells, read as known memory. -/
theorem KEnd.cells (s : Stp G K ι0 [] w0 K' ι st w) {id : Nat} {cs : List PV} (hst : st[id]? = some (.cells cs)) {b sz : Nat} (hι : ι id = .slice (some ⟨b, 0, none⟩) 0 sz) :
    ∃ f : Nat → Value, (∀ i, i < cs.length → KEnd K w0.heap.size w ⟨b, i, none⟩ = some (f i)) ∧ (∀ i, (f i).oneCell' = true) ∧ ∀ (i : Nat) (p : PV), cs[i]? = some p → VRel K' ι st p (f i) := by
  obtain ⟨b', arr, e, hh, hw, hl, hc, _⟩ := s.rel.obj id _ hst
  rw [hι] at hh
  injection hh with q1 _ _
  injection q1 with q1
  injection q1 with q1
  subst q1
  have hnew := own_new s (List.getElem?_eq_some_iff.1 hst).1 (b := b) (by rw [hι]; rfl)
  refine ⟨fun i => if i < cs.length then (arr[i]?).getD (.bool false) else .bool false, fun i hi => ?_, fun i => ?_, fun i p hp => ?_⟩
  · have hx : arr[i]? = some arr[i] := Array.getElem?_eq_getElem (by omega)
    unfold KEnd
    rw [if_neg (by simp; omega)]
    simp [World.cell?, hw, hx, hi]
  · show (if i < cs.length then (arr[i]?).getD (.bool false) else .bool false : Value).oneCell' = true
    split
    · rename_i hi
      obtain ⟨v, a1, _, a3⟩ := hc i _ (List.getElem?_eq_getElem hi)
      rw [a1]; exact a3
    · rfl
  · have hi := (List.getElem?_eq_some_iff.1 hp).1
    obtain ⟨v, a1, a2, _⟩ := hc i p hp
    show VRel K' ι st p (if i < cs.length then (arr[i]?).getD (.bool false) else .bool false)
    rw [if_pos hi, a1]; exact a2

theorem pub_rel (h0 : Rel G K ι0 [] w0) (s : Stp G K ι0 [] w0 K' ι st w) : ∀ (n : Nat) (p q : PV) (v : Value), VRel K' ι st p v → pub st n p = some q → TRel (KEnd K w0.heap.size w) q v
  | 0, _, _, _, _, h => by simp [pub] at h
  | n + 1, p, q, v, hv, h => by
    have ih := pub_rel h0 s n
    have mono := KEnd.ge h0 s
    unfold pub at h
    split at h
    · rename_i id tot off len k
      split at h
      · rename_i cs hst
        split at h
        · rename_i hc
          obtain ⟨c1, c2, c3⟩ := hc
          obtain ⟨rows, hrows, rfl⟩ := Option.map_eq_some_iff.1 h
          cases hv with
          | tree _ _ q => cases q
          | osl _ _ _ _ _ A c cs' hst' hle hlc hn heq =>
            rw [hst] at hst'
            injection hst' with hst'
            injection hst' with hst'
            subst hst'
            obtain ⟨b, sz, e1, e2, e3, e4⟩ := heq c1
            obtain ⟨f, f1, f2, f3⟩ := KEnd.cells s hst e1
            obtain ⟨l, g⟩ := allRows_get hrows
            have row : ∀ (j : Nat) (r : List PV), rows[j]? = some r → j < len ∧ allSome (pub st n) ((cs.drop (off + j * k)).take k) = some r := fun j r hr => ⟨by
              have := (List.getElem?_eq_some_iff.1 hr).1; omega, g j r hr⟩
            have fit : ∀ j, j < len → off + j * k + k ≤ cs.length := fun j hj => by
              have : (j + 1) * k ≤ len * k := Nat.mul_le_mul_right k (by omega)
              rw [Nat.add_mul] at this
              omega
            have : TRel (KEnd K w0.heap.size w) (.sl k rows .ro) (.slice A rows.length c) := by
              refine .sl k rows .ro A c b off (fun j i => f (off + (j * k + i))) (fun j r hr => ?_) (fun hne => e2 ?_) (fun j i hj hi => ?_) (fun j i r p hr hp => ?_) (fun j i => f2 _) (by omega) hn.2 hn.1 (.inl rfl)
              · obtain ⟨h1, h2⟩ := row j r hr
                rw [(allSome_get h2).1]
                have := fit j h1
                simp; omega
              · have : rows.length ≠ 0 := fun q => hne (List.length_eq_zero_iff.1 q)
                omega
              · have := fit j (by omega)
                exact f1 _ (by omega)
              · obtain ⟨h1, h2⟩ := row j r hr
                obtain ⟨l2, g2⟩ := allSome_get h2
                obtain ⟨p0, hp0, hpp⟩ := g2 i p hp
                have hi : i < k := by
                  have := (List.getElem?_eq_some_iff.1 hp0).1
                  simp at this; omega
                rw [drop_take_get _ _ _ _ hi] at hp0
                refine ih p0 p _ ?_ hpp
                have := f3 _ p0 hp0
                rw [Nat.add_assoc] at this
                exact this
            rw [l] at this
            exact this
        · cases h
      · cases h
    · rename_i id tot off
      split at h
      · rename_i cs hst
        split at h
        · rename_i hc
          obtain ⟨xs, hxs, rfl⟩ := Option.map_eq_some_iff.1 h
          cases hv with
          | tree _ _ q => cases q
          | optr _ _ _ ad cs' hst' hle heq =>
            rw [hst] at hst'
            injection hst' with hst'
            injection hst' with hst'
            subst hst'
            obtain ⟨b, sz, e1, rfl⟩ := heq hc
            obtain ⟨f, f1, f2, f3⟩ := KEnd.cells s hst e1
            obtain ⟨l, g⟩ := allSome_get hxs
            refine .rptr xs b off (fun i => f (off + i)) (fun i hi => f1 _ ?_) (fun i => f2 _) (fun i p hp => ?_)
            · rw [l] at hi; simp at hi; omega
            · obtain ⟨p0, hp0, hpp⟩ := g i p hp
              rw [List.getElem?_drop] at hp0
              exact ih p0 p _ (f3 _ p0 hp0) hpp
        · cases h
      · cases h
    · rename_i cs
      obtain ⟨xs, hxs, rfl⟩ := Option.map_eq_some_iff.1 h
      obtain ⟨l, g⟩ := allSome_get hxs
      obtain ⟨vs, rfl, hl, h1, hr⟩ := hv.aggV
      refine .agg xs vs (by omega) h1 (fun i p v hp hv => ?_)
      obtain ⟨p0, hp0, hpp⟩ := g i p hp
      exact ih p0 p v (hr i p0 v hp0 hv) hpp
    · rename_i cs
      obtain ⟨xs, hxs, rfl⟩ := Option.map_eq_some_iff.1 h
      obtain ⟨l, g⟩ := allSome_get hxs
      obtain ⟨vs, rfl, hl, hr⟩ := hv.tupV
      refine .tup xs vs (by omega) (fun i p v hp hv => ?_)
      obtain ⟨p0, hp0, hpp⟩ := g i p hp
      exact ih p0 p v (hr i p0 v hp0 hv) hpp
    · cases h
      cases hv with | tree _ _ q => exact q.mono mono
    · split at h
      · rename_i hc
        cases h
        exact (share_cell hv hc).mono mono
      · cases h

/-- With what it laid being known, it is as though it had begun and ended with nothing. -/
theorem Stp.ends (h0 : Rel G K ι0 [] w0) (s : Stp G K ι0 [] w0 K' ι st w) (ι1 : Nat → Value) : Stp G K ι1 [] w0 (KEnd K w0.heap.size w) ι1 [] w := by
  have old : ∀ a v, K a = some v → KEnd K w0.heap.size w a = some v := fun a v e => by
    unfold KEnd
    rw [if_pos (h0.know_lt e)]; exact e
  refine ⟨⟨fun a v e => ?_, fun g => (s.rel.glob g).mono (KEnd.ge h0 s), fun id o e => by simp at e, fun i j b hi => by simp at hi, s.rel.gsz, fun _ _ _ => not_owned_nil⟩, ⟨old, Nat.le_refl _, fun id o e => by simp at e⟩, s.os, s.tape, s.output, s.size, fun b hb _ => s.block b hb not_owned_nil, fun b hb => absurd hb not_owned_nil, fun a v e => ?_⟩
  · unfold KEnd at e
    split at e
    · exact s.rel.know a v (s.ext.know a v e)
    · exact e
  · unfold KEnd at e
    split at e
    · exact .inl e
    · exact .inr (.inl (by omega))
end

/-- **A plain contract, out of the code.** -/
theorem plain_of_W {E : Env} (hE : EnvOk E) {f : FuncId} {N : Nat} {rs : List ResultVar} {c : Code} (hok : FnOk E f N rs c) {args : List PV} {v : PV} (hl : args.length ≤ N) (h : BodyW E N rs c args [] fun p st1 => ∃ n, pub st1 n p = some v) :
    Plain E f args v :=
  ⟨hok.enters, fun K w vs hr ha => (calls_of_W hE hok hl h hr ⟨ha.1, fun i p u hp hu => .tree _ _ (ha.2 i p u hp hu)⟩).mono fun e w' q => by
    obtain ⟨K', ι', st1, p, rv, rfl, ⟨n, hn⟩, s, r⟩ := q
    exact ⟨KEnd K w.heap.size w', rv, rfl, s.ends hr _, pub_rel hr s n p v rv r hn⟩⟩

end Go.Pv
end
section
namespace Go.Pv

def setPs : List Nat → List PV → Fr → Fr
  | p :: ps, x :: xs, fr => setPs ps xs (upd fr (some p) x)
  | _, _, fr => fr

/-- What a round comes to: the loop's assignment, its body, the jump. -/
def RoundW (E : Env) (N l : Nat) (fr : Fr) (ps : List Nat) (asg body : Code) (args : List PV) (st : Store) (Q : PV → Store → Prop) : Prop :=
  W E N asg (setPs ps args fr) st fun e fr1 st1 => e = .normal ∧ st1[l]? = some (.loop fr ps asg body N 0 none) ∧
    W E N body fr1 (st1.set l (.loop fr ps asg body N 2 none)) fun e _ st2 => st2[l]? = some (.loop fr ps asg body N 2 none) ∧ match e with
      | .normal => Q (.bool true) (st2.set l (.loop fr ps asg body N 0 none))
      | .ret => Q (.bool false) (st2.set l (.loop fr ps asg body N 1 (some .ret)))
      | .exit i => Q (.bool false) (st2.set l (.loop fr ps asg body N 1 (some (.exit i))))
      | _ => False

theorem setPs_rel {K ι st} : ∀ (ps : List Nat) (args : List PV) (vs : List Value) (fr : Fr) (tm : Array Value), args.length = vs.length → (∀ (i : Nat) (p : PV) (v : Value), args[i]? = some p → vs[i]? = some v → VRel K ι st p v) → FrRel K ι st fr tm →
    FrRel K ι st (setPs ps args fr) ((ps.zip vs).foldl (fun tm q => tm.setIfInBounds q.1 q.2) tm) ∧ ((ps.zip vs).foldl (fun tm q => tm.setIfInBounds q.1 q.2) tm).size = tm.size
  | [], args, vs, fr, tm, _, _, h => by simp [setPs, h]
  | p :: ps, [], [], fr, tm, _, _, h => by simp [setPs, h]
  | p :: ps, x :: xs, v :: vs, fr, tm, hl, hr, h => by
    have h1 : FrRel K ι st (upd fr (some p) x) (tm.setIfInBounds p v) := FrRel.put (a := { tmps := tm, defers := [] }) (d := some p) h (hr 0 x v rfl rfl)
    obtain ⟨a1, a2⟩ := setPs_rel ps xs vs _ _ (by simpa using hl) (fun i p v hp hv => hr (i + 1) p v (by simpa using hp) (by simpa using hv)) h1
    refine ⟨by simpa [setPs] using a1, ?_⟩
    rw [List.zip_cons_cons, List.foldl_cons, a2]
    simp
  | p :: ps, [], v :: vs, fr, tm, hl, _, _ => by simp at hl
  | p :: ps, x :: xs, [], fr, tm, hl, _, _ => by simp at hl

theorem loopOf {G K ι st w} (h : Rel G K ι st w) {l : Nat} {fr ps asg body nt s pd} (hst : st[l]? = some (.loop fr ps asg body nt s pd)) {b : Nat} (hb : ι l = .pointer (some ⟨b, 0, none⟩)) :
    ∃ r, w.heap[b]? = some (.loop r) ∧ loopIs K ι st fr ps asg body nt s pd r := by
  obtain ⟨b', r, hh, hw, hl⟩ := h.obj l _ hst
  rw [hb] at hh
  injection hh with hh
  injection hh with hh
  injection hh with hh
  subst hh
  exact ⟨r, hw, hl⟩

theorem ι_loop {K ι st K' ι' st'} (x : Ext K ι st K' ι' st') {l : Nat} {fr ps asg body nt s pd} (hst : st[l]? = some (.loop fr ps asg body nt s pd)) : ι' l = ι l := by
  obtain ⟨o', _, hle⟩ := x.ids l _ hst
  cases o' <;> simp [Ob.le] at hle
  exact hle.symm

/-- **A round's contract, out of the code.** -/
theorem yspec_of_W {E : Env} (hE : EnvOk E) {N l : Nat} {fr : Fr} {ps : List Nat} {asg body : Code} {args : List PV} {st : Store} {v : PV} {st' : Store} (hst : st[l]? = some (.loop fr ps asg body N 0 none))
    (ha : okC E.pl E.xr N false asg = true) (hbd : okC E.pl E.xr N false body = true) (hl : args.length = ps.length) (h : RoundW E N l fr ps asg body args st fun v1 st1 => v1 = v ∧ st1 = st') : YSpec E l args st v st' := by
  intro K ι w vs b hr hargs hb hlt
  obtain ⟨r, hw, hloop⟩ := loopOf hr hst hb
  obtain ⟨⟨q1, q2, q3, q4, q5⟩, q6, q7, _⟩ := hloop (by omega)
  have hpsz : r.params.size = vs.size := by
    have := congrArg List.length q3
    simp at this
    rw [this, ← hl, hargs.1]
  have hp := setPs_rel (K := K) (ι := ι) (st := st) ps args vs.toList fr r.tmps (by simpa using hargs.1) (fun i p v hp hv => hargs.2 i p v hp (by simpa using hv)) q5
  have hfold : (r.params.zip vs).foldl (fun tmps (t, a) => tmps.setIfInBounds t a) r.tmps = (ps.zip vs.toList).foldl (fun tm q => tm.setIfInBounds q.1 q.2) r.tmps := by
    rw [← q3, ← Array.foldl_toList, Array.toList_zip]
  refine ⟨r.fn, (ps.zip vs.toList).foldl (fun tm q => tm.setIfInBounds q.1 q.2) r.tmps, asg, body, ?_, ?_⟩
  · simp only [Instr.yield, Sem.run_bind, run_getLoop hw, Result.andThen_ok]
    rw [if_neg (by omega)]
    simp only [q1, q2, hfold]
    rfl
  refine roundIn_of_wpIn trivial ?_
  refine W_sound hE (b0 := 0) (Nat.zero_le _) asg _ (.inr ⟨b, rfl⟩) false (fun q => by cases q) ha _ _ (fun e K1 ι1 st1 fr1 a1 w1 q s f z d => ?_) K ι st (setPs ps args fr) _ w (.refl hr) hp.1 (by simp only; rw [hp.2]; exact q4) ⟨[], rfl, by simp, by simp⟩ h
  obtain ⟨rfl, hst1, hbody⟩ := q
  have hb1 : ι1 l = .pointer (some ⟨b, 0, none⟩) := by rw [ι_loop s.ext hst, hb]
  obtain ⟨r1, hw1, hl1⟩ := loopOf s.rel hst1 hb1
  obtain ⟨⟨p1, p2, p3, p4, p5⟩, p6, p7, _⟩ := hl1 (by omega)
  have sB := Stp.loopSet s.rel l hst1 (fr' := fr) (ps' := ps) (asg' := asg) (body' := body) (nt' := N) (s' := 2) (pd' := none) hb1 hw1 (l' := { r1 with state := .busy })
    (fun x _ => ⟨⟨p1, p2, p3, p4, fun t v hv => (p5 t v hv).mono x⟩, fun q => by omega, fun q => by omega, fun q => by omega⟩)
  refine ⟨_, run_beginRound hw1 (p7 rfl), ?_⟩
  refine W_sound hE (b0 := 0) (Nat.zero_le _) body _ (.inr ⟨b, rfl⟩) false (fun q => by cases q) hbd _ _ (fun e K2 ι2 st2 fr2 a2 w2 q s2 f2 z2 d2 => ?_) K1 ι1 _ fr1 a1 _ (.refl sB.rel) (f.mono sB.ext) z (d.step s.rel sB) hbody
  obtain ⟨hst2, hq⟩ := q
  have hl1' : (st1.set l (.loop fr ps asg body N 2 none))[l]? = some (.loop fr ps asg body N 2 none) := by
    have := (List.getElem?_eq_some_iff.1 hst1).1
    simp [this]
  have hb2 : ι2 l = .pointer (some ⟨b, 0, none⟩) := by rw [ι_loop s2.ext hl1', hb1]
  obtain ⟨r2, hw2, hl2⟩ := loopOf s2.rel hst2 hb2
  obtain ⟨⟨t1, t2, t3, t4, t5⟩, _⟩ := hl2 (by omega)
  have fin : ∀ (jump : Option Code) (s' : Nat), (s' = 0 ∧ jump = none ∨ s' = 1 ∧ jump.isNone = false) → ∀ v1, v1 = PV.bool jump.isNone → (v1 = v ∧ st2.set l (.loop fr ps asg body N s' jump) = st') →
      ∃ u w3, (Instr.endRound b jump).run E.P w2 = .ok u w3 ∧ ∃ (K' : Know) (ι' : Nat → Value) (rv : Value), Ending.returned u = .returned rv ∧ Stp E.G K ι st w K' ι' st' w3 ∧ VRel K' ι' st' v rv := by
    rintro jump s' hs' v1 rfl ⟨rfl, rfl⟩
    have sC := Stp.loopSet s2.rel l hst2 (fr' := fr) (ps' := ps) (asg' := asg) (body' := body) (nt' := N) (s' := s') (pd' := jump) hb2 hw2 (l' := { r2 with state := if jump.isNone then .ready else .done, pending := jump })
      (fun x _ => ⟨⟨t1, t2, t3, t4, fun t v hv => (t5 t v hv).mono x⟩, fun _ => rfl, fun q => by
        rcases hs' with ⟨_, rfl⟩ | ⟨e, _⟩
        · rfl
        · omega, fun q => by
        rcases hs' with ⟨e, _⟩ | ⟨_, e⟩
        · omega
        · simp only [e]; rfl⟩)
    exact ⟨_, _, run_endRound hw2 jump, K2, ι2, _, rfl, (s.trans sB).trans (s2.trans sC), .tree _ _ (.bool _)⟩
  cases e with
  | normal => exact fin none 0 (.inl ⟨rfl, rfl⟩) _ rfl hq
  | ret => exact fin (some .ret) 1 (.inr ⟨rfl, rfl⟩) _ rfl hq
  | exit i => exact fin (some (.exit i)) 1 (.inr ⟨rfl, rfl⟩) _ rfl hq
  | goto _ => exact hq.elim
  | panic _ => exact hq.elim
  | outgrown => exact hq.elim

end Go.Pv
end
section
namespace Go.Pv

@[congr] theorem W_congr {E : Env} {N : Nat} {c : Code} {fr fr' : Fr} {st st' : Store} {Q : Exit → Fr → Store → Prop} (h : fr = fr') (h' : st = st') : W E N c fr st Q = W E N c fr' st' Q := by rw [h, h']
@[congr] theorem OpsW_congr {E : Env} {ops : Array Oper} {l : List Oper} {fr fr' : Fr} {st st' : Store} {K : Fr → Store → Prop} (h : fr = fr') (h' : st = st') : OpsW E ops l fr st K = OpsW E ops l fr' st' K := by rw [h, h']
@[congr] theorem StepR_congr {E : Env} {fr fr' : Fr} {st st' : Store} {o : Oper} {v v1 : PV} {s s1 : Store} (h : fr = fr') (h' : st = st') : StepR E fr st o v s = StepR E fr' st' o v s := by rw [h, h']
@[congr] theorem opF_congr' {E : Env} {ty : TypeId} {fr fr' : Fr} {st st' : Store} {op : Op} (h : fr = fr') (h' : st = st') : opF E ty fr st op = opF E ty fr' st' op := by rw [h, h']

/-- Code behind a test that is not decided yet. -/
def Wz (E : Env) (N : Nat) (c : Code) (fr : Fr) (st : Store) (Q : Exit → Fr → Store → Prop) : Prop := W E N c fr st Q
def OpsWz (E : Env) (ops : Array Oper) (l : List Oper) (fr : Fr) (st : Store) (K : Fr → Store → Prop) : Prop := OpsW E ops l fr st K
theorem Br_W1 {E N x fr st Q B} : Br true (Wz E N x fr st Q) B = W E N x fr st Q := by simp [Wz]
theorem Br_W2 {E N x fr st Q A} : Br false A (Wz E N x fr st Q) = W E N x fr st Q := by simp [Wz]
theorem Br_O1 {E ops l fr st K B} : Br true (OpsWz E ops l fr st K) B = OpsW E ops l fr st K := by simp [OpsWz]
theorem Br_O2 {E ops l fr st K A} : Br false A (OpsWz E ops l fr st K) = OpsW E ops l fr st K := by simp [OpsWz]
theorem Br_W {b E N x y fr st Q} (h : b = true → W E N x fr st Q) (h' : b = false → W E N y fr st Q) : Br b (Wz E N x fr st Q) (Wz E N y fr st Q) := Br.mk h h'
theorem Br_O {b E ops l fr st K l' fr' st' K'} (h : b = true → OpsW E ops l fr st K) (h' : b = false → OpsW E ops l' fr' st' K') : Br b (OpsWz E ops l fr st K) (OpsWz E ops l' fr' st' K') := Br.mk h h'

section
variable {E : Env} {N : Nat} {fr : Fr} {st : Store} {Q : Exit → Fr → Store → Prop}
theorem W_skip : W E N .skip fr st Q = Q .normal fr st := rfl
theorem W_region {id : Nat} {l : List Oper} : W E N (.region id l.toArray false) fr st Q = OpsW E l.toArray l fr st (Q .normal) := by
  unfold W
  rw [if_neg (by simp)]
theorem W_regionD {id : Nat} {l : List Oper} (h : E.xr id = false) : W E N (.region id l.toArray true) fr st Q = OpsW E l.toArray l fr st (Q .normal) := by
  unfold W
  rw [if_neg (by simp [h])]
theorem W_regionX {id : Nat} {l : List Oper} (h : E.xr id = true) : W E N (.region id l.toArray true) fr st Q = AnyW E l.toArray (Q .normal) l.length (Array.replicate l.length false) fr st := by
  unfold W
  rw [if_pos (by simp [h])]
  simp
theorem W_seq {a b : Code} : W E N (.seq a b) fr st Q = W E N a fr st fun e fr' st' => match e with | .normal => W E N b fr' st' Q | e => Q e fr' st' := rfl
theorem W_cond {c : Operand} {x y : Code} : W E N (.cond c x y) fr st Q = match evalO E fr c with | .bool b => Br b (Wz E N x fr st Q) (Wz E N y fr st Q) | _ => False := rfl
theorem W_block {id : Nat} {b : Code} : W E N (.block id b) fr st Q = W E N b fr st fun e fr' st' => match e with | .exit i => if i = id then Q .normal fr' st' else Q (.exit i) fr' st' | e => Q e fr' st' := rfl
theorem W_exit {i : Nat} : W E N (.exit i) fr st Q = Q (.exit i) fr st := rfl
theorem W_label {i : Nat} : W E N (.label i) fr st Q = Q .normal fr st := rfl
theorem W_ret : W E N .ret fr st Q = Q .ret fr st := rfl
theorem W_range {g : Operand} {ps : Array Tmp} {asg body : Code} : W E N (.rangeFunc g ps asg body) fr st Q = RangeW E N g ps.toList asg body fr st Q := rfl

theorem OpsW_nil {ops : Array Oper} {K : Fr → Store → Prop} : OpsW E ops [] fr st K = K fr st := rfl
theorem OpsW_app {ops : Array Oper} {K : Fr → Store → Prop} (l1 l2 : List Oper) : ∀ fr st, OpsW E ops (l1 ++ l2) fr st K = OpsW E ops l1 fr st fun fr st => OpsW E ops l2 fr st K := by
  induction l1 with
  | nil => intro fr st; rfl
  | cons o l ih => intro fr st; simp only [List.cons_append, OpsW, ih]
theorem OpsW_app' {ops : Array Oper} {K : Fr → Store → Prop} (l1 l2 : List Oper) : OpsW E ops (l1.append l2) fr st K = OpsW E ops l1 fr st fun fr st => OpsW E ops l2 fr st K := OpsW_app l1 l2 fr st

theorem StepR_opF {d : Option Tmp} {op : Op} {ty : TypeId} {pos : String} {af : Array Edge} {g : Option (Nat × Bool)} {v : PV} {st' : Store} (h : (match op with | .call _ => false | _ => true) = true) :
    StepR E fr st ⟨d, op, ty, pos, af, g⟩ v st' = (opF E ty fr st op = some (v, st')) := by
  cases op <;> first | rfl | cases h
theorem StepR_builtin {d : Option Tmp} {b : Builtin} {args ts} {ty : TypeId} {pos : String} {af : Array Edge} {g : Option (Nat × Bool)} {v : PV} {st' : Store} :
    StepR E fr st ⟨d, .call ⟨.builtin b, args, ts⟩, ty, pos, af, g⟩ v st' = (opF E ty fr st (.call ⟨.builtin b, args, ts⟩) = some (v, st')) := rfl
theorem StepR_value {d : Option Tmp} {x : Operand} {args ts} {ty : TypeId} {pos : String} {af : Array Edge} {g : Option (Nat × Bool)} {v : PV} {st' : Store} :
    StepR E fr st ⟨d, .call ⟨.value x, args, ts⟩, ty, pos, af, g⟩ v st' = CallR E fr st x ⟨.value x, args, ts⟩ v st' := rfl

/-- An operation without a guard, whose outcome is known. -/
theorem OpsW_op {ops : Array Oper} {K : Fr → Store → Prop} {d : Option Tmp} {op : Op} {ty : TypeId} {pos : String} {af : Array Edge} {rest : List Oper} (h : (match op with | .call c => (match c.callee with | .value _ => false | _ => true) | .next _ _ => false | .binOp _ _ _ (.const (.slice none 0 0)) _ => false | _ => true) = true) :
    OpsW E ops (⟨d, op, ty, pos, af, none⟩ :: rest) fr st K = match opF E ty fr st op with | some (v, st') => OpsW E ops rest (upd fr d v) st' K | none => False := by
  have e : ∀ v st', StepR E fr st ⟨d, op, ty, pos, af, none⟩ v st' = (opF E ty fr st op = some (v, st')) := by
    intro v st'
    refine stepR_op (o := ⟨d, op, ty, pos, af, none⟩) (fun c g e1 e2 => ?_)
    simp only at e1
    rw [e1] at h
    simp only at h
    rw [e2] at h
    cases h
  have hx : isNext op = false := by
    cases hq : isNext op with
    | false => rfl
    | true =>
      unfold isNext at hq
      split at hq <;> simp_all
  simp only [OpsW, guardF, Br_true]
  rw [stepW_other (o := ⟨d, op, ty, pos, af, none⟩) hx]
  simp only [e]
  cases opF E ty fr st op with
  | none => simp
  | some q =>
    obtain ⟨v, st'⟩ := q
    simp only [Option.some.injEq, Prod.mk.injEq]
    exact propext ⟨fun ⟨_, _, ⟨h1, h2⟩, h⟩ => by subst h1 h2; exact h, fun h => ⟨_, _, ⟨rfl, rfl⟩, h⟩⟩
theorem OpsW_call {ops : Array Oper} {K : Fr → Store → Prop} {d : Option Tmp} {x : Operand} {args ts} {ty : TypeId} {pos : String} {af : Array Edge} {rest : List Oper} :
    OpsW E ops (⟨d, .call ⟨.value x, args, ts⟩, ty, pos, af, none⟩ :: rest) fr st K = ∃ v st', CallR E fr st x ⟨.value x, args, ts⟩ v st' ∧ OpsW E ops rest (upd fr d v) st' K := by
  simp only [OpsW, guardF, Br_true]
  rw [stepW_other (by rfl)]
  rfl
/-- A range's step. -/
theorem OpsW_next {ops : Array Oper} {K : Fr → Store → Prop} {d : Option Tmp} {x : Operand} {s : Bool} {ty : TypeId} {pos : String} {af : Array Edge} {rest : List Oper} :
    OpsW E ops (⟨d, .next x s, ty, pos, af, none⟩ :: rest) fr st K = NextW E fr st (.next x s) fun v st' => OpsW E ops rest (upd fr d v) st' K := by
  simp only [OpsW, guardF, Br_true]
  rfl
/-- A slice compared with nil. -/
theorem OpsW_eqnil {ops : Array Oper} {K : Fr → Store → Prop} {d : Option Tmp} {x : Operand} {t ty2 : TypeId} {ty : TypeId} {pos : String} {af : Array Edge} {rest : List Oper} :
    OpsW E ops (⟨d, .binOp .eql t x (.const (.slice none 0 0)) ty2, ty, pos, af, none⟩ :: rest) fr st K = (isSlice E t ∧ NilW false (evalO E fr x) st fun v st' => OpsW E ops rest (upd fr d v) st' K) := by
  simp only [OpsW, guardF, Br_true]
  rfl
theorem OpsW_neqnil {ops : Array Oper} {K : Fr → Store → Prop} {d : Option Tmp} {x : Operand} {t ty2 : TypeId} {ty : TypeId} {pos : String} {af : Array Edge} {rest : List Oper} :
    OpsW E ops (⟨d, .binOp .neq t x (.const (.slice none 0 0)) ty2, ty, pos, af, none⟩ :: rest) fr st K = (isSlice E t ∧ NilW true (evalO E fr x) st fun v st' => OpsW E ops rest (upd fr d v) st' K) := by
  simp only [OpsW, guardF, Br_true]
  rfl
theorem NilW_sl {neq : Bool} {k : Nat} {es : List (List PV)} {tok : Tok} {K : PV → Store → Prop} : NilW neq (.sl k es tok) st K = ((es = [] → K (.bool true) st ∧ K (.bool false) st) ∧ (es ≠ [] → K (.bool neq) st)) := rfl
/-- With a guard: by what the guard's temporary holds. -/
theorem OpsW_guard {ops : Array Oper} {K : Fr → Store → Prop} {d : Option Tmp} {op : Op} {ty : TypeId} {pos : String} {af : Array Edge} {j : Nat} {b : Bool} {rest : List Oper} :
    OpsW E ops (⟨d, op, ty, pos, af, some (j, b)⟩ :: rest) fr st K =
      match (ops[j]?).bind (·.dst) with
      | none => OpsW E ops rest (upd fr d (.tup [])) st K
      | some t => match fr t with
        | .bool c => Br (c == b) (OpsWz E ops (⟨d, op, ty, pos, af, none⟩ :: rest) fr st K) (OpsWz E ops rest (upd fr d (.tup [])) st K)
        | .tup [] => OpsW E ops rest (upd fr d (.tup [])) st K
        | _ => False := by
  simp only [OpsWz, OpsW, guardF, Br_true]
  cases (ops[j]?).bind (·.dst) with
  | none => simp
  | some t =>
    simp only
    cases fr t with
    | bool c => rfl
    | tup vs => cases vs <;> simp
    | _ => rfl

theorem upd_some (fr : Fr) (d : Nat) (v : PV) (t : Nat) : upd fr (some d) v t = if t = d then v else fr t := rfl
theorem upd_none (fr : Fr) (v : PV) : upd fr none v = fr := rfl
end


/-- A call of a function with a plain contract. -/
theorem OpsW_pl {E : Env} {ops : Array Oper} {K : Fr → Store → Prop} {fr : Fr} {st : Store} {d : Option Tmp} {f : FuncId} {args ts} {ty : TypeId} {pos : String} {af : Array Edge} {rest : List Oper} {xs : List PV} {r : PV} (h : Plain E f xs r) (hp : E.pl f = true) (hsz : args.size = ts.size)
    (hx : strips (callArgs E fr ⟨.value (.func f), args, ts⟩) = some xs) (k : OpsW E ops rest (upd fr d r) st K) : OpsW E ops (⟨d, .call ⟨.value (.func f), args, ts⟩, ty, pos, af, none⟩ :: rest) fr st K := by
  rw [OpsW_call]
  refine ⟨r, st, ⟨hsz, ?_⟩, k⟩
  simp only [evalO, if_pos hp]
  exact ⟨trivial, trivial, xs, hx, h⟩
/-- A call of a function with a contract. -/
theorem OpsW_sp {E : Env} {ops : Array Oper} {K : Fr → Store → Prop} {fr : Fr} {st : Store} {d : Option Tmp} {g : Operand} {f : FuncId} {caps : List PV} {args ts} {ty : TypeId} {pos : String} {af : Array Edge} {rest : List Oper} {xs : List PV} {r : PV} {st' : Store} (h : Spec E f xs st r st') (hg : evalO E fr g = .fn f caps) (hp : E.pl f = false)
    (hsz : args.size = ts.size) (hx : callArgs E fr ⟨.value g, args, ts⟩ ++ caps = xs) (k : OpsW E ops rest (upd fr d r) st' K) : OpsW E ops (⟨d, .call ⟨.value g, args, ts⟩, ty, pos, af, none⟩ :: rest) fr st K := by
  rw [OpsW_call]
  refine ⟨r, st', ⟨hsz, ?_⟩, k⟩
  simp only [hg, hp]
  subst hx
  exact h
/-- A call of a loop's yield. -/
theorem OpsW_yield {E : Env} {ops : Array Oper} {K : Fr → Store → Prop} {fr : Fr} {st : Store} {d : Option Tmp} {g : Operand} {l : Nat} {args ts} {ty : TypeId} {pos : String} {af : Array Edge} {rest : List Oper} {xs : List PV} {r : PV} {st' : Store} (h : YSpec E l xs st r st') (hg : evalO E fr g = .yld l)
    (hsz : args.size = ts.size) (hx : callArgs E fr ⟨.value g, args, ts⟩ = xs) (k : OpsW E ops rest (upd fr d r) st' K) : OpsW E ops (⟨d, .call ⟨.value g, args, ts⟩, ty, pos, af, none⟩ :: rest) fr st K := by
  rw [OpsW_call]
  refine ⟨r, st', ⟨hsz, ?_⟩, k⟩
  simp only [hg]
  subst hx
  exact h

theorem range1 : List.range 1 = [0] := rfl
theorem range2 : List.range 2 = [0, 1] := rfl
theorem range3 : List.range 3 = [0, 1, 2] := rfl
theorem range4 : List.range 4 = [0, 1, 2, 3] := rfl

def stripT : Tok → Tok | .own _ => .ro | t => t
theorem strip_sl (k : Nat) (es : List (List PV)) (t : Tok) : strip1 (.sl k es t) = some (.sl k es (stripT t)) := by
  cases t <;> simp [strip1, tokRo, cellOk, stripT]
theorem strip_int (k : IntKind) (n : Int) : strip1 (.int k n) = some (.int k n) := by simp [strip1, tokRo, cellOk]
theorem strip_bool (b : Bool) : strip1 (.bool b) = some (.bool b) := by simp [strip1, tokRo, cellOk]
theorem strip_str (s : List UInt8) : strip1 (.str s) = some (.str s) := by simp [strip1, tokRo, cellOk]
theorem pub_int (st : Store) (n : Nat) (k : IntKind) (x : Int) : pub st (n + 1) (.int k x) = some (.int k x) := by simp [pub, cellOk, tokRo]
theorem pub_bool (st : Store) (n : Nat) (b : Bool) : pub st (n + 1) (.bool b) = some (.bool b) := by simp [pub, cellOk, tokRo]
theorem pub_str (st : Store) (n : Nat) (s : List UInt8) : pub st (n + 1) (.str s) = some (.str s) := by simp [pub, cellOk, tokRo]
theorem pub_sl (st : Store) (n : Nat) (k : Nat) (es : List (List PV)) (t : Tok) : pub st (n + 1) (.sl k es t) = some (.sl k es (stripT t)) := by cases t <;> simp [pub, cellOk, tokRo, stripT]

theorem idxN_nat {k : IntKind} (i : Nat) : idxN (.int k (i : Int)) = some i := by simp [idxN]
theorem idxN_lit {k : IntKind} (n : Nat) : idxN (.int k (OfNat.ofNat n)) = some n := idxN_nat n

/-- A loop: a relation that each round keeps, a number that each round lessens. -/
theorem W_loop {E : Env} {N : Nat} {b : Code} {Q : Exit → Fr → Store → Prop} (I : Nat → Fr → Store → Prop) (hs : ∀ n fr st, I n fr st → W E N b fr st fun e fr' st' => match e with | .normal => ∃ m, m < n ∧ I m fr' st' | e => Q e fr' st') :
    ∀ n fr st, I n fr st → W E N (.loop b) fr st Q := by
  have key : ∀ k n fr st, n ≤ k → I n fr st → LoopW (fun fr st Q => W E N b fr st Q) Q (k + 1) fr st := by
    intro k
    induction k with
    | zero =>
      intro n fr st hn hI
      refine W.mono b _ _ (fun e fr' st' q => ?_) fr st (hs n fr st hI)
      cases e <;> first | exact q | skip
      obtain ⟨m, hm, _⟩ := q
      omega
    | succ k ih =>
      intro n fr st hn hI
      refine W.mono b _ _ (fun e fr' st' q => ?_) fr st (hs n fr st hI)
      cases e <;> first | exact q | skip
      obtain ⟨m, hm, hm'⟩ := q
      exact ih m fr' st' (by omega) hm'
  intro n fr st hI
  exact ⟨n + 1, key n n fr st (Nat.le_refl _) hI⟩
end Go.Pv
end
section
namespace Go.Pv

/-- Is there one outcome alone: no step of a range over a map, no region whose orders are all looked at? -/
def dtC (xr : Nat → Bool) : Code → Bool
  | .region id ops draw => (ops.all fun o => !isNext o.op) && !(draw && xr id)
  | .seq a b => dtC xr a && dtC xr b
  | .cond _ x y => dtC xr x && dtC xr y
  | .block _ b => dtC xr b
  | .loop b => dtC xr b
  | _ => true
theorem OpsW_pick {E : Env} {ops : Array Oper} {K : Fr → Store → Prop} : ∀ (l : List Oper) (fr : Fr) (st : Store), (∀ o ∈ l, isNext o.op = false) → OpsW E ops l fr st K → ∃ fr1 st1, K fr1 st1 ∧ OpsW E ops l fr st fun fr' st' => fr' = fr1 ∧ st' = st1
  | [], fr, st, _, h => ⟨fr, st, h, rfl, rfl⟩
  | o :: rest, fr, st, hx, h => by
    unfold OpsW at h
    rw [stepW_other (hx o (by simp))] at h
    have hx' : ∀ o ∈ rest, isNext o.op = false := fun o ho => hx o (by simp [ho])
    cases hg : guardF ops fr o with
    | none => rw [hg] at h; exact h.elim
    | some g =>
      rw [hg] at h
      cases g with
      | true =>
        obtain ⟨v, st', hs, h⟩ := h.1 rfl
        obtain ⟨fr1, st1, hk, hw⟩ := OpsW_pick rest _ _ hx' h
        refine ⟨fr1, st1, hk, ?_⟩
        unfold OpsW
        rw [hg, stepW_other (hx o (by simp))]
        exact Br.mk (fun _ => ⟨v, st', hs, hw⟩) (fun q => by cases q)
      | false =>
        obtain ⟨fr1, st1, hk, hw⟩ := OpsW_pick rest _ _ hx' (h.2 rfl)
        refine ⟨fr1, st1, hk, ?_⟩
        unfold OpsW
        rw [hg]
        exact Br.mk (fun q => by cases q) (fun _ => hw)

def Picks (E : Env) (N : Nat) (c : Code) : Prop := ∀ (fr : Fr) (st : Store) (Q : Exit → Fr → Store → Prop), W E N c fr st Q → ∃ e fr1 st1, Q e fr1 st1 ∧ W E N c fr st fun e' fr' st' => e' = e ∧ fr' = fr1 ∧ st' = st1

theorem LoopW_pick {E : Env} {N : Nat} {b : Code} (hb : Picks E N b) {Q : Exit → Fr → Store → Prop} : ∀ n fr st, LoopW (fun fr st Q => W E N b fr st Q) Q n fr st → ∃ e fr1 st1, Q e fr1 st1 ∧ LoopW (fun fr st Q => W E N b fr st Q) (fun e' fr' st' => e' = e ∧ fr' = fr1 ∧ st' = st1) n fr st
  | 0, _, _, h => h.elim
  | n + 1, fr, st, h => by
    obtain ⟨e, fr1, st1, hq, hw⟩ := hb fr st _ h
    cases e
    case normal =>
      obtain ⟨e2, fr2, st2, hq2, hw2⟩ := LoopW_pick hb n fr1 st1 hq
      refine ⟨e2, fr2, st2, hq2, ?_⟩
      exact W.mono b _ _ (fun e' fr' st' q => by obtain ⟨rfl, rfl, rfl⟩ := q; exact hw2) fr st hw
    all_goals
      refine ⟨_, fr1, st1, hq, ?_⟩
      exact W.mono b _ _ (fun e' fr' st' q => by obtain ⟨rfl, rfl, rfl⟩ := q; exact ⟨rfl, rfl, rfl⟩) fr st hw

theorem W_pick {E : Env} {N : Nat} : ∀ (c : Code), dtC E.xr c = true → Picks E N c
  | .skip, _, fr, st, Q, h => ⟨.normal, fr, st, h, rfl, rfl, rfl⟩
  | .region id ops d, hd, fr, st, Q, h => by
    simp only [dtC, Bool.and_eq_true] at hd
    have hn : ¬ (d && E.xr id) = true := by
      have := hd.2
      cases d <;> simp_all
    unfold W at h
    rw [if_neg hn] at h
    obtain ⟨fr1, st1, hk, hw⟩ := OpsW_pick ops.toList fr st (fun o ho => by
      have := hd.1
      rw [Array.all_eq_true_iff_forall_mem] at this
      simpa using this o (by simpa using ho)) h
    refine ⟨.normal, fr1, st1, hk, ?_⟩
    unfold W
    rw [if_neg hn]
    exact OpsW.mono (fun _ _ q => ⟨rfl, q.1, q.2⟩) _ _ _ hw
  | .seq a b, hd, fr, st, Q, h => by
    simp only [dtC, Bool.and_eq_true] at hd
    obtain ⟨e, fr1, st1, hq, hw⟩ := W_pick a hd.1 fr st _ h
    cases e
    case normal =>
      obtain ⟨e2, fr2, st2, hq2, hw2⟩ := W_pick b hd.2 fr1 st1 _ hq
      refine ⟨e2, fr2, st2, hq2, ?_⟩
      exact W.mono a _ _ (fun e' fr' st' q => by obtain ⟨rfl, rfl, rfl⟩ := q; exact hw2) fr st hw
    all_goals
      refine ⟨_, fr1, st1, hq, ?_⟩
      exact W.mono a _ _ (fun e' fr' st' q => by obtain ⟨rfl, rfl, rfl⟩ := q; exact ⟨rfl, rfl, rfl⟩) fr st hw
  | .cond c x y, hd, fr, st, Q, h => by
    simp only [dtC, Bool.and_eq_true] at hd
    rw [W_cond] at h
    cases hc : evalO E fr c <;> rw [hc] at h <;> try exact h.elim
    rename_i b
    cases b with
    | true =>
      obtain ⟨e, fr1, st1, hq, hw⟩ := W_pick x hd.1 fr st Q (h.1 rfl)
      exact ⟨e, fr1, st1, hq, by rw [W_cond, hc]; exact Br.mk (fun _ => hw) (fun q => by cases q)⟩
    | false =>
      obtain ⟨e, fr1, st1, hq, hw⟩ := W_pick y hd.2 fr st Q (h.2 rfl)
      exact ⟨e, fr1, st1, hq, by rw [W_cond, hc]; exact Br.mk (fun q => by cases q) (fun _ => hw)⟩
  | .block id b, hd, fr, st, Q, h => by
    simp only [dtC] at hd
    obtain ⟨e, fr1, st1, hq, hw⟩ := W_pick b hd fr st _ h
    cases e
    case exit i =>
      by_cases hi : i = id
      · refine ⟨.normal, fr1, st1, by simpa [hi] using hq, ?_⟩
        exact W.mono b _ _ (fun e' fr' st' q => by obtain ⟨rfl, rfl, rfl⟩ := q; simp [hi]) fr st hw
      · refine ⟨.exit i, fr1, st1, by simpa [hi] using hq, ?_⟩
        exact W.mono b _ _ (fun e' fr' st' q => by obtain ⟨rfl, rfl, rfl⟩ := q; simp [hi]) fr st hw
    all_goals
      refine ⟨_, fr1, st1, hq, ?_⟩
      exact W.mono b _ _ (fun e' fr' st' q => by obtain ⟨rfl, rfl, rfl⟩ := q; exact ⟨rfl, rfl, rfl⟩) fr st hw
  | .loop b, hd, fr, st, Q, h => by
    simp only [dtC] at hd
    obtain ⟨n, h⟩ := h
    obtain ⟨e, fr1, st1, hq, hw⟩ := LoopW_pick (W_pick b hd) n fr st h
    exact ⟨e, fr1, st1, hq, n, hw⟩
  | .exit i, _, fr, st, Q, h => ⟨.exit i, fr, st, h, rfl, rfl, rfl⟩
  | .label _, _, fr, st, Q, h => ⟨.normal, fr, st, h, rfl, rfl, rfl⟩
  | .ret, _, fr, st, Q, h => ⟨.ret, fr, st, h, rfl, rfl, rfl⟩
  | .rangeFunc g ps asg body, _, fr, st, Q, h => by
    rw [W_range] at h
    unfold RangeW at h
    cases hg : evalO E fr g <;> rw [hg] at h <;> try exact h.elim
    obtain ⟨v, st1, a1, fr1, ps1, asg1, body1, nt1, s, pd, a2, a3, a4⟩ := h
    have fin : ∀ e, (match pd with | none => e = Exit.normal | some .ret => e = .ret | some (.exit i) => e = .exit i | _ => False) → Q e fr (st1.set st.length deadLoop) →
        ∃ e fr2 st2, Q e fr2 st2 ∧ W E N (.rangeFunc g ps asg body) fr st fun e' fr' st' => e' = e ∧ fr' = fr2 ∧ st' = st2 := by
      intro e he hq
      refine ⟨e, fr, _, hq, ?_⟩
      rw [W_range]
      unfold RangeW
      rw [hg]
      refine ⟨v, st1, a1, fr1, ps1, asg1, body1, nt1, s, pd, a2, a3, ?_⟩
      split at he <;> first | (subst he; exact ⟨rfl, rfl, rfl⟩) | exact he.elim
    split at a4
    · exact fin .normal rfl a4
    · exact fin .ret rfl a4
    · exact fin _ rfl a4
    · exact a4.elim
  | .goto _, _, _, _, _, h => h.elim
  | .scope _, _, _, _, _, h => h.elim
  | .refuse _, _, _, _, _, h => h.elim

/-- A contract whose end is told by a relation. -/
def SpecQ (E : Env) (f : FuncId) (args : List PV) (st : Store) (Q : PV → Store → Prop) : Prop := ∃ v st', Spec E f args st v st' ∧ Q v st'
theorem specQ_of_W {E : Env} (hE : EnvOk E) {f : FuncId} {N : Nat} {rs : List ResultVar} {c : Code} (hok : FnOk E f N rs c) {args : List PV} {st : Store} {Q : PV → Store → Prop} (hl : args.length ≤ N) (hd : dtC E.xr c = true) (h : BodyW E N rs c args st Q) : SpecQ E f args st Q := by
  obtain ⟨e, fr1, st1, ⟨he, v, hv, hq⟩, hw⟩ := W_pick c hd _ _ _ h
  refine ⟨v, st1, spec_of_W hE hok hl (W.mono c _ _ (fun e' fr' st' q => ?_) _ _ hw), hq⟩
  obtain ⟨rfl, rfl, rfl⟩ := q
  exact ⟨he, v, hv, rfl, rfl⟩

def YSpecQ (E : Env) (l : Nat) (args : List PV) (st : Store) (Q : PV → Store → Prop) : Prop := ∃ v st', YSpec E l args st v st' ∧ Q v st'
theorem yspecQ_of_W {E : Env} (hE : EnvOk E) {N l : Nat} {fr : Fr} {ps : List Nat} {asg body : Code} {args : List PV} {st : Store} {Q : PV → Store → Prop} (hst : st[l]? = some (.loop fr ps asg body N 0 none))
    (ha : okC E.pl E.xr N false asg = true) (hbd : okC E.pl E.xr N false body = true) (hl : args.length = ps.length) (hda : dtC E.xr asg = true) (hdb : dtC E.xr body = true) (h : RoundW E N l fr ps asg body args st Q) : YSpecQ E l args st Q := by
  unfold RoundW at h
  obtain ⟨e, fr1, st1, ⟨rfl, h1, h2⟩, hw⟩ := W_pick asg hda _ _ _ h
  obtain ⟨e2, fr2, st2, ⟨h3, h4⟩, hw2⟩ := W_pick body hdb _ _ _ h2
  have go : ∀ v st', (∀ (R : PV → Store → Prop), R v st' → (match e2 with
      | .normal => R (.bool true) (st2.set l (.loop fr ps asg body N 0 none))
      | .ret => R (.bool false) (st2.set l (.loop fr ps asg body N 1 (some .ret)))
      | .exit i => R (.bool false) (st2.set l (.loop fr ps asg body N 1 (some (.exit i))))
      | _ => False)) → Q v st' → YSpecQ E l args st Q := by
    intro v st' hv hq
    refine ⟨v, st', yspec_of_W hE hst ha hbd hl ?_, hq⟩
    unfold RoundW
    refine W.mono asg _ _ (fun e' fr' st'' q => ?_) _ _ hw
    obtain ⟨rfl, rfl, rfl⟩ := q
    refine ⟨rfl, h1, W.mono body _ _ (fun e' fr' st'' q => ?_) _ _ hw2⟩
    obtain ⟨rfl, rfl, rfl⟩ := q
    refine ⟨h3, ?_⟩
    have q := hv (fun v1 st1 => v1 = v ∧ st1 = st') ⟨rfl, rfl⟩
    clear hv
    cases e' <;> exact q
  cases e2 with
  | normal => exact go _ _ (fun R r => r) h4
  | ret => exact go _ _ (fun R r => r) h4
  | exit i => exact go _ _ (fun R r => r) h4
  | goto _ => exact h4.elim
  | panic _ => exact h4.elim
  | outgrown => exact h4.elim

/-! ### Stores -/
theorem get_last (l : Store) (x : Ob) : (l ++ [x])[l.length]? = some x := by simp
theorem set_last (l : Store) (x y : Ob) : (l ++ [x]).set l.length y = l ++ [y] := by simp
theorem get_lt {st : Store} {i : Nat} {o : Ob} (h : st[i]? = some o) : i < st.length := (List.getElem?_eq_some_iff.1 h).1
theorem get_set_ne {st : Store} {i j : Nat} (o : Ob) (h : i ≠ j) : (st.set i o)[j]? = st[j]? := List.getElem?_set_ne h
theorem get_set_eq {st : Store} {i : Nat} (h : i < st.length) (o' : Ob) : (st.set i o')[i]? = some o' := by simp [h]

end Go.Pv
end
section
namespace Go.Pv

/-- A frame that is quick to read. -/
inductive FT where
  | nil
  | node (v : PV) (l r : FT)
def FT.get : FT → Nat → PV
  | .nil, _ => .tup []
  | .node v l r, k => bif Nat.beq k 0 then v else bif Nat.beq (k % 2) 1 then l.get (k / 2) else r.get (k / 2 - 1)
def FT.set : Nat → FT → Nat → PV → Option FT
  | 0, _, _, _ => none
  | f + 1, .nil, k, x => bif Nat.beq k 0 then some (.node x .nil .nil) else bif Nat.beq (k % 2) 1 then (match FT.set f .nil (k / 2) x with | some l => some (.node (.tup []) l .nil) | none => none) else (match FT.set f .nil (k / 2 - 1) x with | some r => some (.node (.tup []) .nil r) | none => none)
  | f + 1, .node v l r, k, x => bif Nat.beq k 0 then some (.node x l r) else bif Nat.beq (k % 2) 1 then (match FT.set f l (k / 2) x with | some l => some (.node v l r) | none => none) else (match FT.set f r (k / 2 - 1) x with | some r => some (.node v l r) | none => none)

theorem FT.get_set : ∀ (f : Nat) (t : FT) (k : Nat) (x : PV) (t' : FT), FT.set f t k x = some t' → ∀ u, t'.get u = if u = k then x else t.get u
  | 0, _, _, _, _, h => by cases h
  | f + 1, t, k, x, t', h => by
    intro u
    have key : ∀ (v : PV) (l r : FT), (bif Nat.beq k 0 then some (.node x l r) else bif Nat.beq (k % 2) 1 then (match FT.set f l (k / 2) x with | some l => some (.node v l r) | none => none) else (match FT.set f r (k / 2 - 1) x with | some r => some (.node v l r) | none => none)) = some t' → t'.get u = if u = k then x else (FT.node v l r).get u := by
      intro v l r h
      by_cases k0 : k = 0
      · subst k0
        simp at h
        subst h
        by_cases u0 : u = 0
        · subst u0; simp [FT.get]
        · have e : Nat.beq u 0 = false := by rw [← Bool.not_eq_true, Nat.beq_eq]; exact u0
          simp [FT.get, e, u0]
      · have e0 : Nat.beq k 0 = false := by rw [← Bool.not_eq_true, Nat.beq_eq]; exact k0
        by_cases k1 : k % 2 = 1
        · have e1 : Nat.beq (k % 2) 1 = true := by rw [Nat.beq_eq]; exact k1
          rw [e0, e1, cond_false, cond_true] at h
          split at h
          · rename_i l' hl
            cases h
            have ih := FT.get_set f l (k / 2) x l' hl
            by_cases u0 : u = 0
            · subst u0; rw [if_neg (by omega)]; simp [FT.get]
            · have d0 : Nat.beq u 0 = false := by rw [← Bool.not_eq_true, Nat.beq_eq]; exact u0
              by_cases u1 : u % 2 = 1
              · have d1 : Nat.beq (u % 2) 1 = true := by rw [Nat.beq_eq]; exact u1
                simp only [FT.get, d0, d1, cond_false, cond_true, ih]
                by_cases q : u = k
                · subst q; simp
                · rw [if_neg q, if_neg (by omega)]
              · have d1 : Nat.beq (u % 2) 1 = false := by rw [← Bool.not_eq_true, Nat.beq_eq]; exact u1
                simp only [FT.get, d0, d1, cond_false]
                rw [if_neg (by omega)]
          · cases h
        · have e1 : Nat.beq (k % 2) 1 = false := by rw [← Bool.not_eq_true, Nat.beq_eq]; exact k1
          rw [e0, e1, cond_false, cond_false] at h
          split at h
          · rename_i r' hr
            cases h
            have ih := FT.get_set f r (k / 2 - 1) x r' hr
            by_cases u0 : u = 0
            · subst u0; rw [if_neg (by omega)]; simp [FT.get]
            · have d0 : Nat.beq u 0 = false := by rw [← Bool.not_eq_true, Nat.beq_eq]; exact u0
              by_cases u1 : u % 2 = 1
              · have d1 : Nat.beq (u % 2) 1 = true := by rw [Nat.beq_eq]; exact u1
                simp only [FT.get, d0, d1, cond_false, cond_true]
                rw [if_neg (by omega)]
              · have d1 : Nat.beq (u % 2) 1 = false := by rw [← Bool.not_eq_true, Nat.beq_eq]; exact u1
                simp only [FT.get, d0, d1, cond_false, ih]
                by_cases q : u = k
                · subst q; simp
                · rw [if_neg q, if_neg (by omega)]
          · cases h
    cases t with
    | nil =>
      have := key (.tup []) .nil .nil (by rw [← h]; rfl)
      rw [this]
      have n : ∀ w, (FT.node (.tup []) .nil .nil).get w = (FT.nil).get w := by
        intro w
        simp only [FT.get]
        cases Nat.beq w 0 <;> cases Nat.beq (w % 2) 1 <;> rfl
      rw [n]
    | node v l r => exact key v l r (by rw [← h]; rfl)

/-- A frame after an operation. -/
def FT.upd (t : FT) (d : Option Nat) (v : PV) : Option FT := match d with | some k => FT.set 24 t k v | none => some t
theorem FT.upd_get {t t' : FT} {d : Option Nat} {v : PV} (h : t.upd d v = some t') : t'.get = Pv.upd t.get d v := by
  cases d with
  | none => cases h; rfl
  | some k => funext u; exact FT.get_set 24 t k v t' h u
def FT.args : Nat → List PV → FT → Option FT
  | _, [], t => some t
  | i, p :: ps, t => match FT.set 24 t i p with | some t' => FT.args (i + 1) ps t' | none => none
theorem FT.args_get : ∀ (ps : List PV) (i : Nat) (t t' : FT), FT.args i ps t = some t' → ∀ u, t'.get u = if i ≤ u ∧ u < i + ps.length then (ps[u - i]?).getD (.tup []) else t.get u
  | [], i, t, t', h, u => by cases h; rw [if_neg (by simp)]
  | p :: ps, i, t, t', h, u => by
    unfold FT.args at h
    split at h
    · rename_i t1 h1
      have ih := FT.args_get ps (i + 1) t1 t' h u
      rw [ih, FT.get_set _ _ _ _ _ h1 u]
      by_cases q : u = i
      · subst q
        rw [if_neg (by omega), if_pos rfl, if_pos (by simp)]
        simp
      · by_cases q2 : i + 1 ≤ u ∧ u < i + 1 + ps.length
        · rw [if_pos q2, if_pos (by simp; omega)]
          have : u - i = u - (i + 1) + 1 := by omega
          rw [this, List.getElem?_cons_succ]
        · rw [if_neg q2, if_neg q, if_neg (by simp; omega)]
    · cases h
theorem FT.args_fr {ps : List PV} {t : FT} (h : FT.args 0 ps .nil = some t) : t.get = argFr ps := by
  funext u
  rw [FT.args_get ps 0 .nil t h u]
  unfold argFr
  by_cases q : u < ps.length
  · rw [if_pos (by omega)]; rfl
  · rw [if_neg (by omega), List.getElem?_eq_none (by omega)]; rfl

structure FnD where
  N : Nat
  rs : List ResultVar
  code : Code

abbrev Tbl := FuncId → Option FnD
/-- Functions that are met by a plain contract. -/
abbrev Cts := FuncId → Option (List PV → Option PV)
abbrev BodyE := Nat → Code → FT → Store → Option (Exit × FT × Store)

section
variable (E : Env) (tb : Tbl) (ct : Cts)

/-- A call, its body being run. -/
def evFn (body : BodyE) (f : FuncId) (args : List PV) (st : Store) : Option (PV × Store) :=
  match tb f with
  | none => none
  | some d => bif Nat.ble args.length d.N then
      (match FT.args 0 args .nil with
      | none => none
      | some t => match body d.N d.code t st with
        | some (.normal, t', st') => (match resF E d.rs t'.get st' with | some v => some (v, st') | none => none)
        | some (.ret, t', st') => (match resF E d.rs t'.get st' with | some v => some (v, st') | none => none)
        | _ => none)
    else none
def evCall (body : BodyE) (fr : Fr) (st : Store) (g : Operand) (c : Call) : Option (PV × Store) :=
  bif Nat.beq c.args.size c.argTypes.size then
    (match evalO E fr g with
    | .fn f caps => bif E.pl f then
        (match caps, strips (callArgs E fr c) with
        | [], some xs => (match ct f with
          | some g => (match g xs with | some v' => some (v', st) | none => none)
          | none => (match evFn E tb body f xs [] with
            | some (v, st1) => (match pub st1 64 v with | some v' => some (v', st) | none => none)
            | none => none))
        | _, _ => none)
      else evFn E tb body f (callArgs E fr c ++ caps) st
    | _ => none)
  else none
def evStep (body : BodyE) (fr : Fr) (st : Store) (o : Oper) : Option (PV × Store) :=
  match o.op with
  | .call c => (match c.callee with
    | .value g => evCall E tb ct body fr st g c
    | _ => opF E o.type fr st o.op)
  | op => opF E o.type fr st op
/-- The indices below n that are not in a list. -/
def unseen (n : Nat) (seen : List Nat) : List Nat := (List.range n).filter fun j => !seen.contains j
/-- A range's step, where there is but one. -/
def evNext (fr : Fr) (st : Store) (op : Op) : Option (PV × Store) :=
  match op with
  | .next x false => (match evalO E fr x with
    | .it i => (match st[i]? with
      | some (.iter none _ _) => some (.tup [.bool false], st)
      | some (.iter (some m) n seen) => (match st[m]? with
        | some (.map es) => bif Nat.beq es.length n then
            (match unseen n seen with
            | [] => some (.tup [.bool false], st)
            | [j] => (match es[j]? with
              | some (kp, vp) => some (.tup [.bool true, kp, vp], st.set i (.iter (some m) n (seen ++ [j])))
              | none => none)
            | _ => none)
          else none
        | _ => none)
      | _ => none)
    | _ => none)
  | .binOp .eql t x (.const (.slice none 0 0)) _ => (match E.T t, evalO E fr x with
    | some ⟨.slice _, _, _⟩, .sl _ (_ :: _) _ => some (.bool false, st)
    | _, _ => none)
  | .binOp .neq t x (.const (.slice none 0 0)) _ => (match E.T t, evalO E fr x with
    | some ⟨.slice _, _, _⟩, .sl _ (_ :: _) _ => some (.bool true, st)
    | _, _ => none)
  | _ => none
def evOps (body : BodyE) (ops : Array Oper) : List Oper → FT → Store → Option (FT × Store)
  | [], t, st => some (t, st)
  | o :: rest, t, st => match guardF ops t.get o with
    | some true => (match (bif isNext o.op then evNext E t.get st o.op else evStep E tb ct body t.get st o) with
      | some (v, st') => (match t.upd o.dst v with | some t' => evOps body ops rest t' st' | none => none)
      | none => none)
    | some false => (match t.upd o.dst (.tup []) with | some t' => evOps body ops rest t' st | none => none)
    | none => none
def ev : Nat → BodyE
  | 0, _, _, _, _ => none
  | n + 1, N, c, t, st => match c with
    | .skip => some (.normal, t, st)
    | .region id ops d => bif d && E.xr id then none else (match evOps E tb ct (ev n) ops ops.toList t st with | some (t', st') => some (.normal, t', st') | none => none)
    | .seq a b => (match ev n N a t st with | some (.normal, t', st') => ev n N b t' st' | r => r)
    | .cond x a b => (match evalO E t.get x with | .bool true => ev n N a t st | .bool false => ev n N b t st | _ => none)
    | .block id b => (match ev n N b t st with | some (.exit i, t', st') => (bif Nat.beq i id then some (.normal, t', st') else some (.exit i, t', st')) | r => r)
    | .loop b => (match ev n N b t st with | some (.normal, t', st') => ev n N (.loop b) t' st' | r => r)
    | .exit i => some (.exit i, t, st)
    | .label _ => some (.normal, t, st)
    | .ret => some (.ret, t, st)
    | _ => none
end

/-- What a table says of its functions. -/
def TblOk (E : Env) (tb : Tbl) : Prop := ∀ f d, tb f = some d → FnOk E f d.N d.rs d.code

/-- What a table says of the functions that are met by a plain contract. -/
def CtsOk (E : Env) (ct : Cts) : Prop := ∀ f g, ct f = some g → ∀ xs v, g xs = some v → Plain E f xs v
def BodyOk (E : Env) (body : BodyE) : Prop := ∀ N c t st e t' st', body N c t st = some (e, t', st') → W E N c t.get st fun e1 fr1 st1 => e1 = e ∧ fr1 = t'.get ∧ st1 = st'

section
variable {E : Env} {tb : Tbl} {ct : Cts}
theorem evFn_body (htb : TblOk E tb) {body : BodyE} (hb : BodyOk E body) {f : FuncId} {args : List PV} {st : Store} {v : PV} {st' : Store} (h : evFn E tb body f args st = some (v, st')) :
    ∃ d : FnD, FnOk E f d.N d.rs d.code ∧ args.length ≤ d.N ∧ BodyW E d.N d.rs d.code args st fun v1 st1 => v1 = v ∧ st1 = st' := by
  unfold evFn at h
  split at h
  · cases h
  · rename_i d hd
    cases hl : Nat.ble args.length d.N with
    | false => rw [hl] at h; cases h
    | true =>
      rw [hl, cond_true] at h
      split at h
      · cases h
      · rename_i t ht
        refine ⟨d, htb f d hd, Nat.le_of_ble_eq_true hl, ?_⟩
        unfold BodyW
        rw [← FT.args_fr ht]
        split at h
        · rename_i t' st1 hr
          split at h
          · rename_i v1 hv
            cases h
            refine W.mono _ _ _ (fun e fr st q => ?_) _ _ (hb _ _ _ _ _ _ _ hr)
            obtain ⟨rfl, rfl, rfl⟩ := q
            exact ⟨.inl rfl, _, hv, rfl, rfl⟩
          · cases h
        · rename_i t' st1 hr
          split at h
          · rename_i v1 hv
            cases h
            refine W.mono _ _ _ (fun e fr st q => ?_) _ _ (hb _ _ _ _ _ _ _ hr)
            obtain ⟨rfl, rfl, rfl⟩ := q
            exact ⟨.inr rfl, _, hv, rfl, rfl⟩
          · cases h
        · cases h
theorem evFn_spec (hE : EnvOk E) (htb : TblOk E tb) {body : BodyE} (hb : BodyOk E body) {f : FuncId} {args : List PV} {st : Store} {v : PV} {st' : Store} (h : evFn E tb body f args st = some (v, st')) : Spec E f args st v st' := by
  obtain ⟨d, ok, hl, hw⟩ := evFn_body htb hb h
  exact spec_of_W hE ok hl hw
theorem evFn_plain (hE : EnvOk E) (htb : TblOk E tb) {body : BodyE} (hb : BodyOk E body) {f : FuncId} {args : List PV} {v v' : PV} {st' : Store} {n : Nat} (h : evFn E tb body f args [] = some (v, st')) (hp : pub st' n v = some v') : Plain E f args v' := by
  obtain ⟨d, ok, hl, hw⟩ := evFn_body htb hb h
  refine plain_of_W hE ok hl (W.mono _ _ _ (fun e fr st q => ?_) _ _ hw)
  obtain ⟨a, v1, hv, rfl, rfl⟩ := q
  exact ⟨a, v1, hv, n, hp⟩
theorem evStep_sound (hE : EnvOk E) (htb : TblOk E tb) (hct : CtsOk E ct) {body : BodyE} (hb : BodyOk E body) {fr : Fr} {st : Store} {o : Oper} {v : PV} {st' : Store} (h : evStep E tb ct body fr st o = some (v, st')) : StepR E fr st o v st' := by
  unfold evStep at h
  unfold StepR
  split at h
  · rename_i c hc
    rw [hc]
    simp only
    split at h
    · rename_i g hg
      rw [hg]
      simp only
      unfold evCall at h
      cases hs : Nat.beq c.args.size c.argTypes.size with
      | false => rw [hs] at h; cases h
      | true =>
        rw [hs, cond_true] at h
        refine ⟨Nat.eq_of_beq_eq_true hs, ?_⟩
        split at h
        · rename_i f caps hf
          rw [hf]
          simp only
          cases hp : E.pl f with
          | true =>
            rw [hp, cond_true] at h
            rw [if_pos rfl]
            split at h
            · rename_i xs hx
              split at h
              · rename_i g hg
                split at h
                · rename_i v' hv'
                  cases h
                  exact ⟨rfl, rfl, xs, hx, hct _ _ hg _ _ hv'⟩
                · cases h
              · split at h
                · rename_i v1 st1 h1
                  split at h
                  · rename_i v' hv'
                    cases h
                    exact ⟨rfl, rfl, xs, hx, evFn_plain hE htb hb h1 hv'⟩
                  · cases h
                · cases h
            · cases h
          | false =>
            rw [hp, cond_false] at h
            rw [if_neg (by simp)]
            exact evFn_spec hE htb hb h
        · cases h
    · rename_i x hx
      split
      · rename_i g hg; exact absurd hg (hx g)
      · rw [← hc]; exact h
  · rename_i op hx
    split
    · rename_i c hc; exact absurd hc (hx c)
    · exact h

theorem evNext_sound {fr : Fr} {st : Store} {op : Op} {v : PV} {st' : Store} (h : evNext E fr st op = some (v, st')) {k : PV → Store → Prop} (hk : k v st') : NextW E fr st op k := by
  have un : ∀ n seen j, j ∈ unseen n seen ↔ j < n ∧ j ∉ seen := by intro n seen j; simp [unseen]
  unfold evNext at h
  unfold NextW
  split at h
  · rename_i x
    simp only
    split at h
    · rename_i i hi
      simp only [hi]
      split at h
      · rename_i n0 seen0 hs
        simp only [hs]
        cases h; exact hk
      · rename_i m n seen hs
        simp only [hs]
        split at h
        · rename_i es hm
          simp only [hm]
          cases hl : Nat.beq es.length n with
          | false => rw [hl] at h; cases h
          | true =>
            rw [hl, cond_true] at h
            have hl := Nat.eq_of_beq_eq_true hl
            split at h
            · rename_i hu
              cases h
              refine ⟨hl, fun _ => hk, fun j kp vp hj he => ?_⟩
              have : j ∈ unseen n seen := (un n seen j).2 ⟨by have := (List.getElem?_eq_some_iff.1 he).1; omega, hj⟩
              rw [hu] at this; cases this
            · rename_i j0 hu
              split at h
              · rename_i kp0 vp0 he0
                cases h
                have hj0 := (un n seen j0).1 (by rw [hu]; simp)
                refine ⟨hl, fun hall => absurd (hall j0 hj0.1) hj0.2, fun j kp vp hj he => ?_⟩
                have : j ∈ unseen n seen := (un n seen j).2 ⟨by have := (List.getElem?_eq_some_iff.1 he).1; omega, hj⟩
                rw [hu] at this
                obtain rfl : j = j0 := by simpa using this
                rw [he0] at he
                injection he with he
                injection he with e1 e2
                subst e1 e2
                exact hk
              · cases h
            · cases h
        · cases h
      · cases h
    · cases h
  · rename_i t x ty
    simp only
    split at h
    · rename_i hT hx
      rw [hx]
      cases h
      exact ⟨⟨_, _, _, hT⟩, ⟨fun e => (List.cons_ne_nil _ _ e).elim, fun _ => hk⟩⟩
    · cases h
  · rename_i t x ty
    simp only
    split at h
    · rename_i hT hx
      rw [hx]
      cases h
      exact ⟨⟨_, _, _, hT⟩, ⟨fun e => (List.cons_ne_nil _ _ e).elim, fun _ => hk⟩⟩
    · cases h
  · cases h
theorem evOps_sound (hE : EnvOk E) (htb : TblOk E tb) (hct : CtsOk E ct) {body : BodyE} (hb : BodyOk E body) {ops : Array Oper} : ∀ (l : List Oper) (t : FT) (st : Store) (t' : FT) (st' : Store), evOps E tb ct body ops l t st = some (t', st') → OpsW E ops l t.get st fun fr1 st1 => fr1 = t'.get ∧ st1 = st'
  | [], t, st, t', st', h => by cases h; exact ⟨rfl, rfl⟩
  | o :: rest, t, st, t', st', h => by
    unfold evOps at h
    unfold OpsW
    split at h
    · rename_i hg
      rw [hg]
      split at h
      · rename_i v st1 hs
        split at h
        · rename_i t1 ht
          have ih := evOps_sound hE htb hct hb rest t1 st1 t' st' h
          rw [FT.upd_get ht] at ih
          refine Br.mk (fun _ => ?_) (fun q => by cases q)
          unfold StepW
          cases hx : isNext o.op with
          | true => rw [hx, cond_true] at hs; rw [if_pos rfl]; exact evNext_sound hs ih
          | false => rw [hx, cond_false] at hs; rw [if_neg (by simp)]; exact ⟨v, st1, evStep_sound hE htb hct hb hs, ih⟩
        · cases h
      · cases h
    · rename_i hg
      rw [hg]
      split at h
      · rename_i t1 ht
        have ih := evOps_sound hE htb hct hb rest t1 st t' st' h
        rw [FT.upd_get ht] at ih
        exact Br.mk (fun q => by cases q) (fun _ => ih)
      · cases h
    · cases h

theorem ev_sound (hE : EnvOk E) (htb : TblOk E tb) (hct : CtsOk E ct) : ∀ n, BodyOk E (ev E tb ct n)
  | 0 => fun N c t st e t' st' h => by cases h
  | n + 1 => fun N c t st e t' st' h => by
    have ih := ev_sound hE htb hct n
    cases c with
    | skip => cases h; exact ⟨rfl, rfl, rfl⟩
    | region id ops d =>
      simp only [ev] at h
      cases hx : (d && E.xr id) with
      | true => rw [hx] at h; cases h
      | false =>
        rw [hx, cond_false] at h
        unfold W
        rw [if_neg (by rw [hx]; simp)]
        split at h
        · rename_i t1 st1 ho
          cases h
          exact OpsW.mono (fun fr st q => ⟨rfl, q.1, q.2⟩) _ _ _ (evOps_sound hE htb hct ih _ _ _ _ _ ho)
        · cases h
    | seq a b =>
      simp only [ev] at h
      rw [W_seq]
      split at h
      · rename_i t1 st1 ha
        refine W.mono _ _ _ (fun e1 fr1 s1 q => ?_) _ _ (ih _ _ _ _ _ _ _ ha)
        obtain ⟨rfl, rfl, rfl⟩ := q
        exact ih _ _ _ _ _ _ _ h
      · rename_i hne
        refine W.mono _ _ _ (fun e1 fr1 s1 q => ?_) _ _ (ih _ _ _ _ _ _ _ h)
        obtain ⟨rfl, rfl, rfl⟩ := q
        cases e1 <;> first | exact ⟨rfl, rfl, rfl⟩ | exact absurd h (hne _ _)
    | cond x a b =>
      simp only [ev] at h
      rw [W_cond]
      split at h
      · rename_i hx; rw [hx]; exact Br.mk (fun _ => ih _ _ _ _ _ _ _ h) (fun q => by cases q)
      · rename_i hx; rw [hx]; exact Br.mk (fun q => by cases q) (fun _ => ih _ _ _ _ _ _ _ h)
      · cases h
    | block id b =>
      simp only [ev] at h
      rw [W_block]
      split at h
      · rename_i i t1 st1 hb
        refine W.mono _ _ _ (fun e1 fr1 s1 q => ?_) _ _ (ih _ _ _ _ _ _ _ hb)
        obtain ⟨rfl, rfl, rfl⟩ := q
        simp only
        cases hi : Nat.beq i id with
        | true =>
          rw [hi, cond_true] at h
          rw [if_pos (Nat.eq_of_beq_eq_true hi)]
          cases h; exact ⟨rfl, rfl, rfl⟩
        | false =>
          rw [hi, cond_false] at h
          rw [if_neg (Nat.ne_of_beq_eq_false hi)]
          cases h; exact ⟨rfl, rfl, rfl⟩
      · rename_i hne
        refine W.mono _ _ _ (fun e1 fr1 s1 q => ?_) _ _ (ih _ _ _ _ _ _ _ h)
        obtain ⟨rfl, rfl, rfl⟩ := q
        cases e1 <;> first | exact ⟨rfl, rfl, rfl⟩ | exact absurd h (hne _ _ _)
    | loop b =>
      simp only [ev] at h
      split at h
      · rename_i t1 st1 hb
        obtain ⟨k, hk⟩ : W E N (.loop b) t1.get st1 fun e1 fr1 s1 => e1 = e ∧ fr1 = t'.get ∧ s1 = st' := ih _ _ _ _ _ _ _ h
        refine ⟨k + 1, ?_⟩
        refine W.mono _ _ _ (fun e1 fr1 s1 q => ?_) _ _ (ih _ _ _ _ _ _ _ hb)
        obtain ⟨rfl, rfl, rfl⟩ := q
        exact hk
      · rename_i hne
        refine ⟨1, ?_⟩
        refine W.mono _ _ _ (fun e1 fr1 s1 q => ?_) _ _ (ih _ _ _ _ _ _ _ h)
        obtain ⟨rfl, rfl, rfl⟩ := q
        cases e1 <;> first | exact ⟨rfl, rfl, rfl⟩ | exact absurd h (hne _ _)
    | exit i => cases h; exact ⟨rfl, rfl, rfl⟩
    | label i => cases h; exact ⟨rfl, rfl, rfl⟩
    | ret => cases h; exact ⟨rfl, rfl, rfl⟩
    | _ => cases h

/-- **A closed call, by reckoning.** -/
theorem plain_run (hE : EnvOk E) (htb : TblOk E tb) (hct : CtsOk E ct) {f : FuncId} {args : List PV} {v : PV} (n : Nat) (h : (match evFn E tb (ev E tb ct n) f args [] with | some (v1, st1) => pub st1 64 v1 | none => none) = some v) : Plain E f args v := by
  split at h
  · rename_i v1 st1 h1
    exact evFn_plain hE htb (ev_sound hE htb hct n) h1 h
  · cases h
end
end Go.Pv
end
section
namespace Go.Pv.Ct
open Go.Pv

def tyList : List (Nat × TI) := [
  (1, ⟨.fn, 1, [.nilfn]⟩),
  (2, ⟨.int .i64, 1, [.int .i64 0]⟩),
  (3, ⟨.int .i64, 1, [.int .i64 0]⟩),
  (4, ⟨.bool, 1, [.bool false]⟩),
  (5, ⟨.int .u8, 1, [.int .u8 0]⟩),
  (9, ⟨.str, 1, [.str []]⟩),
  (12, ⟨.int .u64, 1, [.int .u64 0]⟩),
  (13, ⟨.strct [(0, 9), (1, 12)], 2, [.str [], .int .u64 0]⟩),
  (20, ⟨.iface, 1, [.nilif]⟩),
  (21, ⟨.int .i32, 1, [.int .i32 0]⟩),
  (22, ⟨.slice 54, 1, [.sl 2 [] .full]⟩),
  (23, ⟨.slice 89, 1, [.sl 3 [] .full]⟩),
  (24, ⟨.strct [(0, 22), (1, 23), (2, 3), (3, 3), (4, 3)], 5, [.sl 2 [] .full, .sl 3 [] .full, .int .i64 0, .int .i64 0, .int .i64 0]⟩),
  (25, ⟨.strct [(0, 22), (1, 23), (2, 3), (3, 3), (4, 3)], 5, [.sl 2 [] .full, .sl 3 [] .full, .int .i64 0, .int .i64 0, .int .i64 0]⟩),
  (26, ⟨.fn, 1, [.nilfn]⟩),
  (27, ⟨.int .i64, 1, [.int .i64 0]⟩),
  (28, ⟨.fn, 1, [.nilfn]⟩),
  (29, ⟨.fn, 1, [.nilfn]⟩),
  (30, ⟨.slice 66, 1, [.sl 3 [] .full]⟩),
  (31, ⟨.slice 110, 1, [.sl 3 [] .full]⟩),
  (32, ⟨.slice 119, 1, [.sl 2 [] .full]⟩),
  (33, ⟨.strct [(0, 32)], 1, [.sl 2 [] .full]⟩),
  (34, ⟨.strct [(0, 32)], 1, [.sl 2 [] .full]⟩),
  (35, ⟨.strct [(0, 30), (1, 31), (2, 34)], 3, [.sl 3 [] .full, .sl 3 [] .full, .sl 2 [] .full]⟩),
  (36, ⟨.strct [(0, 30), (1, 31), (2, 34)], 3, [.sl 3 [] .full, .sl 3 [] .full, .sl 2 [] .full]⟩),
  (37, ⟨.slice 3, 1, [.sl 1 [] .full]⟩),
  (38, ⟨.strct [(0, 36), (3, 25), (8, 37)], 9, [.sl 3 [] .full, .sl 3 [] .full, .sl 2 [] .full, .sl 2 [] .full, .sl 3 [] .full, .int .i64 0, .int .i64 0, .int .i64 0, .sl 1 [] .full]⟩),
  (39, ⟨.strct [(0, 36), (3, 25), (8, 37)], 9, [.sl 3 [] .full, .sl 3 [] .full, .sl 2 [] .full, .sl 2 [] .full, .sl 3 [] .full, .int .i64 0, .int .i64 0, .int .i64 0, .sl 1 [] .full]⟩),
  (40, ⟨.fn, 1, [.nilfn]⟩),
  (41, ⟨.slice 68, 1, [.sl 4 [] .full]⟩),
  (43, ⟨.fn, 1, [.nilfn]⟩),
  (44, ⟨.fn, 1, [.nilfn]⟩),
  (45, ⟨.fn, 1, [.nilfn]⟩),
  (47, ⟨.fn, 1, [.nilfn]⟩),
  (48, ⟨.fn, 1, [.nilfn]⟩),
  (49, ⟨.fn, 1, [.nilfn]⟩),
  (50, ⟨.fn, 1, [.nilfn]⟩),
  (51, ⟨.fn, 1, [.nilfn]⟩),
  (52, ⟨.fn, 1, [.nilfn]⟩),
  (53, ⟨.strct [(0, 37), (1, 41)], 2, [.sl 1 [] .full, .sl 4 [] .full]⟩),
  (54, ⟨.strct [(0, 37), (1, 41)], 2, [.sl 1 [] .full, .sl 4 [] .full]⟩),
  (55, ⟨.fn, 1, [.nilfn]⟩),
  (56, ⟨.fn, 1, [.nilfn]⟩),
  (57, ⟨.fn, 1, [.nilfn]⟩),
  (58, ⟨.fn, 1, [.nilfn]⟩),
  (59, ⟨.fn, 1, [.nilfn]⟩),
  (60, ⟨.fn, 1, [.nilfn]⟩),
  (61, ⟨.fn, 1, [.nilfn]⟩),
  (62, ⟨.fn, 1, [.nilfn]⟩),
  (63, ⟨.fn, 1, [.nilfn]⟩),
  (64, ⟨.fn, 1, [.nilfn]⟩),
  (65, ⟨.strct [(0, 3), (1, 3), (2, 3)], 3, [.int .i64 0, .int .i64 0, .int .i64 0]⟩),
  (66, ⟨.strct [(0, 3), (1, 3), (2, 3)], 3, [.int .i64 0, .int .i64 0, .int .i64 0]⟩),
  (67, ⟨.strct [(0, 3), (1, 3), (2, 3), (3, 4)], 4, [.int .i64 0, .int .i64 0, .int .i64 0, .bool false]⟩),
  (68, ⟨.strct [(0, 3), (1, 3), (2, 3), (3, 4)], 4, [.int .i64 0, .int .i64 0, .int .i64 0, .bool false]⟩),
  (69, ⟨.fn, 1, [.nilfn]⟩),
  (71, ⟨.ptr 101, 1, [.nilp]⟩),
  (72, ⟨.fn, 1, [.nilfn]⟩),
  (73, ⟨.fn, 1, [.nilfn]⟩),
  (74, ⟨.fn, 1, [.nilfn]⟩),
  (75, ⟨.fn, 1, [.nilfn]⟩),
  (77, ⟨.fn, 1, [.nilfn]⟩),
  (78, ⟨.fn, 1, [.nilfn]⟩),
  (79, ⟨.fn, 1, [.nilfn]⟩),
  (80, ⟨.ptr 108, 1, [.nilp]⟩),
  (81, ⟨.fn, 1, [.nilfn]⟩),
  (82, ⟨.fn, 1, [.nilfn]⟩),
  (83, ⟨.fn, 1, [.nilfn]⟩),
  (84, ⟨.fn, 1, [.nilfn]⟩),
  (85, ⟨.fn, 1, [.nilfn]⟩),
  (86, ⟨.fn, 1, [.nilfn]⟩),
  (87, ⟨.map 9 4, 1, [.nilmap]⟩),
  (88, ⟨.strct [(0, 9), (1, 3), (2, 3)], 3, [.str [], .int .i64 0, .int .i64 0]⟩),
  (89, ⟨.strct [(0, 9), (1, 3), (2, 3)], 3, [.str [], .int .i64 0, .int .i64 0]⟩),
  (90, ⟨.fn, 1, [.nilfn]⟩),
  (91, ⟨.fn, 1, [.nilfn]⟩),
  (92, ⟨.fn, 1, [.nilfn]⟩),
  (93, ⟨.fn, 1, [.nilfn]⟩),
  (94, ⟨.fn, 1, [.nilfn]⟩),
  (95, ⟨.fn, 1, [.nilfn]⟩),
  (96, ⟨.fn, 1, [.nilfn]⟩),
  (97, ⟨.fn, 1, [.nilfn]⟩),
  (98, ⟨.fn, 1, [.nilfn]⟩),
  (99, ⟨.map 9 41, 1, [.nilmap]⟩),
  (100, ⟨.strct [(0, 25), (5, 30), (6, 99)], 7, [.sl 2 [] .full, .sl 3 [] .full, .int .i64 0, .int .i64 0, .int .i64 0, .sl 3 [] .full, .nilmap]⟩),
  (101, ⟨.strct [(0, 25), (5, 30), (6, 99)], 7, [.sl 2 [] .full, .sl 3 [] .full, .int .i64 0, .int .i64 0, .int .i64 0, .sl 3 [] .full, .nilmap]⟩),
  (102, ⟨.fn, 1, [.nilfn]⟩),
  (103, ⟨.fn, 1, [.nilfn]⟩),
  (104, ⟨.fn, 1, [.nilfn]⟩),
  (105, ⟨.map 3 110, 1, [.nilmap]⟩),
  (106, ⟨.map 3 37, 1, [.nilmap]⟩),
  (107, ⟨.strct [(0, 105), (1, 4), (2, 106)], 3, [.nilmap, .bool false, .nilmap]⟩),
  (108, ⟨.strct [(0, 105), (1, 4), (2, 106)], 3, [.nilmap, .bool false, .nilmap]⟩),
  (109, ⟨.strct [(0, 3), (1, 37), (2, 9)], 3, [.int .i64 0, .sl 1 [] .full, .str []]⟩),
  (110, ⟨.strct [(0, 3), (1, 37), (2, 9)], 3, [.int .i64 0, .sl 1 [] .full, .str []]⟩),
  (112, ⟨.fn, 1, [.nilfn]⟩),
  (113, ⟨.fn, 1, [.nilfn]⟩),
  (114, ⟨.fn, 1, [.nilfn]⟩),
  (115, ⟨.fn, 1, [.nilfn]⟩),
  (116, ⟨.fn, 1, [.nilfn]⟩),
  (117, ⟨.fn, 1, [.nilfn]⟩),
  (118, ⟨.strct [(0, 3), (1, 3)], 2, [.int .i64 0, .int .i64 0]⟩),
  (119, ⟨.strct [(0, 3), (1, 3)], 2, [.int .i64 0, .int .i64 0]⟩),
  (120, ⟨.fn, 1, [.nilfn]⟩),
  (121, ⟨.fn, 1, [.nilfn]⟩),
  (122, ⟨.fn, 1, [.nilfn]⟩),
  (123, ⟨.fn, 1, [.nilfn]⟩),
  (124, ⟨.slice 4, 1, [.sl 1 [] .full]⟩),
  (125, ⟨.fn, 1, [.nilfn]⟩),
  (126, ⟨.fn, 1, [.nilfn]⟩),
  (127, ⟨.fn, 1, [.nilfn]⟩),
  (128, ⟨.fn, 1, [.nilfn]⟩),
  (129, ⟨.ptr 132, 1, [.nilp]⟩),
  (130, ⟨.slice 5, 1, [.sl 1 [] .full]⟩),
  (131, ⟨.strct [(0, 129), (1, 130)], 2, [.nilp, .sl 1 [] .full]⟩),
  (132, ⟨.strct [(0, 129), (1, 130)], 2, [.nilp, .sl 1 [] .full]⟩),
  (133, ⟨.iface, 1, [.nilif]⟩),
  (134, ⟨.iface, 1, [.nilif]⟩),
  (136, ⟨.fn, 1, [.nilfn]⟩),
  (137, ⟨.fn, 1, [.nilfn]⟩),
  (138, ⟨.fn, 1, [.nilfn]⟩),
  (139, ⟨.fn, 1, [.nilfn]⟩),
  (140, ⟨.fn, 1, [.nilfn]⟩),
  (142, ⟨.fn, 1, [.nilfn]⟩),
  (143, ⟨.fn, 1, [.nilfn]⟩),
  (144, ⟨.fn, 1, [.nilfn]⟩),
  (145, ⟨.fn, 1, [.nilfn]⟩),
  (146, ⟨.fn, 1, [.nilfn]⟩),
  (147, ⟨.fn, 1, [.nilfn]⟩),
  (148, ⟨.fn, 1, [.nilfn]⟩),
  (149, ⟨.fn, 1, [.nilfn]⟩),
  (150, ⟨.fn, 1, [.nilfn]⟩),
  (151, ⟨.fn, 1, [.nilfn]⟩),
  (152, ⟨.fn, 1, [.nilfn]⟩),
  (153, ⟨.fn, 1, [.nilfn]⟩),
  (154, ⟨.fn, 1, [.nilfn]⟩),
  (155, ⟨.map 3 3, 1, [.nilmap]⟩),
  (157, ⟨.ptr 5, 1, [.nilp]⟩),
  (158, ⟨.slice 37, 1, [.sl 1 [] .full]⟩),
  (159, ⟨.array 3 3, 3, [.int .i64 0, .int .i64 0, .int .i64 0]⟩),
  (160, ⟨.fn, 1, [.nilfn]⟩),
  (161, ⟨.int .u64, 1, [.int .u64 0]⟩),
  (162, ⟨.fn, 1, [.nilfn]⟩),
  (163, ⟨.fn, 1, [.nilfn]⟩),
  (164, ⟨.fn, 1, [.nilfn]⟩),
  (165, ⟨.fn, 1, [.nilfn]⟩),
  (166, ⟨.fn, 1, [.nilfn]⟩),
  (167, ⟨.fn, 1, [.nilfn]⟩),
  (168, ⟨.array 4 119, 8, [.int .i64 0, .int .i64 0, .int .i64 0, .int .i64 0, .int .i64 0, .int .i64 0, .int .i64 0, .int .i64 0]⟩),
  (169, ⟨.fn, 1, [.nilfn]⟩),
  (170, ⟨.map 172 4, 1, [.nilmap]⟩),
  (171, ⟨.strct [(0, 3), (1, 9)], 2, [.int .i64 0, .str []]⟩),
  (172, ⟨.strct [(0, 3), (1, 9)], 2, [.int .i64 0, .str []]⟩),
  (173, ⟨.fn, 1, [.nilfn]⟩),
  (174, ⟨.fn, 1, [.nilfn]⟩),
  (175, ⟨.fn, 1, [.nilfn]⟩),
  (176, ⟨.fn, 1, [.nilfn]⟩),
  (177, ⟨.fn, 1, [.nilfn]⟩),
  (178, ⟨.fn, 1, [.nilfn]⟩),
  (179, ⟨.array 2 3, 2, [.int .i64 0, .int .i64 0]⟩),
  (180, ⟨.array 3 179, 6, [.int .i64 0, .int .i64 0, .int .i64 0, .int .i64 0, .int .i64 0, .int .i64 0]⟩),
  (182, ⟨.fn, 1, [.nilfn]⟩),
  (183, ⟨.fn, 1, [.nilfn]⟩),
  (184, ⟨.fn, 1, [.nilfn]⟩),
  (185, ⟨.fn, 1, [.nilfn]⟩),
  (186, ⟨.fn, 1, [.nilfn]⟩),
  (187, ⟨.fn, 1, [.nilfn]⟩),
  (188, ⟨.fn, 1, [.nilfn]⟩),
  (189, ⟨.fn, 1, [.nilfn]⟩),
  (190, ⟨.fn, 1, [.nilfn]⟩),
  (191, ⟨.array 24 5, 24, [.int .u8 0, .int .u8 0, .int .u8 0, .int .u8 0, .int .u8 0, .int .u8 0, .int .u8 0, .int .u8 0, .int .u8 0, .int .u8 0, .int .u8 0, .int .u8 0, .int .u8 0, .int .u8 0, .int .u8 0, .int .u8 0, .int .u8 0, .int .u8 0, .int .u8 0, .int .u8 0, .int .u8 0, .int .u8 0, .int .u8 0, .int .u8 0]⟩),
  (192, ⟨.int .u64, 1, [.int .u64 0]⟩),
  (193, ⟨.fn, 1, [.nilfn]⟩),
  (194, ⟨.fn, 1, [.nilfn]⟩),
  (196, ⟨.fn, 1, [.nilfn]⟩),
  (197, ⟨.fn, 1, [.nilfn]⟩),
  (198, ⟨.fn, 1, [.nilfn]⟩),
  (199, ⟨.int .i64, 1, [.int .i64 0]⟩),
  (201, ⟨.fn, 1, [.nilfn]⟩),
  (202, ⟨.fn, 1, [.nilfn]⟩),
  (203, ⟨.fn, 1, [.nilfn]⟩),
  (204, ⟨.fn, 1, [.nilfn]⟩),
  (205, ⟨.fn, 1, [.nilfn]⟩),
  (206, ⟨.int .u32, 1, [.int .u32 0]⟩),
  (207, ⟨.fn, 1, [.nilfn]⟩),
  (208, ⟨.array 20 192, 20, [.int .u64 0, .int .u64 0, .int .u64 0, .int .u64 0, .int .u64 0, .int .u64 0, .int .u64 0, .int .u64 0, .int .u64 0, .int .u64 0, .int .u64 0, .int .u64 0, .int .u64 0, .int .u64 0, .int .u64 0, .int .u64 0, .int .u64 0, .int .u64 0, .int .u64 0, .int .u64 0]⟩),
  (209, ⟨.array 65 5, 65, [.int .u8 0, .int .u8 0, .int .u8 0, .int .u8 0, .int .u8 0, .int .u8 0, .int .u8 0, .int .u8 0, .int .u8 0, .int .u8 0, .int .u8 0, .int .u8 0, .int .u8 0, .int .u8 0, .int .u8 0, .int .u8 0, .int .u8 0, .int .u8 0, .int .u8 0, .int .u8 0, .int .u8 0, .int .u8 0, .int .u8 0, .int .u8 0, .int .u8 0, .int .u8 0, .int .u8 0, .int .u8 0, .int .u8 0, .int .u8 0, .int .u8 0, .int .u8 0, .int .u8 0, .int .u8 0, .int .u8 0, .int .u8 0, .int .u8 0, .int .u8 0, .int .u8 0, .int .u8 0, .int .u8 0, .int .u8 0, .int .u8 0, .int .u8 0, .int .u8 0, .int .u8 0, .int .u8 0, .int .u8 0, .int .u8 0, .int .u8 0, .int .u8 0, .int .u8 0, .int .u8 0, .int .u8 0, .int .u8 0, .int .u8 0, .int .u8 0, .int .u8 0, .int .u8 0, .int .u8 0, .int .u8 0, .int .u8 0, .int .u8 0, .int .u8 0, .int .u8 0]⟩),
  (210, ⟨.fn, 1, [.nilfn]⟩),
  (211, ⟨.int .u64, 1, [.int .u64 0]⟩),
  (212, ⟨.fn, 1, [.nilfn]⟩),
  (213, ⟨.fn, 1, [.nilfn]⟩),
  (214, ⟨.fn, 1, [.nilfn]⟩),
  (215, ⟨.ptr 3, 1, [.nilp]⟩),
  (216, ⟨.fn, 1, [.nilfn]⟩),
  (217, ⟨.ptr 211, 1, [.nilp]⟩),
  (219, ⟨.fn, 1, [.nilfn]⟩),
  (220, ⟨.array 32 5, 32, [.int .u8 0, .int .u8 0, .int .u8 0, .int .u8 0, .int .u8 0, .int .u8 0, .int .u8 0, .int .u8 0, .int .u8 0, .int .u8 0, .int .u8 0, .int .u8 0, .int .u8 0, .int .u8 0, .int .u8 0, .int .u8 0, .int .u8 0, .int .u8 0, .int .u8 0, .int .u8 0, .int .u8 0, .int .u8 0, .int .u8 0, .int .u8 0, .int .u8 0, .int .u8 0, .int .u8 0, .int .u8 0, .int .u8 0, .int .u8 0, .int .u8 0, .int .u8 0]⟩),
  (221, ⟨.array 64 5, 64, [.int .u8 0, .int .u8 0, .int .u8 0, .int .u8 0, .int .u8 0, .int .u8 0, .int .u8 0, .int .u8 0, .int .u8 0, .int .u8 0, .int .u8 0, .int .u8 0, .int .u8 0, .int .u8 0, .int .u8 0, .int .u8 0, .int .u8 0, .int .u8 0, .int .u8 0, .int .u8 0, .int .u8 0, .int .u8 0, .int .u8 0, .int .u8 0, .int .u8 0, .int .u8 0, .int .u8 0, .int .u8 0, .int .u8 0, .int .u8 0, .int .u8 0, .int .u8 0, .int .u8 0, .int .u8 0, .int .u8 0, .int .u8 0, .int .u8 0, .int .u8 0, .int .u8 0, .int .u8 0, .int .u8 0, .int .u8 0, .int .u8 0, .int .u8 0, .int .u8 0, .int .u8 0, .int .u8 0, .int .u8 0, .int .u8 0, .int .u8 0, .int .u8 0, .int .u8 0, .int .u8 0, .int .u8 0, .int .u8 0, .int .u8 0, .int .u8 0, .int .u8 0, .int .u8 0, .int .u8 0, .int .u8 0, .int .u8 0, .int .u8 0, .int .u8 0]⟩),
  (227, ⟨.fn, 1, [.nilfn]⟩),
  (230, ⟨.fn, 1, [.nilfn]⟩)]
def plList : List Nat := [3, 4, 5, 6, 7, 8, 9, 10, 11, 12, 13, 14, 15, 16, 17, 18, 19, 20, 21, 22, 23, 24, 25, 26, 27, 28, 29, 30, 31, 32, 33, 34, 35, 36, 37, 38, 39, 40, 43, 44, 45, 46, 47, 50, 51, 54, 55, 56, 57, 58, 59, 62, 63, 66, 67, 68, 69, 70, 71, 72, 73, 75, 81, 82, 83, 84, 85, 86, 87, 89, 92, 93, 94, 95, 96, 100, 103, 104, 105, 106, 107, 114, 115, 116, 117, 118, 119, 120, 121, 122, 124, 125, 127, 128, 132, 136, 138, 141, 142, 143, 145, 147, 148, 149, 150, 154, 156, 158, 159, 160, 164, 166, 167, 168, 172, 174, 183, 184, 185, 186, 187, 188, 191, 195, 196]
def eqList : List Nat := [68, 119, 172, 159, 179]
/-- The ranges of the Hangul parts and syllables. -/
def rangesV : List PV := [.int .i64 4352, .int .i64 4370, .int .i64 4449, .int .i64 4469, .int .i64 4520, .int .i64 4546, .int .i64 44032, .int .i64 55203]
/-- The powers of ten. -/
def pow10V : List PV := Go.Lib.pow10Tab.map fun z => .int .u64 z
def GG (g : Nat) : PV := if g = 0 then .rptr rangesV else if g = 2 then .rptr pow10V else .bad
noncomputable def EE : Env := { P := Go.Proofs.Tryz.prog, T := fun t => tyList.lookup t, G := GG, pl := fun f => plList.contains f, eqt := fun t => eqList.contains t, hm := fun t => t == 119 }
theorem types : tyList.all (fun q => q.2.okB Go.Proofs.Tryz.prog q.1) = true := by kernel_rfl
theorem eqs : eqList.all (fun t => eqOkB Go.Proofs.Tryz.prog t) = true := by kernel_rfl
theorem lookup_mem {l : List (Nat × TI)} {t : Nat} {ti : TI} (h : l.lookup t = some ti) : (t, ti) ∈ l := by
  induction l with
  | nil => cases h
  | cons x l ih =>
    obtain ⟨k, v⟩ := x
    rw [List.lookup_cons] at h
    split at h
    · rename_i e
      cases h
      have : t = k := by simpa using e
      subst this; simp
    · simp [ih h]
theorem ok : EnvOk EE where
  types t ti h := List.all_eq_true.1 types (t, ti) (lookup_mem h)
  mixed := by kernel_rfl
  eqs t h := List.all_eq_true.1 eqs t (by simpa [EE] using h)
theorem xrE (i : Nat) : EE.xr i = false := Eq.trans rfl rfl
theorem hmE (i : Nat) : EE.hm i = (i == 119) := Eq.trans rfl rfl
def code (f : Func) : Code := f.body.getD .skip
theorem T1 : EE.T 1 = some ⟨.fn, 1, [.nilfn]⟩ := rfl
theorem T2 : EE.T 2 = some ⟨.int .i64, 1, [.int .i64 0]⟩ := rfl
theorem T3 : EE.T 3 = some ⟨.int .i64, 1, [.int .i64 0]⟩ := rfl
theorem T4 : EE.T 4 = some ⟨.bool, 1, [.bool false]⟩ := rfl
theorem T5 : EE.T 5 = some ⟨.int .u8, 1, [.int .u8 0]⟩ := rfl
theorem T9 : EE.T 9 = some ⟨.str, 1, [.str []]⟩ := rfl
theorem T12 : EE.T 12 = some ⟨.int .u64, 1, [.int .u64 0]⟩ := rfl
theorem T13 : EE.T 13 = some ⟨.strct [(0, 9), (1, 12)], 2, [.str [], .int .u64 0]⟩ := rfl
theorem T20 : EE.T 20 = some ⟨.iface, 1, [.nilif]⟩ := rfl
theorem T21 : EE.T 21 = some ⟨.int .i32, 1, [.int .i32 0]⟩ := rfl
theorem T22 : EE.T 22 = some ⟨.slice 54, 1, [.sl 2 [] .full]⟩ := rfl
theorem T23 : EE.T 23 = some ⟨.slice 89, 1, [.sl 3 [] .full]⟩ := rfl
theorem T24 : EE.T 24 = some ⟨.strct [(0, 22), (1, 23), (2, 3), (3, 3), (4, 3)], 5, [.sl 2 [] .full, .sl 3 [] .full, .int .i64 0, .int .i64 0, .int .i64 0]⟩ := rfl
theorem T25 : EE.T 25 = some ⟨.strct [(0, 22), (1, 23), (2, 3), (3, 3), (4, 3)], 5, [.sl 2 [] .full, .sl 3 [] .full, .int .i64 0, .int .i64 0, .int .i64 0]⟩ := rfl
theorem T26 : EE.T 26 = some ⟨.fn, 1, [.nilfn]⟩ := rfl
theorem T27 : EE.T 27 = some ⟨.int .i64, 1, [.int .i64 0]⟩ := rfl
theorem T28 : EE.T 28 = some ⟨.fn, 1, [.nilfn]⟩ := rfl
theorem T29 : EE.T 29 = some ⟨.fn, 1, [.nilfn]⟩ := rfl
theorem T30 : EE.T 30 = some ⟨.slice 66, 1, [.sl 3 [] .full]⟩ := rfl
theorem T31 : EE.T 31 = some ⟨.slice 110, 1, [.sl 3 [] .full]⟩ := rfl
theorem T32 : EE.T 32 = some ⟨.slice 119, 1, [.sl 2 [] .full]⟩ := rfl
theorem T33 : EE.T 33 = some ⟨.strct [(0, 32)], 1, [.sl 2 [] .full]⟩ := rfl
theorem T34 : EE.T 34 = some ⟨.strct [(0, 32)], 1, [.sl 2 [] .full]⟩ := rfl
theorem T35 : EE.T 35 = some ⟨.strct [(0, 30), (1, 31), (2, 34)], 3, [.sl 3 [] .full, .sl 3 [] .full, .sl 2 [] .full]⟩ := rfl
theorem T36 : EE.T 36 = some ⟨.strct [(0, 30), (1, 31), (2, 34)], 3, [.sl 3 [] .full, .sl 3 [] .full, .sl 2 [] .full]⟩ := rfl
theorem T37 : EE.T 37 = some ⟨.slice 3, 1, [.sl 1 [] .full]⟩ := rfl
theorem T38 : EE.T 38 = some ⟨.strct [(0, 36), (3, 25), (8, 37)], 9, [.sl 3 [] .full, .sl 3 [] .full, .sl 2 [] .full, .sl 2 [] .full, .sl 3 [] .full, .int .i64 0, .int .i64 0, .int .i64 0, .sl 1 [] .full]⟩ := rfl
theorem T39 : EE.T 39 = some ⟨.strct [(0, 36), (3, 25), (8, 37)], 9, [.sl 3 [] .full, .sl 3 [] .full, .sl 2 [] .full, .sl 2 [] .full, .sl 3 [] .full, .int .i64 0, .int .i64 0, .int .i64 0, .sl 1 [] .full]⟩ := rfl
theorem T40 : EE.T 40 = some ⟨.fn, 1, [.nilfn]⟩ := rfl
theorem T41 : EE.T 41 = some ⟨.slice 68, 1, [.sl 4 [] .full]⟩ := rfl
theorem T43 : EE.T 43 = some ⟨.fn, 1, [.nilfn]⟩ := rfl
theorem T44 : EE.T 44 = some ⟨.fn, 1, [.nilfn]⟩ := rfl
theorem T45 : EE.T 45 = some ⟨.fn, 1, [.nilfn]⟩ := rfl
theorem T47 : EE.T 47 = some ⟨.fn, 1, [.nilfn]⟩ := rfl
theorem T48 : EE.T 48 = some ⟨.fn, 1, [.nilfn]⟩ := rfl
theorem T49 : EE.T 49 = some ⟨.fn, 1, [.nilfn]⟩ := rfl
theorem T50 : EE.T 50 = some ⟨.fn, 1, [.nilfn]⟩ := rfl
theorem T51 : EE.T 51 = some ⟨.fn, 1, [.nilfn]⟩ := rfl
theorem T52 : EE.T 52 = some ⟨.fn, 1, [.nilfn]⟩ := rfl
theorem T53 : EE.T 53 = some ⟨.strct [(0, 37), (1, 41)], 2, [.sl 1 [] .full, .sl 4 [] .full]⟩ := rfl
theorem T54 : EE.T 54 = some ⟨.strct [(0, 37), (1, 41)], 2, [.sl 1 [] .full, .sl 4 [] .full]⟩ := rfl
theorem T55 : EE.T 55 = some ⟨.fn, 1, [.nilfn]⟩ := rfl
theorem T56 : EE.T 56 = some ⟨.fn, 1, [.nilfn]⟩ := rfl
theorem T57 : EE.T 57 = some ⟨.fn, 1, [.nilfn]⟩ := rfl
theorem T58 : EE.T 58 = some ⟨.fn, 1, [.nilfn]⟩ := rfl
theorem T59 : EE.T 59 = some ⟨.fn, 1, [.nilfn]⟩ := rfl
theorem T60 : EE.T 60 = some ⟨.fn, 1, [.nilfn]⟩ := rfl
theorem T61 : EE.T 61 = some ⟨.fn, 1, [.nilfn]⟩ := rfl
theorem T62 : EE.T 62 = some ⟨.fn, 1, [.nilfn]⟩ := rfl
theorem T63 : EE.T 63 = some ⟨.fn, 1, [.nilfn]⟩ := rfl
theorem T64 : EE.T 64 = some ⟨.fn, 1, [.nilfn]⟩ := rfl
theorem T65 : EE.T 65 = some ⟨.strct [(0, 3), (1, 3), (2, 3)], 3, [.int .i64 0, .int .i64 0, .int .i64 0]⟩ := rfl
theorem T66 : EE.T 66 = some ⟨.strct [(0, 3), (1, 3), (2, 3)], 3, [.int .i64 0, .int .i64 0, .int .i64 0]⟩ := rfl
theorem T67 : EE.T 67 = some ⟨.strct [(0, 3), (1, 3), (2, 3), (3, 4)], 4, [.int .i64 0, .int .i64 0, .int .i64 0, .bool false]⟩ := rfl
theorem T68 : EE.T 68 = some ⟨.strct [(0, 3), (1, 3), (2, 3), (3, 4)], 4, [.int .i64 0, .int .i64 0, .int .i64 0, .bool false]⟩ := rfl
theorem T69 : EE.T 69 = some ⟨.fn, 1, [.nilfn]⟩ := rfl
theorem T71 : EE.T 71 = some ⟨.ptr 101, 1, [.nilp]⟩ := rfl
theorem T72 : EE.T 72 = some ⟨.fn, 1, [.nilfn]⟩ := rfl
theorem T73 : EE.T 73 = some ⟨.fn, 1, [.nilfn]⟩ := rfl
theorem T74 : EE.T 74 = some ⟨.fn, 1, [.nilfn]⟩ := rfl
theorem T75 : EE.T 75 = some ⟨.fn, 1, [.nilfn]⟩ := rfl
theorem T77 : EE.T 77 = some ⟨.fn, 1, [.nilfn]⟩ := rfl
theorem T78 : EE.T 78 = some ⟨.fn, 1, [.nilfn]⟩ := rfl
theorem T79 : EE.T 79 = some ⟨.fn, 1, [.nilfn]⟩ := rfl
theorem T80 : EE.T 80 = some ⟨.ptr 108, 1, [.nilp]⟩ := rfl
theorem T81 : EE.T 81 = some ⟨.fn, 1, [.nilfn]⟩ := rfl
theorem T82 : EE.T 82 = some ⟨.fn, 1, [.nilfn]⟩ := rfl
theorem T83 : EE.T 83 = some ⟨.fn, 1, [.nilfn]⟩ := rfl
theorem T84 : EE.T 84 = some ⟨.fn, 1, [.nilfn]⟩ := rfl
theorem T85 : EE.T 85 = some ⟨.fn, 1, [.nilfn]⟩ := rfl
theorem T86 : EE.T 86 = some ⟨.fn, 1, [.nilfn]⟩ := rfl
theorem T87 : EE.T 87 = some ⟨.map 9 4, 1, [.nilmap]⟩ := rfl
theorem T88 : EE.T 88 = some ⟨.strct [(0, 9), (1, 3), (2, 3)], 3, [.str [], .int .i64 0, .int .i64 0]⟩ := rfl
theorem T89 : EE.T 89 = some ⟨.strct [(0, 9), (1, 3), (2, 3)], 3, [.str [], .int .i64 0, .int .i64 0]⟩ := rfl
theorem T90 : EE.T 90 = some ⟨.fn, 1, [.nilfn]⟩ := rfl
theorem T91 : EE.T 91 = some ⟨.fn, 1, [.nilfn]⟩ := rfl
theorem T92 : EE.T 92 = some ⟨.fn, 1, [.nilfn]⟩ := rfl
theorem T93 : EE.T 93 = some ⟨.fn, 1, [.nilfn]⟩ := rfl
theorem T94 : EE.T 94 = some ⟨.fn, 1, [.nilfn]⟩ := rfl
theorem T95 : EE.T 95 = some ⟨.fn, 1, [.nilfn]⟩ := rfl
theorem T96 : EE.T 96 = some ⟨.fn, 1, [.nilfn]⟩ := rfl
theorem T97 : EE.T 97 = some ⟨.fn, 1, [.nilfn]⟩ := rfl
theorem T98 : EE.T 98 = some ⟨.fn, 1, [.nilfn]⟩ := rfl
theorem T99 : EE.T 99 = some ⟨.map 9 41, 1, [.nilmap]⟩ := rfl
theorem T100 : EE.T 100 = some ⟨.strct [(0, 25), (5, 30), (6, 99)], 7, [.sl 2 [] .full, .sl 3 [] .full, .int .i64 0, .int .i64 0, .int .i64 0, .sl 3 [] .full, .nilmap]⟩ := rfl
theorem T101 : EE.T 101 = some ⟨.strct [(0, 25), (5, 30), (6, 99)], 7, [.sl 2 [] .full, .sl 3 [] .full, .int .i64 0, .int .i64 0, .int .i64 0, .sl 3 [] .full, .nilmap]⟩ := rfl
theorem T102 : EE.T 102 = some ⟨.fn, 1, [.nilfn]⟩ := rfl
theorem T103 : EE.T 103 = some ⟨.fn, 1, [.nilfn]⟩ := rfl
theorem T104 : EE.T 104 = some ⟨.fn, 1, [.nilfn]⟩ := rfl
theorem T105 : EE.T 105 = some ⟨.map 3 110, 1, [.nilmap]⟩ := rfl
theorem T106 : EE.T 106 = some ⟨.map 3 37, 1, [.nilmap]⟩ := rfl
theorem T107 : EE.T 107 = some ⟨.strct [(0, 105), (1, 4), (2, 106)], 3, [.nilmap, .bool false, .nilmap]⟩ := rfl
theorem T108 : EE.T 108 = some ⟨.strct [(0, 105), (1, 4), (2, 106)], 3, [.nilmap, .bool false, .nilmap]⟩ := rfl
theorem T109 : EE.T 109 = some ⟨.strct [(0, 3), (1, 37), (2, 9)], 3, [.int .i64 0, .sl 1 [] .full, .str []]⟩ := rfl
theorem T110 : EE.T 110 = some ⟨.strct [(0, 3), (1, 37), (2, 9)], 3, [.int .i64 0, .sl 1 [] .full, .str []]⟩ := rfl
theorem T112 : EE.T 112 = some ⟨.fn, 1, [.nilfn]⟩ := rfl
theorem T113 : EE.T 113 = some ⟨.fn, 1, [.nilfn]⟩ := rfl
theorem T114 : EE.T 114 = some ⟨.fn, 1, [.nilfn]⟩ := rfl
theorem T115 : EE.T 115 = some ⟨.fn, 1, [.nilfn]⟩ := rfl
theorem T116 : EE.T 116 = some ⟨.fn, 1, [.nilfn]⟩ := rfl
theorem T117 : EE.T 117 = some ⟨.fn, 1, [.nilfn]⟩ := rfl
theorem T118 : EE.T 118 = some ⟨.strct [(0, 3), (1, 3)], 2, [.int .i64 0, .int .i64 0]⟩ := rfl
theorem T119 : EE.T 119 = some ⟨.strct [(0, 3), (1, 3)], 2, [.int .i64 0, .int .i64 0]⟩ := rfl
theorem T120 : EE.T 120 = some ⟨.fn, 1, [.nilfn]⟩ := rfl
theorem T121 : EE.T 121 = some ⟨.fn, 1, [.nilfn]⟩ := rfl
theorem T122 : EE.T 122 = some ⟨.fn, 1, [.nilfn]⟩ := rfl
theorem T123 : EE.T 123 = some ⟨.fn, 1, [.nilfn]⟩ := rfl
theorem T124 : EE.T 124 = some ⟨.slice 4, 1, [.sl 1 [] .full]⟩ := rfl
theorem T125 : EE.T 125 = some ⟨.fn, 1, [.nilfn]⟩ := rfl
theorem T126 : EE.T 126 = some ⟨.fn, 1, [.nilfn]⟩ := rfl
theorem T127 : EE.T 127 = some ⟨.fn, 1, [.nilfn]⟩ := rfl
theorem T128 : EE.T 128 = some ⟨.fn, 1, [.nilfn]⟩ := rfl
theorem T129 : EE.T 129 = some ⟨.ptr 132, 1, [.nilp]⟩ := rfl
theorem T130 : EE.T 130 = some ⟨.slice 5, 1, [.sl 1 [] .full]⟩ := rfl
theorem T131 : EE.T 131 = some ⟨.strct [(0, 129), (1, 130)], 2, [.nilp, .sl 1 [] .full]⟩ := rfl
theorem T132 : EE.T 132 = some ⟨.strct [(0, 129), (1, 130)], 2, [.nilp, .sl 1 [] .full]⟩ := rfl
theorem T133 : EE.T 133 = some ⟨.iface, 1, [.nilif]⟩ := rfl
theorem T134 : EE.T 134 = some ⟨.iface, 1, [.nilif]⟩ := rfl
theorem T136 : EE.T 136 = some ⟨.fn, 1, [.nilfn]⟩ := rfl
theorem T137 : EE.T 137 = some ⟨.fn, 1, [.nilfn]⟩ := rfl
theorem T138 : EE.T 138 = some ⟨.fn, 1, [.nilfn]⟩ := rfl
theorem T139 : EE.T 139 = some ⟨.fn, 1, [.nilfn]⟩ := rfl
theorem T140 : EE.T 140 = some ⟨.fn, 1, [.nilfn]⟩ := rfl
theorem T142 : EE.T 142 = some ⟨.fn, 1, [.nilfn]⟩ := rfl
theorem T143 : EE.T 143 = some ⟨.fn, 1, [.nilfn]⟩ := rfl
theorem T144 : EE.T 144 = some ⟨.fn, 1, [.nilfn]⟩ := rfl
theorem T145 : EE.T 145 = some ⟨.fn, 1, [.nilfn]⟩ := rfl
theorem T146 : EE.T 146 = some ⟨.fn, 1, [.nilfn]⟩ := rfl
theorem T147 : EE.T 147 = some ⟨.fn, 1, [.nilfn]⟩ := rfl
theorem T148 : EE.T 148 = some ⟨.fn, 1, [.nilfn]⟩ := rfl
theorem T149 : EE.T 149 = some ⟨.fn, 1, [.nilfn]⟩ := rfl
theorem T150 : EE.T 150 = some ⟨.fn, 1, [.nilfn]⟩ := rfl
theorem T151 : EE.T 151 = some ⟨.fn, 1, [.nilfn]⟩ := rfl
theorem T152 : EE.T 152 = some ⟨.fn, 1, [.nilfn]⟩ := rfl
theorem T153 : EE.T 153 = some ⟨.fn, 1, [.nilfn]⟩ := rfl
theorem T154 : EE.T 154 = some ⟨.fn, 1, [.nilfn]⟩ := rfl
theorem T155 : EE.T 155 = some ⟨.map 3 3, 1, [.nilmap]⟩ := rfl
theorem T157 : EE.T 157 = some ⟨.ptr 5, 1, [.nilp]⟩ := rfl
theorem T158 : EE.T 158 = some ⟨.slice 37, 1, [.sl 1 [] .full]⟩ := rfl
theorem T159 : EE.T 159 = some ⟨.array 3 3, 3, [.int .i64 0, .int .i64 0, .int .i64 0]⟩ := rfl
theorem T160 : EE.T 160 = some ⟨.fn, 1, [.nilfn]⟩ := rfl
theorem T161 : EE.T 161 = some ⟨.int .u64, 1, [.int .u64 0]⟩ := rfl
theorem T162 : EE.T 162 = some ⟨.fn, 1, [.nilfn]⟩ := rfl
theorem T163 : EE.T 163 = some ⟨.fn, 1, [.nilfn]⟩ := rfl
theorem T164 : EE.T 164 = some ⟨.fn, 1, [.nilfn]⟩ := rfl
theorem T165 : EE.T 165 = some ⟨.fn, 1, [.nilfn]⟩ := rfl
theorem T166 : EE.T 166 = some ⟨.fn, 1, [.nilfn]⟩ := rfl
theorem T167 : EE.T 167 = some ⟨.fn, 1, [.nilfn]⟩ := rfl
theorem T168 : EE.T 168 = some ⟨.array 4 119, 8, [.int .i64 0, .int .i64 0, .int .i64 0, .int .i64 0, .int .i64 0, .int .i64 0, .int .i64 0, .int .i64 0]⟩ := rfl
theorem T169 : EE.T 169 = some ⟨.fn, 1, [.nilfn]⟩ := rfl
theorem T170 : EE.T 170 = some ⟨.map 172 4, 1, [.nilmap]⟩ := rfl
theorem T171 : EE.T 171 = some ⟨.strct [(0, 3), (1, 9)], 2, [.int .i64 0, .str []]⟩ := rfl
theorem T172 : EE.T 172 = some ⟨.strct [(0, 3), (1, 9)], 2, [.int .i64 0, .str []]⟩ := rfl
theorem T173 : EE.T 173 = some ⟨.fn, 1, [.nilfn]⟩ := rfl
theorem T174 : EE.T 174 = some ⟨.fn, 1, [.nilfn]⟩ := rfl
theorem T175 : EE.T 175 = some ⟨.fn, 1, [.nilfn]⟩ := rfl
theorem T176 : EE.T 176 = some ⟨.fn, 1, [.nilfn]⟩ := rfl
theorem T177 : EE.T 177 = some ⟨.fn, 1, [.nilfn]⟩ := rfl
theorem T178 : EE.T 178 = some ⟨.fn, 1, [.nilfn]⟩ := rfl
theorem T179 : EE.T 179 = some ⟨.array 2 3, 2, [.int .i64 0, .int .i64 0]⟩ := rfl
theorem T180 : EE.T 180 = some ⟨.array 3 179, 6, [.int .i64 0, .int .i64 0, .int .i64 0, .int .i64 0, .int .i64 0, .int .i64 0]⟩ := rfl
theorem T182 : EE.T 182 = some ⟨.fn, 1, [.nilfn]⟩ := rfl
theorem T183 : EE.T 183 = some ⟨.fn, 1, [.nilfn]⟩ := rfl
theorem T184 : EE.T 184 = some ⟨.fn, 1, [.nilfn]⟩ := rfl
theorem T185 : EE.T 185 = some ⟨.fn, 1, [.nilfn]⟩ := rfl
theorem T186 : EE.T 186 = some ⟨.fn, 1, [.nilfn]⟩ := rfl
theorem T187 : EE.T 187 = some ⟨.fn, 1, [.nilfn]⟩ := rfl
theorem T188 : EE.T 188 = some ⟨.fn, 1, [.nilfn]⟩ := rfl
theorem T189 : EE.T 189 = some ⟨.fn, 1, [.nilfn]⟩ := rfl
theorem T190 : EE.T 190 = some ⟨.fn, 1, [.nilfn]⟩ := rfl
theorem T191 : EE.T 191 = some ⟨.array 24 5, 24, [.int .u8 0, .int .u8 0, .int .u8 0, .int .u8 0, .int .u8 0, .int .u8 0, .int .u8 0, .int .u8 0, .int .u8 0, .int .u8 0, .int .u8 0, .int .u8 0, .int .u8 0, .int .u8 0, .int .u8 0, .int .u8 0, .int .u8 0, .int .u8 0, .int .u8 0, .int .u8 0, .int .u8 0, .int .u8 0, .int .u8 0, .int .u8 0]⟩ := rfl
theorem T192 : EE.T 192 = some ⟨.int .u64, 1, [.int .u64 0]⟩ := rfl
theorem T193 : EE.T 193 = some ⟨.fn, 1, [.nilfn]⟩ := rfl
theorem T194 : EE.T 194 = some ⟨.fn, 1, [.nilfn]⟩ := rfl
theorem T196 : EE.T 196 = some ⟨.fn, 1, [.nilfn]⟩ := rfl
theorem T197 : EE.T 197 = some ⟨.fn, 1, [.nilfn]⟩ := rfl
theorem T198 : EE.T 198 = some ⟨.fn, 1, [.nilfn]⟩ := rfl
theorem T199 : EE.T 199 = some ⟨.int .i64, 1, [.int .i64 0]⟩ := rfl
theorem T201 : EE.T 201 = some ⟨.fn, 1, [.nilfn]⟩ := rfl
theorem T202 : EE.T 202 = some ⟨.fn, 1, [.nilfn]⟩ := rfl
theorem T203 : EE.T 203 = some ⟨.fn, 1, [.nilfn]⟩ := rfl
theorem T204 : EE.T 204 = some ⟨.fn, 1, [.nilfn]⟩ := rfl
theorem T205 : EE.T 205 = some ⟨.fn, 1, [.nilfn]⟩ := rfl
theorem T206 : EE.T 206 = some ⟨.int .u32, 1, [.int .u32 0]⟩ := rfl
theorem T207 : EE.T 207 = some ⟨.fn, 1, [.nilfn]⟩ := rfl
theorem T208 : EE.T 208 = some ⟨.array 20 192, 20, [.int .u64 0, .int .u64 0, .int .u64 0, .int .u64 0, .int .u64 0, .int .u64 0, .int .u64 0, .int .u64 0, .int .u64 0, .int .u64 0, .int .u64 0, .int .u64 0, .int .u64 0, .int .u64 0, .int .u64 0, .int .u64 0, .int .u64 0, .int .u64 0, .int .u64 0, .int .u64 0]⟩ := rfl
theorem T209 : EE.T 209 = some ⟨.array 65 5, 65, [.int .u8 0, .int .u8 0, .int .u8 0, .int .u8 0, .int .u8 0, .int .u8 0, .int .u8 0, .int .u8 0, .int .u8 0, .int .u8 0, .int .u8 0, .int .u8 0, .int .u8 0, .int .u8 0, .int .u8 0, .int .u8 0, .int .u8 0, .int .u8 0, .int .u8 0, .int .u8 0, .int .u8 0, .int .u8 0, .int .u8 0, .int .u8 0, .int .u8 0, .int .u8 0, .int .u8 0, .int .u8 0, .int .u8 0, .int .u8 0, .int .u8 0, .int .u8 0, .int .u8 0, .int .u8 0, .int .u8 0, .int .u8 0, .int .u8 0, .int .u8 0, .int .u8 0, .int .u8 0, .int .u8 0, .int .u8 0, .int .u8 0, .int .u8 0, .int .u8 0, .int .u8 0, .int .u8 0, .int .u8 0, .int .u8 0, .int .u8 0, .int .u8 0, .int .u8 0, .int .u8 0, .int .u8 0, .int .u8 0, .int .u8 0, .int .u8 0, .int .u8 0, .int .u8 0, .int .u8 0, .int .u8 0, .int .u8 0, .int .u8 0, .int .u8 0, .int .u8 0]⟩ := rfl
theorem T210 : EE.T 210 = some ⟨.fn, 1, [.nilfn]⟩ := rfl
theorem T211 : EE.T 211 = some ⟨.int .u64, 1, [.int .u64 0]⟩ := rfl
theorem T212 : EE.T 212 = some ⟨.fn, 1, [.nilfn]⟩ := rfl
theorem T213 : EE.T 213 = some ⟨.fn, 1, [.nilfn]⟩ := rfl
theorem T214 : EE.T 214 = some ⟨.fn, 1, [.nilfn]⟩ := rfl
theorem T215 : EE.T 215 = some ⟨.ptr 3, 1, [.nilp]⟩ := rfl
theorem T216 : EE.T 216 = some ⟨.fn, 1, [.nilfn]⟩ := rfl
theorem T217 : EE.T 217 = some ⟨.ptr 211, 1, [.nilp]⟩ := rfl
theorem T219 : EE.T 219 = some ⟨.fn, 1, [.nilfn]⟩ := rfl
theorem T220 : EE.T 220 = some ⟨.array 32 5, 32, [.int .u8 0, .int .u8 0, .int .u8 0, .int .u8 0, .int .u8 0, .int .u8 0, .int .u8 0, .int .u8 0, .int .u8 0, .int .u8 0, .int .u8 0, .int .u8 0, .int .u8 0, .int .u8 0, .int .u8 0, .int .u8 0, .int .u8 0, .int .u8 0, .int .u8 0, .int .u8 0, .int .u8 0, .int .u8 0, .int .u8 0, .int .u8 0, .int .u8 0, .int .u8 0, .int .u8 0, .int .u8 0, .int .u8 0, .int .u8 0, .int .u8 0, .int .u8 0]⟩ := rfl
theorem T221 : EE.T 221 = some ⟨.array 64 5, 64, [.int .u8 0, .int .u8 0, .int .u8 0, .int .u8 0, .int .u8 0, .int .u8 0, .int .u8 0, .int .u8 0, .int .u8 0, .int .u8 0, .int .u8 0, .int .u8 0, .int .u8 0, .int .u8 0, .int .u8 0, .int .u8 0, .int .u8 0, .int .u8 0, .int .u8 0, .int .u8 0, .int .u8 0, .int .u8 0, .int .u8 0, .int .u8 0, .int .u8 0, .int .u8 0, .int .u8 0, .int .u8 0, .int .u8 0, .int .u8 0, .int .u8 0, .int .u8 0, .int .u8 0, .int .u8 0, .int .u8 0, .int .u8 0, .int .u8 0, .int .u8 0, .int .u8 0, .int .u8 0, .int .u8 0, .int .u8 0, .int .u8 0, .int .u8 0, .int .u8 0, .int .u8 0, .int .u8 0, .int .u8 0, .int .u8 0, .int .u8 0, .int .u8 0, .int .u8 0, .int .u8 0, .int .u8 0, .int .u8 0, .int .u8 0, .int .u8 0, .int .u8 0, .int .u8 0, .int .u8 0, .int .u8 0, .int .u8 0, .int .u8 0, .int .u8 0]⟩ := rfl
theorem T227 : EE.T 227 = some ⟨.fn, 1, [.nilfn]⟩ := rfl
theorem T230 : EE.T 230 = some ⟨.fn, 1, [.nilfn]⟩ := rfl
end Go.Pv.Ct
end
section
namespace Go.Pv.Ct
open Go.Pv
theorem ok3 : FnOk EE 3 16 [.tmp 2] (code Go.Proofs.Tryz.f3) where
  ex := ⟨Go.Proofs.Tryz.f3, Go.Proofs.Tryz.func3, by kernel_rfl, by kernel_rfl, by kernel_rfl, by kernel_rfl⟩
  code := by kernel_rfl
  res := by kernel_rfl
theorem ok4 : FnOk EE 4 51 [.tmp 2] (code Go.Proofs.Tryz.f4) where
  ex := ⟨Go.Proofs.Tryz.f4, Go.Proofs.Tryz.func4, by kernel_rfl, by kernel_rfl, by kernel_rfl, by kernel_rfl⟩
  code := by kernel_rfl
  res := by kernel_rfl
theorem ok5 : FnOk EE 5 52 [.tmp 6] (code Go.Proofs.Tryz.f5) where
  ex := ⟨Go.Proofs.Tryz.f5, Go.Proofs.Tryz.func5, by kernel_rfl, by kernel_rfl, by kernel_rfl, by kernel_rfl⟩
  code := by kernel_rfl
  res := by kernel_rfl
theorem ok6 : FnOk EE 6 118 [.tmp 2] (code Go.Proofs.Tryz.f6) where
  ex := ⟨Go.Proofs.Tryz.f6, Go.Proofs.Tryz.func6, by kernel_rfl, by kernel_rfl, by kernel_rfl, by kernel_rfl⟩
  code := by kernel_rfl
  res := by kernel_rfl
theorem ok7 : FnOk EE 7 83 [.tmp 2] (code Go.Proofs.Tryz.f7) where
  ex := ⟨Go.Proofs.Tryz.f7, Go.Proofs.Tryz.func7, by kernel_rfl, by kernel_rfl, by kernel_rfl, by kernel_rfl⟩
  code := by kernel_rfl
  res := by kernel_rfl
theorem ok9 : FnOk EE 9 42 [.tmp 2] (code Go.Proofs.Tryz.f9) where
  ex := ⟨Go.Proofs.Tryz.f9, Go.Proofs.Tryz.func9, by kernel_rfl, by kernel_rfl, by kernel_rfl, by kernel_rfl⟩
  code := by kernel_rfl
  res := by kernel_rfl
theorem ok10 : FnOk EE 10 79 [.tmp 4] (code Go.Proofs.Tryz.f10) where
  ex := ⟨Go.Proofs.Tryz.f10, Go.Proofs.Tryz.func10, by kernel_rfl, by kernel_rfl, by kernel_rfl, by kernel_rfl⟩
  code := by kernel_rfl
  res := by kernel_rfl
theorem ok11 : FnOk EE 11 58 [.tmp 4] (code Go.Proofs.Tryz.f11) where
  ex := ⟨Go.Proofs.Tryz.f11, Go.Proofs.Tryz.func11, by kernel_rfl, by kernel_rfl, by kernel_rfl, by kernel_rfl⟩
  code := by kernel_rfl
  res := by kernel_rfl
theorem ok12 : FnOk EE 12 39 [.tmp 2] (code Go.Proofs.Tryz.f12) where
  ex := ⟨Go.Proofs.Tryz.f12, Go.Proofs.Tryz.func12, by kernel_rfl, by kernel_rfl, by kernel_rfl, by kernel_rfl⟩
  code := by kernel_rfl
  res := by kernel_rfl
theorem ok13 : FnOk EE 13 70 [.tmp 2] (code Go.Proofs.Tryz.f13) where
  ex := ⟨Go.Proofs.Tryz.f13, Go.Proofs.Tryz.func13, by kernel_rfl, by kernel_rfl, by kernel_rfl, by kernel_rfl⟩
  code := by kernel_rfl
  res := by kernel_rfl
theorem ok14 : FnOk EE 14 44 [.tmp 2] (code Go.Proofs.Tryz.f14) where
  ex := ⟨Go.Proofs.Tryz.f14, Go.Proofs.Tryz.func14, by kernel_rfl, by kernel_rfl, by kernel_rfl, by kernel_rfl⟩
  code := by kernel_rfl
  res := by kernel_rfl
theorem ok15 : FnOk EE 15 49 [.tmp 0] (code Go.Proofs.Tryz.f15) where
  ex := ⟨Go.Proofs.Tryz.f15, Go.Proofs.Tryz.func15, by kernel_rfl, by kernel_rfl, by kernel_rfl, by kernel_rfl⟩
  code := by kernel_rfl
  res := by kernel_rfl
theorem ok16 : FnOk EE 16 17 [.tmp 2] (code Go.Proofs.Tryz.f16) where
  ex := ⟨Go.Proofs.Tryz.f16, Go.Proofs.Tryz.func16, by kernel_rfl, by kernel_rfl, by kernel_rfl, by kernel_rfl⟩
  code := by kernel_rfl
  res := by kernel_rfl
theorem ok17 : FnOk EE 17 31 [.tmp 6, .tmp 7, .tmp 8] (code Go.Proofs.Tryz.f17) where
  ex := ⟨Go.Proofs.Tryz.f17, Go.Proofs.Tryz.func17, by kernel_rfl, by kernel_rfl, by kernel_rfl, by kernel_rfl⟩
  code := by kernel_rfl
  res := by kernel_rfl
theorem ok18 : FnOk EE 18 51 [.tmp 6, .tmp 7, .tmp 8] (code Go.Proofs.Tryz.f18) where
  ex := ⟨Go.Proofs.Tryz.f18, Go.Proofs.Tryz.func18, by kernel_rfl, by kernel_rfl, by kernel_rfl, by kernel_rfl⟩
  code := by kernel_rfl
  res := by kernel_rfl
theorem ok19 : FnOk EE 19 9 [.tmp 4] (code Go.Proofs.Tryz.f19) where
  ex := ⟨Go.Proofs.Tryz.f19, Go.Proofs.Tryz.func19, by kernel_rfl, by kernel_rfl, by kernel_rfl, by kernel_rfl⟩
  code := by kernel_rfl
  res := by kernel_rfl
theorem ok20 : FnOk EE 20 26 [.tmp 4] (code Go.Proofs.Tryz.f20) where
  ex := ⟨Go.Proofs.Tryz.f20, Go.Proofs.Tryz.func20, by kernel_rfl, by kernel_rfl, by kernel_rfl, by kernel_rfl⟩
  code := by kernel_rfl
  res := by kernel_rfl
theorem ok21 : FnOk EE 21 19 [.tmp 4, .tmp 5] (code Go.Proofs.Tryz.f21) where
  ex := ⟨Go.Proofs.Tryz.f21, Go.Proofs.Tryz.func21, by kernel_rfl, by kernel_rfl, by kernel_rfl, by kernel_rfl⟩
  code := by kernel_rfl
  res := by kernel_rfl
theorem ok22 : FnOk EE 22 12 [.tmp 4, .tmp 5] (code Go.Proofs.Tryz.f22) where
  ex := ⟨Go.Proofs.Tryz.f22, Go.Proofs.Tryz.func22, by kernel_rfl, by kernel_rfl, by kernel_rfl, by kernel_rfl⟩
  code := by kernel_rfl
  res := by kernel_rfl
theorem ok23 : FnOk EE 23 10 [.tmp 4] (code Go.Proofs.Tryz.f23) where
  ex := ⟨Go.Proofs.Tryz.f23, Go.Proofs.Tryz.func23, by kernel_rfl, by kernel_rfl, by kernel_rfl, by kernel_rfl⟩
  code := by kernel_rfl
  res := by kernel_rfl
theorem ok24 : FnOk EE 24 26 [.tmp 4] (code Go.Proofs.Tryz.f24) where
  ex := ⟨Go.Proofs.Tryz.f24, Go.Proofs.Tryz.func24, by kernel_rfl, by kernel_rfl, by kernel_rfl, by kernel_rfl⟩
  code := by kernel_rfl
  res := by kernel_rfl
theorem ok25 : FnOk EE 25 33 [.tmp 6] (code Go.Proofs.Tryz.f25) where
  ex := ⟨Go.Proofs.Tryz.f25, Go.Proofs.Tryz.func25, by kernel_rfl, by kernel_rfl, by kernel_rfl, by kernel_rfl⟩
  code := by kernel_rfl
  res := by kernel_rfl
theorem ok26 : FnOk EE 26 17 [.tmp 6] (code Go.Proofs.Tryz.f26) where
  ex := ⟨Go.Proofs.Tryz.f26, Go.Proofs.Tryz.func26, by kernel_rfl, by kernel_rfl, by kernel_rfl, by kernel_rfl⟩
  code := by kernel_rfl
  res := by kernel_rfl
theorem ok27 : FnOk EE 27 8 [.cell 2 25] (code Go.Proofs.Tryz.f27) where
  ex := ⟨Go.Proofs.Tryz.f27, Go.Proofs.Tryz.func27, by kernel_rfl, by kernel_rfl, by kernel_rfl, by kernel_rfl⟩
  code := by kernel_rfl
  res := by kernel_rfl
theorem ok28 : FnOk EE 28 15 [.tmp 6] (code Go.Proofs.Tryz.f28) where
  ex := ⟨Go.Proofs.Tryz.f28, Go.Proofs.Tryz.func28, by kernel_rfl, by kernel_rfl, by kernel_rfl, by kernel_rfl⟩
  code := by kernel_rfl
  res := by kernel_rfl
theorem ok29 : FnOk EE 29 9 [.tmp 4] (code Go.Proofs.Tryz.f29) where
  ex := ⟨Go.Proofs.Tryz.f29, Go.Proofs.Tryz.func29, by kernel_rfl, by kernel_rfl, by kernel_rfl, by kernel_rfl⟩
  code := by kernel_rfl
  res := by kernel_rfl
theorem ok30 : FnOk EE 30 8 [.cell 2 36] (code Go.Proofs.Tryz.f30) where
  ex := ⟨Go.Proofs.Tryz.f30, Go.Proofs.Tryz.func30, by kernel_rfl, by kernel_rfl, by kernel_rfl, by kernel_rfl⟩
  code := by kernel_rfl
  res := by kernel_rfl
theorem ok31 : FnOk EE 31 17 [.tmp 6] (code Go.Proofs.Tryz.f31) where
  ex := ⟨Go.Proofs.Tryz.f31, Go.Proofs.Tryz.func31, by kernel_rfl, by kernel_rfl, by kernel_rfl, by kernel_rfl⟩
  code := by kernel_rfl
  res := by kernel_rfl
theorem ok32 : FnOk EE 32 17 [.tmp 6] (code Go.Proofs.Tryz.f32) where
  ex := ⟨Go.Proofs.Tryz.f32, Go.Proofs.Tryz.func32, by kernel_rfl, by kernel_rfl, by kernel_rfl, by kernel_rfl⟩
  code := by kernel_rfl
  res := by kernel_rfl
theorem ok33 : FnOk EE 33 17 [.tmp 6] (code Go.Proofs.Tryz.f33) where
  ex := ⟨Go.Proofs.Tryz.f33, Go.Proofs.Tryz.func33, by kernel_rfl, by kernel_rfl, by kernel_rfl, by kernel_rfl⟩
  code := by kernel_rfl
  res := by kernel_rfl
theorem ok34 : FnOk EE 34 81 [.tmp 2] (code Go.Proofs.Tryz.f34) where
  ex := ⟨Go.Proofs.Tryz.f34, Go.Proofs.Tryz.func34, by kernel_rfl, by kernel_rfl, by kernel_rfl, by kernel_rfl⟩
  code := by kernel_rfl
  res := by kernel_rfl
theorem ok35 : FnOk EE 35 44 [.tmp 4] (code Go.Proofs.Tryz.f35) where
  ex := ⟨Go.Proofs.Tryz.f35, Go.Proofs.Tryz.func35, by kernel_rfl, by kernel_rfl, by kernel_rfl, by kernel_rfl⟩
  code := by kernel_rfl
  res := by kernel_rfl
theorem ok36 : FnOk EE 36 38 [.tmp 4] (code Go.Proofs.Tryz.f36) where
  ex := ⟨Go.Proofs.Tryz.f36, Go.Proofs.Tryz.func36, by kernel_rfl, by kernel_rfl, by kernel_rfl, by kernel_rfl⟩
  code := by kernel_rfl
  res := by kernel_rfl
theorem ok37 : FnOk EE 37 9 [.tmp 2] (code Go.Proofs.Tryz.f37) where
  ex := ⟨Go.Proofs.Tryz.f37, Go.Proofs.Tryz.func37, by kernel_rfl, by kernel_rfl, by kernel_rfl, by kernel_rfl⟩
  code := by kernel_rfl
  res := by kernel_rfl
theorem ok38 : FnOk EE 38 100 [.tmp 2] (code Go.Proofs.Tryz.f38) where
  ex := ⟨Go.Proofs.Tryz.f38, Go.Proofs.Tryz.func38, by kernel_rfl, by kernel_rfl, by kernel_rfl, by kernel_rfl⟩
  code := by kernel_rfl
  res := by kernel_rfl
theorem ok39 : FnOk EE 39 92 [.tmp 4] (code Go.Proofs.Tryz.f39) where
  ex := ⟨Go.Proofs.Tryz.f39, Go.Proofs.Tryz.func39, by kernel_rfl, by kernel_rfl, by kernel_rfl, by kernel_rfl⟩
  code := by kernel_rfl
  res := by kernel_rfl
theorem ok40 : FnOk EE 40 16 [.tmp 2] (code Go.Proofs.Tryz.f40) where
  ex := ⟨Go.Proofs.Tryz.f40, Go.Proofs.Tryz.func40, by kernel_rfl, by kernel_rfl, by kernel_rfl, by kernel_rfl⟩
  code := by kernel_rfl
  res := by kernel_rfl
theorem ok41 : FnOk EE 41 42 [.tmp 4] (code Go.Proofs.Tryz.f41) where
  ex := ⟨Go.Proofs.Tryz.f41, Go.Proofs.Tryz.func41, by kernel_rfl, by kernel_rfl, by kernel_rfl, by kernel_rfl⟩
  code := by kernel_rfl
  res := by kernel_rfl
theorem ok42 : FnOk EE 42 38 [.tmp 4, .tmp 5, .tmp 6, .tmp 7] (code Go.Proofs.Tryz.f42) where
  ex := ⟨Go.Proofs.Tryz.f42, Go.Proofs.Tryz.func42, by kernel_rfl, by kernel_rfl, by kernel_rfl, by kernel_rfl⟩
  code := by kernel_rfl
  res := by kernel_rfl
theorem ok43 : FnOk EE 43 8 [.tmp 2] (code Go.Proofs.Tryz.f43) where
  ex := ⟨Go.Proofs.Tryz.f43, Go.Proofs.Tryz.func43, by kernel_rfl, by kernel_rfl, by kernel_rfl, by kernel_rfl⟩
  code := by kernel_rfl
  res := by kernel_rfl
theorem ok44 : FnOk EE 44 8 [.tmp 2] (code Go.Proofs.Tryz.f44) where
  ex := ⟨Go.Proofs.Tryz.f44, Go.Proofs.Tryz.func44, by kernel_rfl, by kernel_rfl, by kernel_rfl, by kernel_rfl⟩
  code := by kernel_rfl
  res := by kernel_rfl
theorem ok45 : FnOk EE 45 108 [.tmp 6, .tmp 7, .tmp 8] (code Go.Proofs.Tryz.f45) where
  ex := ⟨Go.Proofs.Tryz.f45, Go.Proofs.Tryz.func45, by kernel_rfl, by kernel_rfl, by kernel_rfl, by kernel_rfl⟩
  code := by kernel_rfl
  res := by kernel_rfl
theorem ok46 : FnOk EE 46 30 [.tmp 4, .tmp 5] (code Go.Proofs.Tryz.f46) where
  ex := ⟨Go.Proofs.Tryz.f46, Go.Proofs.Tryz.func46, by kernel_rfl, by kernel_rfl, by kernel_rfl, by kernel_rfl⟩
  code := by kernel_rfl
  res := by kernel_rfl
theorem ok47 : FnOk EE 47 46 [.tmp 4] (code Go.Proofs.Tryz.f47) where
  ex := ⟨Go.Proofs.Tryz.f47, Go.Proofs.Tryz.func47, by kernel_rfl, by kernel_rfl, by kernel_rfl, by kernel_rfl⟩
  code := by kernel_rfl
  res := by kernel_rfl
theorem ok48 : FnOk EE 48 20 [.tmp 4, .tmp 5] (code Go.Proofs.Tryz.f48) where
  ex := ⟨Go.Proofs.Tryz.f48, Go.Proofs.Tryz.func48, by kernel_rfl, by kernel_rfl, by kernel_rfl, by kernel_rfl⟩
  code := by kernel_rfl
  res := by kernel_rfl
theorem ok49 : FnOk EE 49 32 [.tmp 4] (code Go.Proofs.Tryz.f49) where
  ex := ⟨Go.Proofs.Tryz.f49, Go.Proofs.Tryz.func49, by kernel_rfl, by kernel_rfl, by kernel_rfl, by kernel_rfl⟩
  code := by kernel_rfl
  res := by kernel_rfl
theorem ok50 : FnOk EE 50 9 [.tmp 2] (code Go.Proofs.Tryz.f50) where
  ex := ⟨Go.Proofs.Tryz.f50, Go.Proofs.Tryz.func50, by kernel_rfl, by kernel_rfl, by kernel_rfl, by kernel_rfl⟩
  code := by kernel_rfl
  res := by kernel_rfl
theorem ok51 : FnOk EE 51 8 [.cell 2 36] (code Go.Proofs.Tryz.f51) where
  ex := ⟨Go.Proofs.Tryz.f51, Go.Proofs.Tryz.func51, by kernel_rfl, by kernel_rfl, by kernel_rfl, by kernel_rfl⟩
  code := by kernel_rfl
  res := by kernel_rfl
theorem ok52 : FnOk EE 52 28 [.tmp 4] (code Go.Proofs.Tryz.f52) where
  ex := ⟨Go.Proofs.Tryz.f52, Go.Proofs.Tryz.func52, by kernel_rfl, by kernel_rfl, by kernel_rfl, by kernel_rfl⟩
  code := by kernel_rfl
  res := by kernel_rfl
theorem ok53 : FnOk EE 53 52 [.tmp 4] (code Go.Proofs.Tryz.f53) where
  ex := ⟨Go.Proofs.Tryz.f53, Go.Proofs.Tryz.func53, by kernel_rfl, by kernel_rfl, by kernel_rfl, by kernel_rfl⟩
  code := by kernel_rfl
  res := by kernel_rfl
theorem ok54 : FnOk EE 54 25 [.tmp 4] (code Go.Proofs.Tryz.f54) where
  ex := ⟨Go.Proofs.Tryz.f54, Go.Proofs.Tryz.func54, by kernel_rfl, by kernel_rfl, by kernel_rfl, by kernel_rfl⟩
  code := by kernel_rfl
  res := by kernel_rfl
theorem ok55 : FnOk EE 55 43 [.tmp 6, .tmp 7] (code Go.Proofs.Tryz.f55) where
  ex := ⟨Go.Proofs.Tryz.f55, Go.Proofs.Tryz.func55, by kernel_rfl, by kernel_rfl, by kernel_rfl, by kernel_rfl⟩
  code := by kernel_rfl
  res := by kernel_rfl
theorem ok56 : FnOk EE 56 36 [.tmp 4] (code Go.Proofs.Tryz.f56) where
  ex := ⟨Go.Proofs.Tryz.f56, Go.Proofs.Tryz.func56, by kernel_rfl, by kernel_rfl, by kernel_rfl, by kernel_rfl⟩
  code := by kernel_rfl
  res := by kernel_rfl
theorem ok57 : FnOk EE 57 144 [.tmp 2] (code Go.Proofs.Tryz.f57) where
  ex := ⟨Go.Proofs.Tryz.f57, Go.Proofs.Tryz.func57, by kernel_rfl, by kernel_rfl, by kernel_rfl, by kernel_rfl⟩
  code := by kernel_rfl
  res := by kernel_rfl
theorem ok58 : FnOk EE 58 58 [.tmp 6, .tmp 7] (code Go.Proofs.Tryz.f58) where
  ex := ⟨Go.Proofs.Tryz.f58, Go.Proofs.Tryz.func58, by kernel_rfl, by kernel_rfl, by kernel_rfl, by kernel_rfl⟩
  code := by kernel_rfl
  res := by kernel_rfl
theorem ok59 : FnOk EE 59 52 [.tmp 2] (code Go.Proofs.Tryz.f59) where
  ex := ⟨Go.Proofs.Tryz.f59, Go.Proofs.Tryz.func59, by kernel_rfl, by kernel_rfl, by kernel_rfl, by kernel_rfl⟩
  code := by kernel_rfl
  res := by kernel_rfl
theorem ok60 : FnOk EE 60 9 [.tmp 4] (code Go.Proofs.Tryz.f60) where
  ex := ⟨Go.Proofs.Tryz.f60, Go.Proofs.Tryz.func60, by kernel_rfl, by kernel_rfl, by kernel_rfl, by kernel_rfl⟩
  code := by kernel_rfl
  res := by kernel_rfl
theorem ok61 : FnOk EE 61 6 [.tmp 2] (code Go.Proofs.Tryz.f61) where
  ex := ⟨Go.Proofs.Tryz.f61, Go.Proofs.Tryz.func61, by kernel_rfl, by kernel_rfl, by kernel_rfl, by kernel_rfl⟩
  code := by kernel_rfl
  res := by kernel_rfl
theorem ok62 : FnOk EE 62 9 [.tmp 2] (code Go.Proofs.Tryz.f62) where
  ex := ⟨Go.Proofs.Tryz.f62, Go.Proofs.Tryz.func62, by kernel_rfl, by kernel_rfl, by kernel_rfl, by kernel_rfl⟩
  code := by kernel_rfl
  res := by kernel_rfl
theorem ok63 : FnOk EE 63 49 [.tmp 2] (code Go.Proofs.Tryz.f63) where
  ex := ⟨Go.Proofs.Tryz.f63, Go.Proofs.Tryz.func63, by kernel_rfl, by kernel_rfl, by kernel_rfl, by kernel_rfl⟩
  code := by kernel_rfl
  res := by kernel_rfl
theorem ok64 : FnOk EE 64 9 [.tmp 4] (code Go.Proofs.Tryz.f64) where
  ex := ⟨Go.Proofs.Tryz.f64, Go.Proofs.Tryz.func64, by kernel_rfl, by kernel_rfl, by kernel_rfl, by kernel_rfl⟩
  code := by kernel_rfl
  res := by kernel_rfl
theorem ok65 : FnOk EE 65 9 [.tmp 3] (code Go.Proofs.Tryz.f65) where
  ex := ⟨Go.Proofs.Tryz.f65, Go.Proofs.Tryz.func65, by kernel_rfl, by kernel_rfl, by kernel_rfl, by kernel_rfl⟩
  code := by kernel_rfl
  res := by kernel_rfl
theorem ok66 : FnOk EE 66 13 [.tmp 4] (code Go.Proofs.Tryz.f66) where
  ex := ⟨Go.Proofs.Tryz.f66, Go.Proofs.Tryz.func66, by kernel_rfl, by kernel_rfl, by kernel_rfl, by kernel_rfl⟩
  code := by kernel_rfl
  res := by kernel_rfl
theorem ok67 : FnOk EE 67 49 [.tmp 2] (code Go.Proofs.Tryz.f67) where
  ex := ⟨Go.Proofs.Tryz.f67, Go.Proofs.Tryz.func67, by kernel_rfl, by kernel_rfl, by kernel_rfl, by kernel_rfl⟩
  code := by kernel_rfl
  res := by kernel_rfl
theorem ok68 : FnOk EE 68 51 [.tmp 2] (code Go.Proofs.Tryz.f68) where
  ex := ⟨Go.Proofs.Tryz.f68, Go.Proofs.Tryz.func68, by kernel_rfl, by kernel_rfl, by kernel_rfl, by kernel_rfl⟩
  code := by kernel_rfl
  res := by kernel_rfl
theorem ok69 : FnOk EE 69 6 [.tmp 2] (code Go.Proofs.Tryz.f69) where
  ex := ⟨Go.Proofs.Tryz.f69, Go.Proofs.Tryz.func69, by kernel_rfl, by kernel_rfl, by kernel_rfl, by kernel_rfl⟩
  code := by kernel_rfl
  res := by kernel_rfl
theorem ok70 : FnOk EE 70 33 [.tmp 2] (code Go.Proofs.Tryz.f70) where
  ex := ⟨Go.Proofs.Tryz.f70, Go.Proofs.Tryz.func70, by kernel_rfl, by kernel_rfl, by kernel_rfl, by kernel_rfl⟩
  code := by kernel_rfl
  res := by kernel_rfl
theorem ok71 : FnOk EE 71 7 [.tmp 2] (code Go.Proofs.Tryz.f71) where
  ex := ⟨Go.Proofs.Tryz.f71, Go.Proofs.Tryz.func71, by kernel_rfl, by kernel_rfl, by kernel_rfl, by kernel_rfl⟩
  code := by kernel_rfl
  res := by kernel_rfl
theorem ok72 : FnOk EE 72 43 [.tmp 2] (code Go.Proofs.Tryz.f72) where
  ex := ⟨Go.Proofs.Tryz.f72, Go.Proofs.Tryz.func72, by kernel_rfl, by kernel_rfl, by kernel_rfl, by kernel_rfl⟩
  code := by kernel_rfl
  res := by kernel_rfl
theorem ok73 : FnOk EE 73 18 [.tmp 2] (code Go.Proofs.Tryz.f73) where
  ex := ⟨Go.Proofs.Tryz.f73, Go.Proofs.Tryz.func73, by kernel_rfl, by kernel_rfl, by kernel_rfl, by kernel_rfl⟩
  code := by kernel_rfl
  res := by kernel_rfl
theorem ok74 : FnOk EE 74 114 [.tmp 4, .tmp 5, .tmp 6] (code Go.Proofs.Tryz.f74) where
  ex := ⟨Go.Proofs.Tryz.f74, Go.Proofs.Tryz.func74, by kernel_rfl, by kernel_rfl, by kernel_rfl, by kernel_rfl⟩
  code := by kernel_rfl
  res := by kernel_rfl
theorem ok75 : FnOk EE 75 11 [.tmp 4] (code Go.Proofs.Tryz.f75) where
  ex := ⟨Go.Proofs.Tryz.f75, Go.Proofs.Tryz.func75, by kernel_rfl, by kernel_rfl, by kernel_rfl, by kernel_rfl⟩
  code := by kernel_rfl
  res := by kernel_rfl
theorem ok76 : FnOk EE 76 40 [.tmp 4, .tmp 5] (code Go.Proofs.Tryz.f76) where
  ex := ⟨Go.Proofs.Tryz.f76, Go.Proofs.Tryz.func76, by kernel_rfl, by kernel_rfl, by kernel_rfl, by kernel_rfl⟩
  code := by kernel_rfl
  res := by kernel_rfl
theorem ok77 : FnOk EE 77 7 [.tmp 2] (code Go.Proofs.Tryz.f77) where
  ex := ⟨Go.Proofs.Tryz.f77, Go.Proofs.Tryz.func77, by kernel_rfl, by kernel_rfl, by kernel_rfl, by kernel_rfl⟩
  code := by kernel_rfl
  res := by kernel_rfl
theorem ok78 : FnOk EE 78 6 [.tmp 4] (code Go.Proofs.Tryz.f78) where
  ex := ⟨Go.Proofs.Tryz.f78, Go.Proofs.Tryz.func78, by kernel_rfl, by kernel_rfl, by kernel_rfl, by kernel_rfl⟩
  code := by kernel_rfl
  res := by kernel_rfl
theorem ok79 : FnOk EE 79 9 [] (code Go.Proofs.Tryz.f79) where
  ex := ⟨Go.Proofs.Tryz.f79, Go.Proofs.Tryz.func79, by kernel_rfl, by kernel_rfl, by kernel_rfl, by kernel_rfl⟩
  code := by kernel_rfl
  res := by kernel_rfl
theorem ok81 : FnOk EE 81 20 [.tmp 4] (code Go.Proofs.Tryz.f81) where
  ex := ⟨Go.Proofs.Tryz.f81, Go.Proofs.Tryz.func81, by kernel_rfl, by kernel_rfl, by kernel_rfl, by kernel_rfl⟩
  code := by kernel_rfl
  res := by kernel_rfl
theorem ok82 : FnOk EE 82 143 [.tmp 2] (code Go.Proofs.Tryz.f82) where
  ex := ⟨Go.Proofs.Tryz.f82, Go.Proofs.Tryz.func82, by kernel_rfl, by kernel_rfl, by kernel_rfl, by kernel_rfl⟩
  code := by kernel_rfl
  res := by kernel_rfl
theorem ok83 : FnOk EE 83 27 [.tmp 2] (code Go.Proofs.Tryz.f83) where
  ex := ⟨Go.Proofs.Tryz.f83, Go.Proofs.Tryz.func83, by kernel_rfl, by kernel_rfl, by kernel_rfl, by kernel_rfl⟩
  code := by kernel_rfl
  res := by kernel_rfl
theorem ok84 : FnOk EE 84 8 [.tmp 2] (code Go.Proofs.Tryz.f84) where
  ex := ⟨Go.Proofs.Tryz.f84, Go.Proofs.Tryz.func84, by kernel_rfl, by kernel_rfl, by kernel_rfl, by kernel_rfl⟩
  code := by kernel_rfl
  res := by kernel_rfl
theorem ok85 : FnOk EE 85 33 [.tmp 6] (code Go.Proofs.Tryz.f85) where
  ex := ⟨Go.Proofs.Tryz.f85, Go.Proofs.Tryz.func85, by kernel_rfl, by kernel_rfl, by kernel_rfl, by kernel_rfl⟩
  code := by kernel_rfl
  res := by kernel_rfl
theorem ok86 : FnOk EE 86 31 [.tmp 2] (code Go.Proofs.Tryz.f86) where
  ex := ⟨Go.Proofs.Tryz.f86, Go.Proofs.Tryz.func86, by kernel_rfl, by kernel_rfl, by kernel_rfl, by kernel_rfl⟩
  code := by kernel_rfl
  res := by kernel_rfl
theorem ok87 : FnOk EE 87 60 [.tmp 2] (code Go.Proofs.Tryz.f87) where
  ex := ⟨Go.Proofs.Tryz.f87, Go.Proofs.Tryz.func87, by kernel_rfl, by kernel_rfl, by kernel_rfl, by kernel_rfl⟩
  code := by kernel_rfl
  res := by kernel_rfl
theorem ok88 : FnOk EE 88 87 [.tmp 4] (code Go.Proofs.Tryz.f88) where
  ex := ⟨Go.Proofs.Tryz.f88, Go.Proofs.Tryz.func88, by kernel_rfl, by kernel_rfl, by kernel_rfl, by kernel_rfl⟩
  code := by kernel_rfl
  res := by kernel_rfl
theorem ok89 : FnOk EE 89 17 [.tmp 6] (code Go.Proofs.Tryz.f89) where
  ex := ⟨Go.Proofs.Tryz.f89, Go.Proofs.Tryz.func89, by kernel_rfl, by kernel_rfl, by kernel_rfl, by kernel_rfl⟩
  code := by kernel_rfl
  res := by kernel_rfl
theorem ok90 : FnOk EE 90 19 [.tmp 4] (code Go.Proofs.Tryz.f90) where
  ex := ⟨Go.Proofs.Tryz.f90, Go.Proofs.Tryz.func90, by kernel_rfl, by kernel_rfl, by kernel_rfl, by kernel_rfl⟩
  code := by kernel_rfl
  res := by kernel_rfl
theorem ok91 : FnOk EE 91 19 [.tmp 4] (code Go.Proofs.Tryz.f91) where
  ex := ⟨Go.Proofs.Tryz.f91, Go.Proofs.Tryz.func91, by kernel_rfl, by kernel_rfl, by kernel_rfl, by kernel_rfl⟩
  code := by kernel_rfl
  res := by kernel_rfl
theorem ok92 : FnOk EE 92 9 [.tmp 2] (code Go.Proofs.Tryz.f92) where
  ex := ⟨Go.Proofs.Tryz.f92, Go.Proofs.Tryz.func92, by kernel_rfl, by kernel_rfl, by kernel_rfl, by kernel_rfl⟩
  code := by kernel_rfl
  res := by kernel_rfl
theorem ok94 : FnOk EE 94 12 [.tmp 2] (code Go.Proofs.Tryz.f94) where
  ex := ⟨Go.Proofs.Tryz.f94, Go.Proofs.Tryz.func94, by kernel_rfl, by kernel_rfl, by kernel_rfl, by kernel_rfl⟩
  code := by kernel_rfl
  res := by kernel_rfl
theorem ok95 : FnOk EE 95 31 [.tmp 2] (code Go.Proofs.Tryz.f95) where
  ex := ⟨Go.Proofs.Tryz.f95, Go.Proofs.Tryz.func95, by kernel_rfl, by kernel_rfl, by kernel_rfl, by kernel_rfl⟩
  code := by kernel_rfl
  res := by kernel_rfl
theorem ok96 : FnOk EE 96 30 [.tmp 2] (code Go.Proofs.Tryz.f96) where
  ex := ⟨Go.Proofs.Tryz.f96, Go.Proofs.Tryz.func96, by kernel_rfl, by kernel_rfl, by kernel_rfl, by kernel_rfl⟩
  code := by kernel_rfl
  res := by kernel_rfl
theorem ok97 : FnOk EE 97 20 [.tmp 2] (code Go.Proofs.Tryz.f97) where
  ex := ⟨Go.Proofs.Tryz.f97, Go.Proofs.Tryz.func97, by kernel_rfl, by kernel_rfl, by kernel_rfl, by kernel_rfl⟩
  code := by kernel_rfl
  res := by kernel_rfl
theorem ok98 : FnOk EE 98 21 [.tmp 2] (code Go.Proofs.Tryz.f98) where
  ex := ⟨Go.Proofs.Tryz.f98, Go.Proofs.Tryz.func98, by kernel_rfl, by kernel_rfl, by kernel_rfl, by kernel_rfl⟩
  code := by kernel_rfl
  res := by kernel_rfl
theorem ok99 : FnOk EE 99 19 [.tmp 4, .tmp 5] (code Go.Proofs.Tryz.f99) where
  ex := ⟨Go.Proofs.Tryz.f99, Go.Proofs.Tryz.func99, by kernel_rfl, by kernel_rfl, by kernel_rfl, by kernel_rfl⟩
  code := by kernel_rfl
  res := by kernel_rfl
theorem ok100 : FnOk EE 100 5 [.tmp 2] (code Go.Proofs.Tryz.f100) where
  ex := ⟨Go.Proofs.Tryz.f100, Go.Proofs.Tryz.func100, by kernel_rfl, by kernel_rfl, by kernel_rfl, by kernel_rfl⟩
  code := by kernel_rfl
  res := by kernel_rfl
theorem ok101 : FnOk EE 101 17 [.tmp 4] (code Go.Proofs.Tryz.f101) where
  ex := ⟨Go.Proofs.Tryz.f101, Go.Proofs.Tryz.func101, by kernel_rfl, by kernel_rfl, by kernel_rfl, by kernel_rfl⟩
  code := by kernel_rfl
  res := by kernel_rfl
theorem ok103 : FnOk EE 103 9 [.tmp 4] (code Go.Proofs.Tryz.f103) where
  ex := ⟨Go.Proofs.Tryz.f103, Go.Proofs.Tryz.func103, by kernel_rfl, by kernel_rfl, by kernel_rfl, by kernel_rfl⟩
  code := by kernel_rfl
  res := by kernel_rfl
theorem ok104 : FnOk EE 104 9 [.tmp 4] (code Go.Proofs.Tryz.f104) where
  ex := ⟨Go.Proofs.Tryz.f104, Go.Proofs.Tryz.func104, by kernel_rfl, by kernel_rfl, by kernel_rfl, by kernel_rfl⟩
  code := by kernel_rfl
  res := by kernel_rfl
theorem ok105 : FnOk EE 105 9 [.tmp 2] (code Go.Proofs.Tryz.f105) where
  ex := ⟨Go.Proofs.Tryz.f105, Go.Proofs.Tryz.func105, by kernel_rfl, by kernel_rfl, by kernel_rfl, by kernel_rfl⟩
  code := by kernel_rfl
  res := by kernel_rfl
theorem ok106 : FnOk EE 106 36 [.tmp 2] (code Go.Proofs.Tryz.f106) where
  ex := ⟨Go.Proofs.Tryz.f106, Go.Proofs.Tryz.func106, by kernel_rfl, by kernel_rfl, by kernel_rfl, by kernel_rfl⟩
  code := by kernel_rfl
  res := by kernel_rfl
theorem ok107 : FnOk EE 107 20 [.tmp 2] (code Go.Proofs.Tryz.f107) where
  ex := ⟨Go.Proofs.Tryz.f107, Go.Proofs.Tryz.func107, by kernel_rfl, by kernel_rfl, by kernel_rfl, by kernel_rfl⟩
  code := by kernel_rfl
  res := by kernel_rfl
theorem ok108 : FnOk EE 108 3 [.tmp 2] (code Go.Proofs.Tryz.f108) where
  ex := ⟨Go.Proofs.Tryz.f108, Go.Proofs.Tryz.func108, by kernel_rfl, by kernel_rfl, by kernel_rfl, by kernel_rfl⟩
  code := by kernel_rfl
  res := by kernel_rfl
theorem ok109 : FnOk EE 109 27 [.tmp 3] (code Go.Proofs.Tryz.f109) where
  ex := ⟨Go.Proofs.Tryz.f109, Go.Proofs.Tryz.func109, by kernel_rfl, by kernel_rfl, by kernel_rfl, by kernel_rfl⟩
  code := by kernel_rfl
  res := by kernel_rfl
theorem ok110 : FnOk EE 110 26 [.tmp 4] (code Go.Proofs.Tryz.f110) where
  ex := ⟨Go.Proofs.Tryz.f110, Go.Proofs.Tryz.func110, by kernel_rfl, by kernel_rfl, by kernel_rfl, by kernel_rfl⟩
  code := by kernel_rfl
  res := by kernel_rfl
theorem ok111 : FnOk EE 111 12 [.tmp 4] (code Go.Proofs.Tryz.f111) where
  ex := ⟨Go.Proofs.Tryz.f111, Go.Proofs.Tryz.func111, by kernel_rfl, by kernel_rfl, by kernel_rfl, by kernel_rfl⟩
  code := by kernel_rfl
  res := by kernel_rfl
theorem ok112 : FnOk EE 112 39 [] (code Go.Proofs.Tryz.f112) where
  ex := ⟨Go.Proofs.Tryz.f112, Go.Proofs.Tryz.func112, by kernel_rfl, by kernel_rfl, by kernel_rfl, by kernel_rfl⟩
  code := by kernel_rfl
  res := by kernel_rfl
theorem ok113 : FnOk EE 113 63 [] (code Go.Proofs.Tryz.f113) where
  ex := ⟨Go.Proofs.Tryz.f113, Go.Proofs.Tryz.func113, by kernel_rfl, by kernel_rfl, by kernel_rfl, by kernel_rfl⟩
  code := by kernel_rfl
  res := by kernel_rfl
theorem ok114 : FnOk EE 114 6 [.tmp 2] (code Go.Proofs.Tryz.f114) where
  ex := ⟨Go.Proofs.Tryz.f114, Go.Proofs.Tryz.func114, by kernel_rfl, by kernel_rfl, by kernel_rfl, by kernel_rfl⟩
  code := by kernel_rfl
  res := by kernel_rfl
theorem ok115 : FnOk EE 115 6 [.tmp 0] (code Go.Proofs.Tryz.f115) where
  ex := ⟨Go.Proofs.Tryz.f115, Go.Proofs.Tryz.func115, by kernel_rfl, by kernel_rfl, by kernel_rfl, by kernel_rfl⟩
  code := by kernel_rfl
  res := by kernel_rfl
theorem ok116 : FnOk EE 116 54 [.tmp 2] (code Go.Proofs.Tryz.f116) where
  ex := ⟨Go.Proofs.Tryz.f116, Go.Proofs.Tryz.func116, by kernel_rfl, by kernel_rfl, by kernel_rfl, by kernel_rfl⟩
  code := by kernel_rfl
  res := by kernel_rfl
theorem ok117 : FnOk EE 117 24 [.tmp 4] (code Go.Proofs.Tryz.f117) where
  ex := ⟨Go.Proofs.Tryz.f117, Go.Proofs.Tryz.func117, by kernel_rfl, by kernel_rfl, by kernel_rfl, by kernel_rfl⟩
  code := by kernel_rfl
  res := by kernel_rfl
theorem ok118 : FnOk EE 118 31 [.tmp 4] (code Go.Proofs.Tryz.f118) where
  ex := ⟨Go.Proofs.Tryz.f118, Go.Proofs.Tryz.func118, by kernel_rfl, by kernel_rfl, by kernel_rfl, by kernel_rfl⟩
  code := by kernel_rfl
  res := by kernel_rfl
theorem ok119 : FnOk EE 119 7 [.cell 2 34] (code Go.Proofs.Tryz.f119) where
  ex := ⟨Go.Proofs.Tryz.f119, Go.Proofs.Tryz.func119, by kernel_rfl, by kernel_rfl, by kernel_rfl, by kernel_rfl⟩
  code := by kernel_rfl
  res := by kernel_rfl
theorem ok120 : FnOk EE 120 32 [.tmp 2] (code Go.Proofs.Tryz.f120) where
  ex := ⟨Go.Proofs.Tryz.f120, Go.Proofs.Tryz.func120, by kernel_rfl, by kernel_rfl, by kernel_rfl, by kernel_rfl⟩
  code := by kernel_rfl
  res := by kernel_rfl
theorem ok121 : FnOk EE 121 67 [.tmp 4] (code Go.Proofs.Tryz.f121) where
  ex := ⟨Go.Proofs.Tryz.f121, Go.Proofs.Tryz.func121, by kernel_rfl, by kernel_rfl, by kernel_rfl, by kernel_rfl⟩
  code := by kernel_rfl
  res := by kernel_rfl
theorem ok122 : FnOk EE 122 16 [.tmp 6] (code Go.Proofs.Tryz.f122) where
  ex := ⟨Go.Proofs.Tryz.f122, Go.Proofs.Tryz.func122, by kernel_rfl, by kernel_rfl, by kernel_rfl, by kernel_rfl⟩
  code := by kernel_rfl
  res := by kernel_rfl
theorem ok123 : FnOk EE 123 9 [.tmp 4] (code Go.Proofs.Tryz.f123) where
  ex := ⟨Go.Proofs.Tryz.f123, Go.Proofs.Tryz.func123, by kernel_rfl, by kernel_rfl, by kernel_rfl, by kernel_rfl⟩
  code := by kernel_rfl
  res := by kernel_rfl
theorem ok124 : FnOk EE 124 30 [.tmp 2] (code Go.Proofs.Tryz.f124) where
  ex := ⟨Go.Proofs.Tryz.f124, Go.Proofs.Tryz.func124, by kernel_rfl, by kernel_rfl, by kernel_rfl, by kernel_rfl⟩
  code := by kernel_rfl
  res := by kernel_rfl
theorem ok125 : FnOk EE 125 76 [.tmp 2] (code Go.Proofs.Tryz.f125) where
  ex := ⟨Go.Proofs.Tryz.f125, Go.Proofs.Tryz.func125, by kernel_rfl, by kernel_rfl, by kernel_rfl, by kernel_rfl⟩
  code := by kernel_rfl
  res := by kernel_rfl
theorem ok126 : FnOk EE 126 25 [.tmp 4] (code Go.Proofs.Tryz.f126) where
  ex := ⟨Go.Proofs.Tryz.f126, Go.Proofs.Tryz.func126, by kernel_rfl, by kernel_rfl, by kernel_rfl, by kernel_rfl⟩
  code := by kernel_rfl
  res := by kernel_rfl
theorem ok127 : FnOk EE 127 17 [.tmp 4] (code Go.Proofs.Tryz.f127) where
  ex := ⟨Go.Proofs.Tryz.f127, Go.Proofs.Tryz.func127, by kernel_rfl, by kernel_rfl, by kernel_rfl, by kernel_rfl⟩
  code := by kernel_rfl
  res := by kernel_rfl
theorem ok128 : FnOk EE 128 79 [.cell 2 34] (code Go.Proofs.Tryz.f128) where
  ex := ⟨Go.Proofs.Tryz.f128, Go.Proofs.Tryz.func128, by kernel_rfl, by kernel_rfl, by kernel_rfl, by kernel_rfl⟩
  code := by kernel_rfl
  res := by kernel_rfl
theorem ok129 : FnOk EE 129 9 [.tmp 4] (code Go.Proofs.Tryz.f129) where
  ex := ⟨Go.Proofs.Tryz.f129, Go.Proofs.Tryz.func129, by kernel_rfl, by kernel_rfl, by kernel_rfl, by kernel_rfl⟩
  code := by kernel_rfl
  res := by kernel_rfl
theorem ok130 : FnOk EE 130 18 [.tmp 2] (code Go.Proofs.Tryz.f130) where
  ex := ⟨Go.Proofs.Tryz.f130, Go.Proofs.Tryz.func130, by kernel_rfl, by kernel_rfl, by kernel_rfl, by kernel_rfl⟩
  code := by kernel_rfl
  res := by kernel_rfl
theorem ok131 : FnOk EE 131 21 [.tmp 3] (code Go.Proofs.Tryz.f131) where
  ex := ⟨Go.Proofs.Tryz.f131, Go.Proofs.Tryz.func131, by kernel_rfl, by kernel_rfl, by kernel_rfl, by kernel_rfl⟩
  code := by kernel_rfl
  res := by kernel_rfl
theorem ok132 : FnOk EE 132 31 [.tmp 2] (code Go.Proofs.Tryz.f132) where
  ex := ⟨Go.Proofs.Tryz.f132, Go.Proofs.Tryz.func132, by kernel_rfl, by kernel_rfl, by kernel_rfl, by kernel_rfl⟩
  code := by kernel_rfl
  res := by kernel_rfl
theorem ok133 : FnOk EE 133 37 [.tmp 5] (code Go.Proofs.Tryz.f133) where
  ex := ⟨Go.Proofs.Tryz.f133, Go.Proofs.Tryz.func133, by kernel_rfl, by kernel_rfl, by kernel_rfl, by kernel_rfl⟩
  code := by kernel_rfl
  res := by kernel_rfl
theorem ok134 : FnOk EE 134 49 [.tmp 5] (code Go.Proofs.Tryz.f134) where
  ex := ⟨Go.Proofs.Tryz.f134, Go.Proofs.Tryz.func134, by kernel_rfl, by kernel_rfl, by kernel_rfl, by kernel_rfl⟩
  code := by kernel_rfl
  res := by kernel_rfl
theorem ok135 : FnOk EE 135 20 [] (code Go.Proofs.Tryz.f135) where
  ex := ⟨Go.Proofs.Tryz.f135, Go.Proofs.Tryz.func135, by kernel_rfl, by kernel_rfl, by kernel_rfl, by kernel_rfl⟩
  code := by kernel_rfl
  res := by kernel_rfl
theorem ok136 : FnOk EE 136 5 [.tmp 2] (code Go.Proofs.Tryz.f136) where
  ex := ⟨Go.Proofs.Tryz.f136, Go.Proofs.Tryz.func136, by kernel_rfl, by kernel_rfl, by kernel_rfl, by kernel_rfl⟩
  code := by kernel_rfl
  res := by kernel_rfl
theorem ok137 : FnOk EE 137 27 [.tmp 4] (code Go.Proofs.Tryz.f137) where
  ex := ⟨Go.Proofs.Tryz.f137, Go.Proofs.Tryz.func137, by kernel_rfl, by kernel_rfl, by kernel_rfl, by kernel_rfl⟩
  code := by kernel_rfl
  res := by kernel_rfl
theorem ok138 : FnOk EE 138 26 [.cell 2 159] (code Go.Proofs.Tryz.f138) where
  ex := ⟨Go.Proofs.Tryz.f138, Go.Proofs.Tryz.func138, by kernel_rfl, by kernel_rfl, by kernel_rfl, by kernel_rfl⟩
  code := by kernel_rfl
  res := by kernel_rfl
theorem ok139 : FnOk EE 139 53 [] (code Go.Proofs.Tryz.f139) where
  ex := ⟨Go.Proofs.Tryz.f139, Go.Proofs.Tryz.func139, by kernel_rfl, by kernel_rfl, by kernel_rfl, by kernel_rfl⟩
  code := by kernel_rfl
  res := by kernel_rfl
theorem ok140 : FnOk EE 140 220 [] (code Go.Proofs.Tryz.f140) where
  ex := ⟨Go.Proofs.Tryz.f140, Go.Proofs.Tryz.func140, by kernel_rfl, by kernel_rfl, by kernel_rfl, by kernel_rfl⟩
  code := by kernel_rfl
  res := by kernel_rfl
theorem ok141 : FnOk EE 141 21 [.tmp 2] (code Go.Proofs.Tryz.f141) where
  ex := ⟨Go.Proofs.Tryz.f141, Go.Proofs.Tryz.func141, by kernel_rfl, by kernel_rfl, by kernel_rfl, by kernel_rfl⟩
  code := by kernel_rfl
  res := by kernel_rfl
theorem ok142 : FnOk EE 142 40 [.tmp 2] (code Go.Proofs.Tryz.f142) where
  ex := ⟨Go.Proofs.Tryz.f142, Go.Proofs.Tryz.func142, by kernel_rfl, by kernel_rfl, by kernel_rfl, by kernel_rfl⟩
  code := by kernel_rfl
  res := by kernel_rfl
theorem ok143 : FnOk EE 143 79 [.cell 6 34] (code Go.Proofs.Tryz.f143) where
  ex := ⟨Go.Proofs.Tryz.f143, Go.Proofs.Tryz.func143, by kernel_rfl, by kernel_rfl, by kernel_rfl, by kernel_rfl⟩
  code := by kernel_rfl
  res := by kernel_rfl
theorem ok144 : FnOk EE 144 41 [.tmp 8] (code Go.Proofs.Tryz.f144) where
  ex := ⟨Go.Proofs.Tryz.f144, Go.Proofs.Tryz.func144, by kernel_rfl, by kernel_rfl, by kernel_rfl, by kernel_rfl⟩
  code := by kernel_rfl
  res := by kernel_rfl
theorem ok145 : FnOk EE 145 45 [.tmp 4] (code Go.Proofs.Tryz.f145) where
  ex := ⟨Go.Proofs.Tryz.f145, Go.Proofs.Tryz.func145, by kernel_rfl, by kernel_rfl, by kernel_rfl, by kernel_rfl⟩
  code := by kernel_rfl
  res := by kernel_rfl
theorem ok146 : FnOk EE 146 19 [.tmp 4] (code Go.Proofs.Tryz.f146) where
  ex := ⟨Go.Proofs.Tryz.f146, Go.Proofs.Tryz.func146, by kernel_rfl, by kernel_rfl, by kernel_rfl, by kernel_rfl⟩
  code := by kernel_rfl
  res := by kernel_rfl
theorem ok147 : FnOk EE 147 6 [.tmp 2] (code Go.Proofs.Tryz.f147) where
  ex := ⟨Go.Proofs.Tryz.f147, Go.Proofs.Tryz.func147, by kernel_rfl, by kernel_rfl, by kernel_rfl, by kernel_rfl⟩
  code := by kernel_rfl
  res := by kernel_rfl
theorem ok148 : FnOk EE 148 13 [.tmp 2] (code Go.Proofs.Tryz.f148) where
  ex := ⟨Go.Proofs.Tryz.f148, Go.Proofs.Tryz.func148, by kernel_rfl, by kernel_rfl, by kernel_rfl, by kernel_rfl⟩
  code := by kernel_rfl
  res := by kernel_rfl
theorem ok149 : FnOk EE 149 18 [.tmp 2] (code Go.Proofs.Tryz.f149) where
  ex := ⟨Go.Proofs.Tryz.f149, Go.Proofs.Tryz.func149, by kernel_rfl, by kernel_rfl, by kernel_rfl, by kernel_rfl⟩
  code := by kernel_rfl
  res := by kernel_rfl
theorem ok150 : FnOk EE 150 8 [.tmp 4] (code Go.Proofs.Tryz.f150) where
  ex := ⟨Go.Proofs.Tryz.f150, Go.Proofs.Tryz.func150, by kernel_rfl, by kernel_rfl, by kernel_rfl, by kernel_rfl⟩
  code := by kernel_rfl
  res := by kernel_rfl
theorem ok151 : FnOk EE 151 14 [] (code Go.Proofs.Tryz.f151) where
  ex := ⟨Go.Proofs.Tryz.f151, Go.Proofs.Tryz.func151, by kernel_rfl, by kernel_rfl, by kernel_rfl, by kernel_rfl⟩
  code := by kernel_rfl
  res := by kernel_rfl
theorem ok152 : FnOk EE 152 10 [.tmp 4] (code Go.Proofs.Tryz.f152) where
  ex := ⟨Go.Proofs.Tryz.f152, Go.Proofs.Tryz.func152, by kernel_rfl, by kernel_rfl, by kernel_rfl, by kernel_rfl⟩
  code := by kernel_rfl
  res := by kernel_rfl
theorem ok153 : FnOk EE 153 19 [.tmp 4] (code Go.Proofs.Tryz.f153) where
  ex := ⟨Go.Proofs.Tryz.f153, Go.Proofs.Tryz.func153, by kernel_rfl, by kernel_rfl, by kernel_rfl, by kernel_rfl⟩
  code := by kernel_rfl
  res := by kernel_rfl
theorem ok154 : FnOk EE 154 20 [.tmp 6] (code Go.Proofs.Tryz.f154) where
  ex := ⟨Go.Proofs.Tryz.f154, Go.Proofs.Tryz.func154, by kernel_rfl, by kernel_rfl, by kernel_rfl, by kernel_rfl⟩
  code := by kernel_rfl
  res := by kernel_rfl
theorem ok156 : FnOk EE 156 54 [.tmp 4] (code Go.Proofs.Tryz.f156) where
  ex := ⟨Go.Proofs.Tryz.f156, Go.Proofs.Tryz.func156, by kernel_rfl, by kernel_rfl, by kernel_rfl, by kernel_rfl⟩
  code := by kernel_rfl
  res := by kernel_rfl
theorem ok157 : FnOk EE 157 58 [] (code Go.Proofs.Tryz.f157) where
  ex := ⟨Go.Proofs.Tryz.f157, Go.Proofs.Tryz.func157, by kernel_rfl, by kernel_rfl, by kernel_rfl, by kernel_rfl⟩
  code := by kernel_rfl
  res := by kernel_rfl
theorem ok158 : FnOk EE 158 44 [.tmp 4] (code Go.Proofs.Tryz.f158) where
  ex := ⟨Go.Proofs.Tryz.f158, Go.Proofs.Tryz.func158, by kernel_rfl, by kernel_rfl, by kernel_rfl, by kernel_rfl⟩
  code := by kernel_rfl
  res := by kernel_rfl
theorem ok159 : FnOk EE 159 25 [.tmp 6] (code Go.Proofs.Tryz.f159) where
  ex := ⟨Go.Proofs.Tryz.f159, Go.Proofs.Tryz.func159, by kernel_rfl, by kernel_rfl, by kernel_rfl, by kernel_rfl⟩
  code := by kernel_rfl
  res := by kernel_rfl
theorem ok160 : FnOk EE 160 35 [.tmp 4] (code Go.Proofs.Tryz.f160) where
  ex := ⟨Go.Proofs.Tryz.f160, Go.Proofs.Tryz.func160, by kernel_rfl, by kernel_rfl, by kernel_rfl, by kernel_rfl⟩
  code := by kernel_rfl
  res := by kernel_rfl
theorem ok161 : FnOk EE 161 6 [.tmp 2] (code Go.Proofs.Tryz.f161) where
  ex := ⟨Go.Proofs.Tryz.f161, Go.Proofs.Tryz.func161, by kernel_rfl, by kernel_rfl, by kernel_rfl, by kernel_rfl⟩
  code := by kernel_rfl
  res := by kernel_rfl
theorem ok162 : FnOk EE 162 9 [.tmp 4] (code Go.Proofs.Tryz.f162) where
  ex := ⟨Go.Proofs.Tryz.f162, Go.Proofs.Tryz.func162, by kernel_rfl, by kernel_rfl, by kernel_rfl, by kernel_rfl⟩
  code := by kernel_rfl
  res := by kernel_rfl
theorem ok163 : FnOk EE 163 30 [.tmp 2] (code Go.Proofs.Tryz.f163) where
  ex := ⟨Go.Proofs.Tryz.f163, Go.Proofs.Tryz.func163, by kernel_rfl, by kernel_rfl, by kernel_rfl, by kernel_rfl⟩
  code := by kernel_rfl
  res := by kernel_rfl
theorem ok164 : FnOk EE 164 8 [.tmp 4] (code Go.Proofs.Tryz.f164) where
  ex := ⟨Go.Proofs.Tryz.f164, Go.Proofs.Tryz.func164, by kernel_rfl, by kernel_rfl, by kernel_rfl, by kernel_rfl⟩
  code := by kernel_rfl
  res := by kernel_rfl
theorem ok165 : FnOk EE 165 148 [] (code Go.Proofs.Tryz.f165) where
  ex := ⟨Go.Proofs.Tryz.f165, Go.Proofs.Tryz.func165, by kernel_rfl, by kernel_rfl, by kernel_rfl, by kernel_rfl⟩
  code := by kernel_rfl
  res := by kernel_rfl
theorem ok166 : FnOk EE 166 8 [.tmp 2] (code Go.Proofs.Tryz.f166) where
  ex := ⟨Go.Proofs.Tryz.f166, Go.Proofs.Tryz.func166, by kernel_rfl, by kernel_rfl, by kernel_rfl, by kernel_rfl⟩
  code := by kernel_rfl
  res := by kernel_rfl
theorem ok167 : FnOk EE 167 15 [.tmp 2] (code Go.Proofs.Tryz.f167) where
  ex := ⟨Go.Proofs.Tryz.f167, Go.Proofs.Tryz.func167, by kernel_rfl, by kernel_rfl, by kernel_rfl, by kernel_rfl⟩
  code := by kernel_rfl
  res := by kernel_rfl
theorem ok168 : FnOk EE 168 15 [.tmp 2] (code Go.Proofs.Tryz.f168) where
  ex := ⟨Go.Proofs.Tryz.f168, Go.Proofs.Tryz.func168, by kernel_rfl, by kernel_rfl, by kernel_rfl, by kernel_rfl⟩
  code := by kernel_rfl
  res := by kernel_rfl
theorem ok169 : FnOk EE 169 167 [] (code Go.Proofs.Tryz.f169) where
  ex := ⟨Go.Proofs.Tryz.f169, Go.Proofs.Tryz.func169, by kernel_rfl, by kernel_rfl, by kernel_rfl, by kernel_rfl⟩
  code := by kernel_rfl
  res := by kernel_rfl
theorem ok170 : FnOk EE 170 102 [.tmp 10, .tmp 11] (code Go.Proofs.Tryz.f170) where
  ex := ⟨Go.Proofs.Tryz.f170, Go.Proofs.Tryz.func170, by kernel_rfl, by kernel_rfl, by kernel_rfl, by kernel_rfl⟩
  code := by kernel_rfl
  res := by kernel_rfl
theorem ok171 : FnOk EE 171 38 [] (code Go.Proofs.Tryz.f171) where
  ex := ⟨Go.Proofs.Tryz.f171, Go.Proofs.Tryz.func171, by kernel_rfl, by kernel_rfl, by kernel_rfl, by kernel_rfl⟩
  code := by kernel_rfl
  res := by kernel_rfl
theorem ok172 : FnOk EE 172 48 [.tmp 4] (code Go.Proofs.Tryz.f172) where
  ex := ⟨Go.Proofs.Tryz.f172, Go.Proofs.Tryz.func172, by kernel_rfl, by kernel_rfl, by kernel_rfl, by kernel_rfl⟩
  code := by kernel_rfl
  res := by kernel_rfl
theorem ok173 : FnOk EE 173 8 [.tmp 4] (code Go.Proofs.Tryz.f173) where
  ex := ⟨Go.Proofs.Tryz.f173, Go.Proofs.Tryz.func173, by kernel_rfl, by kernel_rfl, by kernel_rfl, by kernel_rfl⟩
  code := by kernel_rfl
  res := by kernel_rfl
theorem ok175 : FnOk EE 175 53 [] (code Go.Proofs.Tryz.f175) where
  ex := ⟨Go.Proofs.Tryz.f175, Go.Proofs.Tryz.func175, by kernel_rfl, by kernel_rfl, by kernel_rfl, by kernel_rfl⟩
  code := by kernel_rfl
  res := by kernel_rfl
theorem ok176 : FnOk EE 176 60 [] (code Go.Proofs.Tryz.f176) where
  ex := ⟨Go.Proofs.Tryz.f176, Go.Proofs.Tryz.func176, by kernel_rfl, by kernel_rfl, by kernel_rfl, by kernel_rfl⟩
  code := by kernel_rfl
  res := by kernel_rfl
theorem ok177 : FnOk EE 177 67 [] (code Go.Proofs.Tryz.f177) where
  ex := ⟨Go.Proofs.Tryz.f177, Go.Proofs.Tryz.func177, by kernel_rfl, by kernel_rfl, by kernel_rfl, by kernel_rfl⟩
  code := by kernel_rfl
  res := by kernel_rfl
theorem ok178 : FnOk EE 178 63 [.tmp 8, .tmp 9] (code Go.Proofs.Tryz.f178) where
  ex := ⟨Go.Proofs.Tryz.f178, Go.Proofs.Tryz.func178, by kernel_rfl, by kernel_rfl, by kernel_rfl, by kernel_rfl⟩
  code := by kernel_rfl
  res := by kernel_rfl
theorem ok179 : FnOk EE 179 34 [] (code Go.Proofs.Tryz.f179) where
  ex := ⟨Go.Proofs.Tryz.f179, Go.Proofs.Tryz.func179, by kernel_rfl, by kernel_rfl, by kernel_rfl, by kernel_rfl⟩
  code := by kernel_rfl
  res := by kernel_rfl
theorem ok180 : FnOk EE 180 141 [.tmp 8] (code Go.Proofs.Tryz.f180) where
  ex := ⟨Go.Proofs.Tryz.f180, Go.Proofs.Tryz.func180, by kernel_rfl, by kernel_rfl, by kernel_rfl, by kernel_rfl⟩
  code := by kernel_rfl
  res := by kernel_rfl
theorem ok181 : FnOk EE 181 90 [.tmp 10] (code Go.Proofs.Tryz.f181) where
  ex := ⟨Go.Proofs.Tryz.f181, Go.Proofs.Tryz.func181, by kernel_rfl, by kernel_rfl, by kernel_rfl, by kernel_rfl⟩
  code := by kernel_rfl
  res := by kernel_rfl
theorem ok182 : FnOk EE 182 178 [.tmp 10, .tmp 11] (code Go.Proofs.Tryz.f182) where
  ex := ⟨Go.Proofs.Tryz.f182, Go.Proofs.Tryz.func182, by kernel_rfl, by kernel_rfl, by kernel_rfl, by kernel_rfl⟩
  code := by kernel_rfl
  res := by kernel_rfl
theorem ok183 : FnOk EE 183 19 [.tmp 2] (code Go.Proofs.Tryz.f183) where
  ex := ⟨Go.Proofs.Tryz.f183, Go.Proofs.Tryz.func183, by kernel_rfl, by kernel_rfl, by kernel_rfl, by kernel_rfl⟩
  code := by kernel_rfl
  res := by kernel_rfl
theorem ok184 : FnOk EE 184 25 [.tmp 2] (code Go.Proofs.Tryz.f184) where
  ex := ⟨Go.Proofs.Tryz.f184, Go.Proofs.Tryz.func184, by kernel_rfl, by kernel_rfl, by kernel_rfl, by kernel_rfl⟩
  code := by kernel_rfl
  res := by kernel_rfl
theorem ok185 : FnOk EE 185 6 [.tmp 2] (code Go.Proofs.Tryz.f185) where
  ex := ⟨Go.Proofs.Tryz.f185, Go.Proofs.Tryz.func185, by kernel_rfl, by kernel_rfl, by kernel_rfl, by kernel_rfl⟩
  code := by kernel_rfl
  res := by kernel_rfl
theorem ok186 : FnOk EE 186 4 [.tmp 2] (code Go.Proofs.Tryz.f186) where
  ex := ⟨Go.Proofs.Tryz.f186, Go.Proofs.Tryz.func186, by kernel_rfl, by kernel_rfl, by kernel_rfl, by kernel_rfl⟩
  code := by kernel_rfl
  res := by kernel_rfl
theorem ok187 : FnOk EE 187 8 [.tmp 2] (code Go.Proofs.Tryz.f187) where
  ex := ⟨Go.Proofs.Tryz.f187, Go.Proofs.Tryz.func187, by kernel_rfl, by kernel_rfl, by kernel_rfl, by kernel_rfl⟩
  code := by kernel_rfl
  res := by kernel_rfl
theorem ok188 : FnOk EE 188 8 [.tmp 2] (code Go.Proofs.Tryz.f188) where
  ex := ⟨Go.Proofs.Tryz.f188, Go.Proofs.Tryz.func188, by kernel_rfl, by kernel_rfl, by kernel_rfl, by kernel_rfl⟩
  code := by kernel_rfl
  res := by kernel_rfl
theorem ok189 : FnOk EE 189 21 [.tmp 6] (code Go.Proofs.Tryz.f189) where
  ex := ⟨Go.Proofs.Tryz.f189, Go.Proofs.Tryz.func189, by kernel_rfl, by kernel_rfl, by kernel_rfl, by kernel_rfl⟩
  code := by kernel_rfl
  res := by kernel_rfl
theorem ok190 : FnOk EE 190 82 [] (code Go.Proofs.Tryz.f190) where
  ex := ⟨Go.Proofs.Tryz.f190, Go.Proofs.Tryz.func190, by kernel_rfl, by kernel_rfl, by kernel_rfl, by kernel_rfl⟩
  code := by kernel_rfl
  res := by kernel_rfl
theorem ok191 : FnOk EE 191 7 [.tmp 2] (code Go.Proofs.Tryz.f191) where
  ex := ⟨Go.Proofs.Tryz.f191, Go.Proofs.Tryz.func191, by kernel_rfl, by kernel_rfl, by kernel_rfl, by kernel_rfl⟩
  code := by kernel_rfl
  res := by kernel_rfl
theorem ok192 : FnOk EE 192 33 [.tmp 2] (code Go.Proofs.Tryz.f192) where
  ex := ⟨Go.Proofs.Tryz.f192, Go.Proofs.Tryz.func192, by kernel_rfl, by kernel_rfl, by kernel_rfl, by kernel_rfl⟩
  code := by kernel_rfl
  res := by kernel_rfl
theorem ok193 : FnOk EE 193 18 [.tmp 8] (code Go.Proofs.Tryz.f193) where
  ex := ⟨Go.Proofs.Tryz.f193, Go.Proofs.Tryz.func193, by kernel_rfl, by kernel_rfl, by kernel_rfl, by kernel_rfl⟩
  code := by kernel_rfl
  res := by kernel_rfl
theorem ok194 : FnOk EE 194 41 [.tmp 12] (code Go.Proofs.Tryz.f194) where
  ex := ⟨Go.Proofs.Tryz.f194, Go.Proofs.Tryz.func194, by kernel_rfl, by kernel_rfl, by kernel_rfl, by kernel_rfl⟩
  code := by kernel_rfl
  res := by kernel_rfl
theorem ok195 : FnOk EE 195 14 [.tmp 2] (code Go.Proofs.Tryz.f195) where
  ex := ⟨Go.Proofs.Tryz.f195, Go.Proofs.Tryz.func195, by kernel_rfl, by kernel_rfl, by kernel_rfl, by kernel_rfl⟩
  code := by kernel_rfl
  res := by kernel_rfl
theorem ok196 : FnOk EE 196 14 [.tmp 2] (code Go.Proofs.Tryz.f196) where
  ex := ⟨Go.Proofs.Tryz.f196, Go.Proofs.Tryz.func196, by kernel_rfl, by kernel_rfl, by kernel_rfl, by kernel_rfl⟩
  code := by kernel_rfl
  res := by kernel_rfl
theorem ok197 : FnOk EE 197 32 [.tmp 10, .tmp 11] (code Go.Proofs.Tryz.f197) where
  ex := ⟨Go.Proofs.Tryz.f197, Go.Proofs.Tryz.func197, by kernel_rfl, by kernel_rfl, by kernel_rfl, by kernel_rfl⟩
  code := by kernel_rfl
  res := by kernel_rfl
noncomputable def tbList : List (Nat × FnD) := [
  (3, ⟨16, [.tmp 2], code Go.Proofs.Tryz.f3⟩),
  (4, ⟨51, [.tmp 2], code Go.Proofs.Tryz.f4⟩),
  (5, ⟨52, [.tmp 6], code Go.Proofs.Tryz.f5⟩),
  (6, ⟨118, [.tmp 2], code Go.Proofs.Tryz.f6⟩),
  (7, ⟨83, [.tmp 2], code Go.Proofs.Tryz.f7⟩),
  (9, ⟨42, [.tmp 2], code Go.Proofs.Tryz.f9⟩),
  (10, ⟨79, [.tmp 4], code Go.Proofs.Tryz.f10⟩),
  (11, ⟨58, [.tmp 4], code Go.Proofs.Tryz.f11⟩),
  (12, ⟨39, [.tmp 2], code Go.Proofs.Tryz.f12⟩),
  (13, ⟨70, [.tmp 2], code Go.Proofs.Tryz.f13⟩),
  (14, ⟨44, [.tmp 2], code Go.Proofs.Tryz.f14⟩),
  (15, ⟨49, [.tmp 0], code Go.Proofs.Tryz.f15⟩),
  (16, ⟨17, [.tmp 2], code Go.Proofs.Tryz.f16⟩),
  (17, ⟨31, [.tmp 6, .tmp 7, .tmp 8], code Go.Proofs.Tryz.f17⟩),
  (18, ⟨51, [.tmp 6, .tmp 7, .tmp 8], code Go.Proofs.Tryz.f18⟩),
  (19, ⟨9, [.tmp 4], code Go.Proofs.Tryz.f19⟩),
  (20, ⟨26, [.tmp 4], code Go.Proofs.Tryz.f20⟩),
  (21, ⟨19, [.tmp 4, .tmp 5], code Go.Proofs.Tryz.f21⟩),
  (22, ⟨12, [.tmp 4, .tmp 5], code Go.Proofs.Tryz.f22⟩),
  (23, ⟨10, [.tmp 4], code Go.Proofs.Tryz.f23⟩),
  (24, ⟨26, [.tmp 4], code Go.Proofs.Tryz.f24⟩),
  (25, ⟨33, [.tmp 6], code Go.Proofs.Tryz.f25⟩),
  (26, ⟨17, [.tmp 6], code Go.Proofs.Tryz.f26⟩),
  (27, ⟨8, [.cell 2 25], code Go.Proofs.Tryz.f27⟩),
  (28, ⟨15, [.tmp 6], code Go.Proofs.Tryz.f28⟩),
  (29, ⟨9, [.tmp 4], code Go.Proofs.Tryz.f29⟩),
  (30, ⟨8, [.cell 2 36], code Go.Proofs.Tryz.f30⟩),
  (31, ⟨17, [.tmp 6], code Go.Proofs.Tryz.f31⟩),
  (32, ⟨17, [.tmp 6], code Go.Proofs.Tryz.f32⟩),
  (33, ⟨17, [.tmp 6], code Go.Proofs.Tryz.f33⟩),
  (34, ⟨81, [.tmp 2], code Go.Proofs.Tryz.f34⟩),
  (35, ⟨44, [.tmp 4], code Go.Proofs.Tryz.f35⟩),
  (36, ⟨38, [.tmp 4], code Go.Proofs.Tryz.f36⟩),
  (37, ⟨9, [.tmp 2], code Go.Proofs.Tryz.f37⟩),
  (38, ⟨100, [.tmp 2], code Go.Proofs.Tryz.f38⟩),
  (39, ⟨92, [.tmp 4], code Go.Proofs.Tryz.f39⟩),
  (40, ⟨16, [.tmp 2], code Go.Proofs.Tryz.f40⟩),
  (41, ⟨42, [.tmp 4], code Go.Proofs.Tryz.f41⟩),
  (42, ⟨38, [.tmp 4, .tmp 5, .tmp 6, .tmp 7], code Go.Proofs.Tryz.f42⟩),
  (43, ⟨8, [.tmp 2], code Go.Proofs.Tryz.f43⟩),
  (44, ⟨8, [.tmp 2], code Go.Proofs.Tryz.f44⟩),
  (45, ⟨108, [.tmp 6, .tmp 7, .tmp 8], code Go.Proofs.Tryz.f45⟩),
  (46, ⟨30, [.tmp 4, .tmp 5], code Go.Proofs.Tryz.f46⟩),
  (47, ⟨46, [.tmp 4], code Go.Proofs.Tryz.f47⟩),
  (48, ⟨20, [.tmp 4, .tmp 5], code Go.Proofs.Tryz.f48⟩),
  (49, ⟨32, [.tmp 4], code Go.Proofs.Tryz.f49⟩),
  (50, ⟨9, [.tmp 2], code Go.Proofs.Tryz.f50⟩),
  (51, ⟨8, [.cell 2 36], code Go.Proofs.Tryz.f51⟩),
  (52, ⟨28, [.tmp 4], code Go.Proofs.Tryz.f52⟩),
  (53, ⟨52, [.tmp 4], code Go.Proofs.Tryz.f53⟩),
  (54, ⟨25, [.tmp 4], code Go.Proofs.Tryz.f54⟩),
  (55, ⟨43, [.tmp 6, .tmp 7], code Go.Proofs.Tryz.f55⟩),
  (56, ⟨36, [.tmp 4], code Go.Proofs.Tryz.f56⟩),
  (57, ⟨144, [.tmp 2], code Go.Proofs.Tryz.f57⟩),
  (58, ⟨58, [.tmp 6, .tmp 7], code Go.Proofs.Tryz.f58⟩),
  (59, ⟨52, [.tmp 2], code Go.Proofs.Tryz.f59⟩),
  (60, ⟨9, [.tmp 4], code Go.Proofs.Tryz.f60⟩),
  (61, ⟨6, [.tmp 2], code Go.Proofs.Tryz.f61⟩),
  (62, ⟨9, [.tmp 2], code Go.Proofs.Tryz.f62⟩),
  (63, ⟨49, [.tmp 2], code Go.Proofs.Tryz.f63⟩),
  (64, ⟨9, [.tmp 4], code Go.Proofs.Tryz.f64⟩),
  (65, ⟨9, [.tmp 3], code Go.Proofs.Tryz.f65⟩),
  (66, ⟨13, [.tmp 4], code Go.Proofs.Tryz.f66⟩),
  (67, ⟨49, [.tmp 2], code Go.Proofs.Tryz.f67⟩),
  (68, ⟨51, [.tmp 2], code Go.Proofs.Tryz.f68⟩),
  (69, ⟨6, [.tmp 2], code Go.Proofs.Tryz.f69⟩),
  (70, ⟨33, [.tmp 2], code Go.Proofs.Tryz.f70⟩),
  (71, ⟨7, [.tmp 2], code Go.Proofs.Tryz.f71⟩),
  (72, ⟨43, [.tmp 2], code Go.Proofs.Tryz.f72⟩),
  (73, ⟨18, [.tmp 2], code Go.Proofs.Tryz.f73⟩),
  (74, ⟨114, [.tmp 4, .tmp 5, .tmp 6], code Go.Proofs.Tryz.f74⟩),
  (75, ⟨11, [.tmp 4], code Go.Proofs.Tryz.f75⟩),
  (76, ⟨40, [.tmp 4, .tmp 5], code Go.Proofs.Tryz.f76⟩),
  (77, ⟨7, [.tmp 2], code Go.Proofs.Tryz.f77⟩),
  (78, ⟨6, [.tmp 4], code Go.Proofs.Tryz.f78⟩),
  (79, ⟨9, [], code Go.Proofs.Tryz.f79⟩),
  (81, ⟨20, [.tmp 4], code Go.Proofs.Tryz.f81⟩),
  (82, ⟨143, [.tmp 2], code Go.Proofs.Tryz.f82⟩),
  (83, ⟨27, [.tmp 2], code Go.Proofs.Tryz.f83⟩),
  (84, ⟨8, [.tmp 2], code Go.Proofs.Tryz.f84⟩),
  (85, ⟨33, [.tmp 6], code Go.Proofs.Tryz.f85⟩),
  (86, ⟨31, [.tmp 2], code Go.Proofs.Tryz.f86⟩),
  (87, ⟨60, [.tmp 2], code Go.Proofs.Tryz.f87⟩),
  (88, ⟨87, [.tmp 4], code Go.Proofs.Tryz.f88⟩),
  (89, ⟨17, [.tmp 6], code Go.Proofs.Tryz.f89⟩),
  (90, ⟨19, [.tmp 4], code Go.Proofs.Tryz.f90⟩),
  (91, ⟨19, [.tmp 4], code Go.Proofs.Tryz.f91⟩),
  (92, ⟨9, [.tmp 2], code Go.Proofs.Tryz.f92⟩),
  (94, ⟨12, [.tmp 2], code Go.Proofs.Tryz.f94⟩),
  (95, ⟨31, [.tmp 2], code Go.Proofs.Tryz.f95⟩),
  (96, ⟨30, [.tmp 2], code Go.Proofs.Tryz.f96⟩),
  (97, ⟨20, [.tmp 2], code Go.Proofs.Tryz.f97⟩),
  (98, ⟨21, [.tmp 2], code Go.Proofs.Tryz.f98⟩),
  (99, ⟨19, [.tmp 4, .tmp 5], code Go.Proofs.Tryz.f99⟩),
  (100, ⟨5, [.tmp 2], code Go.Proofs.Tryz.f100⟩),
  (101, ⟨17, [.tmp 4], code Go.Proofs.Tryz.f101⟩),
  (103, ⟨9, [.tmp 4], code Go.Proofs.Tryz.f103⟩),
  (104, ⟨9, [.tmp 4], code Go.Proofs.Tryz.f104⟩),
  (105, ⟨9, [.tmp 2], code Go.Proofs.Tryz.f105⟩),
  (106, ⟨36, [.tmp 2], code Go.Proofs.Tryz.f106⟩),
  (107, ⟨20, [.tmp 2], code Go.Proofs.Tryz.f107⟩),
  (108, ⟨3, [.tmp 2], code Go.Proofs.Tryz.f108⟩),
  (109, ⟨27, [.tmp 3], code Go.Proofs.Tryz.f109⟩),
  (110, ⟨26, [.tmp 4], code Go.Proofs.Tryz.f110⟩),
  (111, ⟨12, [.tmp 4], code Go.Proofs.Tryz.f111⟩),
  (112, ⟨39, [], code Go.Proofs.Tryz.f112⟩),
  (113, ⟨63, [], code Go.Proofs.Tryz.f113⟩),
  (114, ⟨6, [.tmp 2], code Go.Proofs.Tryz.f114⟩),
  (115, ⟨6, [.tmp 0], code Go.Proofs.Tryz.f115⟩),
  (116, ⟨54, [.tmp 2], code Go.Proofs.Tryz.f116⟩),
  (117, ⟨24, [.tmp 4], code Go.Proofs.Tryz.f117⟩),
  (118, ⟨31, [.tmp 4], code Go.Proofs.Tryz.f118⟩),
  (119, ⟨7, [.cell 2 34], code Go.Proofs.Tryz.f119⟩),
  (120, ⟨32, [.tmp 2], code Go.Proofs.Tryz.f120⟩),
  (121, ⟨67, [.tmp 4], code Go.Proofs.Tryz.f121⟩),
  (122, ⟨16, [.tmp 6], code Go.Proofs.Tryz.f122⟩),
  (123, ⟨9, [.tmp 4], code Go.Proofs.Tryz.f123⟩),
  (124, ⟨30, [.tmp 2], code Go.Proofs.Tryz.f124⟩),
  (125, ⟨76, [.tmp 2], code Go.Proofs.Tryz.f125⟩),
  (126, ⟨25, [.tmp 4], code Go.Proofs.Tryz.f126⟩),
  (127, ⟨17, [.tmp 4], code Go.Proofs.Tryz.f127⟩),
  (128, ⟨79, [.cell 2 34], code Go.Proofs.Tryz.f128⟩),
  (129, ⟨9, [.tmp 4], code Go.Proofs.Tryz.f129⟩),
  (130, ⟨18, [.tmp 2], code Go.Proofs.Tryz.f130⟩),
  (131, ⟨21, [.tmp 3], code Go.Proofs.Tryz.f131⟩),
  (132, ⟨31, [.tmp 2], code Go.Proofs.Tryz.f132⟩),
  (133, ⟨37, [.tmp 5], code Go.Proofs.Tryz.f133⟩),
  (134, ⟨49, [.tmp 5], code Go.Proofs.Tryz.f134⟩),
  (135, ⟨20, [], code Go.Proofs.Tryz.f135⟩),
  (136, ⟨5, [.tmp 2], code Go.Proofs.Tryz.f136⟩),
  (137, ⟨27, [.tmp 4], code Go.Proofs.Tryz.f137⟩),
  (138, ⟨26, [.cell 2 159], code Go.Proofs.Tryz.f138⟩),
  (139, ⟨53, [], code Go.Proofs.Tryz.f139⟩),
  (140, ⟨220, [], code Go.Proofs.Tryz.f140⟩),
  (141, ⟨21, [.tmp 2], code Go.Proofs.Tryz.f141⟩),
  (142, ⟨40, [.tmp 2], code Go.Proofs.Tryz.f142⟩),
  (143, ⟨79, [.cell 6 34], code Go.Proofs.Tryz.f143⟩),
  (144, ⟨41, [.tmp 8], code Go.Proofs.Tryz.f144⟩),
  (145, ⟨45, [.tmp 4], code Go.Proofs.Tryz.f145⟩),
  (146, ⟨19, [.tmp 4], code Go.Proofs.Tryz.f146⟩),
  (147, ⟨6, [.tmp 2], code Go.Proofs.Tryz.f147⟩),
  (148, ⟨13, [.tmp 2], code Go.Proofs.Tryz.f148⟩),
  (149, ⟨18, [.tmp 2], code Go.Proofs.Tryz.f149⟩),
  (150, ⟨8, [.tmp 4], code Go.Proofs.Tryz.f150⟩),
  (151, ⟨14, [], code Go.Proofs.Tryz.f151⟩),
  (152, ⟨10, [.tmp 4], code Go.Proofs.Tryz.f152⟩),
  (153, ⟨19, [.tmp 4], code Go.Proofs.Tryz.f153⟩),
  (154, ⟨20, [.tmp 6], code Go.Proofs.Tryz.f154⟩),
  (156, ⟨54, [.tmp 4], code Go.Proofs.Tryz.f156⟩),
  (157, ⟨58, [], code Go.Proofs.Tryz.f157⟩),
  (158, ⟨44, [.tmp 4], code Go.Proofs.Tryz.f158⟩),
  (159, ⟨25, [.tmp 6], code Go.Proofs.Tryz.f159⟩),
  (160, ⟨35, [.tmp 4], code Go.Proofs.Tryz.f160⟩),
  (161, ⟨6, [.tmp 2], code Go.Proofs.Tryz.f161⟩),
  (162, ⟨9, [.tmp 4], code Go.Proofs.Tryz.f162⟩),
  (163, ⟨30, [.tmp 2], code Go.Proofs.Tryz.f163⟩),
  (164, ⟨8, [.tmp 4], code Go.Proofs.Tryz.f164⟩),
  (165, ⟨148, [], code Go.Proofs.Tryz.f165⟩),
  (166, ⟨8, [.tmp 2], code Go.Proofs.Tryz.f166⟩),
  (167, ⟨15, [.tmp 2], code Go.Proofs.Tryz.f167⟩),
  (168, ⟨15, [.tmp 2], code Go.Proofs.Tryz.f168⟩),
  (169, ⟨167, [], code Go.Proofs.Tryz.f169⟩),
  (170, ⟨102, [.tmp 10, .tmp 11], code Go.Proofs.Tryz.f170⟩),
  (171, ⟨38, [], code Go.Proofs.Tryz.f171⟩),
  (172, ⟨48, [.tmp 4], code Go.Proofs.Tryz.f172⟩),
  (173, ⟨8, [.tmp 4], code Go.Proofs.Tryz.f173⟩),
  (175, ⟨53, [], code Go.Proofs.Tryz.f175⟩),
  (176, ⟨60, [], code Go.Proofs.Tryz.f176⟩),
  (177, ⟨67, [], code Go.Proofs.Tryz.f177⟩),
  (178, ⟨63, [.tmp 8, .tmp 9], code Go.Proofs.Tryz.f178⟩),
  (179, ⟨34, [], code Go.Proofs.Tryz.f179⟩),
  (180, ⟨141, [.tmp 8], code Go.Proofs.Tryz.f180⟩),
  (181, ⟨90, [.tmp 10], code Go.Proofs.Tryz.f181⟩),
  (182, ⟨178, [.tmp 10, .tmp 11], code Go.Proofs.Tryz.f182⟩),
  (183, ⟨19, [.tmp 2], code Go.Proofs.Tryz.f183⟩),
  (184, ⟨25, [.tmp 2], code Go.Proofs.Tryz.f184⟩),
  (185, ⟨6, [.tmp 2], code Go.Proofs.Tryz.f185⟩),
  (186, ⟨4, [.tmp 2], code Go.Proofs.Tryz.f186⟩),
  (187, ⟨8, [.tmp 2], code Go.Proofs.Tryz.f187⟩),
  (188, ⟨8, [.tmp 2], code Go.Proofs.Tryz.f188⟩),
  (189, ⟨21, [.tmp 6], code Go.Proofs.Tryz.f189⟩),
  (190, ⟨82, [], code Go.Proofs.Tryz.f190⟩),
  (191, ⟨7, [.tmp 2], code Go.Proofs.Tryz.f191⟩),
  (192, ⟨33, [.tmp 2], code Go.Proofs.Tryz.f192⟩),
  (193, ⟨18, [.tmp 8], code Go.Proofs.Tryz.f193⟩),
  (194, ⟨41, [.tmp 12], code Go.Proofs.Tryz.f194⟩),
  (195, ⟨14, [.tmp 2], code Go.Proofs.Tryz.f195⟩),
  (196, ⟨14, [.tmp 2], code Go.Proofs.Tryz.f196⟩),
  (197, ⟨32, [.tmp 10, .tmp 11], code Go.Proofs.Tryz.f197⟩)]
noncomputable def tbl : Tbl := fun f => tbList.lookup f
theorem lookup_mem' {α : Type} {l : List (Nat × α)} {t : Nat} {d : α} (h : l.lookup t = some d) : (t, d) ∈ l := by
  induction l with
  | nil => cases h
  | cons x l ih =>
    obtain ⟨k, v⟩ := x
    rw [List.lookup_cons] at h
    split at h
    · rename_i e
      cases h
      have : t = k := by simpa using e
      subst this; simp
    · simp [ih h]
def AllOk (E : Env) : List (Nat × FnD) → Prop | [] => True | (f, d) :: l => FnOk E f d.N d.rs d.code ∧ AllOk E l
theorem allOk_mem {E : Env} : ∀ {l : List (Nat × FnD)}, AllOk E l → ∀ {f d}, (f, d) ∈ l → FnOk E f d.N d.rs d.code
  | [], _, f, d, h => by cases h
  | (k, x) :: l, hl, f, d, h => by
    rcases List.mem_cons.1 h with e | h
    · injection e with e1 e2; subst e1 e2; exact hl.1
    · exact allOk_mem hl.2 h
theorem tbAll : AllOk EE tbList := ⟨ok3, ok4, ok5, ok6, ok7, ok9, ok10, ok11, ok12, ok13, ok14, ok15, ok16, ok17, ok18, ok19, ok20, ok21, ok22, ok23, ok24, ok25, ok26, ok27, ok28, ok29, ok30, ok31, ok32, ok33, ok34, ok35, ok36, ok37, ok38, ok39, ok40, ok41, ok42, ok43, ok44, ok45, ok46, ok47, ok48, ok49, ok50, ok51, ok52, ok53, ok54, ok55, ok56, ok57, ok58, ok59, ok60, ok61, ok62, ok63, ok64, ok65, ok66, ok67, ok68, ok69, ok70, ok71, ok72, ok73, ok74, ok75, ok76, ok77, ok78, ok79, ok81, ok82, ok83, ok84, ok85, ok86, ok87, ok88, ok89, ok90, ok91, ok92, ok94, ok95, ok96, ok97, ok98, ok99, ok100, ok101, ok103, ok104, ok105, ok106, ok107, ok108, ok109, ok110, ok111, ok112, ok113, ok114, ok115, ok116, ok117, ok118, ok119, ok120, ok121, ok122, ok123, ok124, ok125, ok126, ok127, ok128, ok129, ok130, ok131, ok132, ok133, ok134, ok135, ok136, ok137, ok138, ok139, ok140, ok141, ok142, ok143, ok144, ok145, ok146, ok147, ok148, ok149, ok150, ok151, ok152, ok153, ok154, ok156, ok157, ok158, ok159, ok160, ok161, ok162, ok163, ok164, ok165, ok166, ok167, ok168, ok169, ok170, ok171, ok172, ok173, ok175, ok176, ok177, ok178, ok179, ok180, ok181, ok182, ok183, ok184, ok185, ok186, ok187, ok188, ok189, ok190, ok191, ok192, ok193, ok194, ok195, ok196, ok197, trivial⟩
theorem tblOk : TblOk EE tbl := fun f d h => allOk_mem tbAll (lookup_mem' h)
end Go.Pv.Ct
end
