/-
  The pure machine, part V: code, carried over to the model.
-/
import Derived.Test.YtbfmlkdpeaeblaaPvU
import Derived.LoopNIn
set_option linter.all false
set_option linter.unusedSimpArgs false
set_option linter.unusedVariables false
namespace Go.Pv

/-- A loop's record turns. -/
theorem Stp.loopSet {G K ι st w} (h : Rel G K ι st w) (id : Nat) {fr ps asg body nt s pd} (hid : st[id]? = some (.loop fr ps asg body nt s pd)) {fr' ps' asg' body' nt' s' pd'} {b : Nat} {l l' : Loop} (hh : ι id = .pointer (some ⟨b, 0, none⟩)) (hw : w.heap[b]? = some (.loop l))
    (ho : Ext K ι st K ι (st.set id (.loop fr' ps' asg' body' nt' s' pd')) → loopIs K ι (st.set id (.loop fr' ps' asg' body' nt' s' pd')) fr' ps' asg' body' nt' s' pd' l') :
    Stp G K ι st w K ι (st.set id (.loop fr' ps' asg' body' nt' s' pd')) { w with heap := w.heap.setIfInBounds b (.loop l') } := by
  have key := Stp.setOb h id _ (.loop fr' ps' asg' body' nt' s' pd') hid (ι id) (by simp [Ob.le]) K (fun _ _ q => q) { w with heap := w.heap.setIfInBounds b (.loop l') } b b (by rw [hh]; rfl) (by rw [hh]; rfl) (.inl rfl) rfl rfl rfl (by simp)
    (fun k _ hk => heap_set_other w b k _ hk)
    (fun a v q => by
      have hc := h.know a v q
      by_cases hab : a.block = b
      · rw [World.cell?, hab, hw] at hc; simp at hc
      · rw [← hc]; exact World.cell?_of_block (w := w) (heap_set_other w b a.block _ hab))
    (fun a v q => .inl q) (fun x => by
      rw [ins_id] at x ⊢
      exact ⟨b, l', hh, heap_set_same w b _ _ hw, ho x⟩)
  rw [ins_id] at key
  exact key

theorem run_getLoop {P : Program} {w : World} {b : Nat} {l : Loop} (h : w.heap[b]? = some (.loop l)) : (Instr.getLoop b).run P w = .ok l w := by
  simp [Instr.getLoop, getObj, Sem.run, h]
theorem run_setLoop {P : Program} {w : World} {b : Nat} {l : Loop} (h : w.heap[b]? = some (.loop l)) (o : Go.Obj) : (setObj b o).run P w = .ok () { w with heap := w.heap.setIfInBounds b o } :=
  setObj_run h (by simp)

theorem run_endLoop {P : Program} {w : World} {b : Nat} {l : Loop} (h : w.heap[b]? = some (.loop l)) (hs : l.state = .ready ∨ l.state = .done) : (Instr.endLoop b).run P w = .ok l.pending { w with heap := w.heap.setIfInBounds b (.loop { l with state := .exhausted }) } := by
  rcases hs with hs | hs <;> simp [Instr.endLoop, run_getLoop h, run_setLoop h, hs]
theorem run_beginRound {P : Program} {w : World} {b : Nat} {l : Loop} (h : w.heap[b]? = some (.loop l)) (hs : l.state = .ready) : (Instr.beginRound b).run P w = .ok () { w with heap := w.heap.setIfInBounds b (.loop { l with state := .busy }) } := by
  simp [Instr.beginRound, run_getLoop h, run_setLoop h, hs]
theorem run_endRound {P : Program} {w : World} {b : Nat} {l : Loop} (h : w.heap[b]? = some (.loop l)) (jump : Option Code) : (Instr.endRound b jump).run P w = .ok (.bool jump.isNone) { w with heap := w.heap.setIfInBounds b (.loop { l with state := if jump.isNone then .ready else .done, pending := jump }) } := by
  simp [Instr.endRound, run_getLoop h, run_setLoop h]

theorem run_enterLoop {P : Program} (w : World) (fn : FuncId) (tmps : Array Value) (ps : Array Tmp) (asg body : Code) :
    (Instr.enterLoop fn tmps ps asg body none).run P w = .ok (w.heap.size + 1, [{ target := .collected w.heap.size, args := #[] }])
      ((w.alloc (.deferred (some []))).alloc (.loop { state := .ready, pending := none, fn, tmps, params := ps, assign := asg, body, defers := w.heap.size })) := by
  simp [Instr.enterLoop]

/-- **Code, carried over to the model.** -/
theorem W_sound {E : Env} (hE : EnvOk E) {n N b0 : Nat} {K0 : Know} {ι0 : Nat → Value} {st0 : Store} {w0 : World} (hb : b0 ≤ w0.heap.size) : ∀ (c : Code) (F : Fence) (_ : FenceOk F) (rf : Bool) (_ : rf = true → F = Fence.wide) (_ : okC E.pl N rf c = true)
    (Qv : Exit → Fr → Store → Prop) (Q : Exit → Act → World → Prop)
    (_ : ∀ (e : Exit) (K : Know) (ι : Nat → Value) (st : Store) (fr : Fr) (a : Act) (w : World), Qv e fr st → Stp E.G K0 ι0 st0 w0 K ι st w → FrRel K ι st fr a.tmps → a.tmps.size = N → Dfs b0 w a.defers → Q e a w)
    (K : Know) (ι : Nat → Value) (st : Store) (fr : Fr) (a : Act) (w : World), Stp E.G K0 ι0 st0 w0 K ι st w → FrRel K ι st fr a.tmps → a.tmps.size = N → Dfs b0 w a.defers → W E N c fr st Qv → c.wpIn F n E.P Q a w
  | .skip, F, hF, rf, hrf, hok, Qv, Q, hQ, K, ι, st, fr, a, w, hs, hf, hn, hd, h => wpIn_skip (hQ _ K ι st fr a w h hs hf hn hd)
  | .region id ops draw, F, hF, rf, hrf, hok, Qv, Q, hQ, K, ι, st, fr, a, w, hs, hf, hn, hd, h => by
    simp only [okC, Bool.and_eq_true] at hok
    obtain ⟨hreg, hdr⟩ := hok
    have fin : ∀ (K' : Know) (ι' : Nat → Value) (st' : Store) (fr' : Fr) (a' : Act) (w' : World), Qv .normal fr' st' → Stp E.G K ι st w K' ι' st' w' → FrRel K' ι' st' fr' a'.tmps → a'.tmps.size = N → a'.defers = a.defers → Q .normal a' w' :=
      fun K' ι' st' fr' a' w' q s f z d => hQ _ K' ι' st' fr' a' w' q (hs.trans s) f z (by rw [d]; exact hd.step hs.rel s)
    cases draw with
    | true => exact draw_sound hE hF (by simpa using hdr) hreg hs.rel hf hn h fin
    | false => exact wpIn_region_list (opsW_list hE hF hreg (df := a.defers) (K0 := K) (ι0 := ι) (st0 := st) (w0 := w) (fun K' ι' st' fr' a' w' q s f z d => fin K' ι' st' fr' a' w' q s f z d) ops.toList (fun o ho => by
        obtain ⟨i, hi⟩ := List.mem_iff_getElem?.1 ho
        exact ⟨i, by simpa using hi⟩) K ι st fr a w (.refl hs.rel) hf hn rfl h)
  | .seq x y, F, hF, rf, hrf, hok, Qv, Q, hQ, K, ι, st, fr, a, w, hs, hf, hn, hd, h => by
    simp only [okC, Bool.and_eq_true] at hok
    refine wpIn_seq (W_sound hE hb x F hF rf hrf hok.1 (fun e fr' st' => match e with | .normal => W E N y fr' st' Qv | e => Qv e fr' st') _ (fun e K' ι' st' fr' a' w' q s f z d => ?_) K ι st fr a w hs hf hn hd h)
    cases e
    case normal => exact W_sound hE hb y F hF rf hrf hok.2 Qv Q hQ K' ι' st' fr' a' w' s f z d q
    all_goals exact hQ _ K' ι' st' fr' a' w' q s f z d
  | .cond c x y, F, hF, rf, hrf, hok, Qv, Q, hQ, K, ι, st, fr, a, w, hs, hf, hn, hd, h => by
    simp only [okC, Bool.and_eq_true] at hok
    have hc := evalO_rel hs.rel hf c (by rw [hn]; exact hok.1)
    unfold W at h
    split at h
    · rename_i b e
      rw [e] at hc
      cases b with
      | true => exact wpIn_cond_true hc.boolV (W_sound hE hb x F hF rf hrf hok.2.1 Qv Q hQ K ι st fr a w hs hf hn hd (h.1 rfl))
      | false => exact wpIn_cond_false hc.boolV (W_sound hE hb y F hF rf hrf hok.2.2 Qv Q hQ K ι st fr a w hs hf hn hd (h.2 rfl))
    · exact h.elim
  | .block id x, F, hF, rf, hrf, hok, Qv, Q, hQ, K, ι, st, fr, a, w, hs, hf, hn, hd, h => by
    refine wpIn_block (W_sound hE hb x F hF rf hrf hok (fun e fr' st' => match e with | .exit i => if i = id then Qv .normal fr' st' else Qv (.exit i) fr' st' | e => Qv e fr' st') _ (fun e K' ι' st' fr' a' w' q s f z d => ?_) K ι st fr a w hs hf hn hd h)
    cases e <;> first
      | exact hQ _ K' ι' st' fr' a' w' q s f z d
      | skip
    rename_i i
    simp only [Exit.inBlock] at q ⊢
    split at q
    · rename_i e; rw [if_pos e]; exact hQ _ K' ι' st' fr' a' w' q s f z d
    · rename_i e; rw [if_neg e]; exact hQ _ K' ι' st' fr' a' w' q s f z d
  | .loop x, F, hF, rf, hrf, hok, Qv, Q, hQ, K, ι, st, fr, a, w, hs, hf, hn, hd, h => by
    obtain ⟨m, h⟩ := h
    refine wpIn_loop_rounds m ?_
    induction m generalizing K ι st fr a w with
    | zero => exact h.elim
    | succ m ih =>
      rw [roundsIn_succ]
      refine W_sound hE hb x F hF rf hrf hok (fun e fr' st' => match e with | .normal => LoopW (fun fr st Q => W E N x fr st Q) Qv m fr' st' | e => Qv e fr' st') _ (fun e K' ι' st' fr' a' w' q s f z d => ?_) K ι st fr a w hs hf hn hd h
      cases e
      case normal => exact ih K' ι' st' fr' a' w' s f z d q
      all_goals exact hQ _ K' ι' st' fr' a' w' q s f z d
  | .exit i, F, hF, rf, hrf, hok, Qv, Q, hQ, K, ι, st, fr, a, w, hs, hf, hn, hd, h => wpIn_exit (hQ _ K ι st fr a w h hs hf hn hd)
  | .label i, F, hF, rf, hrf, hok, Qv, Q, hQ, K, ι, st, fr, a, w, hs, hf, hn, hd, h => wpIn_label (hQ _ K ι st fr a w h hs hf hn hd)
  | .ret, F, hF, rf, hrf, hok, Qv, Q, hQ, K, ι, st, fr, a, w, hs, hf, hn, hd, h => wpIn_ret (hQ _ K ι st fr a w h hs hf hn hd)
  | .rangeFunc g ps asg body, F, hF, rf, hrf, hok, Qv, Q, hQ, K, ι, st, fr, a, w, hs, hf, hn, hd, h => by
    simp only [okC, Bool.and_eq_true] at hok
    obtain ⟨hrf', hgo, _⟩ := hok
    have hFw := hrf hrf'
    subst hFw
    have hg := evalO_rel hs.rel hf g (by rw [hn]; exact hgo)
    unfold W RangeW at h
    split at h
    · rename_i f caps eg
      rw [eg] at hg
      obtain ⟨v, st1, hspec, fr1, ps1, asg1, body1, nt1, s1, pd, hst1, hs2, hfin⟩ := h
      obtain ⟨vcs, e1, hcl, hcr⟩ : ∃ vs, a.eval g = .func (.func f) #[] vs ∧ caps.length = vs.size ∧ ∀ (i : Nat) (p : PV) (v : Value), caps[i]? = some p → vs[i]? = some v → VRel K ι st p v := by
        generalize a.eval g = z at hg ⊢
        cases hg with
        | tree _ _ q => cases q; exact ⟨_, rfl, rfl, fun i p v hp => by simp at hp⟩
        | fn _ _ vs hl hr => exact ⟨vs, rfl, hl, hr⟩
      refine wpIn_rangeFunc (fun fn _ => ?_)
      let w1 := w.alloc (.deferred (some []))
      let rec0 : Loop := { state := .ready, pending := none, fn, tmps := a.tmps, params := ps, assign := asg, body, defers := w.heap.size }
      let hv : Value := .pointer (some ⟨w.heap.size + 1, 0, none⟩)
      let o0 : Ob := .loop fr ps.toList asg body N 0 none
      have sA : Stp E.G K ι st w K ι st w1 := Stp.allocOther hs.rel _
      have hsz1 : w1.heap.size = w.heap.size + 1 := by simp [w1]
      have sB : Stp E.G K ι st w1 K (ins ι st.length hv) (st ++ [o0]) (w1.alloc (.loop rec0)) := by
        refine Stp.newOb sA.rel o0 (.loop rec0) hv (by rw [hsz1]; rfl) (fun x _ => ⟨w.heap.size + 1, rec0, rfl, ?_, fun _ => ⟨⟨rfl, rfl, rfl, hn, fun t u hu => (hf t u hu).mono x⟩, fun _ => rfl, fun _ => rfl, fun q => by cases q⟩⟩)
        rw [← hsz1]; exact heap_alloc_new w1 _
      have sAB := sA.trans sB
      have hargs : ArgsRel K (ins ι st.length hv) (st ++ [o0]) (.yld st.length :: caps) (#[.func (.yield (w.heap.size + 1)) #[] #[]] ++ vcs) := by
        refine ⟨by simp [hcl]; omega, fun i p u hp hu => ?_⟩
        cases i with
        | zero =>
          have hu' : u = .func (.yield (w.heap.size + 1)) #[] #[] := by
            rw [Array.getElem?_append_left (by simp)] at hu
            simpa using hu.symm
          simp at hp
          subst hp hu'
          exact .yld st.length (w.heap.size + 1) fr ps.toList asg body N 0 none (by simp [o0]) (by rw [ins_same])
        | succ i =>
          rw [Array.getElem?_append_right (by simp)] at hu
          exact (hcr i p u (by simpa using hp) (by simpa using hu)).mono sB.ext
      refine ⟨w.heap.size + 1, [{ target := .collected w.heap.size, args := #[] }], w1.alloc (.loop rec0), { target := .fn (.func f) vcs, args := #[] ++ #[.func (.yield (w.heap.size + 1)) #[] #[]] }, w1.alloc (.loop rec0), f, #[.func (.yield (w.heap.size + 1)) #[] #[]] ++ vcs, w1.alloc (.loop rec0), run_enterLoop w fn a.tmps ps asg body, ?_, fun _ _ => trivial, ?_, ?_, ?_⟩
      · have : (Array.map a.eval #[Operand.const (Value.func (Fn.yield (w.heap.size + 1)) #[] #[])]) = #[Value.func (Fn.yield (w.heap.size + 1)) #[] #[]] := by simp [Act.eval]
        simp only [resolve, rangeCall, e1, Deferred.ofValue, Sem.run_pure, this]
      · simp only [invoke]
        have : (#[] ++ #[Value.func (Fn.yield (w.heap.size + 1)) #[] #[]] ++ vcs) = #[Value.func (Fn.yield (w.heap.size + 1)) #[] #[]] ++ vcs := by simp
        rw [this]
        exact run_callFunc hspec.1 _ _
      · intro q; simp [Fence.wide] at q
      · refine callsIn_wide.2 ((hspec.2 K (ins ι st.length hv) _ _ sB.rel hargs).mono fun e w3 q => ?_)
        obtain ⟨K', ι', rv, rfl, sC, _⟩ := q
        have hlt : st.length < st1.length := (List.getElem?_eq_some_iff.1 hst1).1
        obtain ⟨o', ho', hle⟩ := sC.ext.ids st.length o0 (by simp [o0])
        rw [hst1] at ho'
        injection ho' with ho'
        subst ho'
        have hιl : ι' st.length = hv := by
          have : ins ι st.length hv st.length = ι' st.length := hle
          rw [ins_same] at this; exact this.symm
        obtain ⟨b, l, hh, hw, hl⟩ := sC.rel.obj st.length _ hst1
        rw [hιl] at hh
        simp only [hv, Value.pointer.injEq, Option.some.injEq, Addr.mk.injEq] at hh
        obtain ⟨rfl, _⟩ := hh
        obtain ⟨_, hp, hr0, hr1⟩ := hl (by omega)
        have hstate : l.state = .ready ∨ l.state = .done := by
          rcases (by omega : s1 = 0 ∨ s1 = 1) with q | q
          · exact .inl (hr0 q)
          · exact .inr (hr1 q)
        have sD := Stp.loopSet sC.rel st.length hst1 (fr' := fun _ => .bad) (ps' := []) (asg' := .skip) (body' := .skip) (nt' := 0) (s' := 3) (pd' := none) hιl hw (l' := { l with state := .exhausted }) (fun _ q => by omega)
        have sAll := (hs.trans sAB).trans (sC.trans sD)
        have hfx : FrRel K' ι' (st1.set st.length deadLoop) fr a.tmps := ((hf.mono sAB.ext).mono sC.ext).mono sD.ext
        have hdx : Dfs b0 { w3 with heap := w3.heap.setIfInBounds (w.heap.size + 1) (.loop { l with state := .exhausted }) } ([{ target := .collected w.heap.size, args := #[] }] ++ a.defers) := by
          have hd1 : Dfs b0 (w1.alloc (.loop rec0)) ([{ target := .collected w.heap.size, args := #[] }] ++ a.defers) := by
            obtain ⟨rs, e, nd, hrs⟩ := hd.step hs.rel sAB
            have hold : ∀ r ∈ rs, r < w.heap.size := by
              obtain ⟨rs', e', nd', hrs'⟩ := hd
              intro r hr
              have : r ∈ rs' := by
                have : ({ target := .collected r, args := #[] } : Deferred) ∈ a.defers := by rw [e]; exact List.mem_map.2 ⟨r, hr, rfl⟩
                rw [e'] at this
                obtain ⟨r', h1, h2⟩ := List.mem_map.1 this
                injection h2 with h2 _
                injection h2 with h2
                rw [← h2]; exact h1
              exact heap_lt (hrs' r this).2
            refine ⟨w.heap.size :: rs, by rw [e]; rfl, List.nodup_cons.2 ⟨fun q => absurd (hold _ q) (by omega), nd⟩, fun r hr => ?_⟩
            rcases List.mem_cons.1 hr with rfl | hr
            · refine ⟨Nat.le_trans hb hs.size, ?_⟩
              rw [heap_alloc_old w1 _ _ (by omega)]
              exact heap_alloc_new w _
            · exact hrs r hr
          exact (hd1.step sB.rel sC).step sC.rel sD
        refine ⟨pd, _, (run_endLoop hw hstate).trans (congrArg (fun z => Result.ok z _) (hp hs2)), ?_⟩
        split at hfin
        · exact hQ _ K' ι' _ fr { a with defers := [{ target := .collected w.heap.size, args := #[] }] ++ a.defers } _ hfin sAll hfx hn hdx
        · exact wpIn_ret (hQ _ K' ι' _ fr { a with defers := [{ target := .collected w.heap.size, args := #[] }] ++ a.defers } _ hfin sAll hfx hn hdx)
        · exact wpIn_exit (hQ _ K' ι' _ fr { a with defers := [{ target := .collected w.heap.size, args := #[] }] ++ a.defers } _ hfin sAll hfx hn hdx)
        · exact hfin.elim
    · exact h.elim
  | .goto _, _, _, _, _, _, _, _, _, _, _, _, _, _, _, _, _, _, _, h => h.elim
  | .scope _, _, _, _, _, _, _, _, _, _, _, _, _, _, _, _, _, _, _, h => h.elim
  | .refuse _, _, _, _, _, _, _, _, _, _, _, _, _, _, _, _, _, _, _, h => h.elim

end Go.Pv
