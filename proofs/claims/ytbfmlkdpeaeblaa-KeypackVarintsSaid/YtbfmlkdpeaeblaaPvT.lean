/-
  The pure machine, part T: a region that draws, carried over to the model.
-/
import Derived.Test.YtbfmlkdpeaeblaaPvS
set_option linter.all false
set_option linter.unusedSimpArgs false
set_option linter.unusedVariables false
namespace Go.Pv

theorem ready_spec {ops : Array Oper} {listed : Array Bool} (hs : listed.size = ops.size) {i : Nat} (h : i ∈ Region.ready .any ops listed) (D : ∀ (j : Nat) (oj : Oper), ops[j]? = some oj → ∀ e ∈ oj.after, Region.binds .any e = true → e.on < j) :
    ∃ o, Ready ops (Lof listed) i o := by
  unfold Region.ready at h
  rw [List.mem_filter] at h
  obtain ⟨h1, h2⟩ := h
  have hi : i < ops.size := by simpa using h1
  have ho : ops[i]? = some ops[i] := Array.getElem?_eq_getElem hi
  rw [ho] at h2
  simp only [Bool.and_eq_true, Option.map_some, Option.getD_some] at h2
  obtain ⟨h2, h3⟩ := h2
  rw [Array.all_eq_true_iff_forall_mem] at h3
  refine ⟨_, ho, ?_, fun e he hb => ?_⟩
  · have : listed.getD i true = listed.getD i false := by simp [Array.getD_eq_getD_getElem?, show i < listed.size by omega]
    unfold Lof
    rw [← this]; simpa using h2
  · have := h3 e he
    simpa [hb, Lof] using this

theorem ready_mem {ops : Array Oper} {listed : Array Bool} (hs : listed.size = ops.size) {i : Nat} {o : Oper} (h : Ready ops (Lof listed) i o) : i ∈ Region.ready .any ops listed := by
  unfold Region.ready
  obtain ⟨h1, h2, h3⟩ := h
  have hi : i < ops.size := (Array.getElem?_eq_some_iff.1 h1).1
  rw [List.mem_filter]
  refine ⟨by simpa using hi, ?_⟩
  rw [h1]
  simp only [Bool.and_eq_true, Option.map_some, Option.getD_some]
  refine ⟨?_, ?_⟩
  · have : listed.getD i true = listed.getD i false := by simp [Array.getD_eq_getD_getElem?, show i < listed.size by omega]
    rw [this]
    unfold Lof at h2; rw [h2]; rfl
  · rw [Array.all_eq_true_iff_forall_mem]
    intro e he
    cases hb : Region.binds .any e with
    | false => rfl
    | true => simpa [hb, Lof] using h3 e he hb

/-- Where something is left, something may come up. -/
theorem ready_ex {ops : Array Oper} {L : Nat → Bool} (D : ∀ (j : Nat) (oj : Oper), ops[j]? = some oj → ∀ e ∈ oj.after, Region.binds .any e = true → e.on < j) :
    ∀ i, i < ops.size → L i = false → ∃ k o, Ready ops L k o := by
  intro i
  induction i using Nat.strongRecOn with
  | _ i ih =>
    intro hi hL
    have ho : ops[i]? = some ops[i] := Array.getElem?_eq_getElem hi
    by_cases h : ∀ e ∈ ops[i].after, Region.binds .any e = true → L e.on = true
    · exact ⟨i, _, ho, hL, h⟩
    · have : ∃ e, e ∈ ops[i].after ∧ Region.binds .any e = true ∧ L e.on = false := by
        refine Classical.byContradiction fun hn => h fun e he hb => ?_
        cases hq : L e.on with
        | true => rfl
        | false => exact absurd ⟨e, he, hb, hq⟩ hn
      obtain ⟨e, he, hb, hq⟩ := this
      have hlt := D i _ ho e he hb
      exact ih e.on hlt (by omega) hq

theorem cFr_full {ops : Array Oper} {fs : Nat → Fr} {ss : Nat → Store} {vs : Nat → PV} {wt : Nat → Bool} {E : Env} (tr : ∀ (i : Nat) (o : Oper), ops[i]? = some o → TrOk E ops fs ss vs wt i o) {L : Nat → Bool} (hL : ∀ i, i < ops.size → L i = true) :
    ∀ m, m ≤ ops.size → cFr ops L (fs 0) vs m = fs m := by
  intro m
  induction m with
  | zero => intro _; rfl
  | succ m ih =>
    intro hm
    obtain ⟨o, ho⟩ := op_at (ops := ops) (i := m) (n := ops.size) (by omega) (Nat.le_refl _)
    rw [cFr_in ho (hL m (by omega)), ih (by omega), (tr m o ho).2.1]

theorem cFr_empty {ops : Array Oper} {L : Nat → Bool} {f0 : Fr} {vs : Nat → PV} (hL : ∀ i, L i = false) : ∀ m, cFr ops L f0 vs m = f0 := by
  intro m
  induction m with
  | zero => rfl
  | succ m ih => rw [cFr_out (hL m), ih]
theorem cSt_empty {L : Nat → Bool} {s0 : Store} {ss : Nat → Store} {chg : Nat → Bool} (hL : ∀ i, L i = false) : ∀ m, cSt L s0 ss chg m = s0 := by
  intro m
  induction m with
  | zero => rfl
  | succ m ih => simp [cSt, hL m, ih]

theorem any_sound {E : Env} (hE : EnvOk E) {F : Fence} (hF : FenceOk F) {n : Nat} {ops : Array Oper} {B : List Nat} (D : DrawFacts E.pl ops B) {fs : Nat → Fr} {ss : Nat → Store} {vs : Nat → PV} {wt : Nat → Bool}
    (tr : ∀ (i : Nat) (o : Oper), ops[i]? = some o → TrOk E ops fs ss vs wt i o) {Q : Exit → Act → World → Prop} {K0 : Know} {ι0 : Nat → Value} {w0 : World} {N : Nat} {df : List Deferred} (hreg : regIn N ops = true)
    (hQ : ∀ (K : Know) (ι : Nat → Value) (a : Act) (w : World), Stp E.G K0 ι0 (ss 0) w0 K ι (ss ops.size) w → FrRel K ι (ss ops.size) (fs ops.size) a.tmps → a.tmps.size = N → a.defers = df → Q .normal a w) :
    ∀ (fuel : Nat) (listed : Array Bool) (K : Know) (ι : Nat → Value) (a : Act) (w : World), listed.size = ops.size → Closed ops (Lof listed) → unl ops listed ≤ fuel →
      Stp E.G K0 ι0 (ss 0) w0 K ι (cSt (Lof listed) (ss 0) ss (chgO E.pl ops) ops.size) w → FrRel K ι (cSt (Lof listed) (ss 0) ss (chgO E.pl ops) ops.size) (cFr ops (Lof listed) (fs 0) vs ops.size) a.tmps → a.tmps.size = N → a.defers = df →
      wpAnyIn F n E.P .any ops Q fuel listed a w := by
  have full : ∀ (listed : Array Bool) (K : Know) (ι : Nat → Value) (a : Act) (w : World), (∀ i, i < ops.size → Lof listed i = true) →
      Stp E.G K0 ι0 (ss 0) w0 K ι (cSt (Lof listed) (ss 0) ss (chgO E.pl ops) ops.size) w → FrRel K ι (cSt (Lof listed) (ss 0) ss (chgO E.pl ops) ops.size) (cFr ops (Lof listed) (fs 0) vs ops.size) a.tmps → a.tmps.size = N → a.defers = df → Q .normal a w := by
    intro listed K ι a w hall hs hf hn hd
    rw [cSt_eq tr (Nat.le_refl _) (fun i hi _ => hall i hi) _ (Nat.le_refl _)] at hs hf
    rw [cFr_full tr hall _ (Nat.le_refl _)] at hf
    exact hQ K ι a w hs hf hn hd
  have done : ∀ (listed : Array Bool), listed.size = ops.size → Region.ready .any ops listed = [] → ∀ i, i < ops.size → Lof listed i = true := by
    intro listed hls hr i hi
    cases hL : Lof listed i with
    | true => rfl
    | false =>
      obtain ⟨k, o, hk⟩ := ready_ex D.edge i hi hL
      have := ready_mem hls hk
      rw [hr] at this
      cases this
  intro fuel
  induction fuel with
  | zero =>
    intro listed K ι a w hls hcl hu hs hf hn hd
    have hall : ∀ i, i < ops.size → Lof listed i = true := by
      intro i hi
      have h0 : unl ops listed = 0 := by omega
      unfold unl at h0
      rw [List.countP_eq_zero] at h0
      have := h0 i (by simpa using hi)
      simpa using this
    refine ⟨?_, full listed K ι a w hall hs hf hn hd⟩
    cases hr : Region.ready .any ops listed with
    | nil => rfl
    | cons i l =>
      obtain ⟨o, hk⟩ := ready_spec hls (i := i) (by rw [hr]; simp) D.edge
      have := hall i (Array.getElem?_eq_some_iff.1 hk.1).1
      rw [hk.2.1] at this
      cases this
  | succ fuel ih =>
    intro listed K ι a w hls hcl hu hs hf hn hd
    refine ⟨fun hr => full listed K ι a w (done listed hls hr) hs hf hn hd, fun i hi => ?_⟩
    obtain ⟨o, hk⟩ := ready_spec hls hi D.edge
    have his : i < ops.size := (Array.getElem?_eq_some_iff.1 hk.1).1
    have hset := Lof_set (listed := listed) (i := i) (by omega)
    have hcl' : Closed ops (Lof (listed.setIfInBounds i true)) := by
      rw [hset]
      intro j oj hj hLj e he hb
      by_cases e1 : j = i
      · subst e1
        rw [hk.1] at hj; cases hj
        have := hk.2.2 e he hb
        simp [adds, this]
      · rw [adds_ne e1] at hLj
        simp [adds, hcl j oj hj hLj e he hb]
    have hu' : unl ops (listed.setIfInBounds i true) ≤ fuel := by
      have : unl ops (listed.setIfInBounds i true) < unl ops listed := by
        unfold unl
        rw [hset]
        refine countP_lt _ (fun x _ hx => ?_) i (by simpa using his) (by simp [hk.2.1]) (by simp [adds])
        simp [adds] at hx ⊢
        exact hx.2
      omega
    have hin := regIn_at hreg hk.1
    have hlook := fun t (ht : t ∈ tmpsOf ops o) => cFr_looks D tr hcl hk ht
    obtain ⟨t1, t2, t3, t4⟩ := tr i o hk.1
    have hgd : guardF ops (cFr ops (Lof listed) (fs 0) vs ops.size) o = some (wt i) := by rw [guardF_congr hlook]; exact t1
    unfold wpOpIn
    rw [hk.1]
    simp only
    have nextF : cFr ops (Lof (listed.setIfInBounds i true)) (fs 0) vs ops.size = upd (cFr ops (Lof listed) (fs 0) vs ops.size) o.dst (vs i) := by rw [hset]; exact cFr_adds D hcl hk (fs 0)
    cases hw : wt i with
    | false =>
      rw [hw] at hgd
      rw [if_neg (by rw [guard_rel (by rw [hn]; exact hreg) hf hgd]; simp)]
      refine ⟨fun f _ => hF.fn f, ?_⟩
      have hst : cSt (Lof (listed.setIfInBounds i true)) (ss 0) ss (chgO E.pl ops) ops.size = cSt (Lof listed) (ss 0) ss (chgO E.pl ops) ops.size := by
        rw [hset]
        cases hc : chgO E.pl ops i with
        | false => exact cSt_calm hc _ _
        | true => obtain ⟨a1, a2⟩ := cSt_chg D tr hcl hk hc; rw [a1, a2, (t4 hw).2]
      refine ih _ K ι _ w (by simpa using hls) hcl' hu' (by rw [hst]; exact hs) ?_ (by rw [put_size]; exact hn) (by rw [put_defers]; exact hd)
      rw [hst, nextF, (t4 hw).1]
      exact hf.put (undef_rel K ι _)
    | true =>
      rw [hw] at hgd
      rw [if_pos (guard_rel (by rw [hn]; exact hreg) hf hgd)]
      have hst : StepR E (cFr ops (Lof listed) (fs 0) vs ops.size) (cSt (Lof listed) (ss 0) ss (chgO E.pl ops) ops.size) o (vs i) (cSt (Lof (listed.setIfInBounds i true)) (ss 0) ss (chgO E.pl ops) ops.size) := by
        refine stepR_congr (fun t ht => hlook t (tmps_ops ht)) ?_
        have s := t3 hw
        rw [hset]
        cases he : effO E.pl o with
        | n =>
          have hc : chgO E.pl ops i = false := by rw [chgO_at hk.1, he]
          rw [cSt_calm hc]
          exact (stepR_n he s).2 _
        | r =>
          have hc : chgO E.pl ops i = false := by rw [chgO_at hk.1, he]
          rw [cSt_calm hc]
          obtain ⟨x, hx⟩ := cSt_read D tr hcl hk he
          rw [hx]
          exact (stepR_r he s).2 x
        | a =>
          have hc : chgO E.pl ops i = true := by rw [chgO_at hk.1, he]
          obtain ⟨a1, a2⟩ := cSt_chg D tr hcl hk hc
          rw [a1, a2]; exact s
        | w =>
          have hc : chgO E.pl ops i = true := by rw [chgO_at hk.1, he]
          obtain ⟨a1, a2⟩ := cSt_chg D tr hcl hk hc
          rw [a1, a2]; exact s
      refine stepR_sound hE hF hs.rel hf (by rw [hn]; exact hin.1) hst (fun K' ι' w' rv s r => ?_)
      refine ih _ K' ι' _ w' (by simpa using hls) hcl' hu' (hs.trans s) ?_ (by rw [put_size]; exact hn) (by rw [put_defers]; exact hd)
      rw [nextF]
      exact (hf.mono s.ext).put r

/-- **A region that draws.** -/
theorem draw_sound {E : Env} (hE : EnvOk E) {F : Fence} (hF : FenceOk F) {n : Nat} {id : Nat} {ops : Array Oper} {B : List Nat} (hB : drawOk E.pl ops B = true) {KK : Fr → Store → Prop} {Q : Exit → Act → World → Prop} {N : Nat} (hreg : regIn N ops = true)
    {K : Know} {ι : Nat → Value} {st : Store} {fr : Fr} {a : Act} {w : World} (h : Rel E.G K ι st w) (hf : FrRel K ι st fr a.tmps) (hn : a.tmps.size = N) (hW : OpsW E ops ops.toList fr st KK)
    (hQ : ∀ (K' : Know) (ι' : Nat → Value) (st' : Store) (fr' : Fr) (a' : Act) (w' : World), KK fr' st' → Stp E.G K ι st w K' ι' st' w' → FrRel K' ι' st' fr' a'.tmps → a'.tmps.size = N → a'.defers = a.defers → Q .normal a' w') :
    (Code.region id ops true).wpIn F n E.P Q a w := by
  obtain ⟨fs, ss, vs, wt, rfl, rfl, tr, hK⟩ := OpsW.trace _ _ _ hW
  have tr' : ∀ (i : Nat) (o : Oper), ops[i]? = some o → TrOk E ops fs ss vs wt i o := fun i o ho => tr i o (by simpa using ho)
  have hL : ∀ i, Lof (Array.replicate ops.size false) i = false := fun i => by
    unfold Lof
    rw [Array.getD_eq_getD_getElem?, Array.getElem?_replicate]
    split <;> rfl
  refine wpIn_region_any hE.mixed (any_sound hE hF (drawFacts hB) tr' (K0 := K) (ι0 := ι) (w0 := w) (df := a.defers) hreg (fun K' ι' a' w' s f q d => hQ K' ι' _ _ a' w' (by simpa using hK) s f q d) ops.size _ K ι a _ (by simp) (fun j oj _ hj => by rw [hL] at hj; cases hj) ?_ ?_ ?_ hn rfl)
  · unfold unl
    exact Nat.le_trans List.countP_le_length (by simp)
  · rw [cSt_empty hL]; exact Stp.drew h
  · rw [cSt_empty hL, cFr_empty hL]; exact hf

end Go.Pv
