/-
  The pure machine, part K: that the operations on plain values are the model's own (7): literals, strings out of bytes, builtins.
-/
import Derived.Test.YtbfmlkdpeaeblaaPvJ
set_option linter.all false
set_option linter.unusedSimpArgs false
set_option linter.unusedVariables false
namespace Go.Pv

theorem isAgg_spec {p : PV} (h : (scal p || isAgg p) = true) : scal p = true ∨ ∃ cs, p = .agg cs := by
  cases p <;> simp_all [scal, isAgg]

/-! ### Struct and array literals -/
theorem fold_set (vs : List Value) : ∀ (off j0 : Nat) (cs : Array Value), off + j0 + vs.length ≤ cs.size →
    ((vs.zipIdx j0).foldl (fun cs (c, j) => cs.setIfInBounds (off + j) c) cs).size = cs.size ∧
    ∀ i, ((vs.zipIdx j0).foldl (fun cs (c, j) => cs.setIfInBounds (off + j) c) cs)[i]? = if off + j0 ≤ i ∧ i < off + j0 + vs.length then vs[i - (off + j0)]? else cs[i]? := by
  induction vs with
  | nil => intro off j0 cs _; exact ⟨rfl, fun i => by rw [if_neg (by simp)]; rfl⟩
  | cons v vs ih =>
    intro off j0 cs h
    simp only [List.length_cons] at h
    simp only [List.zipIdx_cons, List.foldl_cons]
    obtain ⟨h1, h2⟩ := ih off (j0 + 1) (cs.setIfInBounds (off + j0) v) (by simp; omega)
    refine ⟨by rw [h1]; simp, fun i => ?_⟩
    rw [h2]
    by_cases h3 : i = off + j0
    · subst h3
      rw [if_neg (by omega), if_pos (by simp)]
      have : off + j0 < cs.size := by omega
      simp [this]
    · by_cases h4 : off + j0 < i ∧ i < off + j0 + (vs.length + 1)
      · rw [if_pos (by omega), if_pos (by simp; omega)]
        have : i - (off + j0) = (i - (off + (j0 + 1))) + 1 := by omega
        rw [this, List.getElem?_cons_succ]
      · rw [if_neg (by omega), if_neg (by simp; omega), Array.getElem?_setIfInBounds_ne (by omega)]

theorem fill_run {K ι st} (place : Nat → Option (Nat × Nat)) : ∀ (ps : List (Nat × PV)) (vs : List (Nat × Value)) (cs : List PV) (us : Array Value) (out : List PV), fillF place ps cs = some out → ps.length = vs.length →
    (∀ (j : Nat) (p : Nat × PV) (v : Nat × Value), ps[j]? = some p → vs[j]? = some v → p.1 = v.1 ∧ VRel K ι st p.2 v.2) →
    cs.length = us.size → (∀ (j : Nat) (v : Value), us[j]? = some v → v.oneCell' = true) → (∀ (j : Nat) (p : PV) (v : Value), cs[j]? = some p → us[j]? = some v → VRel K ι st p v) →
    ∃ us', Instr.fill place us vs = some us' ∧ out.length = us'.size ∧ (∀ (j : Nat) (v : Value), us'[j]? = some v → v.oneCell' = true) ∧ ∀ (j : Nat) (p : PV) (v : Value), out[j]? = some p → us'[j]? = some v → VRel K ι st p v
  | [], [], cs, us, out, h, _, _, hl, h1, hr => by
    simp [fillF] at h
    subst h
    exact ⟨us, rfl, hl, h1, hr⟩
  | [], _ :: _, _, _, _, _, hl, _, _, _, _ => by simp at hl
  | _ :: _, [], _, _, _, _, hl, _, _, _, _ => by simp at hl
  | (i, p) :: ps, (i', v) :: vs, cs, us, out, h, hlen, hp, hl, h1, hr => by
    obtain ⟨hi, hpv⟩ := hp 0 (i, p) (i', v) rfl rfl
    simp only at hi hpv
    subst hi
    simp only [fillF] at h
    split at h
    · cases h
    · rename_i off size hpl
      split at h
      · rename_i hs
        have hs' := isAgg_spec hs
        obtain ⟨l1, o1, r1⟩ := hpv.cellsV hs'
        split at h
        · rename_i hfit
          have hsz : v.cells.size = size := by omega
          obtain ⟨f1, f2⟩ := fold_set v.cells.toList off 0 us (by simp; omega)
          have e1 : (v.cells.zipIdx.foldl (fun cs (c, j) => cs.setIfInBounds (off + j) c) us) = ((v.cells.toList.zipIdx 0).foldl (fun cs (c, j) => cs.setIfInBounds (off + j) c) us) := by
            rw [← Array.foldl_toList, Array.toList_zipIdx]
          have lsp : (splice cs off (cellsOf p)).length = cs.length := splice_length _ _ _ (by omega)
          obtain ⟨us', g1, g2⟩ := fill_run place ps vs (splice cs off (cellsOf p)) out h (by simpa using hlen) (fun j p v a b => hp (j + 1) p v (by simpa using a) (by simpa using b)) (us := (v.cells.toList.zipIdx 0).foldl (fun cs (c, j) => cs.setIfInBounds (off + j) c) us)
            (by rw [lsp, f1, hl]) (fun j u hj => by
              rw [f2] at hj
              split at hj
              · exact o1 u (List.mem_of_getElem? hj)
              · exact h1 j u hj) (fun j q u hq hu => by
              rw [f2] at hu
              rw [splice_get _ _ _ (by omega)] at hq
              simp only [Nat.add_zero, Array.length_toList] at hu
              split at hu
              · rename_i hc
                rw [if_pos (by omega)] at hq
                exact r1 _ q u hq hu
              · rename_i hc
                rw [if_neg (by omega)] at hq
                exact hr j q u hq hu)
          refine ⟨us', ?_, g2⟩
          simp only [Instr.fill, hpl]
          rw [if_neg (by simp; omega), e1]
          exact g1
        · cases h
      · cases h

theorem mapM_places {P : Program} {l : List Field} {w : World} (hs : ∀ f ∈ l, ∃ n, ∀ w, (sizeOf f.type).run P w = .ok n w) :
    ∃ out : List (Nat × Nat), (l.mapM fun f => (do pure (f.offset, ← sizeOf f.type) : Sem (Nat × Nat))).run P w = .ok out w ∧ out.length = l.length ∧ ∀ (j : Nat) (f : Field), l[j]? = some f → ∃ n, out[j]? = some (f.offset, n) ∧ ∀ w, (sizeOf f.type).run P w = .ok n w := by
  induction l with
  | nil => exact ⟨[], rfl, rfl, by simp⟩
  | cons f fs ih =>
    obtain ⟨n, hn⟩ := hs f (by simp)
    obtain ⟨out, h1, h2, h3⟩ := ih (fun g hg => hs g (by simp [hg]))
    refine ⟨(f.offset, n) :: out, ?_, by simp [h2], fun j g hj => ?_⟩
    · rw [List.mapM_cons]
      simp only [Sem.run_bind, hn, Result.andThen_ok, Sem.run_pure, h1]
    · match j, hj with
      | 0, hj => simp at hj; subst hj; exact ⟨n, rfl, hn⟩
      | j + 1, hj => simp at hj; exact h3 j g hj

theorem fillF_place {place place' : Nat → Option (Nat × Nat)} : ∀ (ps : List (Nat × PV)) (cs out : List PV), (∀ i x, place i = some x → place' i = some x) → fillF place ps cs = some out → fillF place' ps cs = some out
  | [], _, _, _, h => h
  | (i, p) :: ps, cs, out, hp, h => by
    simp only [fillF] at h ⊢
    split at h
    · cases h
    · rename_i off size e
      rw [hp _ _ e]
      simp only
      split at h
      · rename_i hs
        rw [if_pos hs]
        split at h
        · rename_i hf
          rw [if_pos hf]
          exact fillF_place ps _ out hp h
        · cases h
      · cases h

theorem gives_build {E : Env} (hE : EnvOk E) {K ι st w} (h : Rel E.G K ι st w) {t : TypeId} {ti : TI} (hT : E.T t = some ti) (ps : List (Nat × PV)) (vs : Array (Nat × Value)) (hl : ps.length = vs.size)
    (hp : ∀ (j : Nat) (p : Nat × PV) (v : Nat × Value), ps[j]? = some p → vs[j]? = some v → p.1 = v.1 ∧ VRel K ι st p.2 v.2) {out : List PV}
    (ho : (∃ fs, ti.kind = .strct fs ∧ (∀ f ∈ fs, (E.T f.2).isSome = true) ∧ fillF (fun i => (fs[i]?).bind fun f => (E.T f.2).map fun tf => (f.1, tf.size)) ps ti.zero = some out) ∨
      ∃ n e te, ti.kind = .array n e ∧ E.T e = some te ∧ fillF (fun i => some (i * te.size, te.size)) ps ti.zero = some out) :
    Gives E.G K ι st w ((Instr.build t vs).run E.P w) (.agg out) st := by
  obtain ⟨d, i, ty⟩ := hE.ty hT
  obtain ⟨z, hz, hs, hzl, hr, hag, _⟩ := ty.hz
  have zr : ∀ (j : Nat) (p : PV) (v : Value), ti.zero[j]? = some p → z.cells[j]? = some v → VRel K ι st p v := fun j p v a b => by
    obtain ⟨v', a1, a2, a3⟩ := hr K j p a
    rw [b] at a1; injection a1 with a1; subst a1; exact .tree _ _ a2
  have zo : ∀ (j : Nat) (v : Value), z.cells[j]? = some v → v.oneCell' = true := fun j v b => by
    have hlt : j < ti.zero.length := by rw [hzl, ← hs]; exact (Array.getElem?_eq_some_iff.1 b).1
    obtain ⟨v', a1, a2, a3⟩ := hr K j _ (List.getElem?_eq_getElem hlt)
    rw [b] at a1; injection a1 with a1; subst a1; exact a3
  rcases ho with ⟨fs, hk, hall, hf⟩ | ⟨n, e, te, hk, hTe, hf⟩
  · obtain ⟨l, hu, hlf⟩ := kind_strct ty hk
    obtain ⟨pl, m1, m2, m3⟩ := mapM_places (P := E.P) (l := l.toList) (w := w) (fun f hf => by
      have : (f.offset, f.type) ∈ fs := by rw [← hlf]; exact List.mem_map.2 ⟨f, hf, rfl⟩
      obtain ⟨tf, htf⟩ := Option.isSome_iff_exists.1 (hall _ this)
      obtain ⟨d', i', ty'⟩ := hE.ty htf
      exact ⟨tf.size, fun w => ty'.sizeOf w⟩)
    have hf' := fillF_place (place' := fun i : Nat => pl[i]?) ps _ _ (fun i x hx => by
      obtain ⟨f, a1, a2⟩ := Option.bind_eq_some_iff.1 hx
      obtain ⟨tf, a3, a4⟩ := Option.map_eq_some_iff.1 a2
      obtain ⟨g, b1, b2, b3⟩ := field_at hlf (show fs[i]? = some (f.1, f.2) from a1)
      obtain ⟨n, c1, c2⟩ := m3 i g (by simpa using b1)
      obtain ⟨d', i', ty'⟩ := hE.ty a3
      have := c2 w
      rw [b3, ty'.sizeOf w] at this
      injection this with this
      rw [c1, ← a4, b2, this]) hf
    obtain ⟨us', g1, g2, g3, g4⟩ := fill_run (K := K) (ι := ι) (st := st) (fun i : Nat => pl[i]?) ps vs.toList ti.zero z.cells out hf' (by simpa using hl) (fun j p v a b => hp j p v a (by simpa using b)) (by omega) zo zr
    have : (Instr.build t vs).run E.P w = .ok (.agg us') w := by
      have m1' : (l.mapM fun f => (do pure (f.offset, ← sizeOf f.type) : Sem (Nat × Nat))).run E.P w = .ok pl.toArray w := by
        rw [Array.mapM_eq_mapM_toList]
        simp only [Sem.run_map, m1, Result.andThen_ok]
      simp only [Instr.build, Sem.run_bind, ty.zeroV hz, Result.andThen_ok, run_underlying hu, m1']
      have e : (fun x : Nat => pl.toArray[x]?) = (fun x : Nat => pl[x]?) := by funext x; simp
      rw [e, g1]
      rfl
    rw [this]
    exact Gives.pure h (.agg _ _ g2 g3 g4)
  · have hu := kind_array ty hk
    obtain ⟨d', i', tye⟩ := hE.ty hTe
    obtain ⟨us', g1, g2, g3, g4⟩ := fill_run (K := K) (ι := ι) (st := st) _ ps vs.toList ti.zero z.cells out hf (by simpa using hl) (fun j p v a b => hp j p v a (by simpa using b)) (by omega) zo zr
    have : (Instr.build t vs).run E.P w = .ok (.agg us') w := by
      simp only [Instr.build, Sem.run_bind, ty.zeroV hz, Result.andThen_ok, run_underlying hu, tye.sizeOf w]
      rw [g1]
      rfl
    rw [this]
    exact Gives.pure h (.agg _ _ g2 g3 g4)

end Go.Pv
