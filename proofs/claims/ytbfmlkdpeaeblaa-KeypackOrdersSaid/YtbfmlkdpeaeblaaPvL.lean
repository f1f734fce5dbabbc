/-
  The pure machine, part L: that the operations on plain values are the model's own (8): slice literals, append, len, min, max.
-/
import Derived.Test.YtbfmlkdpeaeblaaPvK
import Derived.Room.Entries
set_option linter.all false
set_option linter.unusedSimpArgs false
set_option linter.unusedVariables false
namespace Go.Pv

theorem share_cell {K ι st p v} (h : VRel K ι st p v) (hc : cellOk (tokRo p) = true) : TRel K (tokRo p) v := by
  cases p with
  | sl k es t =>
    cases t with
    | own i => exact h.slTree
    | ro => cases h with | tree _ _ h => exact h
    | full => cases h with | tree _ _ h => exact h
  | fn f caps =>
    cases caps with
    | cons c cs => simp [tokRo, cellOk] at hc
    | nil =>
      cases h with
      | tree _ _ h => exact h
      | fn _ _ vs hl h =>
        have : vs = #[] := Array.eq_empty_of_size_eq_zero (by simpa using hl.symm)
        subst this
        exact .fn f
  | int => cases h with | tree _ _ h => exact h
  | bool => cases h with | tree _ _ h => exact h
  | str => cases h with | tree _ _ h => exact h
  | nilp => cases h with | tree _ _ h => exact h
  | nilmap => cases h with | tree _ _ h => exact h
  | nilfn => cases h with | tree _ _ h => exact h
  | nilif => cases h with | tree _ _ h => exact h
  | _ => simp [tokRo, cellOk] at hc

/-- Rows of one size, filled in one after the other. -/
theorem fill_rows (k : Nat) : ∀ (vs : List Value) (s : Nat) (us : Array Value), (∀ v ∈ vs, v.cells.size = k) → (s + vs.length) * k ≤ us.size →
    ∃ us', Instr.fill (fun i => some (i * k, k)) us ((vs.zipIdx s).map fun q => (q.2, q.1)) = some us' ∧ us'.size = us.size ∧
      (∀ (j i : Nat) (v : Value), vs[j]? = some v → i < k → us'[(s + j) * k + i]? = v.cells[i]?) ∧ ∀ q, q < s * k → us'[q]? = us[q]?
  | [], s, us, _, _ => ⟨us, rfl, rfl, by simp, fun _ _ => rfl⟩
  | v :: vs, s, us, hk, hl => by
    have hv := hk v (by simp)
    have hsk : (s + 1) * k ≤ us.size := Nat.le_trans (Nat.mul_le_mul_right k (by simp)) hl
    have hsk' : s * k + k ≤ us.size := by rw [Nat.add_mul, Nat.one_mul] at hsk; exact hsk
    obtain ⟨f1, f2⟩ := fold_set v.cells.toList (s * k) 0 us (by simp; omega)
    have e1 : (v.cells.zipIdx.foldl (fun cs (c, j) => cs.setIfInBounds (s * k + j) c) us) = ((v.cells.toList.zipIdx 0).foldl (fun cs (c, j) => cs.setIfInBounds (s * k + j) c) us) := by
      rw [← Array.foldl_toList, Array.toList_zipIdx]
    obtain ⟨us', g1, g2, g3, g4⟩ := fill_rows k vs (s + 1) ((v.cells.toList.zipIdx 0).foldl (fun cs (c, j) => cs.setIfInBounds (s * k + j) c) us) (fun u hu => hk u (by simp [hu])) (by rw [f1]; simp only [List.length_cons] at hl; rw [show s + 1 + vs.length = s + (vs.length + 1) by omega]; exact hl)
    refine ⟨us', ?_, by rw [g2, f1], fun j i u hj hi => ?_, fun q hq => ?_⟩
    · simp only [List.zipIdx_cons, List.map_cons, Instr.fill]
      rw [if_neg (by simp; omega), e1]
      exact g1
    · match j, hj with
      | 0, hj =>
        simp at hj
        subst hj
        rw [Nat.add_zero, g4 _ (by rw [Nat.add_mul]; omega), f2]
        rw [if_pos (by simp; omega)]
        simp
      | j + 1, hj =>
        simp at hj
        rw [show s + (j + 1) = s + 1 + j by omega]
        exact g3 j i u hj hi
    · rw [g4 q (by rw [Nat.add_mul]; omega), f2, if_neg (by simp; omega)]

theorem flat_get {α : Type} (k : Nat) : ∀ (rows : List (List α)), (∀ r ∈ rows, r.length = k) → rows.flatten.length = rows.length * k ∧ ∀ (j i : Nat) (r : List α), rows[j]? = some r → i < k → rows.flatten[j * k + i]? = r[i]?
  | [], _ => ⟨by simp, by simp⟩
  | r :: rows, h => by
    have hr := h r (by simp)
    obtain ⟨h1, h2⟩ := flat_get k rows (fun x hx => h x (by simp [hx]))
    refine ⟨by simp [h1, hr, Nat.add_mul]; omega, fun j i x hj hi => ?_⟩
    rw [List.flatten_cons]
    match j, hj with
    | 0, hj => simp at hj; subst hj; rw [List.getElem?_append_left (by omega)]; simp
    | j + 1, hj =>
      simp at hj
      rw [List.getElem?_append_right (by rw [Nat.add_mul]; omega), ← h2 j i x hj hi]
      congr 1
      rw [Nat.add_mul]; omega

theorem gives_buildSlice {E : Env} (hE : EnvOk E) {K ι st w} (h : Rel E.G K ι st w) {t e : TypeId} {ti te : TI} (hT : E.T t = some ti) (hk : ti.kind = .slice e) (hTe : E.T e = some te) (hpos : 0 < te.size) (hsz : te.size ≤ 256)
    (ps : List PV) (vs : List Value) (hl : ps.length = vs.length) (hlen : ps.length ≤ 4096) (hp : ∀ (j : Nat) (p : PV) (v : Value), ps[j]? = some p → vs[j]? = some v → VRel K ι st p v)
    (hs : ∀ p ∈ ps, (scal p || isAgg p) = true ∧ (cellsOf p).length = te.size) (hc : ∀ p ∈ ps, ((cellsOf p).map tokRo).all cellOk = true) :
    Gives E.G K ι st w ((Instr.buildSlice t vs.length ((vs.zipIdx 0).map fun q => (q.2, q.1)).toArray).run E.P w) (.sl te.size (ps.map fun p => (cellsOf p).map tokRo) .full) st := by
  obtain ⟨d, i, ty⟩ := hE.ty hT
  obtain ⟨d', i', tye⟩ := hE.ty hTe
  have hu := kind_slice ty hk
  -- each value's cells
  have cv : ∀ (j : Nat) (p : PV) (v : Value), ps[j]? = some p → vs[j]? = some v → (cellsOf p).length = v.cells.size ∧ (∀ u ∈ v.cells.toList, u.oneCell' = true) ∧
      ∀ (i : Nat) (q : PV) (u : Value), (cellsOf p)[i]? = some q → v.cells.toList[i]? = some u → TRel K (tokRo q) u := by
    intro j p v a b
    have hm := List.mem_of_getElem? a
    obtain ⟨l1, o1, r1⟩ := (hp j p v a b).cellsV (isAgg_spec (hs p hm).1)
    refine ⟨l1, o1, fun i q u hq hu => share_cell (r1 i q u hq hu) ?_⟩
    have := hc p hm
    rw [List.all_eq_true] at this
    exact this _ (List.mem_map.2 ⟨q, List.mem_of_getElem? hq, rfl⟩)
  have cs : ∀ v ∈ vs, v.cells.size = te.size := by
    intro v hv
    obtain ⟨j, hj⟩ := List.mem_iff_getElem?.1 hv
    have hjl : j < ps.length := by rw [hl]; exact (List.getElem?_eq_some_iff.1 hj).1
    have a := List.getElem?_eq_getElem hjl
    rw [← (cv j _ v a hj).1]
    exact (hs _ (List.getElem_mem hjl)).2
  have hle : vs.length * te.size ≤ 16777216 := by
    have h1 : vs.length * te.size ≤ 4096 * te.size := Nat.mul_le_mul_right _ (by omega)
    omega
  -- the zero row
  obtain ⟨zr, hzs, hzr⟩ : ∃ zr : Array Value, zr.size = vs.length * te.size ∧ ∀ us', Instr.fill (fun i => some (i * te.size, te.size)) zr ((vs.zipIdx 0).map fun q => (q.2, q.1)) = some us' →
      (Instr.buildSlice t vs.length ((vs.zipIdx 0).map fun q => (q.2, q.1)).toArray).run E.P w = .ok (.slice (some ⟨w.heap.size, 0, none⟩) vs.length vs.length) (w.alloc (.cells us' e)) := by
    have hbig : ¬ (vs.length * te.size > 2 ^ 24) := by omega
    by_cases h0 : vs.length * te.size = 0
    · refine ⟨(Array.range (vs.length * te.size)).map ((#[] : Array Value)[· % (#[] : Array Value).size]!), by simp, fun us' hf => ?_⟩
      simp only [Instr.buildSlice, Sem.run_bind, run_underlying hu, Result.andThen_ok, tye.sizeOf w, if_neg hbig, if_pos h0, Sem.run_pure, hf]
      simp [newRow]
    · obtain ⟨z, hz, _⟩ := tye.hz
      refine ⟨(Array.range (vs.length * te.size)).map (z.cells[· % z.cells.size]!), by simp, fun us' hf => ?_⟩
      simp only [Instr.buildSlice, Sem.run_bind, run_underlying hu, Result.andThen_ok, tye.sizeOf w, if_neg hbig, if_neg h0, Sem.run_pure, tye.zeroV hz, hf]
      simp [newRow]
  obtain ⟨us', g1, g2, g3, _⟩ := fill_rows te.size vs 0 zr cs (by rw [hzs, Nat.zero_add]; exact Nat.le_refl _)
  have hsz' : us'.size = vs.length * te.size := by rw [g2, hzs]
  rw [hzr us' g1]
  have stp := Stp.newKnow h us' e us'.toList (fun j _ => by simp)
  have hm : vs.length ≤ maxLen := by
    have : maxLen = 9223372036854775807 := rfl
    omega
  have at_ : ∀ (j i : Nat) (r : List PV) (q : PV), (ps.map fun p => (cellsOf p).map tokRo)[j]? = some r → r[i]? = some q → ∀ v, us'.toList[j * te.size + i]? = some v → TRel (addK K w.heap.size us'.toList) q v ∧ v.oneCell' = true := by
    intro j i r q hr hq v hv
    rw [List.getElem?_map] at hr
    obtain ⟨p, hpj, rfl⟩ := Option.map_eq_some_iff.1 hr
    rw [List.getElem?_map] at hq
    obtain ⟨q0, hq0, rfl⟩ := Option.map_eq_some_iff.1 hq
    have hjl : j < vs.length := by rw [← hl]; exact (List.getElem?_eq_some_iff.1 hpj).1
    have hvj := List.getElem?_eq_getElem hjl
    obtain ⟨l1, o1, r1⟩ := cv j p _ hpj hvj
    have hil : i < te.size := by
      have := (List.getElem?_eq_some_iff.1 hq0).1
      have h2 := (hs p (List.mem_of_getElem? hpj)).2
      omega
    have := g3 j i _ hvj hil
    rw [Nat.zero_add] at this
    have e2 : us'[j * te.size + i]? = some v := by simpa using hv
    rw [this] at e2
    have e3 : (vs[j].cells.toList)[i]? = some v := by simpa using e2
    exact ⟨(r1 i q0 v hq0 e3).mono stp.ext.know, o1 v (List.mem_of_getElem? e3)⟩
  have hrows : ∀ (j : Nat) (r : List PV), (ps.map fun p => (cellsOf p).map tokRo)[j]? = some r → r.length = te.size := by
    intro j r hr
    rw [List.getElem?_map] at hr
    obtain ⟨p, hpj, rfl⟩ := Option.map_eq_some_iff.1 hr
    rw [List.length_map]
    exact (hs p (List.mem_of_getElem? hpj)).2
  have hlen' : (ps.map fun p => (cellsOf p).map tokRo).length = vs.length := by rw [List.length_map, hl]
  refine ⟨_, _, _, _, rfl, stp, .tree _ _ ?_⟩
  have key := TRel.slOf (K := addK K w.heap.size us'.toList) te.size (ps.map fun p => (cellsOf p).map tokRo) w.heap.size vs.length us'.toList (by rw [hlen']; simpa using hsz') (fun q hq => by rw [addK_at _ _ _ _ hq]) hrows
    (fun j i r q v hr hq hv => (at_ j i r q hr hq v hv).1) (fun v hv => by
      obtain ⟨q, hq⟩ := List.mem_iff_getElem?.1 hv
      have hql : q < vs.length * te.size := by
        have := (List.getElem?_eq_some_iff.1 hq).1
        simpa [hsz'] using this
      obtain ⟨e1, e2, e3⟩ := split_row hql
      have hj : q / te.size < (ps.map fun p => (cellsOf p).map tokRo).length := by rw [hlen']; exact e2
      have a := List.getElem?_eq_getElem hj
      have hi : q % te.size < ((ps.map fun p => (cellsOf p).map tokRo)[q / te.size]).length := by rw [hrows _ _ a]; exact e3
      exact (at_ _ _ _ _ a (List.getElem?_eq_getElem hi) v (by rw [← e1]; exact hq)).2) (by omega) hm .full (.inr ⟨rfl, hlen'.symm⟩)
  rw [hlen'] at key
  exact key

/-! ### append -/
/-- What is appended. -/
theorem src_of {E : Env} (hE : EnvOk E) {K ι st w} (h : Rel E.G K ι st w) {tx : TypeId} {te : TI} {x : PV} {b : Value} (hb : VRel K ι st x b) (es2 : List (List PV)) (k2 : Nat)
    (ho : (∃ tox ttx e', E.T tx = some ttx ∧ ttx.kind = .slice e' ∧ x = .sl k2 es2 tox) ∨ ∃ ttx s, E.T tx = some ttx ∧ ttx.kind = .str ∧ x = .str s ∧ es2 = s.map (fun c => [.int .u8 c.toNat]) ∧ k2 = 1) (hk : k2 = te.size ∨ es2 = []) :
    ∃ news, Src E.P te.size tx b es2.length news w ∧ (∀ (j : Nat) (e : List PV), es2[j]? = some e → e.length = k2) ∧
      ∀ (j i : Nat) (e : List PV) (p : PV) (v : Value), es2[j]? = some e → e[i]? = some p → news[j * te.size + i]? = some v → TRel K p v := by
  rcases ho with ⟨tox, ttx, e', hT, hkk, rfl⟩ | ⟨ttx, s, hT, hkk, rfl, rfl, rfl⟩
  · obtain ⟨d, i, ty⟩ := hE.ty hT
    have hu := kind_slice ty hkk
    obtain ⟨A, c, bb, off, f, rfl, hkl, hA, hK, hv, h1, _⟩ := hb.slTree.slCells
    by_cases hne : es2 = []
    · subst hne
      refine ⟨[], ?_, hkl, by simp⟩
      cases A with
      | none => exact ⟨.inl ⟨e', hu⟩, fun _ => rfl, run_firstCells_none w te.size 0 0 c, run_firstCells_none w.drew te.size 0 0 c, by simp, by simp⟩
      | some ad => exact Src.ofSlice w hu ad 0 c [] (by simp) (by simp) (by simp)
    · have hk' : k2 = te.size := hk.resolve_right hne
      subst hk'
      rw [hA hne]
      refine ⟨flatF f es2.length te.size, Src.ofSlice w hu _ _ c _ (flatF_length _ _ _) (fun j u hj => ?_) (fun u hu' => ?_), hkl, fun j i e p v hj hi hv' => ?_⟩
      · have hlt : j < es2.length * te.size := by rw [← flatF_length f]; exact (List.getElem?_eq_some_iff.1 hj).1
        rw [flatF_get _ _ _ _ hlt] at hj
        injection hj with hj
        rw [Addr.add_mid, ← hj]
        exact h.know _ _ (hK j hlt)
      · obtain ⟨j, i, rfl⟩ := flatF_mem hu'
        exact h1 j i
      · have hjl : j < es2.length := (List.getElem?_eq_some_iff.1 hj).1
        have hil : i < te.size := by rw [← hkl j e hj]; exact (List.getElem?_eq_some_iff.1 hi).1
        rw [flatF_at f hjl hil] at hv'
        injection hv' with hv'
        rw [← hv']
        exact hv j i e p hj hi
  · obtain ⟨d, i, ty⟩ := hE.ty hT
    have hu := kind_str ty hkk
    rw [hb.strV]
    have hlen : (s.map fun c => [PV.int .u8 c.toNat]).length = (bytesV s).size := by simp [bytesV, ByteArray.size]
    by_cases hne : s = []
    · subst hne
      refine ⟨[], ⟨.inr hu, fun _ => rfl, ?_, ?_, by simp, by simp⟩, by simp, by simp⟩
      · simp [Builtin.firstCells, bytesV]
      · simp [Builtin.firstCells, bytesV]
    · have hk' : 1 = te.size := hk.resolve_right (by simpa using hne)
      rw [← hk', hlen]
      refine ⟨byteCells (bytesV s), Src.ofString w hu _, fun j e hj => ?_, fun j i e p v hj hi hv => ?_⟩
      · simp at hj
        obtain ⟨c, _, rfl⟩ := hj
        rfl
      · rw [List.getElem?_map] at hj
        obtain ⟨c, hc, rfl⟩ := Option.map_eq_some_iff.1 hj
        have hi0 : i = 0 := by
          have := (List.getElem?_eq_some_iff.1 hi).1
          simp at this; omega
        subst hi0
        simp at hi
        subst hi
        simp only [Nat.mul_one, Nat.add_zero, byteCells, bytesV, List.getElem?_map, hc] at hv
        simp at hv
        rw [← hv]
        exact .int _ _

end Go.Pv
