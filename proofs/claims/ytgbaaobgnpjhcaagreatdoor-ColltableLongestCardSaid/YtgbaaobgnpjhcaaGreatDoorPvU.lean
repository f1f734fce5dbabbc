/-
  The pure machine, part L: that the operations on plain values are the model's own (8): slice literals, append, len, min, max.
-/
import Derived.Test.YtgbaaobgnpjhcaaGreatDoorPvK
import Derived.Room.Entries
import Derived.Laws.NewFold
import Derived.Laws.BytesString
import Derived.Laws.Cells
import Derived.TacticsIn
set_option linter.all false
set_option linter.unusedSimpArgs false
set_option linter.unusedVariables false
section
namespace Go.Pv

theorem share_cell {K ι st p v} (h : VRel K ι st p v) (hc : cellOk (tokRo p) = true) : TRel K (tokRo p) v := by
  cases p with
  | sl k es t =>
    cases t with
    | own i => exact h.slTree
    | ro => cases h with | tree _ _ h => exact h
    | full => cases h with | tree _ _ h => exact h
  | fn f caps =>
    cases caps with
    | cons c cs => simp [tokRo, cellOk] at hc
    | nil =>
      cases h with
      | tree _ _ h => exact h
      | fn _ _ vs hl h =>
        have : vs = #[] := Array.eq_empty_of_size_eq_zero (by simpa using hl.symm)
        subst this
        exact .fn f
  | int => cases h with | tree _ _ h => exact h
  | bool => cases h with | tree _ _ h => exact h
  | str => cases h with | tree _ _ h => exact h
  | nilp => cases h with | tree _ _ h => exact h
  | nilmap => cases h with | tree _ _ h => exact h
  | nilfn => cases h with | tree _ _ h => exact h
  | nilif => cases h with | tree _ _ h => exact h
  | _ => simp [tokRo, cellOk] at hc

/-- Rows of one size, filled in one after the other. -/
theorem fill_rows (k : Nat) : ∀ (vs : List Value) (s : Nat) (us : Array Value), (∀ v ∈ vs, v.cells.size = k) → (s + vs.length) * k ≤ us.size →
    ∃ us', Instr.fill (fun i => some (i * k, k)) us ((vs.zipIdx s).map fun q => (q.2, q.1)) = some us' ∧ us'.size = us.size ∧
      (∀ (j i : Nat) (v : Value), vs[j]? = some v → i < k → us'[(s + j) * k + i]? = v.cells[i]?) ∧ ∀ q, q < s * k → us'[q]? = us[q]?
  | [], s, us, _, _ => ⟨us, rfl, rfl, by simp, fun _ _ => rfl⟩
  | v :: vs, s, us, hk, hl => by
    have hv := hk v (by simp)
    have hsk : (s + 1) * k ≤ us.size := Nat.le_trans (Nat.mul_le_mul_right k (by simp)) hl
    have hsk' : s * k + k ≤ us.size := by rw [Nat.add_mul, Nat.one_mul] at hsk; exact hsk
    obtain ⟨f1, f2⟩ := fold_set v.cells.toList (s * k) 0 us (by simp; omega)
    have e1 : (v.cells.zipIdx.foldl (fun cs (c, j) => cs.setIfInBounds (s * k + j) c) us) = ((v.cells.toList.zipIdx 0).foldl (fun cs (c, j) => cs.setIfInBounds (s * k + j) c) us) := by
      rw [← Array.foldl_toList, Array.toList_zipIdx]
    obtain ⟨us', g1, g2, g3, g4⟩ := fill_rows k vs (s + 1) ((v.cells.toList.zipIdx 0).foldl (fun cs (c, j) => cs.setIfInBounds (s * k + j) c) us) (fun u hu => hk u (by simp [hu])) (by rw [f1]; simp only [List.length_cons] at hl; rw [show s + 1 + vs.length = s + (vs.length + 1) by omega]; exact hl)
    refine ⟨us', ?_, by rw [g2, f1], fun j i u hj hi => ?_, fun q hq => ?_⟩
    · simp only [List.zipIdx_cons, List.map_cons, Instr.fill]
      rw [if_neg (by simp; omega), e1]
      exact g1
    · match j, hj with
      | 0, hj =>
        simp at hj
        subst hj
        rw [Nat.add_zero, g4 _ (by rw [Nat.add_mul]; omega), f2]
        rw [if_pos (by simp; omega)]
        simp
      | j + 1, hj =>
        simp at hj
        rw [show s + (j + 1) = s + 1 + j by omega]
        exact g3 j i u hj hi
    · rw [g4 q (by rw [Nat.add_mul]; omega), f2, if_neg (by simp; omega)]

theorem flat_get {α : Type} (k : Nat) : ∀ (rows : List (List α)), (∀ r ∈ rows, r.length = k) → rows.flatten.length = rows.length * k ∧ ∀ (j i : Nat) (r : List α), rows[j]? = some r → i < k → rows.flatten[j * k + i]? = r[i]?
  | [], _ => ⟨by simp, by simp⟩
  | r :: rows, h => by
    have hr := h r (by simp)
    obtain ⟨h1, h2⟩ := flat_get k rows (fun x hx => h x (by simp [hx]))
    refine ⟨by simp [h1, hr, Nat.add_mul]; omega, fun j i x hj hi => ?_⟩
    rw [List.flatten_cons]
    match j, hj with
    | 0, hj => simp at hj; subst hj; rw [List.getElem?_append_left (by omega)]; simp
    | j + 1, hj =>
      simp at hj
      rw [List.getElem?_append_right (by rw [Nat.add_mul]; omega), ← h2 j i x hj hi]
      congr 1
      rw [Nat.add_mul]; omega

theorem gives_buildSlice {E : Env} (hE : EnvOk E) {K ι st w} (h : Rel E.G K ι st w) {t e : TypeId} {ti te : TI} (hT : E.T t = some ti) (hk : ti.kind = .slice e) (hTe : E.T e = some te) (hpos : 0 < te.size) (hsz : te.size ≤ 256)
    (ps : List PV) (vs : List Value) (hl : ps.length = vs.length) (hlen : ps.length ≤ 4096) (hp : ∀ (j : Nat) (p : PV) (v : Value), ps[j]? = some p → vs[j]? = some v → VRel K ι st p v)
    (hs : ∀ p ∈ ps, (scal p || isAgg p) = true ∧ (cellsOf p).length = te.size) (hc : ∀ p ∈ ps, ((cellsOf p).map tokRo).all cellOk = true) :
    Gives E.G K ι st w ((Instr.buildSlice t vs.length ((vs.zipIdx 0).map fun q => (q.2, q.1)).toArray).run E.P w) (.sl te.size (ps.map fun p => (cellsOf p).map tokRo) .full) st := by
  obtain ⟨d, i, ty⟩ := hE.ty hT
  obtain ⟨d', i', tye⟩ := hE.ty hTe
  have hu := kind_slice ty hk
  -- each value's cells
  have cv : ∀ (j : Nat) (p : PV) (v : Value), ps[j]? = some p → vs[j]? = some v → (cellsOf p).length = v.cells.size ∧ (∀ u ∈ v.cells.toList, u.oneCell' = true) ∧
      ∀ (i : Nat) (q : PV) (u : Value), (cellsOf p)[i]? = some q → v.cells.toList[i]? = some u → TRel K (tokRo q) u := by
    intro j p v a b
    have hm := List.mem_of_getElem? a
    obtain ⟨l1, o1, r1⟩ := (hp j p v a b).cellsV (isAgg_spec (hs p hm).1)
    refine ⟨l1, o1, fun i q u hq hu => share_cell (r1 i q u hq hu) ?_⟩
    have := hc p hm
    rw [List.all_eq_true] at this
    exact this _ (List.mem_map.2 ⟨q, List.mem_of_getElem? hq, rfl⟩)
  have cs : ∀ v ∈ vs, v.cells.size = te.size := by
    intro v hv
    obtain ⟨j, hj⟩ := List.mem_iff_getElem?.1 hv
    have hjl : j < ps.length := by rw [hl]; exact (List.getElem?_eq_some_iff.1 hj).1
    have a := List.getElem?_eq_getElem hjl
    rw [← (cv j _ v a hj).1]
    exact (hs _ (List.getElem_mem hjl)).2
  have hle : vs.length * te.size ≤ 16777216 := by
    have h1 : vs.length * te.size ≤ 4096 * te.size := Nat.mul_le_mul_right _ (by omega)
    omega
  -- the zero row
  obtain ⟨zr, hzs, hzr⟩ : ∃ zr : Array Value, zr.size = vs.length * te.size ∧ ∀ us', Instr.fill (fun i => some (i * te.size, te.size)) zr ((vs.zipIdx 0).map fun q => (q.2, q.1)) = some us' →
      (Instr.buildSlice t vs.length ((vs.zipIdx 0).map fun q => (q.2, q.1)).toArray).run E.P w = .ok (.slice (some ⟨w.heap.size, 0, none⟩) vs.length vs.length) (w.alloc (.cells us' e)) := by
    have hbig : ¬ (vs.length * te.size > 2 ^ 24) := by omega
    by_cases h0 : vs.length * te.size = 0
    · refine ⟨(Array.range (vs.length * te.size)).map ((#[] : Array Value)[· % (#[] : Array Value).size]!), by simp, fun us' hf => ?_⟩
      simp only [Instr.buildSlice, Sem.run_bind, run_underlying hu, Result.andThen_ok, tye.sizeOf w, if_neg hbig, if_pos h0, Sem.run_pure, hf]
      simp [newRow]
    · obtain ⟨z, hz, _⟩ := tye.hz
      refine ⟨(Array.range (vs.length * te.size)).map (z.cells[· % z.cells.size]!), by simp, fun us' hf => ?_⟩
      simp only [Instr.buildSlice, Sem.run_bind, run_underlying hu, Result.andThen_ok, tye.sizeOf w, if_neg hbig, if_neg h0, Sem.run_pure, tye.zeroV hz, hf]
      simp [newRow]
  obtain ⟨us', g1, g2, g3, _⟩ := fill_rows te.size vs 0 zr cs (by rw [hzs, Nat.zero_add]; exact Nat.le_refl _)
  have hsz' : us'.size = vs.length * te.size := by rw [g2, hzs]
  rw [hzr us' g1]
  have stp := Stp.newKnow h us' e us'.toList (fun j _ => by simp)
  have hm : vs.length ≤ maxLen := by
    have : maxLen = 9223372036854775807 := rfl
    omega
  have at_ : ∀ (j i : Nat) (r : List PV) (q : PV), (ps.map fun p => (cellsOf p).map tokRo)[j]? = some r → r[i]? = some q → ∀ v, us'.toList[j * te.size + i]? = some v → TRel (addK K w.heap.size us'.toList) q v ∧ v.oneCell' = true := by
    intro j i r q hr hq v hv
    rw [List.getElem?_map] at hr
    obtain ⟨p, hpj, rfl⟩ := Option.map_eq_some_iff.1 hr
    rw [List.getElem?_map] at hq
    obtain ⟨q0, hq0, rfl⟩ := Option.map_eq_some_iff.1 hq
    have hjl : j < vs.length := by rw [← hl]; exact (List.getElem?_eq_some_iff.1 hpj).1
    have hvj := List.getElem?_eq_getElem hjl
    obtain ⟨l1, o1, r1⟩ := cv j p _ hpj hvj
    have hil : i < te.size := by
      have := (List.getElem?_eq_some_iff.1 hq0).1
      have h2 := (hs p (List.mem_of_getElem? hpj)).2
      omega
    have := g3 j i _ hvj hil
    rw [Nat.zero_add] at this
    have e2 : us'[j * te.size + i]? = some v := by simpa using hv
    rw [this] at e2
    have e3 : (vs[j].cells.toList)[i]? = some v := by simpa using e2
    exact ⟨(r1 i q0 v hq0 e3).mono stp.ext.know, o1 v (List.mem_of_getElem? e3)⟩
  have hrows : ∀ (j : Nat) (r : List PV), (ps.map fun p => (cellsOf p).map tokRo)[j]? = some r → r.length = te.size := by
    intro j r hr
    rw [List.getElem?_map] at hr
    obtain ⟨p, hpj, rfl⟩ := Option.map_eq_some_iff.1 hr
    rw [List.length_map]
    exact (hs p (List.mem_of_getElem? hpj)).2
  have hlen' : (ps.map fun p => (cellsOf p).map tokRo).length = vs.length := by rw [List.length_map, hl]
  refine ⟨_, _, _, _, rfl, stp, .tree _ _ ?_⟩
  have key := TRel.slOf (K := addK K w.heap.size us'.toList) te.size (ps.map fun p => (cellsOf p).map tokRo) w.heap.size vs.length us'.toList (by rw [hlen']; simpa using hsz') (fun q hq => by rw [addK_at _ _ _ _ hq]) hrows
    (fun j i r q v hr hq hv => (at_ j i r q hr hq v hv).1) (fun v hv => by
      obtain ⟨q, hq⟩ := List.mem_iff_getElem?.1 hv
      have hql : q < vs.length * te.size := by
        have := (List.getElem?_eq_some_iff.1 hq).1
        simpa [hsz'] using this
      obtain ⟨e1, e2, e3⟩ := split_row hql
      have hj : q / te.size < (ps.map fun p => (cellsOf p).map tokRo).length := by rw [hlen']; exact e2
      have a := List.getElem?_eq_getElem hj
      have hi : q % te.size < ((ps.map fun p => (cellsOf p).map tokRo)[q / te.size]).length := by rw [hrows _ _ a]; exact e3
      exact (at_ _ _ _ _ a (List.getElem?_eq_getElem hi) v (by rw [← e1]; exact hq)).2) (by omega) hm .full (.inr ⟨rfl, hlen'.symm⟩)
  rw [hlen'] at key
  exact key

/-! ### append -/
/-- What is appended. -/
theorem src_of {E : Env} (hE : EnvOk E) {K ι st w} (h : Rel E.G K ι st w) {tx : TypeId} {te : TI} {x : PV} {b : Value} (hb : VRel K ι st x b) (es2 : List (List PV)) (k2 : Nat)
    (ho : (∃ tox ttx e', E.T tx = some ttx ∧ ttx.kind = .slice e' ∧ x = .sl k2 es2 tox) ∨ ∃ ttx s, E.T tx = some ttx ∧ ttx.kind = .str ∧ x = .str s ∧ es2 = s.map (fun c => [.int .u8 c.toNat]) ∧ k2 = 1) (hk : k2 = te.size ∨ es2 = []) :
    ∃ news, Src E.P te.size tx b es2.length news w ∧ (∀ (j : Nat) (e : List PV), es2[j]? = some e → e.length = k2) ∧
      ∀ (j i : Nat) (e : List PV) (p : PV) (v : Value), es2[j]? = some e → e[i]? = some p → news[j * te.size + i]? = some v → TRel K p v := by
  rcases ho with ⟨tox, ttx, e', hT, hkk, rfl⟩ | ⟨ttx, s, hT, hkk, rfl, rfl, rfl⟩
  · obtain ⟨d, i, ty⟩ := hE.ty hT
    have hu := kind_slice ty hkk
    obtain ⟨A, c, bb, off, f, rfl, hkl, hA, hK, hv, h1, _⟩ := hb.slTree.slCells
    by_cases hne : es2 = []
    · subst hne
      refine ⟨[], ?_, hkl, by simp⟩
      cases A with
      | none => exact ⟨.inl ⟨e', hu⟩, fun _ => rfl, run_firstCells_none w te.size 0 0 c, run_firstCells_none w.drew te.size 0 0 c, by simp, by simp⟩
      | some ad => exact Src.ofSlice w hu ad 0 c [] (by simp) (by simp) (by simp)
    · have hk' : k2 = te.size := hk.resolve_right hne
      subst hk'
      rw [hA hne]
      refine ⟨flatF f es2.length te.size, Src.ofSlice w hu _ _ c _ (flatF_length _ _ _) (fun j u hj => ?_) (fun u hu' => ?_), hkl, fun j i e p v hj hi hv' => ?_⟩
      · have hlt : j < es2.length * te.size := by rw [← flatF_length f]; exact (List.getElem?_eq_some_iff.1 hj).1
        rw [flatF_get _ _ _ _ hlt] at hj
        injection hj with hj
        rw [Addr.add_mid, ← hj]
        exact h.know _ _ (hK j hlt)
      · obtain ⟨j, i, rfl⟩ := flatF_mem hu'
        exact h1 j i
      · have hjl : j < es2.length := (List.getElem?_eq_some_iff.1 hj).1
        have hil : i < te.size := by rw [← hkl j e hj]; exact (List.getElem?_eq_some_iff.1 hi).1
        rw [flatF_at f hjl hil] at hv'
        injection hv' with hv'
        rw [← hv']
        exact hv j i e p hj hi
  · obtain ⟨d, i, ty⟩ := hE.ty hT
    have hu := kind_str ty hkk
    rw [hb.strV]
    have hlen : (s.map fun c => [PV.int .u8 c.toNat]).length = (bytesV s).size := by simp [bytesV, ByteArray.size]
    by_cases hne : s = []
    · subst hne
      refine ⟨[], ⟨.inr hu, fun _ => rfl, ?_, ?_, by simp, by simp⟩, by simp, by simp⟩
      · simp [Builtin.firstCells, bytesV]
      · simp [Builtin.firstCells, bytesV]
    · have hk' : 1 = te.size := hk.resolve_right (by simpa using hne)
      rw [← hk', hlen]
      refine ⟨byteCells (bytesV s), Src.ofString w hu _, fun j e hj => ?_, fun j i e p v hj hi hv => ?_⟩
      · simp at hj
        obtain ⟨c, _, rfl⟩ := hj
        rfl
      · rw [List.getElem?_map] at hj
        obtain ⟨c, hc, rfl⟩ := Option.map_eq_some_iff.1 hj
        have hi0 : i = 0 := by
          have := (List.getElem?_eq_some_iff.1 hi).1
          simp at this; omega
        subst hi0
        simp at hi
        subst hi
        simp only [Nat.mul_one, Nat.add_zero, byteCells, bytesV, List.getElem?_map, hc] at hv
        simp at hv
        rw [← hv]
        exact .int _ _

end Go.Pv
end
section
namespace Go.Pv

theorem firstCells_nil {P : Program} (size : Nat) (A : Option Addr) (c : Nat) (w : World) : (Builtin.firstCells size 0 (.slice A 0 c)).run P w = .ok #[] w := by
  cases A with
  | none => exact run_firstCells_none w size 0 0 c
  | some ad => exact run_firstCells_some w size 0 ad 0 c [] (by simp) (by simp)

theorem append_nothing {P : Program} {t tx e ty : TypeId} {te : TI} {dd i} (hu : P.underlying t = some (.slice e)) (tye : TyFacts P e te dd i) {A : Option Addr} {n c : Nat} {b : Value} {w : World} (hs : Src P te.size tx b 0 [] w) (hc : n ≤ c) :
    (Builtin.append_ #[t, tx] ty #[.slice A n c, b]).run P w = .ok (.slice A n c) w := by
  have hcells := hs.cells
  have e0 : (#[] : Array Value) = ([] : List Value).toArray := rfl
  rcases hs.kind with ⟨e', hk⟩ | hk <;> cases A <;>
    simp [Builtin.append_, run_underlying hu, run_underlying hk, tye.sizeOf, hs.len, hc, hcells, storeCells]

theorem row_new {K : Know} {k : Nat} {es es2 : List (List PV)} {b : Nat} {c : Nat} (olds news : List Value) (h1 : olds.length = es.length * k) (h2 : news.length = es2.length * k)
    (hk1 : ∀ (j : Nat) (e : List PV), es[j]? = some e → e.length = k) (hk2 : ∀ (j : Nat) (e : List PV), es2[j]? = some e → e.length = k)
    (hv1 : ∀ (j i : Nat) (e : List PV) (p : PV) (v : Value), es[j]? = some e → e[i]? = some p → olds[j * k + i]? = some v → TRel K p v)
    (hv2 : ∀ (j i : Nat) (e : List PV) (p : PV) (v : Value), es2[j]? = some e → e[i]? = some p → news[j * k + i]? = some v → TRel K p v)
    (ho : ∀ v ∈ olds, v.oneCell' = true) (hn : ∀ v ∈ news, v.oneCell' = true) (hK : ∀ q, q < (olds ++ news).length → K ⟨b, q, none⟩ = (olds ++ news)[q]?) (hc : es.length + es2.length ≤ c) (hm : c ≤ maxLen) :
    TRel K (.sl k (es ++ es2) .ro) (.slice (some ⟨b, 0, none⟩) (es.length + es2.length) c) := by
  have hl : (es ++ es2).length = es.length + es2.length := List.length_append
  rw [← hl]
  refine TRel.slOf k (es ++ es2) b c (olds ++ news) (by rw [List.length_append, h1, h2, hl, Nat.add_mul]) hK (fun j e he => ?_) (fun j i e p v he hp hv => ?_) (fun v hv => ?_) (by omega) hm .ro (.inl rfl)
  · by_cases hj : j < es.length
    · rw [List.getElem?_append_left hj] at he; exact hk1 j e he
    · rw [List.getElem?_append_right (by omega)] at he; exact hk2 _ e he
  · by_cases hj : j < es.length
    · rw [List.getElem?_append_left hj] at he
      have hi : i < k := by rw [← hk1 j e he]; exact (List.getElem?_eq_some_iff.1 hp).1
      rw [List.getElem?_append_left (by rw [h1]; exact row_lt hj hi)] at hv
      exact hv1 j i e p v he hp hv
    · rw [List.getElem?_append_right (by omega)] at he
      have hle : es.length * k ≤ j * k := Nat.mul_le_mul_right k (by omega)
      rw [List.getElem?_append_right (by rw [h1]; omega)] at hv
      refine hv2 (j - es.length) i e p v he hp ?_
      rw [← hv, h1]
      congr 1
      rw [Nat.sub_mul]; omega
  · rcases List.mem_append.1 hv with q | q
    · exact ho v q
    · exact hn v q

theorem maxLen_eq : maxLen = 9223372036854775807 := rfl

theorem gives_append {E : Env} (hE : EnvOk E) {K ι st w} (h : Rel E.G K ι st w) {t tx e ty : TypeId} {ti : TI} (hT : E.T t = some ti) (hk : ti.kind = .slice e) {s x q : PV} {a b : Value} {st' : Store} (ha : VRel K ι st s a) (hb : VRel K ι st x b)
    (es2 : List (List PV)) (k2 : Nat)
    (hx : (∃ tox ttx e', E.T tx = some ttx ∧ ttx.kind = .slice e' ∧ x = .sl k2 es2 tox) ∨ ∃ ttx s, E.T tx = some ttx ∧ ttx.kind = .str ∧ x = .str s ∧ es2 = s.map (fun c => [.int .u8 c.toNat]) ∧ k2 = 1)
    (ho : appendF E st e s es2 k2 = some (q, st')) : Gives E.G K ι st w ((Builtin.append_ #[t, tx] ty #[a, b]).run E.P w) q st' := by
  obtain ⟨d, i, tyt⟩ := hE.ty hT
  have hu := kind_slice tyt hk
  unfold appendF at ho
  split at ho
  · cases ho
  · rename_i te hTe
    obtain ⟨d', ie, tye⟩ := hE.ty hTe
    split at ho
    · rename_i k es tok
      split at ho
      · rename_i hcond
        obtain ⟨hlim, hpos, hk1, hk2⟩ := hcond
        unfold LIM at hlim
        obtain ⟨news, src, hl2, hv2⟩ := src_of hE h hb es2 k2 hx hk2
        have htr := ha.slTree
        obtain ⟨A, c, bb, off, f, rfl, hkl, hA, hK, hv, h1, hcc, hmm, hn, _⟩ := htr.slCells
        split at ho
        · rename_i he
          simp only [Option.some.injEq, Prod.mk.injEq] at ho
          obtain ⟨rfl, rfl⟩ := ho
          subst he
          have hnews : news = [] := List.eq_nil_of_length_eq_zero (by rw [src.newsLen]; simp)
          subst hnews
          rw [append_nothing (ty := ty) hu tye src hcc]
          exact Gives.pure h ha
        · rename_i hne
          have hm0 : 0 < es2.length := List.length_pos_iff.2 hne
          have hk2' : k2 = te.size := hk2.resolve_right hne
          have hz := tye.hz
          obtain ⟨z, hz, hzs, _⟩ := hz
          -- the cells that were there
          have old : ∃ olds : List Value, olds.length = es.length * te.size ∧ (Builtin.firstCells ie.size es.length (.slice A es.length c)).run E.P w.drew = .ok olds.toArray w.drew ∧ (∀ v ∈ olds, v.oneCell' = true) ∧
              (∀ (j i : Nat) (e : List PV) (p : PV) (v : Value), es[j]? = some e → e[i]? = some p → olds[j * te.size + i]? = some v → TRel K p v) ∧ (∀ (j : Nat) (e : List PV), es[j]? = some e → e.length = te.size) ∧
              ∀ q, q < olds.length → K ⟨bb, off + q, none⟩ = olds[q]? := by
            rcases hk1 with hk1 | hk1
            · subst hk1
              by_cases hes : es = []
              · subst hes
                exact ⟨[], by simp, firstCells_nil _ _ _ _, by simp, by simp, by simp, by simp⟩
              · rw [hA hes]
                refine ⟨flatF f es.length te.size, flatF_length _ _ _, ?_, fun v hv' => ?_, fun j i e p v he hp hv' => ?_, hkl, fun q hq => ?_⟩
                · refine run_firstCells_some w.drew _ _ _ _ _ _ (by rw [flatF_length, tye.hs]) (fun j v hj => ?_)
                  have hlt : j < es.length * te.size := by rw [← flatF_length f]; exact (List.getElem?_eq_some_iff.1 hj).1
                  rw [flatF_get _ _ _ _ hlt] at hj
                  injection hj with hj
                  rw [Addr.add_mid, World.cell?_drew, ← hj]
                  exact h.know _ _ (hK j hlt)
                · obtain ⟨j, i, rfl⟩ := flatF_mem hv'; exact h1 j i
                · have hjl : j < es.length := (List.getElem?_eq_some_iff.1 he).1
                  have hil : i < te.size := by rw [← hkl j e he]; exact (List.getElem?_eq_some_iff.1 hp).1
                  rw [flatF_at f hjl hil] at hv'
                  injection hv' with hv'
                  rw [← hv']
                  exact hv j i e p he hp
                · rw [flatF_length] at hq
                  rw [flatF_get _ _ _ _ hq]; exact hK q hq
            · subst hk1
              exact ⟨[], by simp, firstCells_nil _ _ _ _, by simp, by simp, by simp, by simp⟩
          obtain ⟨olds, o1, o2, o3, o4, o5, o6⟩ := old
          have nl : news.length = es2.length * te.size := src.newsLen
          have hl2' : ∀ (j : Nat) (e : List PV), es2[j]? = some e → e.length = te.size := fun j e he => hk2' ▸ hl2 j e he
          -- growth
          have grow : c < es.length + es2.length → (Builtin.append_ #[t, tx] ty #[.slice A es.length c, b]).run E.P w =
              .ok (.slice (some ⟨w.heap.size, 0, none⟩) (es.length + es2.length) (grownCap w (es.length + es2.length) c e))
                (w.drew.alloc (.cells ((olds ++ news).toArray ++ Builtin.zeroCells z.cells (grownCap w (es.length + es2.length) c e - (es.length + es2.length))) e)) := by
            intro hg
            refine run_append_grow_src w t tx ty e ie z hu tye.hi hz A es.length c olds o2 b es2.length news (by rw [tye.hs]; exact src) hg (by omega) ?_
            have hb := tye.hb
            have h2 := Go.Room.nextslicecap_le' hg
            calc Builtin.nextslicecap (es.length + es2.length) c * ie.bytes ≤ (2 * (es.length + es2.length)) * 4096 := Nat.mul_le_mul h2 hb
              _ ≤ 281474976710656 := by omega
          have cap1 := grownCap_ge w (es.length + es2.length) c e
          have cap2 := grownCap_le_maxLen w (es.length + es2.length) c e (by rw [maxLen_eq]; omega)
          have xl : (olds ++ news).length = (es.length + es2.length) * te.size := by rw [List.length_append, o1, nl, Nat.add_mul]
          have arrsz : ((olds ++ news).toArray ++ Builtin.zeroCells z.cells (grownCap w (es.length + es2.length) c e - (es.length + es2.length))).size = grownCap w (es.length + es2.length) c e * te.size := by
            rw [Array.size_append, size_zeroCells, hzs, List.size_toArray, xl, ← Nat.add_mul]
            congr 1; omega
          have arrget : ∀ j, j < (olds ++ news).length → ((olds ++ news).toArray ++ Builtin.zeroCells z.cells (grownCap w (es.length + es2.length) c e - (es.length + es2.length)))[j]? = (olds ++ news)[j]? := by
            intro j hj
            rw [Array.getElem?_append_left (by simpa using hj), List.getElem?_toArray]
          cases tok with
          | ro => cases ho
          | full =>
            simp only [Option.some.injEq, Prod.mk.injEq] at ho
            obtain ⟨rfl, rfl⟩ := ho
            have hcl : c = es.length := by
              cases ha with
              | tree _ _ q => cases q with | sl _ _ _ _ _ _ _ _ _ _ _ _ _ _ _ _ ht => simpa using ht
            have hg : c < es.length + es2.length := by omega
            rw [grow hg]
            have stp := (Stp.drew h).trans (Stp.tokNew h.drew _ e (es.length + es2.length) _ te.size (olds ++ news) arrsz cap1 cap2 hpos xl arrget)
            rw [World.size_drew] at stp
            refine ⟨_, _, _, _, rfl, stp, ?_⟩
            have hx := stp.ext.know
            have := VRel.own (K := addK K w.heap.size (olds ++ news)) (ι := ins ι st.length (.slice (some ⟨w.heap.size, 0, none⟩) (es.length + es2.length) (grownCap w (es.length + es2.length) c e))) (st := st ++ [.tok (es.length + es2.length) e te.size])
              te.size (es ++ es2) st.length (some ⟨w.heap.size, 0, none⟩) (grownCap w (es.length + es2.length) c e) (es.length + es2.length) e
              (by rw [List.length_append]; exact row_new olds news o1 nl o5 hl2' (fun j i e p v a b c => (o4 j i e p v a b c).mono hx) (fun j i e p v a b c => (hv2 j i e p v a b c).mono hx) o3 src.one (fun q hq => by rw [addK_at _ _ _ _ hq]) cap1 cap2)
              (by simp) (by simp) (fun _ => by rw [ins_same, List.length_append])
            rw [List.length_append] at this
            exact this
          | own id =>
            simp only at ho
            split at ho
            · rename_i n e' k' hst
              split at ho
              · rename_i hq
                obtain ⟨rfl, he', rfl, rfl⟩ := hq
                replace he' := he'.symm
                subst he'
                simp only [Option.some.injEq, Prod.mk.injEq] at ho
                obtain ⟨rfl, rfl⟩ := ho
                have hh : ι id = .slice A es.length c := by
                  cases ha with
                  | tree _ _ q => cases q with | sl _ _ _ _ _ _ _ _ _ _ _ _ _ _ _ _ ht => simp at ht
                  | own _ _ _ _ _ m e'' _ hst' hle heq =>
                    rw [hst] at hst'
                    injection hst' with hst'
                    injection hst' with q1 _ _
                    exact heq q1
                obtain ⟨b', cap, arr, hh', hw, a1, a2, a3, a4, a5⟩ := h.obj id _ hst
                rw [hh] at hh'
                injection hh' with q1 _ q3
                subst q1 q3
                -- the block's head is what is known
                have hhead : arr.toList.take (es.length * te.size) = olds := by
                  apply List.ext_getElem?
                  intro j
                  by_cases hj : j < es.length * te.size
                  · rw [take_getElem? _ hj]
                    have hne' : es ≠ [] := fun q => by rw [q] at hj; simp at hj
                    have hAA := hA hne'
                    injection hAA with hAA
                    injection hAA with q1 q2 _
                    have := h.know _ _ ((o6 j (by rw [o1]; exact hj)).trans (List.getElem?_eq_getElem (by rw [o1]; exact hj)))
                    rw [← q1, ← q2, Nat.zero_add] at this
                    simp [World.cell?, hw] at this
                    rw [List.getElem?_eq_getElem (l := olds) (by rw [o1]; exact hj)]
                    simpa using this
                  · rw [List.getElem?_eq_none (by rw [List.length_take]; omega), List.getElem?_eq_none (by rw [o1]; omega)]
                by_cases hroom : es.length + es2.length ≤ c
                · have run := run_append_room_src w t tx ty e ie hu tye.hi b' 0 es.length c b es2.length news (by rw [tye.hs]; exact src) hroom (fun j hj => by
                      rw [tye.hs, Nat.zero_add]
                      have hlt : es.length * te.size + j < arr.size := by
                        rw [a1]
                        have := Nat.mul_le_mul_right te.size hroom
                        rw [Nat.add_mul] at this
                        omega
                      simp [World.cell?, hw, hlt]) (fun j hj => frozen_of_row w b' _ arr e hw)
                  rw [run, tye.hs, Nat.zero_add]
                  have hfit : es.length * te.size + news.length ≤ arr.size := by
                    rw [a1, nl, ← Nat.add_mul]; exact Nat.mul_le_mul_right _ hroom
                  have hsr : w.setCells b' (es.length * te.size) news = w.setRow b' (arr.toList.take (es.length * te.size) ++ news ++ arr.toList.drop (es.length * te.size + news.length)).toArray := by
                    have e1 := run_storeCells_at E.P b' (es.length * te.size) e news 0 arr w hw (by simpa using hfit) src.one
                    have e2 := run_storeCells_cells (P := E.P) b' (es.length * te.size) news 0 w (fun j hj => by
                      have hlt : es.length * te.size + j < arr.size := by omega
                      simp [World.cell?, hw, hlt]) (fun j hj => frozen_of_row w b' _ arr e hw) src.one
                    simp only [Nat.add_zero] at e1 e2
                    rw [e1] at e2
                    injection e2 with _ e2
                    exact e2.symm
                  rw [hsr]
                  have stp := Stp.tokRoom h id es.length te.size e hst b' c arr hh hw es2.length news nl hroom
                  rw [hhead] at stp
                  rw [hhead]
                  refine ⟨_, _, _, _, rfl, stp, ?_⟩
                  have hx := stp.ext.know
                  have := VRel.own (K := addK K b' (olds ++ news)) (ι := ins ι id (.slice (some ⟨b', 0, none⟩) (es.length + es2.length) c)) (st := st.set id (.tok (es.length + es2.length) e te.size))
                    te.size (es ++ es2) id (some ⟨b', 0, none⟩) c (es.length + es2.length) e
                    (by rw [List.length_append]; exact row_new olds news o1 nl o5 hl2' (fun j i e p v a b c => (o4 j i e p v a b c).mono hx) (fun j i e p v a b c => (hv2 j i e p v a b c).mono hx) o3 src.one (fun q hq => by rw [addK_at _ _ _ _ hq]) hroom hmm)
                    (getElem?_set_eq' _ _ _ _ hst) (by simp) (fun _ => by rw [ins_same, List.length_append])
                  rw [List.length_append] at this
                  exact this
                · rw [grow (by omega)]
                  have stp := (Stp.drew h).trans (Stp.tokGrow h.drew id es.length te.size e hst es2.length hm0 _ _ (olds ++ news) arrsz cap1 cap2 xl arrget)
                  rw [World.size_drew] at stp
                  refine ⟨_, _, _, _, rfl, stp, ?_⟩
                  have hx := stp.ext.know
                  have := VRel.own (K := addK K w.heap.size (olds ++ news)) (ι := ins ι id (.slice (some ⟨w.heap.size, 0, none⟩) (es.length + es2.length) (grownCap w (es.length + es2.length) c e))) (st := st.set id (.tok (es.length + es2.length) e te.size))
                    te.size (es ++ es2) id (some ⟨w.heap.size, 0, none⟩) (grownCap w (es.length + es2.length) c e) (es.length + es2.length) e
                    (by rw [List.length_append]; exact row_new olds news o1 nl o5 hl2' (fun j i e p v a b c => (o4 j i e p v a b c).mono hx) (fun j i e p v a b c => (hv2 j i e p v a b c).mono hx) o3 src.one (fun q hq => by rw [addK_at _ _ _ _ hq]) cap1 cap2)
                    (getElem?_set_eq' _ _ _ _ hst) (by simp) (fun _ => by rw [ins_same, List.length_append])
                  rw [List.length_append] at this
                  exact this
              · cases ho
            · cases ho
      · cases ho
    · cases ho

/-- Rows laid side by side: each cell. -/
theorem flatR_get {k : Nat} : ∀ (es : List (List PV)), (∀ (j : Nat) (e : List PV), es[j]? = some e → e.length = k) → ∀ (q : Nat) (p : PV), es.flatten[q]? = some p → ∃ j i e, q = j * k + i ∧ i < k ∧ es[j]? = some e ∧ e[i]? = some p
  | [], _, q, p, h => by simp at h
  | e :: es, hl, q, p, h => by
    have h0 := hl 0 e rfl
    rw [List.flatten_cons] at h
    by_cases hq : q < e.length
    · rw [List.getElem?_append_left hq] at h
      exact ⟨0, q, e, by omega, by omega, rfl, h⟩
    · rw [List.getElem?_append_right (by omega)] at h
      obtain ⟨j, i, e', e1, e2, e3, e4⟩ := flatR_get es (fun j e he => hl (j + 1) e (by simpa using he)) _ p h
      exact ⟨j + 1, i, e', by rw [Nat.add_mul, Nat.one_mul]; omega, e2, by simpa using e3, e4⟩
theorem flatR_len {k : Nat} : ∀ (es : List (List PV)), (∀ (j : Nat) (e : List PV), es[j]? = some e → e.length = k) → es.flatten.length = es.length * k
  | [], _ => by simp
  | e :: es, hl => by
    have h0 := hl 0 e rfl
    rw [List.flatten_cons, List.length_append, flatR_len es (fun j e he => hl (j + 1) e (by simpa using he)), h0, List.length_cons, Nat.add_mul, Nat.one_mul, Nat.add_comm]

theorem gives_appendH {E : Env} (hE : EnvOk E) {K ι st w} (h : Rel E.G K ι st w) {t tx e ty : TypeId} {ti : TI} (hT : E.T t = some ti) (hk : ti.kind = .slice e) {s x q : PV} {a b : Value} {st' : Store} (ha : VRel K ι st s a) (hb : VRel K ι st x b)
    (es2 : List (List PV)) (k2 : Nat)
    (hx : (∃ tox ttx e', E.T tx = some ttx ∧ ttx.kind = .slice e' ∧ x = .sl k2 es2 tox) ∨ ∃ ttx s, E.T tx = some ttx ∧ ttx.kind = .str ∧ x = .str s ∧ es2 = s.map (fun c => [.int .u8 c.toNat]) ∧ k2 = 1)
    (ho : appendH E st e s es2 k2 = some (q, st')) : Gives E.G K ι st w ((Builtin.append_ #[t, tx] ty #[a, b]).run E.P w) q st' := by
  obtain ⟨d, i, tyt⟩ := hE.ty hT
  have hu := kind_slice tyt hk
  unfold appendH at ho
  split at ho
  · cases ho
  · rename_i te hTe
    obtain ⟨d', ie, tye⟩ := hE.ty hTe
    split at ho
    · rename_i hcond
      obtain ⟨hpos, hk2, hne⟩ := hcond
      obtain ⟨news, src, hl2, hv2⟩ := src_of hE h hb es2 k2 hx (.inl hk2)
      have nl : news.length = es2.length * te.size := src.newsLen
      obtain ⟨z, hz, hzs, _⟩ := tye.hz
      have hl2' : ∀ (j : Nat) (e : List PV), es2[j]? = some e → e.length = te.size := fun j e he => hk2 ▸ hl2 j e he
      have fl := flatR_len es2 hl2'
      have hm0 : 0 < es2.length := List.length_pos_iff.2 hne
      have hfl0 : 0 < es2.flatten.length := by rw [fl]; exact Nat.mul_pos hm0 hpos
      have newv : ∀ (q : Nat) (p : PV), es2.flatten[q]? = some p → ∃ v : Value, news[q]? = some v ∧ TRel K p v ∧ v.oneCell' = true := by
        intro q p hq
        obtain ⟨j, i, e', rfl, e1, e2, e3⟩ := flatR_get es2 hl2' q p hq
        have hlt : j * te.size + i < news.length := by rw [nl]; exact row_lt (List.getElem?_eq_some_iff.1 e2).1 e1
        exact ⟨_, List.getElem?_eq_getElem hlt, hv2 j i e' p _ e2 e3 (List.getElem?_eq_getElem hlt), src.one _ (List.getElem_mem hlt)⟩
      -- growth
      have grow : ∀ (A : Option Addr) (n c : Nat) (olds : List Value), olds.length = n * te.size → (Builtin.firstCells ie.size n (.slice A n c)).run E.P w.drew = .ok olds.toArray w.drew → n + es2.length ≤ 4294967296 → n ≤ c → c < n + es2.length →
          (Builtin.append_ #[t, tx] ty #[.slice A n c, b]).run E.P w =
            .ok (.slice (some ⟨w.heap.size, 0, none⟩) (n + es2.length) (grownCap w (n + es2.length) c e))
              (w.drew.alloc (.cells ((olds ++ news).toArray ++ Builtin.zeroCells z.cells (grownCap w (n + es2.length) c e - (n + es2.length))) e)) ∧
            n + es2.length ≤ grownCap w (n + es2.length) c e ∧ grownCap w (n + es2.length) c e ≤ maxLen ∧
            ((olds ++ news).toArray ++ Builtin.zeroCells z.cells (grownCap w (n + es2.length) c e - (n + es2.length))).size = grownCap w (n + es2.length) c e * te.size := by
        intro A n c olds o1 o2 hlim hnc hg
        have cap1 := grownCap_ge w (n + es2.length) c e
        refine ⟨?_, cap1, grownCap_le_maxLen w (n + es2.length) c e (by rw [maxLen_eq]; omega), ?_⟩
        · refine run_append_grow_src w t tx ty e ie z hu tye.hi hz A n c olds o2 b es2.length news (by rw [tye.hs]; exact src) hg (by omega) ?_
          have hb := tye.hb
          have h2 := Go.Room.nextslicecap_le' hg
          calc Builtin.nextslicecap (n + es2.length) c * ie.bytes ≤ (2 * (n + es2.length)) * 4096 := Nat.mul_le_mul h2 hb
            _ ≤ 281474976710656 := by omega
        · rw [Array.size_append, size_zeroCells, hzs, List.size_toArray, List.length_append, o1, nl, ← Nat.add_mul, ← Nat.add_mul]
          congr 1; omega
      split at ho
      · rename_i k0
        split at ho
        · rename_i hlim
          unfold LIM at hlim
          simp only [Option.some.injEq, Prod.mk.injEq] at ho
          obtain ⟨rfl, rfl⟩ := ho
          obtain ⟨A, rfl⟩ : ∃ A, a = .slice A 0 0 := by
            cases ha with
            | tree _ _ h =>
              cases h with
              | sl _ _ _ A c b off f _ _ _ _ _ hc hm hn ht =>
                rcases ht with e | ⟨_, e⟩
                · cases e
                · have : c = 0 := by simpa using e
                  subst this
                  exact ⟨A, rfl⟩
          obtain ⟨run, cap1, cap2, arrsz⟩ := grow A 0 0 [] (by simp) (firstCells_nil _ _ _ _) (by omega) (Nat.le_refl _) (by omega)
          rw [run]
          generalize harr : ((([] : List Value) ++ news).toArray ++ Builtin.zeroCells z.cells (grownCap w (0 + es2.length) 0 e - (0 + es2.length))) = arr at arrsz
          have hget : ∀ j, j < news.length → arr[j]? = news[j]? := by
            intro j hj
            rw [← harr, Array.getElem?_append_left (by simpa using hj), List.getElem?_toArray, List.nil_append]
          have hsz : es2.flatten.length ≤ arr.size := by
            rw [fl, arrsz]; exact Nat.mul_le_mul_right _ (by omega)
          have s1 := Stp.newOb h.drew (.cells es2.flatten) (.cells arr e) (.slice (some ⟨w.drew.heap.size, 0, none⟩) 0 arr.size) rfl
            (fun x hno => ⟨w.drew.heap.size, arr, e, rfl, heap_alloc_new w.drew _, hsz, fun i p hp => by
              obtain ⟨v, v1, v2, v3⟩ := newv i p hp
              have hi := (List.getElem?_eq_some_iff.1 v1).1
              exact ⟨v, by rw [hget i hi]; exact v1, .tree _ _ v2, v3⟩, fun j => hno j⟩)
          have stp := (Stp.drew h).trans s1
          refine ⟨_, _, _, _, rfl, stp, ?_⟩
          have hle0 : es2.length * te.size ≤ grownCap w (0 + es2.length) 0 e * te.size := Nat.mul_le_mul_right _ (by omega)
          have := VRel.osl (K := K) (ι := ins ι st.length (.slice (some ⟨w.drew.heap.size, 0, none⟩) 0 arr.size)) (st := st ++ [.cells es2.flatten]) st.length es2.flatten.length 0 es2.length te.size
            (some ⟨w.heap.size, 0, none⟩) (grownCap w (0 + es2.length) 0 e) es2.flatten (by simp) (Nat.le_refl _) (by omega) ⟨fun q => (by cases q), cap2⟩
            (fun _ => ⟨w.heap.size, arr.size, by rw [ins_same, World.size_drew], fun _ => rfl, by rw [fl]; omega, by rw [arrsz]; omega⟩)
          rw [Nat.zero_add] at this ⊢
          exact this
        · cases ho
      · rename_i id tot off len k
        split at ho
        · rename_i cs hst
          split at ho
          · rename_i hq
            obtain ⟨rfl, rfl, hlk, hlen, rfl, hlim⟩ := hq
            unfold LIM at hlim
            simp only [Option.some.injEq, Prod.mk.injEq] at ho
            obtain ⟨rfl, rfl⟩ := ho
            cases ha with
            | tree _ _ q => cases q
            | osl _ _ _ _ _ A c cs' hst' hle hlc hn heq =>
              rw [hst] at hst'
              injection hst' with hst'
              injection hst' with hst'
              subst hst'
              obtain ⟨b', s', hb1, hb2, hb3, hb4⟩ := heq rfl
              obtain ⟨b2, arr, e', hh, hw, hcl, hcells, hKn⟩ := h.obj id _ hst
              rw [hb1] at hh
              injection hh with hh1 _ hh2
              injection hh1 with hh1
              injection hh1 with hh1 _ _
              subst hh1 hh2
              have hA := hb2 (by omega)
              subst hA
              rw [Nat.zero_add] at hb4
              have o1 : (arr.toList.take (len * te.size)).length = len * te.size := by rw [List.length_take, Array.length_toList]; omega
              have newcells : ∀ (K' : Know) (ι' : Nat → Value) (st' : Store) (arr' : Array Value), Ext K ι st K' ι' st' → (∀ j, j < len * te.size → arr'[j]? = arr[j]?) → (∀ j, j < news.length → arr'[len * te.size + j]? = news[j]?) →
                  ∀ (i : Nat) (p : PV), (cs ++ es2.flatten)[i]? = some p → ∃ v : Value, arr'[i]? = some v ∧ VRel K' ι' st' p v ∧ v.oneCell' = true := by
                intro K' ι' st' arr' x g1 g2 i p hp
                by_cases hi : i < cs.length
                · rw [List.getElem?_append_left hi] at hp
                  obtain ⟨v, v1, v2, v3⟩ := hcells i p hp
                  exact ⟨v, by rw [g1 i (by omega)]; exact v1, v2.mono x, v3⟩
                · rw [List.getElem?_append_right (by omega)] at hp
                  obtain ⟨v, v1, v2, v3⟩ := newv _ p hp
                  have hi2 := (List.getElem?_eq_some_iff.1 v1).1
                  refine ⟨v, ?_, .tree _ _ (v2.mono x.know), v3⟩
                  rw [← v1, ← g2 _ hi2]
                  congr 1; omega
              have hlenN : (cs ++ es2.flatten).length = (len + es2.length) * te.size := by rw [List.length_append, fl, Nat.add_mul]; omega
              by_cases hroom : len + es2.length ≤ c
              · have run := run_append_room_src w t tx ty e ie hu tye.hi b' 0 len c b es2.length news (by rw [tye.hs]; exact src) hroom (fun j hj => by
                    rw [tye.hs, Nat.zero_add]
                    have hlt : len * te.size + j < arr.size := by
                      have := Nat.mul_le_mul_right te.size hroom
                      rw [Nat.add_mul] at this
                      omega
                    simp [World.cell?, hw, hlt]) (fun j hj => frozen_of_row w b' _ arr e' hw)
                rw [run, tye.hs, Nat.zero_add]
                have hfit : len * te.size + news.length ≤ arr.size := by
                  have := Nat.mul_le_mul_right te.size hroom
                  rw [Nat.add_mul] at this
                  omega
                have hsr : w.setCells b' (len * te.size) news = w.setRow b' (arr.toList.take (len * te.size) ++ news ++ arr.toList.drop (len * te.size + news.length)).toArray := by
                  have e1 := run_storeCells_at E.P b' (len * te.size) e' news 0 arr w hw (by simpa using hfit) src.one
                  have e2 := run_storeCells_cells (P := E.P) b' (len * te.size) news 0 w (fun j hj => by
                    have hlt : len * te.size + j < arr.size := by omega
                    simp [World.cell?, hw, hlt]) (fun j hj => frozen_of_row w b' _ arr e' hw) src.one
                  simp only [Nat.add_zero] at e1 e2
                  rw [e1] at e2
                  injection e2 with _ e2
                  exact e2.symm
                rw [hsr]
                generalize harr : (arr.toList.take (len * te.size) ++ news ++ arr.toList.drop (len * te.size + news.length)).toArray = arr'
                have hsz : arr'.size = arr.size := by
                  rw [← harr]
                  simp only [List.size_toArray, List.length_append, List.length_take, List.length_drop, Array.length_toList]; omega
                have g1 : ∀ j, j < len * te.size → arr'[j]? = arr[j]? := by
                  intro j hj
                  rw [← harr, List.getElem?_toArray, List.append_assoc, List.getElem?_append_left (by rw [o1]; exact hj), take_getElem? _ hj]
                  simp
                have g2 : ∀ j, j < news.length → arr'[len * te.size + j]? = news[j]? := by
                  intro j hj
                  rw [← harr, List.getElem?_toArray, List.append_assoc, List.getElem?_append_right (by rw [o1]; omega), o1, Nat.add_sub_cancel_left, List.getElem?_append_left hj]
                have stp := Stp.setOb h id (.cells cs) (.cells (cs ++ es2.flatten)) hst (ι id) ⟨by simp, fun _ => rfl⟩ K (fun _ _ q => q) (w.setRow b' arr') b' b' (by rw [hb1]; rfl) (by rw [hb1]; rfl) (.inl rfl) rfl rfl rfl (by simp)
                  (fun j _ hj => heap_setRow_other w b' j _ hj) (fun a v q => by
                    by_cases hab : a.block = b'
                    · exfalso
                      have hc := h.know a v q
                      obtain ⟨ab, ao, as⟩ := a
                      simp only at hab
                      subst hab
                      cases as with
                      | some s => simp [World.cell?, hw] at hc
                      | none => rw [hKn ao] at q; cases q
                    · rw [cell_setRow_other w b' _ a hab]; exact h.know a v q) (fun a v q => .inl q) (fun x => by
                    rw [ins_id] at x ⊢
                    exact ⟨b', arr', e', by rw [hb1, hsz], heap_setRow_same w b' arr _ e' hw, by rw [hlenN, hsz]; have := Nat.mul_le_mul_right te.size hroom; omega, newcells _ _ _ arr' x g1 g2, hKn⟩)
                rw [ins_id] at stp
                refine ⟨_, _, _, _, rfl, stp, ?_⟩
                have := VRel.osl (K := K) (ι := ι) (st := st.set id (.cells (cs ++ es2.flatten))) id (cs ++ es2.flatten).length 0 (len + es2.length) te.size (some ⟨b', 0, none⟩) c (cs ++ es2.flatten) (getElem?_set_eq' _ _ _ _ hst) (Nat.le_refl _) hroom hn
                  (fun _ => ⟨b', arr.size, hb1, fun _ => rfl, by rw [hlenN]; omega, by omega⟩)
                rw [List.length_append] at this
                exact this
              · obtain ⟨run, cap1, cap2, arrsz⟩ := grow (some ⟨b', 0, none⟩) len c (arr.toList.take (len * te.size)) o1 (run_firstCells_some w.drew _ _ _ _ _ _ (by rw [o1, tye.hs]) (fun j v hj => by
                  have hlt : j < len * te.size := by rw [← o1]; exact (List.getElem?_eq_some_iff.1 hj).1
                  rw [take_getElem? _ hlt] at hj
                  rw [Addr.add_mid, World.cell?_drew, Nat.zero_add]
                  simp [World.cell?, hw]
                  simpa using hj)) hlim hlc (by omega)
                rw [run]
                generalize harr : ((arr.toList.take (len * te.size) ++ news).toArray ++ Builtin.zeroCells z.cells (grownCap w (len + es2.length) c e - (len + es2.length))) = arr' at arrsz
                have g0 : ∀ j, j < (arr.toList.take (len * te.size) ++ news).length → arr'[j]? = (arr.toList.take (len * te.size) ++ news)[j]? := by
                  intro j hj
                  rw [← harr, Array.getElem?_append_left (by simpa using hj), List.getElem?_toArray]
                have g1 : ∀ j, j < len * te.size → arr'[j]? = arr[j]? := by
                  intro j hj
                  rw [g0 j (by rw [List.length_append, o1]; omega), List.getElem?_append_left (by rw [o1]; exact hj), take_getElem? _ hj]
                  simp
                have g2 : ∀ j, j < news.length → arr'[len * te.size + j]? = news[j]? := by
                  intro j hj
                  rw [g0 _ (by rw [List.length_append, o1]; omega), List.getElem?_append_right (by rw [o1]; omega), o1, Nat.add_sub_cancel_left]
                have hsz : (cs ++ es2.flatten).length ≤ arr'.size := by rw [hlenN, arrsz]; exact Nat.mul_le_mul_right _ cap1
                have hne' : ∀ a v, K a = some v → a.block ≠ w.heap.size := fun a v q => by have := h.know_lt q; omega
                have s1 := Stp.setOb h.drew id (.cells cs) (.cells (cs ++ es2.flatten)) hst (.slice (some ⟨w.heap.size, 0, none⟩) 0 arr'.size) ⟨by simp, fun q => by rw [List.length_append] at q; omega⟩ K (fun _ _ q => q) (w.drew.alloc (.cells arr' e)) b' w.heap.size (by rw [hb1]; rfl) rfl (.inr (by simp)) rfl rfl rfl (by simp)
                  (fun j hj _ => heap_alloc_old w.drew _ j hj) (fun a v q => by
                    rw [World.cell?_alloc_lt w.drew _ a (by simpa using h.know_lt q), World.cell?_drew]; exact h.know a v q) (fun a v q => .inl q) (fun x =>
                    ⟨w.heap.size, arr', e, rfl, by have := heap_alloc_new w.drew (.cells arr' e); rwa [World.size_drew] at this, hsz, newcells _ _ _ arr' x g1 g2, fun j => by
                      cases q : K ⟨w.heap.size, j, none⟩ with
                      | none => rfl
                      | some v => exact absurd rfl (hne' _ v q)⟩)
                have stp := (Stp.drew h).trans s1
                refine ⟨_, _, _, _, rfl, stp, ?_⟩
                have hle2 : (len + es2.length) * te.size ≤ grownCap w (len + es2.length) c e * te.size := Nat.mul_le_mul_right _ cap1
                have := VRel.osl (K := K) (ι := ins ι id (.slice (some ⟨w.heap.size, 0, none⟩) 0 arr'.size)) (st := st.set id (.cells (cs ++ es2.flatten))) id (cs ++ es2.flatten).length 0 (len + es2.length) te.size
                  (some ⟨w.heap.size, 0, none⟩) (grownCap w (len + es2.length) c e) (cs ++ es2.flatten) (getElem?_set_eq' _ _ _ _ hst) (Nat.le_refl _) cap1 ⟨fun q => (by cases q), cap2⟩
                  (fun _ => ⟨w.heap.size, arr'.size, by rw [ins_same], fun _ => rfl, by rw [hlenN]; omega, by rw [arrsz]; omega⟩)
                rw [List.length_append] at this
                exact this
          · cases ho
        · cases ho
      · cases ho
    · cases ho

end Go.Pv
end
section
namespace Go.Pv

/-- What an operation of the model has come to. -/
def Does (G : Nat → PV) (K : Know) (ι : Nat → Value) (st : Store) (w : World) (r : Result Next) (v : PV) (st' : Store) : Prop :=
  ∃ (K' : Know) (ι' : Nat → Value) (w' : World) (nx : Next) (rv : Value), r = .ok nx w' ∧ (nx = Next.value rv ∨ (nx = Next.skip ∧ rv = undef)) ∧ Stp G K ι st w K' ι' st' w' ∧ VRel K' ι' st' v rv

theorem Gives.does {G : Nat → PV} {P : Program} {K ι st w} {s : Sem Value} {v : PV} {st' : Store} (h : Gives G K ι st w (s.run P w) v st') : Does G K ι st w ((do Pure.pure (Next.value (← s)) : Sem Next).run P w) v st' := by
  obtain ⟨K', ι', w', rv, e, stp, hv⟩ := h
  exact ⟨K', ι', w', .value rv, rv, by rw [Sem.run_bind, e]; rfl, .inl rfl, stp, hv⟩
theorem does_unit {G : Nat → PV} {P : Program} {K ι st w} {s : Sem Unit} {st' : Store} {K' ι' w'} (e : s.run P w = .ok () w') (stp : Stp G K ι st w K' ι' st' w') : Does G K ι st w ((do s; pure Next.skip : Sem Next).run P w) (.tup []) st' :=
  ⟨K', ι', w', .skip, undef, by rw [Sem.run_bind, e]; rfl, .inr ⟨rfl, rfl⟩, stp, .tree _ _ (.tup [] #[] rfl (by simp))⟩
theorem does_pure {G : Nat → PV} {P : Program} {K ι st w} (h : Rel G K ι st w) {v : PV} {rv : Value} (hv : VRel K ι st v rv) : Does G K ι st w ((pure (Next.value rv) : Sem Next).run P w) v st :=
  ⟨K, ι, w, .value rv, rv, rfl, .inl rfl, .refl h, hv⟩

/-- Every operand lies within the frame. -/
def opIn (N : Nat) (op : Op) : Bool := op.operands.all (opdIn N)
theorem opIn_mem {N : Nat} {op : Op} (h : opIn N op = true) {x : Operand} (hx : x ∈ op.operands) : opdIn N x = true := Array.all_eq_true_iff_forall_mem.1 h x hx

theorem toV_gives {G : Nat → PV} {K ι st w} (h : Rel G K ι st w) {p : PV} (hf : flat0 p = true) : Gives G K ι st w (.ok (toV p) w) p st := Gives.pure h (.tree _ _ (toV_rel K hf))

theorem opt_rel {E : Env} {K ι st w fr} {a : Act} (h : Rel E.G K ι st w) (hf : FrRel K ι st fr a.tmps) (o : Option Operand) (ho : ∀ x, o = some x → opdIn a.tmps.size x = true) :
    (∀ p, o.map (evalO E fr) = some p → ∃ b, o.map a.eval = some b ∧ VRel K ι st p b) ∧ (o.map (evalO E fr) = none → o.map a.eval = none) := by
  cases o with
  | none => exact ⟨fun p q => (by cases q), fun _ => rfl⟩
  | some x => exact ⟨fun p q => ⟨_, rfl, by simp at q; subst q; exact evalO_rel h hf x (ho x rfl)⟩, fun q => by cases q⟩

theorem len_run {P : Program} {t : TypeId} {d : TypeDesc} {b : Value} {n : Nat} (hu : P.underlying t = some d) (hd : (∃ e, d = .slice e) ∧ (∃ A c, b = .slice A n c) ∨ d = .string ∧ (∃ s, b = .string s ∧ s.size = n)) (ty : TypeId) (w : World) :
    (Builtin.len_ #[t] ty #[b]).run P w = .ok (.int .i64 n) w := by
  rcases hd with ⟨⟨e, rfl⟩, ⟨A, c, rfl⟩⟩ | ⟨rfl, ⟨s, rfl, rfl⟩⟩ <;> simp [Builtin.len_, run_underlying hu, goInt]

theorem callB_sound {E : Env} (hE : EnvOk E) {K ι st w} (h : Rel E.G K ι st w) {b : Builtin} {ts : List TypeId} {xs : List PV} {vs : List Value} (hl : xs.length = vs.length) (hx : ∀ (j : Nat) (p : PV) (v : Value), xs[j]? = some p → vs[j]? = some v → VRel K ι st p v)
    {v : PV} {st' : Store} (ho : callB E st b ts xs = some (v, st')) (ty : TypeId) (cs : Array Bool) : Does E.G K ι st w ((builtin b ts.toArray ty cs vs.toArray).run E.P w) v st' := by
  unfold callB at ho
  split at ho
  · rename_i t x
    obtain ⟨b, rfl⟩ : ∃ b, vs = [b] := by
      match vs, hl with
      | [b], _ => exact ⟨b, rfl⟩
    have hb := hx 0 x b rfl rfl
    refine Gives.does (s := Builtin.len_ #[t] ty #[b]) ?_
    split at ho
    · cases ho
    · rename_i ti hT
      obtain ⟨d, i, tyf⟩ := hE.ty hT
      split at ho
      · rename_i e k es tok hk
        simp only [Option.some.injEq, Prod.mk.injEq] at ho
        obtain ⟨rfl, rfl⟩ := ho
        obtain ⟨A, c, _, _, _, rfl, _⟩ := hb.slTree.slCells
        rw [len_run (kind_slice tyf hk) (.inl ⟨⟨_, rfl⟩, ⟨_, _, rfl⟩⟩)]
        exact Gives.pure h (.tree _ _ (.int _ _))
      · rename_i e id tot off n k hk
        simp only [Option.some.injEq, Prod.mk.injEq] at ho
        obtain ⟨rfl, rfl⟩ := ho
        obtain ⟨A, c, rfl⟩ : ∃ A c, b = .slice A n c := by
          cases hb with
          | tree _ _ q => cases q
          | osl _ _ _ _ _ A c => exact ⟨A, c, rfl⟩
        rw [len_run (kind_slice tyf hk) (.inl ⟨⟨_, rfl⟩, ⟨_, _, rfl⟩⟩)]
        exact Gives.pure h (.tree _ _ (.int _ _))
      · rename_i s hk
        simp only [Option.some.injEq, Prod.mk.injEq] at ho
        obtain ⟨rfl, rfl⟩ := ho
        rw [hb.strV, len_run (n := s.length) (kind_str tyf hk) (.inr ⟨rfl, ⟨_, rfl, by simp [bytesV, ByteArray.size]⟩⟩)]
        exact Gives.pure h (.tree _ _ (.int _ _))
      · rename_i tk tv hk
        simp only [Option.some.injEq, Prod.mk.injEq] at ho
        obtain ⟨rfl, rfl⟩ := ho
        have : b = .map none := by cases hb with | tree _ _ q => cases q; rfl
        subst this
        have : (Builtin.len_ #[t] ty #[.map none]).run E.P w = .ok (.int .i64 0) w := by simp [Builtin.len_, run_underlying (kind_map tyf hk), goInt]
        rw [this]
        exact Gives.pure h (.tree _ _ (.int _ _))
      · rename_i tk tv id hk
        split at ho
        · rename_i es hst
          simp only [Option.some.injEq, Prod.mk.injEq] at ho
          obtain ⟨rfl, rfl⟩ := ho
          obtain ⟨bb, ents, clock, hh, hw, hl', hr, _⟩ := h.obj id _ hst
          cases hb with
          | tree _ _ q => cases q
          | map _ es' b' hst' hb =>
            rw [hb] at hh
            injection hh with hh
            injection hh with hh
            subst hh
            have : (Builtin.len_ #[t] ty #[.map (some b')]).run E.P w = .ok (.int .i64 es.length) w := by
              simp [Builtin.len_, run_underlying (kind_map tyf hk), goInt, getObj, Sem.run, hw, hl']
            rw [this]
            exact Gives.pure h (.tree _ _ (.int _ _))
        · cases ho
      · cases ho
  · rename_i k x k' y
    split at ho
    · rename_i hk
      subst hk
      simp only [Option.some.injEq, Prod.mk.injEq] at ho
      obtain ⟨rfl, rfl⟩ := ho
      obtain ⟨b, c, rfl⟩ : ∃ b c, vs = [b, c] := by
        match vs, hl with
        | [b, c], _ => exact ⟨b, c, rfl⟩
      rw [(hx 0 _ b rfl rfl).intV, (hx 1 _ c rfl rfl).intV]
      refine Gives.does (s := Builtin.max_ ts.toArray ty #[.int k x, .int k y]) ?_
      have : (Builtin.max_ ts.toArray ty #[.int k x, .int k y]).run E.P w = .ok (.int k (if y > x then y else x)) w := by simp [Builtin.max_, Builtin.max2]
      rw [this]
      exact Gives.pure h (.tree _ _ (.int _ _))
    · cases ho
  · rename_i k x k' y
    split at ho
    · rename_i hk
      subst hk
      simp only [Option.some.injEq, Prod.mk.injEq] at ho
      obtain ⟨rfl, rfl⟩ := ho
      obtain ⟨b, c, rfl⟩ : ∃ b c, vs = [b, c] := by
        match vs, hl with
        | [b, c], _ => exact ⟨b, c, rfl⟩
      rw [(hx 0 _ b rfl rfl).intV, (hx 1 _ c rfl rfl).intV]
      refine Gives.does (s := Builtin.min_ ts.toArray ty #[.int k x, .int k y]) ?_
      have : (Builtin.min_ ts.toArray ty #[.int k x, .int k y]).run E.P w = .ok (.int k (if y < x then y else x)) w := by simp [Builtin.min_, Builtin.min2]
      rw [this]
      exact Gives.pure h (.tree _ _ (.int _ _))
    · cases ho
  · rename_i k x k' y k'' z
    split at ho
    · rename_i hk
      obtain ⟨rfl, rfl⟩ := hk
      simp only [Option.some.injEq, Prod.mk.injEq] at ho
      obtain ⟨rfl, rfl⟩ := ho
      obtain ⟨b, c, d, rfl⟩ : ∃ b c d, vs = [b, c, d] := by
        match vs, hl with
        | [b, c, d], _ => exact ⟨b, c, d, rfl⟩
      rw [(hx 0 _ b rfl rfl).intV, (hx 1 _ c rfl rfl).intV, (hx 2 _ d rfl rfl).intV]
      refine Gives.does (s := Builtin.max_ ts.toArray ty #[.int k x, .int k y, .int k z]) ?_
      have : (Builtin.max_ ts.toArray ty #[.int k x, .int k y, .int k z]).run E.P w = .ok (.int k (if z > (if y > x then y else x) then z else (if y > x then y else x))) w := by simp [Builtin.max_, Builtin.max2]
      rw [this]
      exact Gives.pure h (.tree _ _ (.int _ _))
    · cases ho
  · rename_i k x k' y k'' z
    split at ho
    · rename_i hk
      obtain ⟨rfl, rfl⟩ := hk
      simp only [Option.some.injEq, Prod.mk.injEq] at ho
      obtain ⟨rfl, rfl⟩ := ho
      obtain ⟨b, c, d, rfl⟩ : ∃ b c d, vs = [b, c, d] := by
        match vs, hl with
        | [b, c, d], _ => exact ⟨b, c, d, rfl⟩
      rw [(hx 0 _ b rfl rfl).intV, (hx 1 _ c rfl rfl).intV, (hx 2 _ d rfl rfl).intV]
      refine Gives.does (s := Builtin.min_ ts.toArray ty #[.int k x, .int k y, .int k z]) ?_
      have : (Builtin.min_ ts.toArray ty #[.int k x, .int k y, .int k z]).run E.P w = .ok (.int k (if z < (if y < x then y else x) then z else (if y < x then y else x))) w := by simp [Builtin.min_, Builtin.min2]
      rw [this]
      exact Gives.pure h (.tree _ _ (.int _ _))
    · cases ho
  · rename_i t tx s x
    obtain ⟨a, b, rfl⟩ : ∃ a b, vs = [a, b] := by
      match vs, hl with
      | [a, b], _ => exact ⟨a, b, rfl⟩
    refine Gives.does (s := Builtin.append_ #[t, tx] ty #[a, b]) ?_
    split at ho
    · rename_i e sz z hT
      split at ho
      · rename_i e' sz' z' k2 es2 tok2 hTx
        split at ho
        · exact gives_appendH hE h hT rfl (hx 0 _ a rfl rfl) (hx 1 _ b rfl rfl) es2 k2 (.inl ⟨_, _, _, hTx, rfl, rfl⟩) ho
        · exact gives_append hE h hT rfl (hx 0 _ a rfl rfl) (hx 1 _ b rfl rfl) es2 k2 (.inl ⟨_, _, _, hTx, rfl, rfl⟩) ho
      · rename_i sz' z' bs hTx
        exact gives_append hE h hT rfl (hx 0 _ a rfl rfl) (hx 1 _ b rfl rfl) _ 1 (.inr ⟨_, _, hTx, rfl, rfl, rfl, rfl⟩) ho
      · cases ho
    · cases ho
  · cases ho

end Go.Pv
end
section
namespace Go.Pv

theorem VRel.itV {K ι st id} {v : Value} (h : VRel K ι st (.it id) v) : ∃ b m n seen, st[id]? = some (.iter m n seen) ∧ ι id = .pointer (some ⟨b, 0, none⟩) ∧ v = .pointer (some ⟨b, 0, none⟩) := by
  cases h with
  | tree _ _ q => cases q
  | it _ b m n seen hst hb => exact ⟨b, m, n, seen, hst, hb, rfl⟩

theorem gives_range_nil {E : Env} (hE : EnvOk E) {K ι st w} (h : Rel E.G K ι st w) {t tk tv : TypeId} {ti : TI} (hT : E.T t = some ti) (hk : ti.kind = .map tk tv) {a : Value} (ha : VRel K ι st .nilmap a) :
    Gives E.G K ι st w ((Instr.range t a).run E.P w) (.it st.length) (st ++ [.iter none 0 []]) := by
  obtain ⟨d, i, ty⟩ := hE.ty hT
  have hu := kind_map ty hk
  have : a = .map none := by
    cases ha with | tree _ _ q => cases q; rfl
  subst this
  have s1 := Stp.newOb h (.iter none 0 []) (.mapIter none 0 #[] 0) (.pointer (some ⟨w.heap.size, 0, none⟩)) rfl (fun _ _ => ⟨w.heap.size, none, rfl, heap_alloc_new w _, rfl⟩)
  refine ⟨_, _, _, _, ?_, s1, .it _ w.heap.size none 0 [] (by simp) (by rw [ins_same])⟩
  simp [Instr.range, Sem.run_bind, run_underlying hu, Sem.run_pure]

theorem gives_range {E : Env} (hE : EnvOk E) {K ι st w} (h : Rel E.G K ι st w) {t tk tv : TypeId} {ti : TI} (hT : E.T t = some ti) (hk : ti.kind = .map tk tv) {a : Value} {id : Nat} {es : List (PV × PV)} (hst : st[id]? = some (.map es)) (ha : VRel K ι st (.map id) a) :
    Gives E.G K ι st w ((Instr.range t a).run E.P w) (.it st.length) (st ++ [.iter (some id) es.length []]) := by
  obtain ⟨d, i, ty⟩ := hE.ty hT
  have hu := kind_map ty hk
  obtain ⟨b0, ents, clock, hh, hw, hl, hr, hb1, hb2⟩ := h.obj id _ hst
  cases ha with
  | tree _ _ q => cases q
  | map _ es' b hst' hb =>
    rw [hb] at hh
    injection hh with hh
    injection hh with hh
    subst hh
    have hid : id < st.length := (List.getElem?_eq_some_iff.1 hst).1
    have s1 := Stp.newOb h (.iter (some id) es.length []) (.mapIter (some b) clock #[] clock) (.pointer (some ⟨w.heap.size, 0, none⟩)) rfl (fun _ _ => ⟨w.heap.size, some b, rfl, by rw [hb2, hl]; exact heap_alloc_new w _, b, es, rfl, by rw [ins_other _ _ (by omega), hb], by rw [List.getElem?_append_left hid]; exact hst⟩)
    refine ⟨_, _, _, _, ?_, s1, .it _ w.heap.size (some id) es.length [] (by simp) (by rw [ins_same])⟩
    simp [Instr.range, Sem.run_bind, run_underlying hu, getObj, Sem.run, hw]

theorem gives_entry {E : Env} {K ι st w} (h : Rel E.G K ι st w) {a : Value} {i m n j : Nat} {seen : List Nat} {es : List (PV × PV)} {kp vp : PV} (ha : VRel K ι st (.it i) a) (hi : st[i]? = some (.iter (some m) n seen)) (hm : st[m]? = some (.map es)) (hn : es.length = n)
    (hj : seen.getLast? = some j) (he : es[j]? = some (kp, vp)) : Gives E.G K ι st w ((Instr.entry a).run E.P w) (.tup [kp, vp]) st := by
  obtain ⟨b, m', n', seen', h1, h2, rfl⟩ := ha.itV
  rw [hi] at h1
  obtain ⟨rfl, rfl, rfl⟩ : some m = m' ∧ n = n' ∧ seen = seen' := by simpa using h1
  obtain ⟨b1, mb, hh, hw, r, es1, e1, e2, e3⟩ := h.obj i _ hi
  rw [h2] at hh
  injection hh with hh
  injection hh with hh
  injection hh with hh
  subst hh e1
  obtain ⟨b2, ents, clock, hh2, hw2, hl, hr, hb1, hb2⟩ := h.obj m _ hm
  rw [e2] at hh2
  injection hh2 with hh2
  injection hh2 with hh2
  subst hh2
  obtain ⟨en, g1, g2, g3⟩ := hr j kp vp he
  have hfind : ents.find? (fun x => x.born == j) = some en := by
    rw [Array.find?_eq_some_iff_getElem]
    have hlt : j < ents.size := (Array.getElem?_eq_some_iff.1 g1).1
    have hg : ents[j] = en := (Array.getElem?_eq_some_iff.1 g1).2
    refine ⟨by rw [hb1 j en g1]; simp, j, hlt, hg, fun k hk => ?_⟩
    have := hb1 k ents[k] (Array.getElem?_eq_getElem _)
    rw [this]
    simp; omega
  have hback : Array.back? seen.toArray = some j := by simpa using hj
  refine ⟨K, ι, w, .tuple #[en.key, en.val], ?_, .refl h, .tup _ _ rfl (fun k p v hp hv => ?_)⟩
  · simp [Instr.entry, Sem.run_bind, getObj, Sem.run, hw, hw2, hback, hfind, hb2, hl, hn, Sem.run_pure]
  · match k, hp, hv with
    | 0, hp, hv => simp at hp hv; subst hp hv; exact g2
    | 1, hp, hv => simp at hp hv; subst hp hv; exact g3
    | k + 2, hp, hv => simp at hp

def isSlice (E : Env) (t : TypeId) : Prop := ∃ e s z, E.T t = some ⟨.slice e, s, z⟩
theorem isSlice.under {E : Env} (hE : EnvOk E) {t : TypeId} (h : isSlice E t) : ∃ e, E.P.underlying t = some (.slice e) := by
  obtain ⟨e, s, z, hT⟩ := h
  obtain ⟨d, i, ty⟩ := hE.ty hT
  have hk := ty.hk
  have hu := ty.hu
  cases d <;> simp [kindOk] at hk
  subst hk
  exact ⟨_, hu⟩
/-- A slice compared with nil: of an empty one it is not told whether it is nil. -/
def NilW (neq : Bool) (x : PV) (st : Store) (k : PV → Store → Prop) : Prop :=
  match x with
  | .sl _ es _ => (es = [] → k (.bool true) st ∧ k (.bool false) st) ∧ (es ≠ [] → k (.bool neq) st)
  | .osl _ _ _ len _ => (len = 0 → k (.bool true) st ∧ k (.bool false) st) ∧ (len ≠ 0 → k (.bool neq) st)
  | _ => False
theorem NilW.mono {neq x st} {k k' : PV → Store → Prop} (h : ∀ v st, k v st → k' v st) (q : NilW neq x st k) : NilW neq x st k' := by
  unfold NilW at q ⊢
  split at q
  · exact ⟨fun e => ⟨h _ _ (q.1 e).1, h _ _ (q.1 e).2⟩, fun e => h _ _ (q.2 e)⟩
  · exact ⟨fun e => ⟨h _ _ (q.1 e).1, h _ _ (q.1 e).2⟩, fun e => h _ _ (q.2 e)⟩
  · exact q
theorem nilW_pick {neq x} {K ι st} {a : Value} (ha : VRel K ι st x a) {k : PV → Store → Prop} (q : NilW neq x st k) : ∃ A n c, a = .slice A n c ∧ k (.bool (if A.isNone then !neq else neq)) st := by
  unfold NilW at q
  have fin : ∀ (A : Option Addr) (p : Prop), (p → k (.bool true) st ∧ k (.bool false) st) ∧ (¬ p → k (.bool neq) st) → (A = none → p) → k (.bool (if A.isNone then !neq else neq)) st := by
    intro A p q hA
    cases A with
    | none =>
      have := q.1 (hA rfl)
      cases neq
      · exact this.1
      · exact this.2
    | some A =>
      by_cases hp : p
      · have := q.1 hp
        cases neq
        · exact this.2
        · exact this.1
      · exact q.2 hp
  split at q
  · rename_i k0 es tok
    have : ∃ A c, a = .slice A es.length c ∧ (A = none → es = []) := by
      cases ha with
      | tree _ _ h =>
        cases h with
        | sl _ _ _ A c b off f _ hA => exact ⟨A, c, rfl, fun e => by
            cases es with
            | nil => rfl
            | cons x l => have := hA (by simp); rw [e] at this; cases this⟩
      | own _ _ i A c m e h =>
        refine ⟨A, c, rfl, fun e1 => ?_⟩
        cases h with
        | sl _ _ _ A c b off f _ hA =>
          cases es with
          | nil => rfl
          | cons x l => have := hA (by simp); rw [e1] at this; cases this
    obtain ⟨A, c, rfl, hA⟩ := this
    exact ⟨A, _, c, rfl, fin A (es = []) ⟨q.1, q.2⟩ hA⟩
  · rename_i id tot off len k0
    cases ha with
    | tree _ _ h => cases h
    | osl _ _ _ _ _ A c cs hst hle hlc hn heq =>
      exact ⟨A, len, c, rfl, fin A (len = 0) ⟨q.1, q.2⟩ fun e => by have := hn.1 e; omega⟩
  · exact q.elim

/-- What a range over a map may do next: it is over where every entry has been met; otherwise it meets any entry that it has not met. -/
def NextW (E : Env) (fr : Fr) (st : Store) (op : Op) (k : PV → Store → Prop) : Prop :=
  match op with
  | .next x false => (match evalO E fr x with
    | .it i => (match st[i]? with
      | some (.iter none _ _) => k (.tup [.bool false]) st
      | some (.iter (some m) n seen) => (match st[m]? with
        | some (.map es) => es.length = n ∧ ((∀ j, j < n → j ∈ seen) → k (.tup [.bool false]) st) ∧ ∀ (j : Nat) (kp vp : PV), j ∉ seen → es[j]? = some (kp, vp) → k (.tup [.bool true, kp, vp]) (st.set i (.iter (some m) n (seen ++ [j])))
        | _ => False)
      | _ => False)
    | _ => False)
  | .binOp .eql t x (.const (.slice none 0 0)) _ => isSlice E t ∧ NilW false (evalO E fr x) st k
  | .binOp .neq t x (.const (.slice none 0 0)) _ => isSlice E t ∧ NilW true (evalO E fr x) st k
  | _ => False
theorem NextW.mono {E fr st op} {k k' : PV → Store → Prop} (h : ∀ v st, k v st → k' v st) (q : NextW E fr st op k) : NextW E fr st op k' := by
  unfold NextW at q ⊢
  split at q
  · split at q
    · split at q
      · exact h _ _ q
      · split at q
        · exact ⟨q.1, fun r => h _ _ (q.2.1 r), fun j kp vp a b => h _ _ (q.2.2 j kp vp a b)⟩
        · exact q
      · exact q
    · exact q
  · exact ⟨q.1, q.2.mono h⟩
  · exact ⟨q.1, q.2.mono h⟩
  · exact q

/-- An iterator's step. -/
theorem Stp.iterSet {G K ι st w} (h : Rel G K ι st w) {i m n b mb : Nat} {seen seen' : List Nat} (hi : st[i]? = some (.iter (some m) n seen)) (hh : ι i = .pointer (some ⟨b, 0, none⟩)) (hw : w.heap[b]? = some (.mapIter (some mb) n seen.toArray n)) (hmb : ι m = .map (some mb)) {es} (hm : st[m]? = some (.map es)) :
    Stp G K ι st w K ι (st.set i (.iter (some m) n seen')) { w with heap := w.heap.setIfInBounds b (.mapIter (some mb) n seen'.toArray n) } := by
  have key := Stp.setOb h i _ (.iter (some m) n seen') hi (ι i) (by simp [Ob.le]) K (fun _ _ q => q) { w with heap := w.heap.setIfInBounds b (.mapIter (some mb) n seen'.toArray n) } b b (by rw [hh]; rfl) (by rw [hh]; rfl) (.inl rfl) rfl rfl rfl (by simp)
    (fun k _ hk => heap_set_other w b k _ hk)
    (fun a v q => by
      have hc := h.know a v q
      by_cases hab : a.block = b
      · rw [World.cell?, hab, hw] at hc; simp at hc
      · rw [← hc]; exact World.cell?_of_block (w := w) (heap_set_other w b a.block _ hab))
    (fun a v q => .inl q) (fun x => by
      rw [ins_id] at x ⊢
      have him : i ≠ m := fun q => by subst q; rw [hi] at hm; cases hm
      exact ⟨b, some mb, hh, heap_set_same w b _ _ hw, mb, es, rfl, hmb, by rw [List.getElem?_set_ne him]; exact hm⟩)
  rw [ins_id] at key
  exact key

theorem Stp.drawn1 {G K ι st w} (h : Rel G K ι st w) (d : Nat) : Stp G K ι st w K ι st { w with drawn := d } := by
  have x : Ext K ι st K ι st := .refl _ _ _
  refine ⟨⟨h.know, h.glob, fun id o e => ?_, h.apart, h.gsz, h.gown⟩, x, rfl, rfl, rfl, Nat.le_refl _, fun _ _ _ => rfl, fun _ hb _ => hb, fun a v e => .inl e⟩
  exact (h.obj id o e).carry x (fun _ _ => rfl) (fun _ _ _ q => q)

theorem next_sound {E : Env} {K ι st w} (h : Rel E.G K ι st w) {fr : Fr} {x : Operand} {a : Value} {t : TypeId} (ha : VRel K ι st (evalO E fr x) a) {k : PV → Store → Prop} (q : NextW E fr st (.next x false) k) :
    ∃ v st', k v st' ∧ Gives E.G K ι st w ((Instr.next a false t).run E.P w) v st' := by
  have over : ∀ w', Stp E.G K ι st w K ι st w' → ∀ r : Result Value, r = .ok (.tuple #[.bool false]) w' → Gives E.G K ι st w r (.tup [.bool false]) st := by
    intro w' s r hr
    refine ⟨K, ι, w', _, hr, s, .tup _ _ rfl (fun i p v hp hv => ?_)⟩
    match i, hp, hv with
    | 0, hp, hv => simp at hp hv; subst hp hv; exact .tree _ _ (.bool false)
    | i + 1, hp, hv => simp at hp
  unfold NextW at q
  simp only at q
  split at q
  · rename_i i hi
    rw [hi] at ha
    obtain ⟨b, m', n', seen', h1, h2, rfl⟩ := ha.itV
    rw [h1] at q
    cases m' with
    | none =>
      simp only at q
      obtain ⟨b1, mb, hh, hw, rfl⟩ := h.obj i _ h1
      rw [h2] at hh
      obtain rfl : b = b1 := by simpa using hh
      exact ⟨_, _, q, over w (.refl h) _ (by simp [Instr.next, Sem.run_bind, getObj, Sem.run, hw, Sem.run_pure])⟩
    | some m =>
      simp only at q
      split at q
      · rename_i es hm
        obtain ⟨hn, q1, q2⟩ := q
        obtain ⟨b1, mb, hh, hw, r, es1, rfl, e2, e3⟩ := h.obj i _ h1
        rw [h2] at hh
        obtain rfl : b = b1 := by simpa using hh
        obtain ⟨b2, ents, clock, hh2, hw2, hl, hr, hb1, hb2⟩ := h.obj m _ hm
        rw [e2] at hh2
        obtain rfl : r = b2 := by simpa using hh2
        have hstop : (!seen'.toArray.isEmpty && !ents.isEmpty && ents.all (fun x => decide (x.born ≥ n'))) = false := by
          cases hz : ents.isEmpty with
          | true => simp
          | false =>
            have h0 : 0 < ents.size := by
              have : ents ≠ #[] := by simpa using hz
              exact Array.size_pos_iff.2 this
            have hall : ents.all (fun x => decide (x.born ≥ n')) = false := by
              cases hc : ents.all (fun x => decide (x.born ≥ n')) with
              | false => rfl
              | true =>
                rw [Array.all_eq_true] at hc
                have := hc 0 h0
                rw [hb1 0 ents[0] (Array.getElem?_eq_getElem _)] at this
                simp at this; omega
            rw [hall]; simp
        let left := ents.filter fun e => !seen'.toArray.contains e.born
        let old := left.filter (·.born < n')
        let new := left.filter (·.born ≥ n')
        have hnew : new = #[] := by
          simp only [new, left]
          rw [Array.filter_eq_empty_iff]
          intro x hx
          obtain ⟨hx, _⟩ := Array.mem_filter.1 hx
          obtain ⟨j, hj, rfl⟩ := Array.mem_iff_getElem.1 hx
          rw [hb1 j _ (Array.getElem?_eq_getElem hj)]
          simp; omega
        have hold : ∀ x ∈ old, ∃ j : Nat, ents[j]? = some x ∧ x.born = j ∧ j ∉ seen' := by
          intro x hx
          obtain ⟨hx, _⟩ := Array.mem_filter.1 hx
          obtain ⟨hx, hs⟩ := Array.mem_filter.1 hx
          obtain ⟨j, hj, rfl⟩ := Array.mem_iff_getElem.1 hx
          have := hb1 j _ (Array.getElem?_eq_getElem hj)
          refine ⟨j, Array.getElem?_eq_getElem hj, this, ?_⟩
          rw [this] at hs
          simpa using hs
        have run : (Instr.next (.pointer (some ⟨b, 0, none⟩)) false t).run E.P w = (do
            let candidates := (if old.isEmpty then #[none] else #[]) ++ (old ++ new).map some
            match candidates[← choose (.mapNext candidates.size)]? with
            | some (some e) => setObj b (.mapIter (some r) n' (seen'.toArray.push e.born) clock); pure (.tuple #[.bool true, e.key, e.val])
            | some none => pure (.tuple #[.bool false])
            | none => stuck "Next: no such candidate" : Sem Value).run E.P w := by
          simp only [Instr.next, Sem.run_bind, getObj, Sem.run, hw, hw2, Result.andThen_ok, hstop, Bool.false_eq_true, if_false, Sem.run_pure]
          rfl
        rw [hnew, Array.append_empty] at run
        by_cases ho : old = #[]
        · have hover : ∀ j, j < n' → j ∈ seen' := by
            intro j hj
            by_cases hs : j ∈ seen'
            · exact hs
            · have hje : j < ents.size := by omega
              have hbj := hb1 j ents[j] (Array.getElem?_eq_getElem hje)
              have : ents[j] ∈ old := by
                simp only [old, left]
                rw [Array.mem_filter, Array.mem_filter]
                refine ⟨⟨Array.getElem_mem hje, ?_⟩, ?_⟩
                · rw [hbj]; simpa using hs
                · rw [hbj]; simpa using hj
              rw [ho] at this
              simp at this
          refine ⟨_, _, q1 hover, over w (.refl h) _ ?_⟩
          rw [run, ho]
          simp [Sem.run_bind, run_choose_drew, Question.forced, Sem.run_pure]
        · have hemp : old.isEmpty = false := by simpa using ho
          have hpos : 0 < old.size := Array.size_pos_iff.2 ho
          obtain ⟨c, w1, hc, hw1, hcs, hheap⟩ : ∃ c w1, (choose (.mapNext (old.map some).size)).run E.P w = .ok c w1 ∧ Stp E.G K ι st w K ι st w1 ∧ c < old.size ∧ w1.heap = w.heap := by
            rw [run_choose_drew]
            by_cases hf : (Question.mapNext (old.map some).size).forced = true
            · exact ⟨0, w, by rw [if_pos hf], .refl h, hpos, rfl⟩
            · refine ⟨_, _, by rw [if_neg hf], .drew h, ?_, rfl⟩
              simp only [Question.cut, Array.size_map]
              exact Nat.mod_lt _ hpos
          have hget : (old.map some)[c]? = some (some old[c]) := by simp [hcs]
          obtain ⟨j, hj, hbj, hjs⟩ := hold old[c] (Array.getElem_mem hcs)
          have hjl : j < es.length := by
            have := (Array.getElem?_eq_some_iff.1 hj).1
            omega
          obtain ⟨en, g1, g2, g3⟩ := hr j es[j].1 es[j].2 (by rw [List.getElem?_eq_getElem hjl])
          rw [hj] at g1
          injection g1 with g1
          subst g1
          have hstep := Stp.iterSet hw1.rel (seen' := seen' ++ [j]) h1 h2 (by rw [hheap]; exact hw) e2 hm
          refine ⟨_, _, q2 j es[j].1 es[j].2 hjs (List.getElem?_eq_getElem hjl), K, ι, _, .tuple #[.bool true, old[c].key, old[c].val], ?_, hw1.trans hstep, .tup _ _ rfl (fun i' p v hp hv => ?_)⟩
          · rw [run, hemp]
            simp only [Bool.false_eq_true, if_false, Array.empty_append, Sem.run_bind, hc, Result.andThen_ok, hget]
            rw [setObj_run (by rw [hheap]; exact hw) (by simp)]
            simp only [Result.andThen_ok, Sem.run_pure]
            rw [hbj, hb2, hl, hn, List.push_toArray]
          · match i', hp, hv with
            | 0, hp, hv => simp at hp hv; subst hp hv; exact .tree _ _ (.bool true)
            | 1, hp, hv => simp at hp hv; subst hp hv; exact g2.mono hstep.ext
            | 2, hp, hv => simp at hp hv; subst hp hv; exact g3.mono hstep.ext
            | i' + 3, hp, hv => simp at hp
      · exact q.elim
  · exact q.elim

theorem nil_sound {E : Env} {K ι st w} (h : Rel E.G K ι st w) {op : BinOp} (hop : op = .eql ∨ op = .neq) {t e : TypeId} (hu : E.P.underlying t = some (.slice e)) {A : Option Addr} {n c : Nat} (ox oy : Operand) :
    Gives E.G K ι st w ((do eqGuard op t ox oy (.slice A n c) (.slice none 0 0); binOp op t (.slice A n c) (.slice none 0 0) : Sem Value).run E.P w) (.bool (if A.isNone then !(decide (op = .neq)) else decide (op = .neq))) st := by
  have e1 := eqGuard_plain (P := E.P) op t ox oy (.slice A n c) (.slice none 0 0) w (by simp) (by simp)
  have e2 : (Op.equal t (.slice A n c) (.slice none 0 0)).run E.P w = .ok A.isNone w := by
    show (Op.equalIn (9999 + 1) t _ _).run E.P w = _
    generalize 9999 = d
    cases A <;> simp [Op.equalIn, run_underlying hu]
  refine ⟨K, ι, w, .bool (if A.isNone then !(decide (op = .neq)) else decide (op = .neq)), ?_, .refl h, .tree _ _ (.bool _)⟩
  rw [Sem.run_bind, e1]
  rcases hop with rfl | rfl
  · show (do pure (.bool (← Op.equal t _ _)) : Sem Value).run E.P w = _
    rw [Sem.run_bind, e2]
    cases A <;> simp [Sem.run_pure]
  · show (do pure (.bool (!(← Op.equal t _ _))) : Sem Value).run E.P w = _
    rw [Sem.run_bind, e2]
    cases A <;> simp [Sem.run_pure]
end Go.Pv
end
section
namespace Go.Pv

theorem foldl_push_app : ∀ (ns : List Int) (s : ByteArray), (ns.foldl (fun r n => r.push (UInt8.ofNat n.toNat)) s).data.toList = s.data.toList ++ ns.map fun n => UInt8.ofNat n.toNat
  | [], s => by simp
  | n :: ns, s => by
    rw [List.foldl_cons, foldl_push_app ns]
    simp [ByteArray.push]
theorem foldl_push_bytesV (ns : List Int) : ns.foldl (fun r n => r.push (UInt8.ofNat n.toNat)) ByteArray.empty = bytesV (ns.map fun n => UInt8.ofNat n.toNat) := by
  have := foldl_push_app ns ByteArray.empty
  generalize ns.foldl (fun r n => r.push (UInt8.ofNat n.toNat)) ByteArray.empty = x at this ⊢
  obtain ⟨⟨l⟩⟩ := x
  simp at this
  simp [bytesV, this]

theorem byteEs_spec : ∀ (es : List (List PV)) (s : List UInt8), byteEs es = some s → ∃ ns : List Int, es = ns.map (fun n => [PV.int .u8 n]) ∧ s = ns.map fun n => UInt8.ofNat n.toNat
  | [], s, h => ⟨[], rfl, by simp [byteEs] at h; simp [h]⟩
  | e :: es, s, h => by
    unfold byteEs at h
    split at h
    · rename_i heq; cases heq
    · rename_i n es' heq
      obtain ⟨rfl, rfl⟩ := List.cons.inj heq
      obtain ⟨r, hr, rfl⟩ := Option.map_eq_some_iff.1 h
      obtain ⟨ns, rfl, rfl⟩ := byteEs_spec _ _ hr
      exact ⟨n :: ns, rfl, rfl⟩
    · cases h

theorem gives_bytesStr {E : Env} (hE : EnvOk E) {K ι st w} (h : Rel E.G K ι st w) {src dst e : TypeId} {ts td te : TI} (hTs : E.T src = some ts) (hks : ts.kind = .slice e) (hTd : E.T dst = some td) (hkd : td.kind = .str)
    (hTe : E.T e = some te) (hke : te.kind = .int .u8) {k : Nat} {es : List (List PV)} {tok : Tok} {a : Value} (ha : VRel K ι st (.sl k es tok) a) {s : List UInt8} (hs : byteEs es = some s) :
    Gives E.G K ι st w ((convert src dst a).run E.P w) (.str s) st := by
  obtain ⟨d, i, ty⟩ := hE.ty hTs
  obtain ⟨d', i', ty'⟩ := hE.ty hTd
  obtain ⟨d'', i'', ty''⟩ := hE.ty hTe
  obtain ⟨A, c, b, off, f, rfl, hk, hA, hK, hv, h1, hc, hm, hn, ht⟩ := ha.slTree.slCells
  rw [run_convert_bytes_string w src dst e _ _ _ (kind_slice ty hks) (kind_int ty'' hke) (kind_str ty' hkd)]
  obtain ⟨ns, rfl, rfl⟩ := byteEs_spec es s hs
  cases A with
  | none =>
    have : ns = [] := by
      cases ns with
      | nil => rfl
      | cons n ns => exact absurd (hA (by simp)) (by simp)
    subst this
    refine ⟨K, ι, w, .string (bytesV []), ?_, .refl h, .tree _ _ (.str _)⟩
    simp [Conv.bytesToString, Sem.run_pure, bytesV]
    rfl
  | some ad =>
    refine ⟨K, ι, w, .string (bytesV (ns.map fun n => UInt8.ofNat n.toNat)), ?_, .refl h, .tree _ _ (.str _)⟩
    have hl : (loadCells ad ns.length).run E.P w = .ok (ns.map (Value.int .u8)).toArray w := by
      have := run_loadCells_list (P := E.P) w ad (ns.map (Value.int .u8)) (fun j v hj => ?_)
      · simpa using this
      · have hjl : j < ns.length := by simpa using (List.getElem?_eq_some_iff.1 hj).1
        have hne : ns.map (fun n => [PV.int .u8 n]) ≠ [] := by intro q; simp at q; subst q; simp at hjl
        have := hA hne
        injection this with this
        subst this
        rw [List.getElem?_map] at hj
        obtain ⟨n, hn1, rfl⟩ := Option.map_eq_some_iff.1 hj
        have hk1 : k = 1 := by
          have := hk j [PV.int .u8 n] (by simp [hn1])
          simpa using this.symm
        subst hk1
        have q := hK j (by simpa using hjl)
        have r := hv j 0 [PV.int .u8 n] (.int .u8 n) (by simp [hn1]) rfl
        have e1 : f j 0 = .int .u8 n := by generalize f j 0 = z at r; cases r; rfl
        simp only [Nat.div_one, Nat.mod_one, e1] at q
        have := h.know ⟨b, off + j, none⟩ _ q
        by_cases h0 : j = 0
        · subst h0; simpa [Addr.add] using this
        · simpa [Addr.add, h0] using this
    simp only [List.length_map]
    rw [run_bytesToString w ad ns.length c ns hl, foldl_push_bytesV]

theorem opIn1 {N : Nat} {x : Operand} {l : List Operand} (h : (x :: l).toArray.all (opdIn N) = true) : opdIn N x = true ∧ l.toArray.all (opdIn N) = true := by
  simpa using h

theorem zip_rel {K ι st} {a : Act} (f : TypeId → Operand → PV) (hfx : ∀ t x, opdIn a.tmps.size x = true → VRel K ι st (f t x) (a.eval x)) :
    ∀ (xs : List Operand) (ts : List TypeId), xs.length = ts.length → (∀ x ∈ xs, opdIn a.tmps.size x = true) → ∀ (j : Nat) (p : PV) (v : Value),
      ((xs.zip ts).map fun q => f q.2 q.1)[j]? = some p → (xs.map a.eval)[j]? = some v → VRel K ι st p v := by
  intro xs ts hl hx j p v hp hv
  rw [List.getElem?_map] at hp hv
  obtain ⟨q, hq, rfl⟩ := Option.map_eq_some_iff.1 hp
  obtain ⟨x, hx', rfl⟩ := Option.map_eq_some_iff.1 hv
  rw [List.getElem?_zip_eq_some] at hq
  rw [hx'] at hq
  obtain ⟨q1, q2⟩ := hq
  injection q1 with q1
  rw [← q1]
  exact hfx _ _ (hx _ (List.mem_of_getElem? hx'))

theorem opF_buildSlice {E : Env} (hE : EnvOk E) {K ι st w fr} {a : Act} (h : Rel E.G K ι st w) {dst ty pos after guard} (t : TypeId) (len : Nat) (parts : Array (Nat × Operand))
    (oT : ∀ t' x, x ∈ (Op.buildSlice t len parts).operands → VRel K ι st (evalT E t' fr x) (a.eval x)) {v : PV} {st' : Store}
    (ho : opF E ty fr st (.buildSlice t len parts) = some (v, st')) : Does E.G K ι st w ((execOp a.eval ⟨dst, .buildSlice t len parts, ty, pos, after, guard⟩).run E.P w) v st' := by
  simp only [opF] at ho
  split at ho
  · rename_i e _ _ hT
    split at ho
    · rename_i te hTe
      split at ho
      · rename_i hc
        obtain ⟨c1, c2, c3, c4, c5⟩ := hc
        split at ho
        · rename_i hrows
          simp only [Option.some.injEq, Prod.mk.injEq] at ho
          obtain ⟨rfl, rfl⟩ := ho
          have hlen : parts.size = len := by simpa using congrArg List.length c1
          rw [List.all_eq_true] at c5 hrows
          have := gives_buildSlice hE h hT rfl hTe c4 c3 (parts.toList.map fun q => evalT E e fr q.2) (parts.toList.map fun q => a.eval q.2) (by simp) (by simp; omega)
            (fun j p v hp hv => by
              rw [List.getElem?_map] at hp hv
              obtain ⟨x, hx, rfl⟩ := Option.map_eq_some_iff.1 hp
              rw [hx] at hv
              simp only [Option.map_some, Option.some.injEq] at hv
              subst hv
              refine oT e x.2 ?_
              simp only [Op.operands, List.mem_toArray, List.mem_map]
              exact ⟨x, List.mem_of_getElem? hx, rfl⟩)
            (fun p hp => by
              obtain ⟨x, hx, rfl⟩ := List.mem_map.1 hp
              simpa using c5 x hx)
            (fun p hp => by
              obtain ⟨x, hx, rfl⟩ := List.mem_map.1 hp
              exact hrows _ (List.mem_map.2 ⟨x, hx, rfl⟩))
          have e0 : execOp a.eval ⟨dst, .buildSlice t len parts, ty, pos, after, guard⟩ = (do Pure.pure (Next.value (← Instr.buildSlice t len (parts.map fun (i, x) => (i, a.eval x)))) : Sem Next) := rfl
          have e2 : (parts.map fun (i, x) => (i, a.eval x)) = parts.map fun q => (q.1, a.eval q.2) := rfl
          rw [e0, e2]
          refine Gives.does ?_
          have e1 : (parts.map fun q => (q.1, a.eval q.2)) = (((parts.toList.map fun q => a.eval q.2).zipIdx 0).map fun q => (q.2, q.1)).toArray := by
            apply Array.toList_inj.1
            apply List.ext_getElem?
            intro j
            simp only [Array.toList_map, List.getElem?_map, List.getElem?_zipIdx, Nat.zero_add]
            cases hj : parts.toList[j]? with
            | none => simp
            | some x =>
              have := congrArg (·[j]?) c1
              simp only [List.getElem?_map, hj, Option.map_some] at this
              have hjl : j < len := by
                have := (List.getElem?_eq_some_iff.1 hj).1
                simp at this; omega
              rw [List.getElem?_range hjl] at this
              simp at this
              simp [this]
          rw [e1]
          simp only [List.length_map, Array.length_toList, hlen] at this
          have e3 : ((parts.toList.map fun q => evalT E e fr q.2).map fun p => (cellsOf p).map tokRo) = parts.toList.map fun q => (cellsOf (evalT E e fr q.2)).map tokRo := by rw [List.map_map]; rfl
          rw [e3] at this
          exact this
        · cases ho
      · cases ho
    · cases ho
  · cases ho

theorem opF_sound {E : Env} (hE : EnvOk E) {K ι st w fr} {a : Act} (h : Rel E.G K ι st w) (hf : FrRel K ι st fr a.tmps) {o : Oper} (hin : opIn a.tmps.size o.op = true) {v : PV} {st' : Store}
    (ho : opF E o.type fr st o.op = some (v, st')) : Does E.G K ι st w ((execOp a.eval o).run E.P w) v st' := by
  obtain ⟨dst, op, ty, pos, after, guard⟩ := o
  have oO : ∀ x, x ∈ op.operands → VRel K ι st (evalO E fr x) (a.eval x) := fun x hx => evalO_rel h hf x (opIn_mem hin hx)
  have oT : ∀ t x, x ∈ op.operands → VRel K ι st (evalT E t fr x) (a.eval x) := fun t x hx => evalT_rel h hf t x (opIn_mem hin hx)
  have oN : ∀ x, x ∈ op.operands → opdIn a.tmps.size x = true := fun x hx => opIn_mem hin hx
  have oT' : ∀ t x, opdIn a.tmps.size x = true → VRel K ι st (evalT E t fr x) (a.eval x) := fun t x hx => evalT_rel h hf t x hx
  cases op <;> simp only [opF] at ho <;> try (cases ho; done)
  case move x =>
    simp only [Option.some.injEq, Prod.mk.injEq] at ho
    obtain ⟨rfl, rfl⟩ := ho
    exact does_pure h (oT _ x (by simp [Op.operands]))
  case assign x =>
    simp only [Option.some.injEq, Prod.mk.injEq] at ho
    obtain ⟨rfl, rfl⟩ := ho
    exact does_pure h (oT _ x (by simp [Op.operands]))
  case pick c x y =>
    have hc := oO c (by simp [Op.operands])
    have hx := oO x (by simp [Op.operands])
    have hy := oO y (by simp [Op.operands])
    have go : ∀ t, evalO E fr c = .bool t → Does E.G K ι st w ((execOp a.eval ⟨dst, .pick c x y, ty, pos, after, guard⟩).run E.P w) (if t then evalO E fr x else evalO E fr y) st := by
      intro t e
      rw [e] at hc
      have : (execOp a.eval ⟨dst, .pick c x y, ty, pos, after, guard⟩).run E.P w = .ok (.value (if t then a.eval x else a.eval y)) w := by
        simp [execOp, hc.boolV, asBool, Sem.run_bind, Sem.run_pure]
      rw [this]
      refine ⟨K, ι, w, _, _, rfl, .inl rfl, .refl h, ?_⟩
      cases t <;> assumption
    split at ho
    · rename_i t x' y' e1 e2 e3
      simp only [Option.some.injEq, Prod.mk.injEq] at ho
      obtain ⟨rfl, rfl⟩ := ho
      have := go t e1
      rw [e2, e3] at this
      cases t <;> exact this
    · rename_i t e1 _
      simp only [Option.some.injEq, Prod.mk.injEq] at ho
      obtain ⟨rfl, rfl⟩ := ho
      exact go t e1
    · cases ho
  case alloc e =>
    split at ho
    · rename_i te hT
      simp only [Option.some.injEq, Prod.mk.injEq] at ho
      obtain ⟨rfl, rfl⟩ := ho
      exact (gives_alloc hE h hT).does
    · cases ho
  case box e x =>
    split at ho
    · rename_i te hT
      split at ho
      · rename_i hc
        simp only [Option.some.injEq, Prod.mk.injEq] at ho
        obtain ⟨rfl, rfl⟩ := ho
        rw [← hc.2]
        exact (gives_box h (oT _ x (by simp [Op.operands])) (isAgg_spec hc.1)).does
      · cases ho
    · cases ho
  case load t x =>
    have hx := oO x (by simp [Op.operands])
    split at ho
    · rename_i te cs hT e
      rw [e] at hx
      exact (gives_load hE h hT hx ho).does
    · rename_i te id tot off hT e
      rw [e] at hx
      exact (gives_load hE h hT hx ho).does
    · cases ho
  case store t x y =>
    have hx := oO x (by simp [Op.operands])
    have hy := oT t y (by simp [Op.operands])
    split at ho
    · rename_i te id tot off hT e
      split at ho
      · rename_i cs hst
        split at ho
        · rename_i hc
          simp only [Option.some.injEq, Prod.mk.injEq] at ho
          obtain ⟨rfl, rfl⟩ := ho
          rw [e] at hx
          obtain ⟨w', e1, e2⟩ := gives_store hE h hT hx hy hst hc.1 hc.2.1 hc.2.2.1 (isAgg_spec hc.2.2.2)
          exact does_unit e1 e2
        · cases ho
      · cases ho
    · cases ho
  case binOp op t x y _ =>
    obtain ⟨p, hp, q⟩ := Option.map_eq_some_iff.1 ho
    simp only [Prod.mk.injEq] at q
    obtain ⟨rfl, rfl⟩ := q
    obtain ⟨e1, e2⟩ := binF_run hE hp (oO x (by simp [Op.operands])) (oO y (by simp [Op.operands])) w x y
    refine Gives.does (s := do eqGuard op t x y (a.eval x) (a.eval y); binOp op t (a.eval x) (a.eval y)) ?_
    rw [e1]
    exact toV_gives h e2
  case unOp op t x =>
    obtain ⟨p, hp, q⟩ := Option.map_eq_some_iff.1 ho
    simp only [Prod.mk.injEq] at q
    obtain ⟨rfl, rfl⟩ := q
    obtain ⟨e1, e2⟩ := unF_run (P := E.P) hp (oO x (by simp [Op.operands])) w
    refine Gives.does (s := Op.unary op (a.eval x)) ?_
    rw [e1]
    exact toV_gives h e2
  case nilCheck x =>
    have hx := oO x (by simp [Op.operands])
    split at ho
    · rename_i id tot off e
      simp only [Option.some.injEq, Prod.mk.injEq] at ho
      obtain ⟨rfl, rfl⟩ := ho
      rw [e] at hx
      obtain ⟨ad, e1⟩ := hx.optrV
      have : (execOp a.eval ⟨dst, .nilCheck x, ty, pos, after, guard⟩).run E.P w = .ok (.value (a.eval x)) w := by simp [execOp, e1, Sem.run_pure]
      rw [this]
      exact ⟨K, ι, w, _, _, rfl, .inl rfl, .refl h, hx⟩
    · rename_i cs e
      simp only [Option.some.injEq, Prod.mk.injEq] at ho
      obtain ⟨rfl, rfl⟩ := ho
      rw [e] at hx
      obtain ⟨b, off, f, e1, _⟩ := hx.rptrV
      have : (execOp a.eval ⟨dst, .nilCheck x, ty, pos, after, guard⟩).run E.P w = .ok (.value (a.eval x)) w := by simp [execOp, e1, Sem.run_pure]
      rw [this]
      exact ⟨K, ι, w, _, _, rfl, .inl rfl, .refl h, hx⟩
    · rename_i f caps e
      simp only [Option.some.injEq, Prod.mk.injEq] at ho
      obtain ⟨rfl, rfl⟩ := ho
      rw [e] at hx
      obtain ⟨vs, e1⟩ : ∃ vs, a.eval x = .func (.func f) #[] vs := by
        generalize a.eval x = z at hx ⊢
        cases hx with
        | tree _ _ q => cases q; exact ⟨_, rfl⟩
        | fn _ _ vs => exact ⟨vs, rfl⟩
      have : (execOp a.eval ⟨dst, .nilCheck x, ty, pos, after, guard⟩).run E.P w = .ok (.value (a.eval x)) w := by simp [execOp, e1, Sem.run_pure]
      rw [this]
      exact ⟨K, ι, w, _, _, rfl, .inl rfl, .refl h, hx⟩
    · rename_i l e
      simp only [Option.some.injEq, Prod.mk.injEq] at ho
      obtain ⟨rfl, rfl⟩ := ho
      rw [e] at hx
      obtain ⟨b, e1⟩ : ∃ b, a.eval x = .func (.yield b) #[] #[] := by
        generalize a.eval x = z at hx ⊢
        cases hx with
        | tree _ _ q => cases q
        | yld _ b => exact ⟨b, rfl⟩
      have : (execOp a.eval ⟨dst, .nilCheck x, ty, pos, after, guard⟩).run E.P w = .ok (.value (a.eval x)) w := by simp [execOp, e1, Sem.run_pure]
      rw [this]
      exact ⟨K, ι, w, _, _, rfl, .inl rfl, .refl h, hx⟩
    · cases ho
  case convert src dst x =>
    obtain ⟨p, hp, q⟩ := Option.map_eq_some_iff.1 ho
    simp only [Prod.mk.injEq] at q
    obtain ⟨rfl, rfl⟩ := q
    have hx := oO x (by simp [Op.operands])
    refine Gives.does (s := convert src dst (a.eval x)) ?_
    unfold convF at hp
    split at hp
    · rename_i k _ _ _ n hs hd e
      cases hp
      rw [e] at hx
      exact gives_conv hE h hx (.inl ⟨_, _, _, _, _, hs, hd, rfl, rfl, rfl⟩)
    · rename_i s hs hd e
      cases hp
      rw [e] at hx
      exact gives_conv hE h hx (.inr ⟨_, _, _, hs, hd, rfl, rfl, rfl, rfl⟩)
    · rename_i e _ _ _ _ _ es _ hs hd e'
      split at hp
      · rename_i hTe
        obtain ⟨s, hs', rfl⟩ := Option.map_eq_some_iff.1 hp
        rw [e'] at hx
        exact gives_bytesStr hE h hs rfl hd rfl hTe rfl hx hs'
      · cases hp
    · cases hp
  case makeFunc f first caps =>
    cases f <;> simp only at ho <;> try (cases ho; done)
    rename_i f
    split at ho
    · rename_i he
      simp only [Option.some.injEq, Prod.mk.injEq] at ho
      obtain ⟨rfl, rfl⟩ := ho
      have he' : first = #[] := by simpa using he
      subst he'
      have : (execOp a.eval ⟨dst, .makeFunc (.func f) #[] caps, ty, pos, after, guard⟩).run E.P w = .ok (.value (.func (.func f) #[] (caps.map a.eval))) w := by
        simp [execOp, Instr.makeFunc, Sem.run_pure]
      rw [this]
      refine ⟨K, ι, w, _, _, rfl, .inl rfl, .refl h, .fn f _ _ (by simp) (fun i p v hp hv => ?_)⟩
      rw [List.getElem?_map] at hp
      rw [Array.getElem?_map] at hv
      obtain ⟨x, hx, rfl⟩ := Option.map_eq_some_iff.1 hp
      obtain ⟨y, hy, rfl⟩ := Option.map_eq_some_iff.1 hv
      have : x = y := by simpa [hy] using hx.symm
      subst this
      exact oO x (by simp [Op.operands, Array.mem_of_getElem? hy])
    · cases ho
  case makeMap t r =>
    cases r with
    | some _ => cases ho
    | none =>
      simp only [Option.some.injEq, Prod.mk.injEq] at ho
      obtain ⟨rfl, rfl⟩ := ho
      exact (gives_makeMap h t).does
  case makeSlice t l c =>
    have hl := oO l (by simp [Op.operands])
    have hc := oO c (by simp [Op.operands])
    split at ho
    · rename_i e _ _ n m hT e1 e2
      split at ho
      · rename_i te hTe
        split at ho
        · rename_i hcond
          obtain ⟨q1, q2, rfl, q3⟩ := hcond
          simp only [Option.some.injEq, Prod.mk.injEq] at ho
          obtain ⟨rfl, rfl⟩ := ho
          rw [e1] at hl
          rw [e2] at hc
          refine Gives.does (s := Instr.makeSlice t (a.eval l) (a.eval c)) ?_
          rw [hl.intV, hc.intV]
          obtain ⟨n, rfl⟩ := Int.eq_ofNat_of_zero_le q1
          exact gives_makeSlice hE h hT rfl hTe n (by omega) q3
        · cases ho
      · cases ho
    · cases ho
  case slice t x lo hi mx =>
    have hx := oO x (by simp [Op.operands])
    obtain ⟨a1, a2⟩ := opt_rel h hf lo (fun y e => oN y (by subst e; simp [Op.operands]))
    obtain ⟨b1, b2⟩ := opt_rel h hf hi (fun y e => oN y (by subst e; simp [Op.operands]))
    obtain ⟨c1, c2⟩ := opt_rel h hf mx (fun y e => oN y (by subst e; simp [Op.operands]))
    refine Gives.does (s := Instr.sliceAt t (a.eval x) (lo.map a.eval) (hi.map a.eval) (mx.map a.eval)) ?_
    split at ho
    · rename_i ti hT
      split at ho
      · rename_i s hk e
        rw [e] at hx
        split at ho
        · rename_i l hh f hs
          split at ho
          · rename_i hmx
            simp only [Option.some.injEq, Prod.mk.injEq] at ho
            obtain ⟨rfl, rfl⟩ := ho
            exact gives_slice hE h hT hx a1 a2 b1 b2 c1 c2 (.inl ⟨s, l, hh, f, hk, rfl, by cases mx <;> simp_all, hs, rfl⟩)
          · cases ho
        · cases ho
      · rename_i el k es tok hk e
        rw [e] at hx
        split at ho
        · rename_i te l hh f hTe hs
          split at ho
          · cases ho
          · rename_i hkk
            simp only [Option.some.injEq, Prod.mk.injEq] at ho
            obtain ⟨rfl, rfl⟩ := ho
            refine gives_slice hE h hT hx a1 a2 b1 b2 c1 c2 (.inr (.inl ⟨el, te, k, es, tok, l, hh, f, hk, hTe, by simpa using hkk, rfl, hs, ?_⟩))
            cases tok <;> simp
        · cases ho
      · rename_i el id tot off len k hk e
        rw [e] at hx
        split at ho
        · rename_i te l hh f hTe hs
          split at ho
          · rename_i hkk
            simp only [Option.some.injEq, Prod.mk.injEq] at ho
            obtain ⟨rfl, rfl⟩ := ho
            exact gives_slice hE h hT hx a1 a2 b1 b2 c1 c2 (.inr (.inr (.inl ⟨el, te, id, tot, off, len, k, l, hh, f, hk, hTe, hkk, rfl, hs, rfl⟩)))
          · cases ho
        · cases ho
      · rename_i n el id tot off hk e
        rw [e] at hx
        split at ho
        · rename_i te cs l hh f hTe hst hs
          split at ho
          · rename_i hkk
            simp only [Option.some.injEq, Prod.mk.injEq] at ho
            obtain ⟨rfl, rfl⟩ := ho
            exact gives_slice hE h hT hx a1 a2 b1 b2 c1 c2 (.inr (.inr (.inr ⟨n, el, te, id, tot, off, cs, l, hh, f, hk, hTe, rfl, hst, hs, hkk.1, hkk.2, rfl⟩)))
          · cases ho
        · cases ho
      · cases ho
    · cases ho
  case fieldAddr s x f =>
    have hx := oO x (by simp [Op.operands])
    split at ho
    · rename_i fs _ _ hT
      split at ho
      · rename_i foff ft hf'
        split at ho
        · rename_i tf hTf
          split at ho
          · cases ho
          · rename_i hn
            split at ho
            · rename_i cs e
              simp only [Option.some.injEq, Prod.mk.injEq] at ho
              obtain ⟨rfl, rfl⟩ := ho
              rw [e] at hx
              exact (gives_fieldAddr hE h hT rfl hf' hTf hn hx (.inl ⟨cs, rfl, rfl⟩)).does
            · rename_i id tot off e
              simp only [Option.some.injEq, Prod.mk.injEq] at ho
              obtain ⟨rfl, rfl⟩ := ho
              rw [e] at hx
              exact (gives_fieldAddr hE h hT rfl hf' hTf hn hx (.inr ⟨id, tot, off, rfl, rfl⟩)).does
            · cases ho
        · cases ho
      · cases ho
    · cases ho
  case field t x f =>
    have hx := oO x (by simp [Op.operands])
    split at ho
    · rename_i fs _ _ hT
      split at ho
      · rename_i foff ft cs hf' e
        split at ho
        · rename_i tf hTf
          obtain ⟨p, hp, q⟩ := Option.map_eq_some_iff.1 ho
          simp only [Prod.mk.injEq] at q
          obtain ⟨rfl, rfl⟩ := q
          rw [e] at hx
          exact (gives_field hE h hT rfl hf' hTf hx hp).does
        · cases ho
      · cases ho
    · cases ho
  case indexAddr t x i =>
    have hx := oO x (by simp [Op.operands])
    have hi := oO i (by simp [Op.operands])
    split at ho
    · rename_i ti j hT hj
      split at ho
      · rename_i el k es tok hk e
        rw [e] at hx
        split at ho
        · rename_i te c hTe hc
          split at ho
          · rename_i hkk
            simp only [Option.some.injEq, Prod.mk.injEq] at ho
            obtain ⟨rfl, rfl⟩ := ho
            exact (gives_indexAddr hE h hT hx hi hj (.inl ⟨el, k, es, tok, c, hk, ⟨te, hTe, hkk⟩, rfl, hc, rfl⟩)).does
          · cases ho
        · cases ho
      · rename_i el id tot off len k hk e
        rw [e] at hx
        split at ho
        · rename_i te hTe
          split at ho
          · rename_i hkk
            simp only [Option.some.injEq, Prod.mk.injEq] at ho
            obtain ⟨rfl, rfl⟩ := ho
            exact (gives_indexAddr hE h hT hx hi hj (.inr (.inl ⟨el, te, id, tot, off, len, k, hk, hTe, hkk.2, rfl, hkk.1, rfl⟩))).does
          · cases ho
        · cases ho
      · rename_i n el cs hk e
        rw [e] at hx
        split at ho
        · rename_i te hTe
          split at ho
          · rename_i hkk
            simp only [Option.some.injEq, Prod.mk.injEq] at ho
            obtain ⟨rfl, rfl⟩ := ho
            exact (gives_indexAddr hE h hT hx hi hj (.inr (.inr (.inl ⟨n, el, te, cs, hk, hTe, rfl, hkk, rfl⟩)))).does
          · cases ho
        · cases ho
      · rename_i n el id tot off hk e
        rw [e] at hx
        split at ho
        · rename_i te hTe
          split at ho
          · rename_i hkk
            simp only [Option.some.injEq, Prod.mk.injEq] at ho
            obtain ⟨rfl, rfl⟩ := ho
            exact (gives_indexAddr hE h hT hx hi hj (.inr (.inr (.inr ⟨n, el, te, id, tot, off, hk, hTe, rfl, hkk, rfl⟩)))).does
          · cases ho
        · cases ho
      · cases ho
    · cases ho
  case index t x i =>
    have hx := oO x (by simp [Op.operands])
    have hi := oO i (by simp [Op.operands])
    split at ho
    · rename_i ti j hT hj
      split at ho
      · rename_i s hk e
        rw [e] at hx
        split at ho
        · rename_i b hb
          simp only [Option.some.injEq, Prod.mk.injEq] at ho
          obtain ⟨rfl, rfl⟩ := ho
          exact (gives_index hE h hT hx hi hj (.inl ⟨s, b, hk, rfl, hb, rfl⟩)).does
        · cases ho
      · rename_i n el cs hk e
        rw [e] at hx
        split at ho
        · rename_i te hTe
          split at ho
          · rename_i hkk
            obtain ⟨p, hp, q⟩ := Option.map_eq_some_iff.1 ho
            simp only [Prod.mk.injEq] at q
            obtain ⟨rfl, rfl⟩ := q
            exact (gives_index hE h hT hx hi hj (.inr ⟨n, el, te, cs, hk, hTe, rfl, hkk, hp⟩)).does
          · cases ho
        · cases ho
      · cases ho
    · cases ho
  case lookup t m k ok =>
    have hm := oO m (by simp [Op.operands])
    have hk := oO k (by simp [Op.operands])
    split at ho
    · rename_i tk tv _ _ hT
      split at ho
      · rename_i ik iv hTk hTv
        split at ho
        · rename_i hkk
          split at ho
          · rename_i es hes
            have hes' : evalO E fr m = .nilmap ∧ es = [] ∨ ∃ id, evalO E fr m = .map id ∧ st[id]? = some (.map es) := by
              unfold mapEs at hes
              split at hes
              · rename_i e; simp at hes; exact .inl ⟨e, hes⟩
              · rename_i id e
                split at hes
                · rename_i es' hst; simp at hes; subst hes; exact .inr ⟨id, e, hst⟩
                · cases hes
              · cases hes
            split at ho
            · rename_i i u hfind
              simp only [Option.some.injEq, Prod.mk.injEq] at ho
              obtain ⟨rfl, rfl⟩ := ho
              exact (gives_lookup hE h hT rfl hTk hTv hk hm hkk hes' hfind ok).does
            · rename_i hfind
              simp only [Option.some.injEq, Prod.mk.injEq] at ho
              obtain ⟨rfl, rfl⟩ := ho
              exact (gives_lookup hE h hT rfl hTk hTv hk hm hkk hes' hfind ok).does
            · cases ho
          · cases ho
        · cases ho
      · cases ho
    · cases ho
  case mapUpdate t m k x =>
    have hm := oO m (by simp [Op.operands])
    have hk := oO k (by simp [Op.operands])
    split at ho
    · rename_i tk tv _ _ hT
      have hx := oT tv x (by simp [Op.operands])
      split at ho
      · rename_i ik hTk
        split at ho
        · rename_i hkk
          split at ho
          · rename_i id e
            rw [e] at hm
            split at ho
            · rename_i es hst
              split at ho
              · rename_i i u hfind
                split at ho
                · cases ho
                · rename_i hpa
                  simp only [Option.some.injEq, Prod.mk.injEq] at ho
                  obtain ⟨rfl, rfl⟩ := ho
                  obtain ⟨w', e1, e2⟩ := gives_mapUpdate hE h hT rfl hTk hk hm hx hkk hst hfind (.inr (by simpa using hpa))
                  exact does_unit e1 e2
              · rename_i hfind
                simp only [Option.some.injEq, Prod.mk.injEq] at ho
                obtain ⟨rfl, rfl⟩ := ho
                obtain ⟨w', e1, e2⟩ := gives_mapUpdate hE h hT rfl hTk hk hm hx hkk hst hfind (.inl rfl)
                exact does_unit e1 e2
              · cases ho
            · cases ho
          · cases ho
        · cases ho
      · cases ho
    · cases ho
  case range t x =>
    have hx := oO x (by simp [Op.operands])
    split at ho
    · rename_i tk tv _ _ hT
      split at ho
      · rename_i e
        rw [e] at hx
        simp only [Option.some.injEq, Prod.mk.injEq] at ho
        obtain ⟨rfl, rfl⟩ := ho
        exact (gives_range_nil hE h hT rfl hx).does
      · rename_i id e
        rw [e] at hx
        split at ho
        · rename_i es hst
          simp only [Option.some.injEq, Prod.mk.injEq] at ho
          obtain ⟨rfl, rfl⟩ := ho
          exact (gives_range hE h hT rfl hst hx).does
        · cases ho
      · cases ho
    · cases ho
  case entry x =>
    have hx := oO x (by simp [Op.operands])
    split at ho
    · rename_i i e
      rw [e] at hx
      split at ho
      · rename_i m n seen hi
        split at ho
        · rename_i es hm
          split at ho
          · rename_i hn
            split at ho
            · rename_i j hj
              split at ho
              · rename_i kp vp hes
                simp only [Option.some.injEq, Prod.mk.injEq] at ho
                obtain ⟨rfl, rfl⟩ := ho
                exact (gives_entry h hx hi hm hn hj hes).does
              · cases ho
            · cases ho
          · cases ho
        · cases ho
      · cases ho
    · cases ho
  case extract t i =>
    have ht := oO t (by simp [Op.operands])
    split at ho
    · rename_i vs e
      rw [e] at ht
      obtain ⟨p, hp, q⟩ := Option.map_eq_some_iff.1 ho
      simp only [Prod.mk.injEq] at q
      obtain ⟨rfl, rfl⟩ := q
      exact (gives_extract h ht hp).does
    · cases ho
  case call c =>
    obtain ⟨callee, args, argTypes⟩ := c
    cases callee <;> simp only at ho <;> try (cases ho; done)
    rename_i b
    split at ho
    · rename_i hsz
      have hl : ((args.toList.zip argTypes.toList).map fun q => evalT E q.2 fr q.1).length = (args.toList.map a.eval).length := by simp [hsz]
      have := callB_sound hE h hl (zip_rel (evalT E · fr ·) oT' args.toList argTypes.toList (by simpa using hsz) (fun x hx => oN x (by simp [Op.operands, Call.operands]; simpa using hx))) ho ty (args.map fun | .const _ => true | _ => false)
      have e : (execOp a.eval ⟨dst, .call ⟨.builtin b, args, argTypes⟩, ty, pos, after, guard⟩).run E.P w = (builtin b argTypes.toList.toArray ty (args.map fun | .const _ => true | _ => false) (args.toList.map a.eval).toArray).run E.P w := by
        have q : (args.toList.map a.eval).toArray = args.map a.eval := by apply Array.toList_inj.1; simp
        rw [q]
        simp [execOp, resolve, invoke, Sem.run_bind, Sem.run_pure]
        rfl
      rw [e]
      exact this
    · cases ho
  case build t parts =>
    have hparts : ∀ (j : Nat) (p : Nat × PV) (v : Nat × Value), (parts.toList.map fun q => (q.1, evalO E fr q.2))[j]? = some p → (parts.map fun q => (q.1, a.eval q.2))[j]? = some v → p.1 = v.1 ∧ VRel K ι st p.2 v.2 := by
      intro j p v hp hv
      rw [List.getElem?_map] at hp
      rw [Array.getElem?_map] at hv
      obtain ⟨x, hx, rfl⟩ := Option.map_eq_some_iff.1 hp
      obtain ⟨y, hy, rfl⟩ := Option.map_eq_some_iff.1 hv
      have : x = y := by simpa [hy] using hx.symm
      subst this
      refine ⟨rfl, oO x.2 ?_⟩
      simp only [Op.operands, List.mem_toArray, List.mem_map]
      exact ⟨x, by simpa using Array.mem_of_getElem? hy, rfl⟩
    split at ho
    · rename_i fs _ z hT
      split at ho
      · cases ho
      · rename_i hall
        obtain ⟨p, hp, q⟩ := Option.map_eq_some_iff.1 ho
        simp only [Prod.mk.injEq] at q
        obtain ⟨rfl, rfl⟩ := q
        exact (gives_build hE h hT _ _ (by simp) hparts (.inl ⟨fs, rfl, fun f hfm => List.all_eq_true.1 (by cases hb : fs.all fun f => (E.T f.2).isSome <;> simp_all) f hfm, hp⟩)).does
    · rename_i n e _ z hT
      split at ho
      · rename_i te hTe
        obtain ⟨p, hp, q⟩ := Option.map_eq_some_iff.1 ho
        simp only [Prod.mk.injEq] at q
        obtain ⟨rfl, rfl⟩ := q
        exact (gives_build hE h hT _ _ (by simp) hparts (.inr ⟨n, e, te, rfl, hTe, hp⟩)).does
      · cases ho
    · cases ho
  case buildSlice t len parts => exact opF_buildSlice hE h t len parts oT ho
end Go.Pv
end
section
namespace Go.Pv

/-- A call of the function enters its body. -/
def Enters (P : Program) (f : FuncId) : Prop := ∃ fn, P.funcs[f]? = some fn ∧ (fn.name == "runtime.NumGoroutine") = false ∧ fn.body.isNone = false

def ArgsRel (K : Know) (ι : Nat → Value) (st : Store) (ps : List PV) (vs : Array Value) : Prop :=
  ps.length = vs.size ∧ ∀ (i : Nat) (p : PV) (v : Value), ps[i]? = some p → vs[i]? = some v → VRel K ι st p v

/-- **A contract**: called with these, over this store, the function hands back this, and leaves that store. -/
def Spec (E : Env) (f : FuncId) (args : List PV) (st : Store) (v : PV) (st' : Store) : Prop :=
  Enters E.P f ∧ ∀ (K : Know) (ι : Nat → Value) (w : World) (vs : Array Value), Rel E.G K ι st w → ArgsRel K ι st args vs →
    Calls E.P f vs w fun e w' => ∃ (K' : Know) (ι' : Nat → Value) (rv : Value), e = .returned rv ∧ Stp E.G K ι st w K' ι' st' w' ∧ VRel K' ι' st' v rv

/-- **A plain contract**: no store on either side. -/
def Plain (E : Env) (f : FuncId) (args : List PV) (v : PV) : Prop :=
  Enters E.P f ∧ ∀ (K : Know) (w : World) (vs : Array Value), Rel E.G K (fun _ => undef) [] w → (args.length = vs.size ∧ ∀ (i : Nat) (p : PV) (u : Value), args[i]? = some p → vs[i]? = some u → TRel K p u) →
    Calls E.P f vs w fun e w' => ∃ (K' : Know) (rv : Value), e = .returned rv ∧ Stp E.G K (fun _ => undef) [] w K' (fun _ => undef) [] w' ∧ TRel K' v rv

/-- A round of the range over a function whose record is object 'l'. -/
def YSpec (E : Env) (l : Nat) (args : List PV) (st : Store) (v : PV) (st' : Store) : Prop :=
  ∀ (K : Know) (ι : Nat → Value) (w : World) (vs : Array Value) (b : Nat), Rel E.G K ι st w → ArgsRel K ι st args vs → ι l = .pointer (some ⟨b, 0, none⟩) → l < st.length →
    ∃ fn tmps asg body, (Instr.yield b vs).run E.P w = .ok (.round b fn tmps asg body) w ∧
      RoundIn Fence.wide 0 E.P b fn tmps asg body w fun e w' => ∃ (K' : Know) (ι' : Nat → Value) (rv : Value), e = .returned rv ∧ Stp E.G K ι st w K' ι' st' w' ∧ VRel K' ι' st' v rv

/-- With nothing in the store, nothing is owned. -/
theorem Rel.none {G K ι st w} (h : Rel G K ι st w) (ι' : Nat → Value) : Rel G K ι' [] w :=
  ⟨h.know, h.glob, fun id o e => by simp at e, fun i j b hi => by simp at hi, h.gsz, fun _ _ _ ⟨id, h, _⟩ => by simp at h⟩
theorem not_owned_nil {ι : Nat → Value} {b : Nat} : ¬ Owned ι [] b := fun ⟨id, h, _⟩ => by simp at h

/-- What is done beside the store leaves the store as it was. -/
theorem Stp.beside {G K ι st w K' ι' ι'' w'} (h : Rel G K ι st w) (s : Stp G K ι' [] w K' ι'' [] w') : Stp G K ι st w K' ι st w' := by
  have hx : Ext K ι st K' ι st := ⟨s.ext.know, Nat.le_refl _, fun id o e => ⟨o, e, Ob.le_refl _ _⟩⟩
  have own_lt : ∀ b, Owned ι st b → b < w.heap.size := fun b hb => h.owned_lt hb
  refine ⟨⟨s.rel.know, s.rel.glob, fun id o e => ?_, h.apart, s.rel.gsz, h.gown⟩, hx, s.os, s.tape, s.output, s.size, fun b hb _ => s.block b hb not_owned_nil, fun b hb _ => hb, fun a v e => ?_⟩
  · have hid : id < st.length := (List.getElem?_eq_some_iff.1 e).1
    refine (h.obj id o e).carry hx (fun b hb => s.block b (own_lt b ⟨id, hid, hb⟩) not_owned_nil) (fun b hb j hj => ?_)
    cases hk : K' ⟨b, j, none⟩ with
    | none => rfl
    | some v =>
      rcases s.fresh _ _ hk with q | q | q
      · rw [hj] at q; cases q
      · exact absurd (own_lt b ⟨id, hid, hb⟩) (by simpa using q)
      · exact absurd q not_owned_nil
  · rcases s.fresh a v e with q | q | q
    · exact .inl q
    · exact .inr (.inl q)
    · exact absurd q not_owned_nil

/-- A value without references: read with nothing of the store. -/
theorem strip1_rel {K ι st} {p q : PV} {v : Value} (h : VRel K ι st p v) (e : strip1 p = some q) : TRel K q v := by
  have cell : ∀ (p : PV) (v : Value), VRel K ι st p v → cellOk (tokRo p) = true → TRel K (tokRo p) v := fun p v h hc => share_cell h hc
  unfold strip1 at e
  split at e
  · rename_i cs
    obtain ⟨cs', hs, rfl⟩ := Option.map_eq_some_iff.1 e
    unfold share at hs
    split at hs
    · rename_i hall
      cases hs
      obtain ⟨vs, rfl, hl, h1, hr⟩ := h.aggV
      refine .agg _ vs (by simpa using hl) h1 (fun i p v hp hv => ?_)
      rw [List.getElem?_map] at hp
      obtain ⟨p0, hp0, rfl⟩ := Option.map_eq_some_iff.1 hp
      rw [List.all_eq_true] at hall
      exact cell p0 v (hr i p0 v hp0 hv) (hall _ (List.mem_map.2 ⟨p0, List.mem_of_getElem? hp0, rfl⟩))
    · cases hs
  · cases e
    cases h with | tree _ _ h => exact h
  · split at e
    · rename_i hc
      cases e
      exact cell p v h hc
    · cases e

theorem strips_rel {K ι st} : ∀ (ps qs : List PV), strips ps = some qs → qs.length = ps.length ∧ ∀ (i : Nat) (q : PV), qs[i]? = some q → ∃ p, ps[i]? = some p ∧ ∀ v, VRel K ι st p v → TRel K q v
  | [], qs, h => by simp [strips] at h; subst h; simp
  | p :: ps, qs, h => by
    unfold strips at h
    split at h
    · rename_i q qs' h1 h2
      cases h
      obtain ⟨l, r⟩ := strips_rel ps qs' h2
      refine ⟨by simp [l], fun i x hx => ?_⟩
      cases i with
      | zero => simp at hx; subst hx; exact ⟨p, rfl, fun v hv => strip1_rel hv h1⟩
      | succ i => simpa using r i x (by simpa using hx)
    · cases h

theorem Plain.spec {E : Env} {f : FuncId} {args xs : List PV} {v : PV} (h : Plain E f xs v) (hs : strips args = some xs) (st : Store) : Spec E f args st v st := by
  refine ⟨h.1, fun K ι w vs hr ha => ?_⟩
  obtain ⟨l, r⟩ := strips_rel (K := K) (ι := ι) (st := st) args xs hs
  refine Calls.mono (h.2 K w vs (hr.none _) ⟨by rw [l]; exact ha.1, fun i p u hp hu => ?_⟩) (fun e w' q => ?_)
  · obtain ⟨p0, hp0, hq⟩ := r i p hp
    exact hq u (ha.2 i p0 u hp0 hu)
  · obtain ⟨K', rv, e1, s, t⟩ := q
    exact ⟨K', ι, rv, e1, s.beside hr, .tree _ _ t⟩

/-! ### Operations, calls and all -/

def callArgs (E : Env) (fr : Fr) (c : Call) : List PV := (c.args.toList.zip c.argTypes.toList).map fun q => evalT E q.2 fr q.1

/-- A call's plain meaning. -/
def CallR (E : Env) (fr : Fr) (st : Store) (g : Operand) (c : Call) (v : PV) (st' : Store) : Prop :=
  c.args.size = c.argTypes.size ∧
  match evalO E fr g with
  | .fn f caps => if E.pl f then (caps = [] ∧ st' = st ∧ ∃ xs, strips (callArgs E fr c) = some xs ∧ Plain E f xs v) else Spec E f (callArgs E fr c ++ caps) st v st'
  | .yld l => YSpec E l (callArgs E fr c) st v st'
  | _ => False

/-- One operation's plain meaning. -/
def StepR (E : Env) (fr : Fr) (st : Store) (o : Oper) (v : PV) (st' : Store) : Prop :=
  match o.op with
  | .call c => (match c.callee with
    | .value g => CallR E fr st g c v st'
    | _ => opF E o.type fr st o.op = some (v, st'))
  | op => opF E o.type fr st op = some (v, st')

def guardF (ops : Array Oper) (fr : Fr) (o : Oper) : Option Bool :=
  match o.guard with
  | none => some true
  | some (j, b) => match (ops[j]?).bind (·.dst) with
    | none => some false
    | some t => match fr t with
      | .bool c => some (c == b)
      | .tup [] => some false
      | _ => none

/-- A test, and what hangs on it: looked at once the test is decided. -/
def Br (b : Bool) (A B : Prop) : Prop := (b = true → A) ∧ (b = false → B)
@[congr] theorem Br_congr {b b' : Bool} {A B : Prop} (h : b = b') : Br b A B = Br b' A B := by rw [h]
@[simp] theorem Br_true {A B : Prop} : Br true A B = A := by simp [Br]
@[simp] theorem Br_false {A B : Prop} : Br false A B = B := by simp [Br]
theorem Br.mk {b : Bool} {A B : Prop} (h : b = true → A) (h' : b = false → B) : Br b A B := And.intro h h'

/-- Has the operation more than one outcome: a range's step, a slice compared with nil? -/
def isNext : Op → Bool
  | .next .. => true
  | .binOp .eql _ _ (.const (.slice none 0 0)) _ => true
  | .binOp .neq _ _ (.const (.slice none 0 0)) _ => true
  | _ => false
/-- An operation, and what is asked behind it: of a range's step, at each entry that it may meet. -/
def StepW (E : Env) (fr : Fr) (st : Store) (o : Oper) (k : PV → Store → Prop) : Prop :=
  if isNext o.op = true then NextW E fr st o.op k else ∃ v st', StepR E fr st o v st' ∧ k v st'
theorem StepW.mono {E fr st o} {k k' : PV → Store → Prop} (h : ∀ v st, k v st → k' v st) (q : StepW E fr st o k) : StepW E fr st o k' := by
  unfold StepW at q ⊢
  split at q
  · rename_i e; rw [if_pos e]; exact q.mono h
  · rename_i e; rw [if_neg e]; obtain ⟨v, st', a, b⟩ := q; exact ⟨v, st', a, h _ _ b⟩
theorem stepW_other {E fr st} {o : Oper} {k : PV → Store → Prop} (h : isNext o.op = false) : StepW E fr st o k = ∃ v st', StepR E fr st o v st' ∧ k v st' := by
  unfold StepW
  rw [if_neg (by rw [h]; simp)]

/-- The operations of a region, in the order of the text. -/
def OpsW (E : Env) (ops : Array Oper) : List Oper → Fr → Store → (Fr → Store → Prop) → Prop
  | [], fr, st, K => K fr st
  | o :: rest, fr, st, K => match guardF ops fr o with
    | some g => Br g (StepW E fr st o fun v st' => OpsW E ops rest (upd fr o.dst v) st' K) (OpsW E ops rest (upd fr o.dst (.tup [])) st K)
    | none => False

theorem OpsW.mono {E : Env} {ops : Array Oper} {K K' : Fr → Store → Prop} (hk : ∀ fr st, K fr st → K' fr st) : ∀ (l : List Oper) (fr : Fr) (st : Store), OpsW E ops l fr st K → OpsW E ops l fr st K'
  | [], fr, st, h => hk _ _ h
  | o :: rest, fr, st, h => by
    unfold OpsW at h ⊢
    split at h
    · refine Br.mk (fun hg => ?_) (fun hg => OpsW.mono hk rest _ _ (h.2 hg))
      exact (h.1 hg).mono fun v st' b => OpsW.mono hk rest _ _ b
    · exact h.elim

def FenceOk (F : Fence) : Prop := F = Fence.wide ∨ ∃ l, F = Fence.wide.inRound l
theorem FenceOk.fn {F : Fence} (h : FenceOk F) (f : FuncId) : F.fn f := by
  rcases h with rfl | ⟨l, rfl⟩ <;> trivial
theorem FenceOk.depth {F : Fence} (h : FenceOk F) : F.depth = none := by
  rcases h with rfl | ⟨l, rfl⟩ <;> rfl
theorem FenceOk.calls {F : Fence} (h : FenceOk F) {n : Nat} {P f args w R} (c : Calls P f args w R) : CallsIn F n P f args w R := by
  rcases h with rfl | ⟨l, rfl⟩
  · exact callsIn_wide.2 c
  · exact CallsIn.inRound l (callsIn_wide.2 c)

theorem run_callFunc {P : Program} {f : FuncId} (h : Enters P f) (args : Array Value) (w : World) : (callFunc f args).run P w = .ok (.enter f args) w := by
  obtain ⟨fn, h1, h2, h3⟩ := h
  have h2' : ¬ fn.name = "runtime.NumGoroutine" := by simpa using h2
  cases hb : fn.body with
  | none => rw [hb] at h3; cases h3
  | some c => simp [callFunc, Sem.run_bind, run_program, h1, h2', hb, Sem.run_pure]

theorem FenceOk.round {F : Fence} (h : FenceOk F) {n : Nat} {P l f tmps asg body w R} (c : RoundIn Fence.wide 0 P l f tmps asg body w R) : RoundIn F n P l f tmps asg body w R := by
  refine ⟨h.fn _, fun c' cs _ => ?_⟩
  obtain ⟨e, w', hR, s⟩ := c.2 c' cs (room_wide _)
  refine ⟨e, w', hR, ?_⟩
  rcases h with rfl | ⟨l, rfl⟩ <;> exact s

theorem callArgs_rel {E : Env} {K ι st w fr} {a : Act} (h : Rel E.G K ι st w) (hf : FrRel K ι st fr a.tmps) {c : Call} (hsz : c.args.size = c.argTypes.size) (hin : ∀ x ∈ c.args, opdIn a.tmps.size x = true) :
    ArgsRel K ι st (callArgs E fr c) (c.args.map a.eval) := by
  refine ⟨by simp [callArgs, hsz], fun i p v hp hv => ?_⟩
  refine zip_rel (evalT E · fr ·) (fun t x hx => evalT_rel h hf t x hx) c.args.toList c.argTypes.toList (by simpa using hsz) (fun x hx => hin x (by simpa using hx)) i p v hp ?_
  rw [← hv, Array.getElem?_map, List.getElem?_map]
  simp

theorem stepR_sound {E : Env} (hE : EnvOk E) {F : Fence} (hF : FenceOk F) {n : Nat} {K ι st w fr} {a : Act} (h : Rel E.G K ι st w) (hf : FrRel K ι st fr a.tmps) {o : Oper} (hin : opIn a.tmps.size o.op = true) {v : PV} {st' : Store}
    (ho : StepR E fr st o v st') {next : Act → World → Prop} {Q : Exit → Act → World → Prop}
    (hk : ∀ (K' : Know) (ι' : Nat → Value) (w' : World) (rv : Value), Stp E.G K ι st w K' ι' st' w' → VRel K' ι' st' v rv → next (a.put o.dst rv) w') : o.wpIn F n E.P a w next Q := by
  have nd : ∀ c, o.op ≠ .defer c := by
    intro c e
    unfold StepR at ho
    rw [e] at ho
    simp [opF] at ho
  refine ⟨fun f _ => hF.fn f, ?_⟩
  rw [Oper.semAt_eq _ _ _ nd]
  have plainOp : opF E o.type fr st o.op = some (v, st') → o.uponIn F n E.P a next Q ((execOp a.eval o).run E.P w) := by
    intro e
    obtain ⟨K', ι', w', nx, rv, e1, e2, s, r⟩ := opF_sound hE h hf hin e
    rw [e1]
    rcases e2 with rfl | ⟨rfl, rfl⟩
    · exact hk K' ι' w' rv s r
    · exact hk K' ι' w' _ s r
  unfold StepR at ho
  split at ho
  · rename_i c hop
    split at ho
    · rename_i g hcal
      obtain ⟨hsz, ho⟩ := ho
      obtain ⟨callee, args, argTypes⟩ := c
      simp only at hcal
      subst hcal
      have hops : o.op.operands = #[g] ++ args := by rw [hop]; rfl
      have hg := evalO_rel h hf g (opIn_mem hin (by rw [hops]; simp))
      have hargs := callArgs_rel (E := E) h hf (c := ⟨.value g, args, argTypes⟩) hsz (fun x hx => opIn_mem hin (by rw [hops]; simp at hx ⊢; exact .inr hx))
      have hexec : execOp a.eval o = (do let d ← resolve a.eval ⟨.value g, args, argTypes⟩ o.type; invoke d.target d.args) := by unfold execOp; rw [hop]
      have enter : ∀ f (caps : Array Value) (w0 : World), a.eval g = .func (.func f) #[] caps → Enters E.P f → (execOp a.eval o).run E.P w0 = .ok (.enter f (args.map a.eval ++ caps)) w0 := by
        intro f caps w0 e he
        rw [hexec]
        simp [Sem.run_bind, resolve, Deferred.ofValue, e, invoke, Sem.run_pure, run_callFunc he]
      split at ho
      · rename_i f caps he
        rw [he] at hg
        obtain ⟨vcs, e1, hcl, hcr⟩ : ∃ vs, a.eval g = .func (.func f) #[] vs ∧ caps.length = vs.size ∧ ∀ (i : Nat) (p : PV) (v : Value), caps[i]? = some p → vs[i]? = some v → VRel K ι st p v := by
          generalize a.eval g = z at hg ⊢
          cases hg with
          | tree _ _ q => cases q; exact ⟨_, rfl, rfl, fun i p v hp => by simp at hp⟩
          | fn _ _ vs hl hr => exact ⟨vs, rfl, hl, hr⟩
        have go : Spec E f (callArgs E fr ⟨.value g, args, argTypes⟩ ++ caps) st v st' → o.uponIn F n E.P a next Q ((execOp a.eval o).run E.P w) := by
          intro hs
          rw [enter f vcs w e1 hs.1]
          refine ⟨fun q => by rw [hF.depth] at q; simp at q, hF.calls ((hs.2 K ι w _ h ⟨?_, fun i p u hp hu => ?_⟩).mono fun e w' q => ?_)⟩
          · rw [List.length_append, Array.size_append, hargs.1, hcl]
          · by_cases hi : i < (args.map a.eval).size
            · rw [Array.getElem?_append_left hi] at hu
              rw [List.getElem?_append_left (by rw [hargs.1]; exact hi)] at hp
              exact hargs.2 i p u hp hu
            · rw [Array.getElem?_append_right (by omega)] at hu
              rw [List.getElem?_append_right (by rw [hargs.1]; simpa using hi), hargs.1] at hp
              exact hcr _ p u hp hu
          · obtain ⟨K', ι', rv, rfl, s, r⟩ := q
            exact hk K' ι' w' rv s r
        split at ho
        · obtain ⟨rfl, rfl, xs, hx, hp⟩ := ho
          exact go (by rw [List.append_nil]; exact hp.spec hx _)
        · exact go ho
      · rename_i l he
        rw [he] at hg
        obtain ⟨b, e1, e2, hlt⟩ : ∃ b, a.eval g = .func (.yield b) #[] #[] ∧ ι l = .pointer (some ⟨b, 0, none⟩) ∧ l < st.length := by
          generalize a.eval g = z at hg ⊢
          cases hg with
          | tree _ _ q => cases q
          | yld _ b fr ps asg body nt r pd hst hb => exact ⟨b, rfl, hb, (List.getElem?_eq_some_iff.1 hst).1⟩
        obtain ⟨fn, tmps, asg, body, e3, e4⟩ := ho K ι w _ b h hargs e2 hlt
        have : (execOp a.eval o).run E.P w = .ok (.round b fn tmps asg body) w := by
          rw [hexec]
          simp only [Sem.run_bind, resolve, Deferred.ofValue, e1, Sem.run_pure, Result.andThen_ok, invoke]
          simpa using e3
        rw [this]
        refine ⟨fun q => by rw [hF.depth] at q; simp at q, hF.round (RoundIn.mono e4 fun e w' q => ?_)⟩
        obtain ⟨K', ι', rv, rfl, s, r⟩ := q
        exact hk K' ι' w' rv s r
      · exact ho.elim
    · exact plainOp (by rw [hop] at ho ⊢; exact ho)
  · exact plainOp ho

end Go.Pv
end
section
namespace Go.Pv

inductive Eff where
  | n | r | a | w
  deriving DecidableEq

/-- What an operation has to do with the store: nothing; it reads; it lays something new; it may change it. -/
def effO (pl : FuncId → Bool) (o : Oper) : Eff :=
  match o.op with
  | .call c => (match c.callee with
    | .builtin .len => .r
    | .builtin .max | .builtin .min => .n
    | .value (.func f) => if pl f then .n else .w
    | _ => .w)
  | .load .. | .lookup .. | .slice .. | .entry _ => .r
  | .alloc _ | .box .. | .makeMap .. | .makeSlice .. | .range .. => .a
  | .store .. | .mapUpdate .. | .next .. => .w
  | _ => .n

def effPair : Eff → Eff → Bool
  | .n, _ | _, .n | .r, .r | .r, .a => true
  | _, _ => false

def tmpsOf (ops : Array Oper) (o : Oper) : List Nat := o.looksAt ops
def apartT (ops : Array Oper) (x y : Oper) : Bool :=
  (match x.dst with | some d => !(tmpsOf ops y).contains d && y.dst != some d | none => true) &&
  (match y.dst with | some d => !(tmpsOf ops x).contains d | none => true)

/-- May the order of the text stand for every order? -/
def drawOk (pl : FuncId → Bool) (ops : Array Oper) (B : List Nat) : Bool :=
  (List.range ops.size).all fun j => match ops[j]? with
    | none => false
    | some oj => !isNext oj.op && (
      (oj.after.all fun e => !Region.binds .any e || decide (e.on < j)) &&
      ((B.getD j 0 == oj.after.foldl (fun s e => if Region.binds .any e then s ||| 2 ^ e.on ||| B.getD e.on 0 else s) 0) &&
      (List.range j).all fun i => (B.getD j 0).testBit i || match ops[i]? with
        | none => false
        | some oi => apartT ops oi oj && effPair (effO pl oi) (effO pl oj)))

/-! ### What an operation looks at -/

theorem evalO_congr {E : Env} {fr fr' : Fr} {x : Operand} (h : ∀ t, x = .tmp t → fr' t = fr t) : evalO E fr' x = evalO E fr x := by
  cases x <;> simp [evalO]
  exact h _ rfl
theorem evalT_congr {E : Env} {t : TypeId} {fr fr' : Fr} {x : Operand} (h : ∀ t, x = .tmp t → fr' t = fr t) : evalT E t fr' x = evalT E t fr x := by
  unfold evalT
  split
  · rfl
  · exact evalO_congr h

theorem opF_congr {E : Env} {ty : TypeId} {fr fr' : Fr} {st : Store} {op : Op} (h : ∀ t, Operand.tmp t ∈ op.operands → fr' t = fr t) : opF E ty fr' st op = opF E ty fr st op := by
  have hO : ∀ x, x ∈ op.operands → evalO E fr' x = evalO E fr x := fun x hx => evalO_congr fun t e => h t (e ▸ hx)
  have hT : ∀ t x, x ∈ op.operands → evalT E t fr' x = evalT E t fr x := fun t x hx => evalT_congr fun t e => h t (e ▸ hx)
  cases op <;> try rfl
  case makeMap t r => cases r <;> rfl
  case move x => simp only [opF]; rw [hT ty x (by simp [Op.operands])]
  case assign x => simp only [opF]; rw [hT ty x (by simp [Op.operands])]
  case pick c a b => simp only [opF]; rw [hO c (by simp [Op.operands]), hO a (by simp [Op.operands]), hO b (by simp [Op.operands])]
  case box e x => simp only [opF]; rw [hT e x (by simp [Op.operands])]
  case build t parts =>
    have : (parts.toList.map fun q => (q.1, evalO E fr' q.2)) = parts.toList.map fun q => (q.1, evalO E fr q.2) :=
      List.map_congr_left fun q hq => by rw [hO q.2 (by simp only [Op.operands, List.mem_toArray, List.mem_map]; exact ⟨q, hq, rfl⟩)]
    simp only [opF]; rw [this]
  case buildSlice t len parts =>
    have e1 : ∀ e, (parts.toList.all fun q => (scal (evalT E e fr' q.2) || isAgg (evalT E e fr' q.2)) && (cellsOf (evalT E e fr' q.2)).length == (match E.T e with | some te => te.size | none => 0)) = parts.toList.all fun q => (scal (evalT E e fr q.2) || isAgg (evalT E e fr q.2)) && (cellsOf (evalT E e fr q.2)).length == (match E.T e with | some te => te.size | none => 0) := fun e => by
      rw [Bool.eq_iff_iff, List.all_eq_true, List.all_eq_true]
      exact forall_congr' fun q => forall_congr' fun hq => by rw [hT e q.2 (by simp only [Op.operands, List.mem_toArray, List.mem_map]; exact ⟨q, hq, rfl⟩)]
    have e2 : ∀ e, (parts.toList.map fun q => (cellsOf (evalT E e fr' q.2)).map tokRo) = parts.toList.map fun q => (cellsOf (evalT E e fr q.2)).map tokRo := fun e =>
      List.map_congr_left fun q hq => by rw [hT e q.2 (by simp only [Op.operands, List.mem_toArray, List.mem_map]; exact ⟨q, hq, rfl⟩)]
    simp only [opF]
    cases hti : E.T t with
    | none => rfl
    | some ti =>
      obtain ⟨k, s, z⟩ := ti
      cases k <;> try rfl
      rename_i e
      cases hte : E.T e with
      | none => simp only [hte]
      | some te =>
        have e1 := e1 e
        simp only [hte] at e1 ⊢
        rw [e1, e2 e]
  case load t x => simp only [opF]; rw [hO x (by simp [Op.operands])]
  case store t x y => simp only [opF]; rw [hO x (by simp [Op.operands]), hT t y (by simp [Op.operands])]
  case binOp op t x y _ => simp only [opF]; rw [hO x (by simp [Op.operands]), hO y (by simp [Op.operands])]
  case unOp op t x => simp only [opF]; rw [hO x (by simp [Op.operands])]
  case nilCheck x => simp only [opF]; rw [hO x (by simp [Op.operands])]
  case convert s d x => simp only [opF]; rw [hO x (by simp [Op.operands])]
  case makeFunc f first caps =>
    cases f <;> try rfl
    have : caps.toList.map (evalO E fr') = caps.toList.map (evalO E fr) := List.map_congr_left fun q hq => hO q (by simp [Op.operands]; exact .inr (by simpa using hq))
    simp only [opF]; rw [this]
  case makeSlice t l c => simp only [opF]; rw [hO l (by simp [Op.operands]), hO c (by simp [Op.operands])]
  case slice t x lo hi mx =>
    have o : ∀ y : Option Operand, (∀ z, y = some z → z ∈ (Op.slice t x lo hi mx).operands) → y.map (evalO E fr') = y.map (evalO E fr) := fun y hy => by
      cases y with
      | none => rfl
      | some z => simp [hO z (hy z rfl)]
    simp only [opF]
    rw [hO x (by simp [Op.operands]), o lo (fun z e => by subst e; simp [Op.operands]), o hi (fun z e => by subst e; simp [Op.operands]), o mx (fun z e => by subst e; simp [Op.operands])]
  case range t x => simp only [opF]; rw [hO x (by simp [Op.operands])]
  case entry x => simp only [opF]; rw [hO x (by simp [Op.operands])]
  case fieldAddr s x f => simp only [opF]; rw [hO x (by simp [Op.operands])]
  case field t x f => simp only [opF]; rw [hO x (by simp [Op.operands])]
  case indexAddr t x i => simp only [opF]; rw [hO x (by simp [Op.operands]), hO i (by simp [Op.operands])]
  case index t x i => simp only [opF]; rw [hO x (by simp [Op.operands]), hO i (by simp [Op.operands])]
  case lookup t m k ok => simp only [opF]; rw [hO m (by simp [Op.operands]), hO k (by simp [Op.operands])]
  case mapUpdate t m k x =>
    have : ∀ tv, evalT E tv fr' x = evalT E tv fr x := fun tv => hT tv x (by simp [Op.operands])
    simp only [opF]; rw [hO m (by simp [Op.operands]), hO k (by simp [Op.operands])]
    simp only [this]
  case extract t i => simp only [opF]; rw [hO t (by simp [Op.operands])]
  case call c =>
    obtain ⟨callee, args, argTypes⟩ := c
    cases callee <;> try rfl
    have : ((args.toList.zip argTypes.toList).map fun q => evalT E q.2 fr' q.1) = (args.toList.zip argTypes.toList).map fun q => evalT E q.2 fr q.1 :=
      List.map_congr_left fun q hq => hT q.2 q.1 (by
        have := (List.of_mem_zip hq).1
        simp [Op.operands, Call.operands]; simpa using this)
    simp only [opF]; rw [this]

theorem stepR_call {E : Env} {fr : Fr} {st : Store} {o : Oper} {v : PV} {st' : Store} {c : Call} {g : Operand} (hop : o.op = .call c) (hc : c.callee = .value g) : StepR E fr st o v st' = CallR E fr st g c v st' := by
  unfold StepR
  rw [hop]
  simp only [hc]
theorem stepR_op {E : Env} {fr : Fr} {st : Store} {o : Oper} {v : PV} {st' : Store} (h : ∀ c g, o.op = .call c → c.callee ≠ .value g) : StepR E fr st o v st' = (opF E o.type fr st o.op = some (v, st')) := by
  unfold StepR
  split
  · rename_i c hop
    split
    · rename_i g hc; exact absurd hc (h c g hop)
    · rw [hop]
  · rfl

theorem stepR_congr {E : Env} {fr fr' : Fr} {st : Store} {o : Oper} {v : PV} {st' : Store} (h : ∀ t, Operand.tmp t ∈ o.op.operands → fr' t = fr t) (s : StepR E fr st o v st') : StepR E fr' st o v st' := by
  by_cases hc : ∃ c g, o.op = .call c ∧ c.callee = .value g
  · obtain ⟨c, g, hop, hc⟩ := hc
    rw [stepR_call hop hc] at s ⊢
    have hops : o.op.operands = #[g] ++ c.args := by rw [hop]; simp [Op.operands, Call.operands, hc]
    have e1 : evalO E fr' g = evalO E fr g := evalO_congr fun t e => h t (by rw [hops, ← e]; simp)
    have e2 : callArgs E fr' c = callArgs E fr c := List.map_congr_left fun q hq => evalT_congr fun t e => h t (by
      have := (List.of_mem_zip hq).1
      rw [hops, ← e]; simp at this ⊢; exact .inr this)
    unfold CallR at s ⊢
    rw [e1, e2]
    exact s
  · have hn : ∀ c g, o.op = .call c → c.callee ≠ .value g := fun c g e1 e2 => hc ⟨c, g, e1, e2⟩
    rw [stepR_op hn] at s ⊢
    rw [← s]
    exact opF_congr fun t ht => h t ht

/-! ### The effects -/

theorem callB_n {E : Env} {st : Store} {b : Builtin} {ts : List TypeId} {xs : List PV} (hb : b = .max ∨ b = .min) : callB E st b ts xs = (callB E [] b ts xs).map fun q => (q.1, st) := by
  rcases hb with rfl | rfl <;> unfold callB <;> split <;> (try contradiction) <;> (try rfl) <;> (split <;> rfl)

theorem opF_n {E : Env} {ty : TypeId} {fr : Fr} {o : Oper} {pl : FuncId → Bool} (h : effO pl o = .n) (hn : ∀ c g, o.op = .call c → c.callee ≠ .value g) (st : Store) : opF E ty fr st o.op = (opF E ty fr [] o.op).map fun q => (q.1, st) := by
  obtain ⟨dst, op, ty', pos, after, guard⟩ := o
  cases op <;> simp only [effO] at h <;> (try cases h; done) <;> (try rfl)
  case makeFunc f first caps => cases f <;> first | rfl | (simp only [opF]; split <;> rfl)
  all_goals simp only [opF]
  case call c =>
    obtain ⟨callee, args, argTypes⟩ := c
    cases callee with
    | builtin b =>
      have hb : b = .max ∨ b = .min := by cases b <;> simp at h <;> simp
      simp only
      split
      · exact callB_n hb
      · rfl
    | value g => exact absurd rfl (hn _ g rfl)
    | invoke r m => rfl
  all_goals repeat' split
  all_goals first | rfl | (simp only [Option.map_map]; rfl)

theorem opF_a {E : Env} {ty : TypeId} {fr : Fr} {st st' : Store} {v : PV} {o : Oper} {pl : FuncId → Bool} (h : effO pl o = .a) (hn : ∀ c g, o.op = .call c → c.callee ≠ .value g) (ho : opF E ty fr st o.op = some (v, st')) : ∃ x, st' = st ++ x := by
  obtain ⟨dst, op, ty', pos, after, guard⟩ := o
  cases op
  case call c =>
    obtain ⟨callee, args, argTypes⟩ := c
    cases callee with
    | builtin b => cases b <;> cases h
    | invoke r m => cases h
    | value g => exact absurd rfl (hn _ g rfl)
  case makeMap t r => cases r <;> simp [opF] at ho; exact ⟨_, ho.2.symm⟩
  all_goals simp only [effO] at h
  all_goals (try cases h; done)
  all_goals simp only [opF] at ho
  all_goals (repeat' split at ho) <;> (try cases ho; done)
  all_goals (simp only [Option.some.injEq, Prod.mk.injEq] at ho; exact ⟨_, ho.2.symm⟩)

theorem get_app {st x : Store} {id : Nat} {o : Ob} (h : st[id]? = some o) : (st ++ x)[id]? = some o := by
  rw [List.getElem?_append_left (List.getElem?_eq_some_iff.1 h).1]; exact h

theorem opF_r {E : Env} {ty : TypeId} {fr : Fr} {st st' : Store} {v : PV} {o : Oper} {pl : FuncId → Bool} (h : effO pl o = .r) (hn : ∀ c g, o.op = .call c → c.callee ≠ .value g) (ho : opF E ty fr st o.op = some (v, st')) : st' = st ∧ ∀ x, opF E ty fr (st ++ x) o.op = some (v, st ++ x) := by
  obtain ⟨dst, op, ty', pos, after, guard⟩ := o
  cases op
  case call c =>
    obtain ⟨callee, args, argTypes⟩ := c
    cases callee with
    | invoke r m => cases h
    | value g => exact absurd rfl (hn _ g rfl)
    | builtin b =>
      cases b
      case len =>
        simp only [opF] at ho ⊢
        split at ho
        · rename_i hsz
          simp only [if_pos hsz]
          unfold callB at ho ⊢
          split at ho <;> (try contradiction) <;> (try cases ho; done)
          rename_i t x heq
          split at ho
          · cases ho
          · rename_i ti hT
            split at ho
            · simp only [Option.some.injEq, Prod.mk.injEq] at ho; obtain ⟨rfl, rfl⟩ := ho; exact ⟨rfl, fun _ => rfl⟩
            · simp only [Option.some.injEq, Prod.mk.injEq] at ho; obtain ⟨rfl, rfl⟩ := ho; exact ⟨rfl, fun _ => rfl⟩
            · simp only [Option.some.injEq, Prod.mk.injEq] at ho; obtain ⟨rfl, rfl⟩ := ho; exact ⟨rfl, fun _ => rfl⟩
            · simp only [Option.some.injEq, Prod.mk.injEq] at ho; obtain ⟨rfl, rfl⟩ := ho; exact ⟨rfl, fun _ => rfl⟩
            · split at ho
              · rename_i hst
                simp only [Option.some.injEq, Prod.mk.injEq] at ho
                obtain ⟨rfl, rfl⟩ := ho
                exact ⟨rfl, fun x => by simp only [get_app hst]⟩
              · cases ho
            · cases ho
        · cases ho
      all_goals cases h
  case load t x =>
    simp only [opF] at ho ⊢
    split at ho
    · obtain ⟨p, hp, q⟩ := Option.map_eq_some_iff.1 ho
      simp only [Prod.mk.injEq] at q
      obtain ⟨rfl, rfl⟩ := q
      exact ⟨rfl, fun x => by rw [hp]; rfl⟩
    · split at ho
      · rename_i hst
        split at ho
        · rename_i htot
          obtain ⟨p, hp, q⟩ := Option.map_eq_some_iff.1 ho
          simp only [Prod.mk.injEq] at q
          obtain ⟨rfl, rfl⟩ := q
          exact ⟨rfl, fun x => by simp only [get_app hst, if_pos htot, hp]; rfl⟩
        · cases ho
      · cases ho
    · cases ho
  case entry y =>
    simp only [opF] at ho ⊢
    split at ho
    · split at ho
      · rename_i hi
        split at ho
        · rename_i hm
          split at ho
          · rename_i hn
            split at ho
            · rename_i hj
              split at ho
              · rename_i he
                simp only [Option.some.injEq, Prod.mk.injEq] at ho
                obtain ⟨rfl, rfl⟩ := ho
                exact ⟨rfl, fun x => by simp only [get_app hi, get_app hm, if_pos hn, hj, he]⟩
              · cases ho
            · cases ho
          · cases ho
        · cases ho
      · cases ho
    · cases ho
  case lookup t m k ok =>
    simp only [opF] at ho ⊢
    split at ho
    · split at ho
      · split at ho
        · rename_i hk
          simp only [if_pos hk]
          split at ho
          · rename_i es hes
            have hes' : ∀ x, mapEs (st ++ x) (evalO E fr m) = some es := fun x => by
              unfold mapEs at hes ⊢
              split at hes
              · exact hes
              · split at hes
                · rename_i hst; simp only [get_app hst]; exact hes
                · cases hes
              · cases hes
            simp only [hes']
            split at ho
            · simp only [Option.some.injEq, Prod.mk.injEq] at ho; obtain ⟨rfl, rfl⟩ := ho; exact ⟨rfl, fun _ => rfl⟩
            · simp only [Option.some.injEq, Prod.mk.injEq] at ho; obtain ⟨rfl, rfl⟩ := ho; exact ⟨rfl, fun _ => rfl⟩
            · cases ho
          · cases ho
        · cases ho
      · cases ho
    · cases ho
  case slice t x lo hi mx =>
    simp only [opF] at ho ⊢
    split at ho
    · split at ho
      · split at ho
        · split at ho
          · rename_i hmx
            simp only [Option.some.injEq, Prod.mk.injEq] at ho; obtain ⟨rfl, rfl⟩ := ho; exact ⟨rfl, fun _ => by simp only [if_pos hmx]⟩
          · cases ho
        · cases ho
      · split at ho
        · split at ho
          · cases ho
          · rename_i hk
            simp only [Option.some.injEq, Prod.mk.injEq] at ho; obtain ⟨rfl, rfl⟩ := ho; exact ⟨rfl, fun _ => by simp only [if_neg hk]⟩
        · cases ho
      · split at ho
        · split at ho
          · rename_i hk
            simp only [Option.some.injEq, Prod.mk.injEq] at ho; obtain ⟨rfl, rfl⟩ := ho; exact ⟨rfl, fun _ => by simp only [if_pos hk]⟩
          · cases ho
        · cases ho
      · split at ho
        · rename_i hTe hst hsl
          split at ho
          · rename_i hk
            simp only [Option.some.injEq, Prod.mk.injEq] at ho; obtain ⟨rfl, rfl⟩ := ho; exact ⟨rfl, fun _ => by simp only [get_app hst, hTe, hsl, if_pos hk]⟩
          · cases ho
        · cases ho
      · cases ho
    · cases ho
  all_goals cases h

theorem stepR_n {E : Env} {fr : Fr} {st st' : Store} {v : PV} {o : Oper} (h : effO E.pl o = .n) (s : StepR E fr st o v st') : st' = st ∧ ∀ st1, StepR E fr st1 o v st1 := by
  by_cases hc : ∃ c g, o.op = .call c ∧ c.callee = .value g
  · obtain ⟨c, g, hop, hc⟩ := hc
    rw [stepR_call hop hc] at s
    unfold effO at h
    rw [hop] at h
    simp only [hc] at h
    cases g with
    | func f =>
      simp only at h
      split at h
      · rename_i hp
        unfold CallR at s
        simp only [evalO, if_pos hp] at s
        obtain ⟨s1, s2, s3, s4⟩ := s
        refine ⟨s3, fun st1 => ?_⟩
        rw [stepR_call hop hc]
        unfold CallR
        simp only [evalO, if_pos hp]
        exact ⟨s1, s2, trivial, s4⟩
      · cases h
    | _ => cases h
  · have hn : ∀ c g, o.op = .call c → c.callee ≠ .value g := fun c g e1 e2 => hc ⟨c, g, e1, e2⟩
    rw [stepR_op hn] at s
    rw [opF_n h hn st] at s
    obtain ⟨p, hp, q⟩ := Option.map_eq_some_iff.1 s
    simp only [Prod.mk.injEq] at q
    obtain ⟨rfl, rfl⟩ := q
    refine ⟨rfl, fun st1 => ?_⟩
    rw [stepR_op hn, opF_n h hn st1, hp]
    rfl

theorem effO_value {pl : FuncId → Bool} {o : Oper} {c : Call} {g : Operand} (hop : o.op = .call c) (hc : c.callee = .value g) : effO pl o = .n ∨ effO pl o = .w := by
  unfold effO
  rw [hop]
  simp only [hc]
  cases g with
  | func f => simp only; split <;> simp
  | _ => exact .inr rfl

theorem stepR_r {E : Env} {fr : Fr} {st st' : Store} {v : PV} {o : Oper} (h : effO E.pl o = .r) (s : StepR E fr st o v st') : st' = st ∧ ∀ x, StepR E fr (st ++ x) o v (st ++ x) := by
  have hn : ∀ c g, o.op = .call c → c.callee ≠ .value g := fun c g e1 e2 => by
    rcases effO_value (pl := E.pl) e1 e2 with q | q <;> rw [h] at q <;> cases q
  rw [stepR_op hn] at s
  obtain ⟨e, q⟩ := opF_r h hn s
  exact ⟨e, fun x => by rw [stepR_op hn]; exact q x⟩
theorem stepR_a {E : Env} {fr : Fr} {st st' : Store} {v : PV} {o : Oper} (h : effO E.pl o = .a) (s : StepR E fr st o v st') : ∃ x, st' = st ++ x := by
  have hn : ∀ c g, o.op = .call c → c.callee ≠ .value g := fun c g e1 e2 => by
    rcases effO_value (pl := E.pl) e1 e2 with q | q <;> rw [h] at q <;> cases q
  rw [stepR_op hn] at s
  exact opF_a h hn s

/-! ### The order of the text, taken apart -/

/-- What the operations do one after another. -/
def TrOk (E : Env) (ops : Array Oper) (fs : Nat → Fr) (ss : Nat → Store) (vs : Nat → PV) (wt : Nat → Bool) (i : Nat) (o : Oper) : Prop :=
  guardF ops (fs i) o = some (wt i) ∧ fs (i + 1) = upd (fs i) o.dst (vs i) ∧ (wt i = true → StepR E (fs i) (ss i) o (vs i) (ss (i + 1))) ∧ (wt i = false → vs i = .tup [] ∧ ss (i + 1) = ss i)

theorem OpsW.trace {E : Env} {ops : Array Oper} {K : Fr → Store → Prop} : ∀ (l : List Oper) (fr : Fr) (st : Store), (∀ o ∈ l, isNext o.op = false) → OpsW E ops l fr st K →
    ∃ (fs : Nat → Fr) (ss : Nat → Store) (vs : Nat → PV) (wt : Nat → Bool), fs 0 = fr ∧ ss 0 = st ∧ (∀ (i : Nat) (o : Oper), l[i]? = some o → TrOk E ops fs ss vs wt i o) ∧ K (fs l.length) (ss l.length)
  | [], fr, st, _, h => ⟨fun _ => fr, fun _ => st, fun _ => .bad, fun _ => false, rfl, rfl, by simp, h⟩
  | o :: rest, fr, st, hx, h => by
    unfold OpsW at h
    rw [stepW_other (hx o (by simp))] at h
    have h : (guardF ops fr o = some true ∧ ∃ v st', StepR E fr st o v st' ∧ OpsW E ops rest (upd fr o.dst v) st' K) ∨ (guardF ops fr o = some false ∧ OpsW E ops rest (upd fr o.dst (.tup [])) st K) := by
      split at h
      · rename_i g hg
        cases g with
        | true => exact .inl ⟨hg, h.1 rfl⟩
        | false => exact .inr ⟨hg, h.2 rfl⟩
      · exact h.elim
    rcases h with ⟨hg, h⟩ | ⟨hg, h⟩
    · obtain ⟨v, st', hs, h⟩ := h
      obtain ⟨fs, ss, vs, wt, h1, h2, h3, h4⟩ := OpsW.trace rest _ _ (fun o ho => hx o (by simp [ho])) h
      refine ⟨fun | 0 => fr | i + 1 => fs i, fun | 0 => st | i + 1 => ss i, fun | 0 => v | i + 1 => vs i, fun | 0 => true | i + 1 => wt i, rfl, rfl, fun i o' hi => ?_, h4⟩
      cases i with
      | zero =>
        simp at hi; subst hi
        refine ⟨hg, h1, fun _ => by rw [← h2] at hs; exact hs, fun q => ?_⟩
        exact absurd q (by simp)
      | succ i => exact h3 i o' (by simpa using hi)
    · obtain ⟨fs, ss, vs, wt, h1, h2, h3, h4⟩ := OpsW.trace rest _ _ (fun o ho => hx o (by simp [ho])) h
      refine ⟨fun | 0 => fr | i + 1 => fs i, fun | 0 => st | i + 1 => ss i, fun | 0 => .tup [] | i + 1 => vs i, fun | 0 => false | i + 1 => wt i, rfl, rfl, fun i o' hi => ?_, h4⟩
      cases i with
      | zero =>
        simp at hi; subst hi
        refine ⟨hg, h1, fun q => ?_, fun _ => ⟨rfl, h2⟩⟩
        exact absurd q (by simp)
      | succ i => exact h3 i o' (by simpa using hi)

/-! ### In whatever order -/
section canon
variable (ops : Array Oper) (L : Nat → Bool) (f0 : Fr) (s0 : Store) (vs : Nat → PV) (ss : Nat → Store) (chg : Nat → Bool)

def cFr : Nat → Fr
  | 0 => f0
  | i + 1 => if L i then (match ops[i]? with | some o => upd (cFr i) o.dst (vs i) | none => cFr i) else cFr i
def cSt : Nat → Store
  | 0 => s0
  | i + 1 => if L i && chg i then ss (i + 1) else cSt i
end canon

def chgO (pl : FuncId → Bool) (ops : Array Oper) (i : Nat) : Bool := match ops[i]? with | some o => (match effO pl o with | .a | .w => true | _ => false) | none => false

theorem upd_ne {fr : Fr} {d : Option Nat} {v : PV} {t : Nat} (h : d ≠ some t) : upd fr d v t = fr t := by
  cases d with
  | none => rfl
  | some u => simp only [upd]; rw [if_neg]; intro e; exact h (by rw [e])
theorem upd_eq {fr : Fr} {v : PV} {t : Nat} : upd fr (some t) v t = v := by simp [upd]

/-- The facts of a region that passes the check. -/
structure DrawFacts (pl : FuncId → Bool) (ops : Array Oper) (B : List Nat) : Prop where
  nonext : ∀ (j : Nat) (oj : Oper), ops[j]? = some oj → isNext oj.op = false
  edge : ∀ (j : Nat) (oj : Oper), ops[j]? = some oj → ∀ e ∈ oj.after, Region.binds .any e = true → e.on < j
  mask : ∀ (j : Nat) (oj : Oper), ops[j]? = some oj → B.getD j 0 = oj.after.foldl (fun s e => if Region.binds .any e then s ||| 2 ^ e.on ||| B.getD e.on 0 else s) 0
  pair : ∀ (i j : Nat) (oi oj : Oper), ops[i]? = some oi → ops[j]? = some oj → i < j → (B.getD j 0).testBit i = false → apartT ops oi oj = true ∧ effPair (effO pl oi) (effO pl oj) = true

theorem drawFacts {pl : FuncId → Bool} {ops : Array Oper} {B : List Nat} (h : drawOk pl ops B = true) : DrawFacts pl ops B := by
  unfold drawOk at h
  rw [List.all_eq_true] at h
  have at_ : ∀ (j : Nat) (oj : Oper), ops[j]? = some oj → _ := fun j oj hj => by
    have := h j (by simpa using (Array.getElem?_eq_some_iff.1 hj).1)
    rw [hj] at this
    simp only [Bool.and_eq_true] at this
    exact this
  refine ⟨fun j oj hj => by simpa using (at_ j oj hj).1, fun j oj hj e he hb => ?_, fun j oj hj => ?_, fun i j oi oj hi hj hlt hB => ?_⟩
  · have := (at_ j oj hj).2.1
    rw [Array.all_eq_true_iff_forall_mem] at this
    simpa [hb] using this e he
  · simpa using (at_ j oj hj).2.2.1
  · have := (at_ j oj hj).2.2.2
    rw [List.all_eq_true] at this
    have := this i (by simpa using hlt)
    rw [hB, hi] at this
    simpa using this

theorem mask_spec (B : List Nat) (l : List Edge) (s0 : Nat) (i : Nat) : (l.foldl (fun s e => if Region.binds .any e then s ||| 2 ^ e.on ||| B.getD e.on 0 else s) s0).testBit i = true →
    s0.testBit i = true ∨ ∃ e ∈ l, Region.binds .any e = true ∧ (e.on = i ∨ (B.getD e.on 0).testBit i = true) := by
  induction l generalizing s0 with
  | nil => intro h; exact .inl h
  | cons e l ih =>
    intro h
    rw [List.foldl_cons] at h
    rcases ih _ h with q | ⟨e', he, q⟩
    · split at q
      · rename_i hb
        simp only [Nat.testBit_or, Bool.or_eq_true, Nat.testBit_two_pow, decide_eq_true_eq] at q
        rcases q with (q | q) | q
        · exact .inl q
        · exact .inr ⟨e, by simp, hb, .inl q⟩
        · exact .inr ⟨e, by simp, hb, .inr q⟩
      · exact .inl q
    · exact .inr ⟨e', by simp [he], q⟩

/-- What has been done is closed: with an operation, all that it waits for. -/
def Closed (ops : Array Oper) (L : Nat → Bool) : Prop := ∀ (j : Nat) (oj : Oper), ops[j]? = some oj → L j = true → ∀ e ∈ oj.after, Region.binds .any e = true → L e.on = true

theorem DrawFacts.before {pl ops B} (h : DrawFacts pl ops B) {L : Nat → Bool} (hL : Closed ops L) : ∀ (j : Nat) (oj : Oper), ops[j]? = some oj → (∀ e ∈ oj.after, Region.binds .any e = true → L e.on = true) → ∀ i, (B.getD j 0).testBit i = true → L i = true := by
  intro j
  induction j using Nat.strongRecOn with
  | _ j ih =>
    intro oj hj hpre i hi
    rw [h.mask j oj hj, ← Array.foldl_toList] at hi
    rcases mask_spec B _ 0 i hi with q | ⟨e, he, hb, q⟩
    · simp at q
    · have he' : e ∈ oj.after := by simpa using he
      have hLe := hpre e he' hb
      rcases q with rfl | q
      · exact hLe
      · have hlt := h.edge j oj hj e he' hb
        have hjs := (Array.getElem?_eq_some_iff.1 hj).1
        have hoe : ops[e.on]? = some (ops[e.on]'(by omega)) := Array.getElem?_eq_getElem (by omega)
        exact ih e.on hlt _ hoe (fun e2 h2 hb2 => hL e.on _ hoe hLe e2 h2 hb2) i q

end Go.Pv
end
section
namespace Go.Pv

theorem le_ind {k : Nat} {motive : (m : Nat) → k ≤ m → Prop} (base : motive k (Nat.le_refl k)) (succ : ∀ (m : Nat) (hm : k ≤ m), motive m hm → motive (m + 1) (Nat.le_succ_of_le hm)) (m : Nat) (hm : k ≤ m) : motive m hm := by
  induction m with
  | zero =>
    have : k = 0 := by omega
    subst this
    exact base
  | succ m ih =>
    by_cases h : k ≤ m
    · exact succ m h (ih h)
    · have : k = m + 1 := by omega
      subst this
      exact base

section
variable {E : Env} {ops : Array Oper} {B : List Nat} {fs : Nat → Fr} {ss : Nat → Store} {vs : Nat → PV} {wt : Nat → Bool}

def Ready (ops : Array Oper) (L : Nat → Bool) (k : Nat) (ok : Oper) : Prop := ops[k]? = some ok ∧ L k = false ∧ ∀ e ∈ ok.after, Region.binds .any e = true → L e.on = true

theorem DrawFacts.lower (D : DrawFacts E.pl ops B) {L : Nat → Bool} (hL : Closed ops L) {k : Nat} {ok : Oper} (hk : Ready ops L k ok) {m : Nat} {om : Oper} (hm : ops[m]? = some om) (hlt : m < k) (hLm : L m = false) :
    apartT ops om ok = true ∧ effPair (effO E.pl om) (effO E.pl ok) = true := by
  refine D.pair m k om ok hm hk.1 hlt ?_
  cases hb : (B.getD k 0).testBit m with
  | false => rfl
  | true => rw [D.before hL k ok hk.1 hk.2.2 m hb] at hLm; cases hLm
theorem DrawFacts.upper (D : DrawFacts E.pl ops B) {L : Nat → Bool} (hL : Closed ops L) {k : Nat} {ok : Oper} (hk : Ready ops L k ok) {m : Nat} {om : Oper} (hm : ops[m]? = some om) (hlt : k < m) (hLm : L m = true) :
    apartT ops ok om = true ∧ effPair (effO E.pl ok) (effO E.pl om) = true := by
  refine D.pair k m ok om hk.1 hm hlt ?_
  cases hb : (B.getD m 0).testBit k with
  | false => rfl
  | true => have := D.before hL m om hm (hL m om hm hLm) k hb; rw [hk.2.1] at this; cases this
theorem DrawFacts.under (D : DrawFacts E.pl ops B) {L : Nat → Bool} (hL : Closed ops L) {m : Nat} {om : Oper} (hm : ops[m]? = some om) (hLm : L m = true) {i : Nat} {oi : Oper} (hi : ops[i]? = some oi) (hlt : i < m) (hLi : L i = false) :
    apartT ops oi om = true ∧ effPair (effO E.pl oi) (effO E.pl om) = true := by
  refine D.pair i m oi om hi hm hlt ?_
  cases hb : (B.getD m 0).testBit i with
  | false => rfl
  | true => have := D.before hL m om hm (hL m om hm hLm) i hb; rw [hLi] at this; cases this

theorem apartT_spec {x y : Oper} (h : apartT ops x y = true) : (∀ d, x.dst = some d → d ∉ tmpsOf ops y ∧ y.dst ≠ some d) ∧ ∀ d, y.dst = some d → d ∉ tmpsOf ops x := by
  unfold apartT at h
  simp only [Bool.and_eq_true] at h
  obtain ⟨h1, h2⟩ := h
  refine ⟨fun d hd => ?_, fun d hd => ?_⟩
  · rw [hd] at h1; simpa using h1
  · rw [hd] at h2; simpa using h2

theorem cFr_in {L : Nat → Bool} {f0 : Fr} {i : Nat} {o : Oper} (ho : ops[i]? = some o) (hL : L i = true) : cFr ops L f0 vs (i + 1) = upd (cFr ops L f0 vs i) o.dst (vs i) := by
  simp [cFr, ho, hL]
theorem cFr_out {L : Nat → Bool} {f0 : Fr} {i : Nat} (hL : L i = false) : cFr ops L f0 vs (i + 1) = cFr ops L f0 vs i := by simp [cFr, hL]

theorem op_at {i n : Nat} (h : i < n) (hn : n ≤ ops.size) : ∃ o, ops[i]? = some o := ⟨_, Array.getElem?_eq_getElem (by omega)⟩

theorem upd_congr {fr fr' : Fr} {d : Option Nat} {v : PV} {t : Nat} (h : fr t = fr' t) : upd fr d v t = upd fr' d v t := by
  cases d with
  | none => exact h
  | some u => simp only [upd]; split
              · rfl
              · exact h

/-- What an operation that may come up looks at is as it is in the order of the text. -/
theorem cFr_looks (D : DrawFacts E.pl ops B) (tr : ∀ (i : Nat) (o : Oper), ops[i]? = some o → TrOk E ops fs ss vs wt i o) {L : Nat → Bool} (hL : Closed ops L) {k : Nat} {ok : Oper} (hk : Ready ops L k ok) {t : Nat} (ht : t ∈ tmpsOf ops ok) :
    cFr ops L (fs 0) vs ops.size t = fs k t := by
  have hks : k < ops.size := (Array.getElem?_eq_some_iff.1 hk.1).1
  have low : ∀ m, m ≤ k → cFr ops L (fs 0) vs m t = fs m t := by
    intro m
    induction m with
    | zero => intro _; rfl
    | succ m ih =>
      intro hm
      obtain ⟨om, hom⟩ := op_at (ops := ops) (i := m) (n := ops.size) (by omega) (Nat.le_refl _)
      rw [(tr m om hom).2.1]
      cases hLm : L m with
      | true => rw [cFr_in hom hLm]; exact upd_congr (ih (by omega))
      | false =>
        rw [cFr_out hLm, ih (by omega), upd_ne]
        intro e
        exact ((apartT_spec (D.lower hL hk hom (by omega) hLm).1).1 t e).1 ht
  have high : ∀ m, k ≤ m → m ≤ ops.size → cFr ops L (fs 0) vs m t = cFr ops L (fs 0) vs k t := by
    intro m hm
    induction m, hm using le_ind with
    | base => intro _; rfl
    | succ m hm ih =>
      intro hms
      obtain ⟨om, hom⟩ := op_at (ops := ops) (i := m) (n := ops.size) (by omega) (Nat.le_refl _)
      cases hLm : L m with
      | false => rw [cFr_out hLm, ih (by omega)]
      | true =>
        have hne : k ≠ m := fun e => by subst e; rw [hk.2.1] at hLm; cases hLm
        rw [cFr_in hom hLm, upd_ne, ih (by omega)]
        intro e
        exact (apartT_spec (D.upper hL hk hom (by omega) hLm).1).2 t e ht
  rw [high _ (by omega) (Nat.le_refl _), low k (Nat.le_refl _)]

def adds (L : Nat → Bool) (k : Nat) : Nat → Bool := fun i => i == k || L i
theorem adds_ne {L : Nat → Bool} {k i : Nat} (h : i ≠ k) : adds L k i = L i := by simp [adds, h]
theorem adds_eq {L : Nat → Bool} {k : Nat} : adds L k k = true := by simp [adds]

theorem cFr_adds (D : DrawFacts E.pl ops B) {L : Nat → Bool} (hL : Closed ops L) {k : Nat} {ok : Oper} (hk : Ready ops L k ok) (f0 : Fr) :
    cFr ops (adds L k) f0 vs ops.size = upd (cFr ops L f0 vs ops.size) ok.dst (vs k) := by
  have hks : k < ops.size := (Array.getElem?_eq_some_iff.1 hk.1).1
  have low : ∀ m, m ≤ k → cFr ops (adds L k) f0 vs m = cFr ops L f0 vs m := by
    intro m
    induction m with
    | zero => intro _; rfl
    | succ m ih =>
      intro hm
      simp only [cFr, ih (by omega), adds_ne (L := L) (k := k) (i := m) (by omega)]
  have high : ∀ m, k + 1 ≤ m → m ≤ ops.size → cFr ops (adds L k) f0 vs m = upd (cFr ops L f0 vs m) ok.dst (vs k) := by
    intro m hm
    induction m, hm using le_ind with
    | base => intro _; rw [cFr_in hk.1 adds_eq, cFr_out hk.2.1, low k (Nat.le_refl _)]
    | succ m hm ih =>
      intro hms
      obtain ⟨om, hom⟩ := op_at (ops := ops) (i := m) (n := ops.size) (by omega) (Nat.le_refl _)
      have hne : m ≠ k := by omega
      cases hLm : L m with
      | false => rw [cFr_out (by rw [adds_ne hne]; exact hLm), cFr_out hLm, ih (by omega)]
      | true =>
        rw [cFr_in hom (by rw [adds_ne hne]; exact hLm), cFr_in hom hLm, ih (by omega)]
        have hap := (apartT_spec (D.upper hL hk hom (by omega) hLm).1).1
        funext t
        cases hd : ok.dst with
        | none => rfl
        | some d =>
          have hd2 := (hap d hd).2
          cases he : om.dst with
          | none => rfl
          | some e =>
            have : e ≠ d := fun q => hd2 (by rw [he, q])
            simp only [upd]
            by_cases h1 : t = e
            · subst h1; simp [this]
            · simp [h1]
  exact high _ (by omega) (Nat.le_refl _)

theorem chgO_at {pl : FuncId → Bool} {i : Nat} {o : Oper} (h : ops[i]? = some o) : chgO pl ops i = (match effO pl o with | .a | .w => true | _ => false) := by unfold chgO; rw [h] <;> rfl

theorem keeps (tr : ∀ (i : Nat) (o : Oper), ops[i]? = some o → TrOk E ops fs ss vs wt i o) {i : Nat} (hi : i < ops.size) (hc : chgO E.pl ops i = false) : ss (i + 1) = ss i := by
  obtain ⟨o, ho⟩ := op_at hi (Nat.le_refl _)
  obtain ⟨_, _, h1, h2⟩ := tr i o ho
  rw [chgO_at ho] at hc
  cases hw : wt i with
  | false => exact (h2 hw).2
  | true =>
    have s := h1 hw
    cases he : effO E.pl o with
    | n => exact (stepR_n he s).1
    | r => exact (stepR_r he s).1
    | a => rw [he] at hc; cases hc
    | w => rw [he] at hc; cases hc

theorem cSt_eq (tr : ∀ (i : Nat) (o : Oper), ops[i]? = some o → TrOk E ops fs ss vs wt i o) {L : Nat → Bool} {m : Nat} (hm : m ≤ ops.size) (h : ∀ i, i < m → chgO E.pl ops i = true → L i = true) :
    ∀ i, i ≤ m → cSt L (ss 0) ss (chgO E.pl ops) i = ss i := by
  intro i
  induction i with
  | zero => intro _; rfl
  | succ i ih =>
    intro hi
    simp only [cSt]
    cases hc : chgO E.pl ops i with
    | true => simp [h i (by omega) hc]
    | false => simp [ih (by omega), keeps tr (i := i) (by omega) hc]

theorem effPair_chg {x y : Eff} (hx : x = .a ∨ x = .w) (hy : y ≠ .n) : effPair x y = false := by
  rcases hx with rfl | rfl <;> cases y <;> simp_all [effPair]

theorem chg_cases {pl : FuncId → Bool} {i : Nat} {o : Oper} (ho : ops[i]? = some o) (h : chgO pl ops i = true) : effO pl o = .a ∨ effO pl o = .w := by
  rw [chgO_at ho] at h
  cases he : effO pl o <;> rw [he] at h <;> simp_all

/-- The store that an operation that may come up finds. -/
theorem cSt_low (D : DrawFacts E.pl ops B) (tr : ∀ (i : Nat) (o : Oper), ops[i]? = some o → TrOk E ops fs ss vs wt i o) {L : Nat → Bool} (hL : Closed ops L) {k : Nat} {ok : Oper} (hk : Ready ops L k ok) (hn : effO E.pl ok ≠ .n) :
    ∀ i, i ≤ k → cSt L (ss 0) ss (chgO E.pl ops) i = ss i := by
  have hks : k < ops.size := (Array.getElem?_eq_some_iff.1 hk.1).1
  refine cSt_eq tr (by omega) fun i hi hc => ?_
  obtain ⟨oi, hoi⟩ := op_at (ops := ops) (i := i) (n := ops.size) (by omega) (Nat.le_refl _)
  cases hLi : L i with
  | true => rfl
  | false =>
    have := (D.lower hL hk hoi hi hLi).2
    rw [effPair_chg (chg_cases hoi hc) hn] at this
    cases this

theorem cSt_chg (D : DrawFacts E.pl ops B) (tr : ∀ (i : Nat) (o : Oper), ops[i]? = some o → TrOk E ops fs ss vs wt i o) {L : Nat → Bool} (hL : Closed ops L) {k : Nat} {ok : Oper} (hk : Ready ops L k ok) (hc : chgO E.pl ops k = true) :
    cSt L (ss 0) ss (chgO E.pl ops) ops.size = ss k ∧ cSt (adds L k) (ss 0) ss (chgO E.pl ops) ops.size = ss (k + 1) := by
  have hks : k < ops.size := (Array.getElem?_eq_some_iff.1 hk.1).1
  have hek := chg_cases hk.1 hc
  have hn : effO E.pl ok ≠ .n := by rcases hek with q | q <;> rw [q] <;> simp
  have low := cSt_low D tr hL hk hn
  have no : ∀ m, k < m → m < ops.size → (L m && chgO E.pl ops m) = false := by
    intro m hm hms
    obtain ⟨om, hom⟩ := op_at (ops := ops) (i := m) (n := ops.size) hms (Nat.le_refl _)
    cases hLm : L m with
    | false => rfl
    | true =>
      cases hcm : chgO E.pl ops m with
      | false => rfl
      | true =>
        have := (D.upper hL hk hom hm hLm).2
        rw [effPair_chg hek (by rcases chg_cases hom hcm with q | q <;> rw [q] <;> simp)] at this
        cases this
  have h1 : ∀ m, k + 1 ≤ m → m ≤ ops.size → cSt L (ss 0) ss (chgO E.pl ops) m = ss k := by
    intro m hm
    induction m, hm using le_ind with
    | base => intro _; simp [cSt, hk.2.1, low k (Nat.le_refl _)]
    | succ m hm ih => intro hms; simp only [cSt, no m (by omega) (by omega)]; exact ih (by omega)
  have h2 : ∀ m, k + 1 ≤ m → m ≤ ops.size → cSt (adds L k) (ss 0) ss (chgO E.pl ops) m = ss (k + 1) := by
    intro m hm
    induction m, hm using le_ind with
    | base => intro _; simp [cSt, adds_eq, hc]
    | succ m hm ih => intro hms; simp only [cSt, adds_ne (L := L) (k := k) (i := m) (by omega), no m (by omega) (by omega)]; exact ih (by omega)
  exact ⟨h1 _ (by omega) (Nat.le_refl _), h2 _ (by omega) (Nat.le_refl _)⟩

theorem cSt_calm {L : Nat → Bool} {k : Nat} (hc : chgO E.pl ops k = false) (s0 : Store) : ∀ m, cSt (adds L k) s0 ss (chgO E.pl ops) m = cSt L s0 ss (chgO E.pl ops) m := by
  intro m
  induction m with
  | zero => rfl
  | succ m ih =>
    simp only [cSt, ih]
    by_cases e : m = k
    · subst e; simp [hc]
    · rw [adds_ne e]

theorem cSt_read (D : DrawFacts E.pl ops B) (tr : ∀ (i : Nat) (o : Oper), ops[i]? = some o → TrOk E ops fs ss vs wt i o) {L : Nat → Bool} (hL : Closed ops L) {k : Nat} {ok : Oper} (hk : Ready ops L k ok) (hr : effO E.pl ok = .r) :
    ∃ x, cSt L (ss 0) ss (chgO E.pl ops) ops.size = ss k ++ x := by
  have hks : k < ops.size := (Array.getElem?_eq_some_iff.1 hk.1).1
  have low := cSt_low D tr hL hk (by rw [hr]; simp)
  have high : ∀ m, k ≤ m → m ≤ ops.size → ∃ x, cSt L (ss 0) ss (chgO E.pl ops) m = ss k ++ x := by
    intro m hm
    induction m, hm using le_ind with
    | base => intro _; exact ⟨[], by rw [low k (Nat.le_refl _), List.append_nil]⟩
    | succ m hm ih =>
      intro hms
      obtain ⟨x, ih⟩ := ih (by omega)
      obtain ⟨om, hom⟩ := op_at (ops := ops) (i := m) (n := ops.size) (by omega) (Nat.le_refl _)
      simp only [cSt]
      cases hLm : L m with
      | false => exact ⟨x, by simpa using ih⟩
      | true =>
        cases hcm : chgO E.pl ops m with
        | false => exact ⟨x, by simpa using ih⟩
        | true =>
          have hlt : k < m := by
            rcases Nat.lt_or_ge k m with q | q
            · exact q
            · have : k = m := by omega
              subst this; rw [hk.2.1] at hLm; cases hLm
          have hp := (D.upper hL hk hom hlt hLm).2
          have ha : effO E.pl om = .a := by
            rw [hr] at hp
            rcases chg_cases hom hcm with q | q
            · exact q
            · rw [q] at hp; cases hp
          have hsm : cSt L (ss 0) ss (chgO E.pl ops) m = ss m := by
            refine cSt_eq tr (m := m) (by omega) (fun i hi hc => ?_) m (Nat.le_refl _)
            obtain ⟨oi, hoi⟩ := op_at (ops := ops) (i := i) (n := ops.size) (by omega) (Nat.le_refl _)
            cases hLi : L i with
            | true => rfl
            | false =>
              have := (D.under hL hom hLm hoi hi hLi).2
              rw [effPair_chg (chg_cases hoi hc) (by rw [ha]; simp)] at this
              cases this
          obtain ⟨_, _, h1, h2⟩ := tr m om hom
          simp only [Bool.and_self, if_true]
          rw [ih] at hsm
          cases hw : wt m with
          | false => rw [(h2 hw).2, ← hsm]; exact ⟨x, rfl⟩
          | true =>
            obtain ⟨y, hy⟩ := stepR_a ha (h1 hw)
            rw [hy, ← hsm]; exact ⟨x ++ y, by simp⟩
  exact high _ (by omega) (Nat.le_refl _)

end
end Go.Pv
end
section
namespace Go.Pv

theorem FrRel.put {K ι st fr} {a : Act} {d : Option Nat} {p : PV} {v : Value} (h : FrRel K ι st fr a.tmps) (hv : VRel K ι st p v) : FrRel K ι st (upd fr d p) (a.put d v).tmps := by
  intro t u hu
  cases d with
  | none => exact h t u hu
  | some d =>
    simp only [Act.put] at hu
    simp only [upd]
    by_cases e : t = d
    · subst e
      have hlt : t < a.tmps.size := by simpa using (Array.getElem?_eq_some_iff.1 hu).1
      rw [Array.getElem?_setIfInBounds_self_of_lt hlt] at hu
      cases hu
      rw [if_pos rfl]
      exact hv
    · rw [Array.getElem?_setIfInBounds_ne (fun q => e q.symm)] at hu
      rw [if_neg e]
      exact h t u hu
theorem put_size (a : Act) (d : Option Nat) (v : Value) : (a.put d v).tmps.size = a.tmps.size := by cases d <;> simp [Act.put]
theorem put_defers (a : Act) (d : Option Nat) (v : Value) : (a.put d v).defers = a.defers := by cases d <;> rfl
theorem FrRel.congr {K ι st fr fr' tm} (h : FrRel K ι st fr tm) (e : fr' = fr) : FrRel K ι st fr' tm := e ▸ h

theorem undef_rel (K ι st) : VRel K ι st (.tup []) undef := .tree _ _ (.tup [] #[] rfl (by simp))
theorem tup_undef {K ι st} {v : Value} (h : VRel K ι st (.tup []) v) : v = undef := by
  obtain ⟨vs, rfl, hl, _⟩ := h.tupV
  have : vs = #[] := by simpa using hl.symm
  subst this; rfl

/-- Every operand and every destination lies within the frame. -/
def regIn (N : Nat) (ops : Array Oper) : Bool := ops.all fun o => opIn N o.op && (match o.dst with | some d => decide (d < N) | none => true)
theorem regIn_at {N : Nat} {ops : Array Oper} (h : regIn N ops = true) {i : Nat} {o : Oper} (ho : ops[i]? = some o) : opIn N o.op = true ∧ ∀ d, o.dst = some d → d < N := by
  unfold regIn at h
  rw [Array.all_eq_true_iff_forall_mem] at h
  have := h o (Array.mem_of_getElem? ho)
  simp only [Bool.and_eq_true] at this
  refine ⟨this.1, fun d hd => ?_⟩
  have h2 := this.2
  rw [hd] at h2
  simpa using h2

theorem guard_rel {ops : Array Oper} {K ι st fr} {a : Act} (hreg : regIn a.tmps.size ops = true) (hf : FrRel K ι st fr a.tmps) {o : Oper} {b : Bool} (h : guardF ops fr o = some b) : Region.wanted o (yielded ops a.tmps) = b := by
  unfold guardF at h
  unfold Region.wanted
  split at h
  · rename_i e; rw [e]; simp at h; simp [h]
  · rename_i j c e
    rw [e]
    simp only
    split at h
    · rename_i hd
      cases h
      simp [yielded, hd]
    · rename_i t hd
      cases ht : a.tmps[t]? with
      | none =>
        obtain ⟨oj, hoj, hod⟩ := Option.bind_eq_some_iff.1 hd
        have := (regIn_at hreg hoj).2 t hod
        rw [Array.getElem?_eq_getElem this] at ht
        cases ht
      | some v =>
        have hv := hf t v ht
        split at h
        · rename_i x hx
          rw [hx] at hv
          cases h
          have := hv.boolV
          subst this
          have : yielded ops a.tmps j = some x := by simp [yielded, hd, ht]
          rw [this]
          cases x <;> cases c <;> rfl
        · rename_i hx
          rw [hx] at hv
          cases h
          have := tup_undef hv
          subst this
          have : yielded ops a.tmps j = none := by simp [yielded, hd, ht, undef]
          rw [this]
          rfl
        · cases h


/-- An operation, a range's step among them, carried over. -/
theorem stepW_sound {E : Env} (hE : EnvOk E) {F : Fence} (hF : FenceOk F) {n : Nat} {K ι st w fr} {a : Act} (h : Rel E.G K ι st w) (hf : FrRel K ι st fr a.tmps) {o : Oper} (hin : opIn a.tmps.size o.op = true) {k : PV → Store → Prop}
    (ho : StepW E fr st o k) {next : Act → World → Prop} {Q : Exit → Act → World → Prop}
    (hk : ∀ (v : PV) (st' : Store) (K' : Know) (ι' : Nat → Value) (w' : World) (rv : Value), k v st' → Stp E.G K ι st w K' ι' st' w' → VRel K' ι' st' v rv → next (a.put o.dst rv) w') : o.wpIn F n E.P a w next Q := by
  unfold StepW at ho
  split at ho
  · rename_i hx
    obtain ⟨dst, op, ty, pos, after, guard⟩ := o
    have nil : ∀ (bop : BinOp) (t : TypeId) (x : Operand) (ty2 : TypeId), bop = .eql ∨ bop = .neq → op = .binOp bop t x (.const (.slice none 0 0)) ty2 → (∃ e, E.P.underlying t = some (.slice e)) → NilW (decide (bop = .neq)) (evalO E fr x) st k → Oper.wpIn F n E.P ⟨dst, op, ty, pos, after, guard⟩ a w next Q := by
      intro bop t x ty2 hb he ⟨e, hu⟩ hW
      subst he
      have hx := evalO_rel h hf x (opIn_mem hin (by simp [Op.operands]))
      obtain ⟨A, m, c, ea, hkv⟩ := nilW_pick hx hW
      obtain ⟨K', ι', w', rv, e1, s, r⟩ := nil_sound (E := E) h hb (t := t) hu (A := A) (n := m) (c := c) x (.const (.slice none 0 0))
      refine ⟨fun f _ => hF.fn f, ?_⟩
      rw [Oper.semAt_eq _ _ _ (by intro c e; cases e)]
      have ey : a.eval (.const (.slice none 0 0)) = .slice none 0 0 := rfl
      have e2 : (execOp a.eval ⟨dst, .binOp bop t x (.const (.slice none 0 0)) ty2, ty, pos, after, guard⟩).run E.P w = .ok (.value rv) w' := by
        have : execOp a.eval ⟨dst, .binOp bop t x (.const (.slice none 0 0)) ty2, ty, pos, after, guard⟩ = (do pure (Next.value (← (do eqGuard bop t x (.const (.slice none 0 0)) (a.eval x) (a.eval (.const (.slice none 0 0))); binOp bop t (a.eval x) (a.eval (.const (.slice none 0 0))) : Sem Value))) : Sem Next) := rfl
        rw [this, ea, ey, Sem.run_bind, e1]
        rfl
      rw [e2]
      exact hk _ st K' ι' w' rv hkv s r
    cases op <;> try (cases hx; done)
    case next x s =>
      cases s with
      | true => exact ho.elim
      | false =>
        have hx := evalO_rel h hf x (opIn_mem hin (by simp [Op.operands]))
        obtain ⟨v, st', hkv, K', ι', w', rv, e, s, r⟩ := next_sound (t := ty) h hx ho
        refine ⟨fun f _ => hF.fn f, ?_⟩
        rw [Oper.semAt_eq _ _ _ (by intro c e; cases e)]
        have e1 : (execOp a.eval ⟨dst, .next x false, ty, pos, after, guard⟩).run E.P w = .ok (.value rv) w' := by
          simp only [execOp, Sem.run_bind, e, Result.andThen_ok, Sem.run_pure]
        rw [e1]
        exact hk v st' K' ι' w' rv hkv s r
    case binOp bop t x y ty2 =>
      have hy : y = .const (.slice none 0 0) ∧ (bop = .eql ∨ bop = .neq) := by
        unfold isNext at hx
        split at hx
        · rename_i e; cases e
        · rename_i e; injection e with e1 e2 e3 e4 e5; subst e1 e4; exact ⟨rfl, .inl rfl⟩
        · rename_i e; injection e with e1 e2 e3 e4 e5; subst e1 e4; exact ⟨rfl, .inr rfl⟩
        · cases hx
      obtain ⟨rfl, hb⟩ := hy
      rcases hb with rfl | rfl
      · exact nil .eql t x ty2 (.inl rfl) rfl (ho.1.under hE) ho.2
      · exact nil .neq t x ty2 (.inr rfl) rfl (ho.1.under hE) ho.2
  · obtain ⟨v, st', hs, hkv⟩ := ho
    exact stepR_sound hE hF h hf hin hs fun K' ι' w' rv s r => hk v st' K' ι' w' rv hkv s r

/-- **A region in the order of the text.** -/
theorem opsW_list {E : Env} (hE : EnvOk E) {F : Fence} (hF : FenceOk F) {n : Nat} {ops : Array Oper} {Q : Exit → Act → World → Prop} {KK : Fr → Store → Prop} {K0 : Know} {ι0 : Nat → Value} {st0 : Store} {w0 : World} {N : Nat} {df : List Deferred}
    (hreg : regIn N ops = true)
    (hQ : ∀ (K : Know) (ι : Nat → Value) (st : Store) (fr : Fr) (a : Act) (w : World), KK fr st → Stp E.G K0 ι0 st0 w0 K ι st w → FrRel K ι st fr a.tmps → a.tmps.size = N → a.defers = df → Q .normal a w) :
    ∀ (l : List Oper), (∀ o ∈ l, ∃ i : Nat, ops[i]? = some o) → ∀ (K : Know) (ι : Nat → Value) (st : Store) (fr : Fr) (a : Act) (w : World), Stp E.G K0 ι0 st0 w0 K ι st w → FrRel K ι st fr a.tmps → a.tmps.size = N → a.defers = df → OpsW E ops l fr st KK → wpListIn F n E.P ops Q l a w
  | [], _, K, ι, st, fr, a, w, hs, hf, hn, hd, h => hQ K ι st fr a w h hs hf hn hd
  | o :: rest, hl, K, ι, st, fr, a, w, hs, hf, hn, hd, h => by
    obtain ⟨i, hi⟩ := hl o (by simp)
    have hin := regIn_at hreg hi
    unfold OpsW at h
    unfold wpListIn
    have h : (guardF ops fr o = some true ∧ StepW E fr st o fun v st' => OpsW E ops rest (upd fr o.dst v) st' KK) ∨ (guardF ops fr o = some false ∧ OpsW E ops rest (upd fr o.dst (.tup [])) st KK) := by
      split at h
      · rename_i g hg
        cases g with
        | true => exact .inl ⟨hg, h.1 rfl⟩
        | false => exact .inr ⟨hg, h.2 rfl⟩
      · exact h.elim
    rcases h with ⟨hg, h⟩ | ⟨hg, h⟩
    · rw [if_pos (guard_rel (by rw [hn]; exact hreg) hf hg)]
      refine stepW_sound hE hF hs.rel hf (by rw [hn]; exact hin.1) h (fun v st' K' ι' w' rv h s r => ?_)
      exact opsW_list hE hF hreg hQ rest (fun x hx => hl x (by simp [hx])) K' ι' st' _ _ w' (hs.trans s) ((hf.mono s.ext).put r) (by rw [put_size]; exact hn) (by rw [put_defers]; exact hd) h
    · rw [if_neg (by rw [guard_rel (by rw [hn]; exact hreg) hf hg]; simp)]
      refine ⟨fun f _ => hF.fn f, ?_⟩
      exact opsW_list hE hF hreg hQ rest (fun x hx => hl x (by simp [hx])) K ι st _ _ w hs (hf.put (undef_rel K ι st)) (by rw [put_size]; exact hn) (by rw [put_defers]; exact hd) h

theorem guardF_congr {ops : Array Oper} {fr fr' : Fr} {o : Oper} (h : ∀ t ∈ tmpsOf ops o, fr' t = fr t) : guardF ops fr' o = guardF ops fr o := by
  unfold guardF
  cases hg : o.guard with
  | none => rfl
  | some q =>
    obtain ⟨j, b⟩ := q
    simp only
    cases hd : (ops[j]?).bind (·.dst) with
    | none => rfl
    | some t => simp only; rw [h t (by simp [tmpsOf, Oper.looksAt, hg, hd])]

theorem tmps_ops {ops : Array Oper} {o : Oper} {t : Nat} (h : Operand.tmp t ∈ o.op.operands) : t ∈ tmpsOf ops o := by
  unfold tmpsOf Oper.looksAt
  exact List.mem_append_left _ (List.mem_filterMap.2 ⟨.tmp t, by simpa using h, rfl⟩)

def Lof (listed : Array Bool) : Nat → Bool := fun i => listed.getD i false
def unl (ops : Array Oper) (listed : Array Bool) : Nat := (List.range ops.size).countP fun i => !Lof listed i

theorem countP_lt {α : Type} {p q : α → Bool} : ∀ (l : List α), (∀ x ∈ l, q x = true → p x = true) → ∀ x0 ∈ l, p x0 = true → q x0 = false → l.countP q < l.countP p
  | [], _, x0, h, _, _ => by simp at h
  | y :: l, hpq, x0, h, h1, h2 => by
    have mono : l.countP q ≤ l.countP p := List.countP_mono_left fun x hx => hpq x (by simp [hx])
    rw [List.countP_cons, List.countP_cons]
    rcases List.mem_cons.1 h with rfl | h
    · rw [h1, h2]; simp; omega
    · have ih := countP_lt l (fun x hx => hpq x (by simp [hx])) x0 h h1 h2
      cases hq : q y with
      | false => simp; split <;> omega
      | true => rw [hpq y (by simp) hq]; simp; omega

theorem Lof_set {listed : Array Bool} {i : Nat} (h : i < listed.size) : Lof (listed.setIfInBounds i true) = adds (Lof listed) i := by
  funext j
  unfold Lof adds
  by_cases e : j = i
  · subst e; simp [Array.getD_eq_getD_getElem?, h]
  · simp [Array.getD_eq_getD_getElem?, e, Array.getElem?_setIfInBounds_ne (fun q => e q.symm)]

end Go.Pv
end
section
namespace Go.Pv

theorem ready_spec {ops : Array Oper} {listed : Array Bool} (hs : listed.size = ops.size) {i : Nat} (h : i ∈ Region.ready .any ops listed) (D : ∀ (j : Nat) (oj : Oper), ops[j]? = some oj → ∀ e ∈ oj.after, Region.binds .any e = true → e.on < j) :
    ∃ o, Ready ops (Lof listed) i o := by
  unfold Region.ready at h
  rw [List.mem_filter] at h
  obtain ⟨h1, h2⟩ := h
  have hi : i < ops.size := by simpa using h1
  have ho : ops[i]? = some ops[i] := Array.getElem?_eq_getElem hi
  rw [ho] at h2
  simp only [Bool.and_eq_true, Option.map_some, Option.getD_some] at h2
  obtain ⟨h2, h3⟩ := h2
  rw [Array.all_eq_true_iff_forall_mem] at h3
  refine ⟨_, ho, ?_, fun e he hb => ?_⟩
  · have : listed.getD i true = listed.getD i false := by simp [Array.getD_eq_getD_getElem?, show i < listed.size by omega]
    unfold Lof
    rw [← this]; simpa using h2
  · have := h3 e he
    simpa [hb, Lof] using this

theorem ready_mem {ops : Array Oper} {listed : Array Bool} (hs : listed.size = ops.size) {i : Nat} {o : Oper} (h : Ready ops (Lof listed) i o) : i ∈ Region.ready .any ops listed := by
  unfold Region.ready
  obtain ⟨h1, h2, h3⟩ := h
  have hi : i < ops.size := (Array.getElem?_eq_some_iff.1 h1).1
  rw [List.mem_filter]
  refine ⟨by simpa using hi, ?_⟩
  rw [h1]
  simp only [Bool.and_eq_true, Option.map_some, Option.getD_some]
  refine ⟨?_, ?_⟩
  · have : listed.getD i true = listed.getD i false := by simp [Array.getD_eq_getD_getElem?, show i < listed.size by omega]
    rw [this]
    unfold Lof at h2; rw [h2]; rfl
  · rw [Array.all_eq_true_iff_forall_mem]
    intro e he
    cases hb : Region.binds .any e with
    | false => rfl
    | true => simpa [hb, Lof] using h3 e he hb

/-- Where something is left, something may come up. -/
theorem ready_ex {ops : Array Oper} {L : Nat → Bool} (D : ∀ (j : Nat) (oj : Oper), ops[j]? = some oj → ∀ e ∈ oj.after, Region.binds .any e = true → e.on < j) :
    ∀ i, i < ops.size → L i = false → ∃ k o, Ready ops L k o := by
  intro i
  induction i using Nat.strongRecOn with
  | _ i ih =>
    intro hi hL
    have ho : ops[i]? = some ops[i] := Array.getElem?_eq_getElem hi
    by_cases h : ∀ e ∈ ops[i].after, Region.binds .any e = true → L e.on = true
    · exact ⟨i, _, ho, hL, h⟩
    · have : ∃ e, e ∈ ops[i].after ∧ Region.binds .any e = true ∧ L e.on = false := by
        refine Classical.byContradiction fun hn => h fun e he hb => ?_
        cases hq : L e.on with
        | true => rfl
        | false => exact absurd ⟨e, he, hb, hq⟩ hn
      obtain ⟨e, he, hb, hq⟩ := this
      have hlt := D i _ ho e he hb
      exact ih e.on hlt (by omega) hq

theorem cFr_full {ops : Array Oper} {fs : Nat → Fr} {ss : Nat → Store} {vs : Nat → PV} {wt : Nat → Bool} {E : Env} (tr : ∀ (i : Nat) (o : Oper), ops[i]? = some o → TrOk E ops fs ss vs wt i o) {L : Nat → Bool} (hL : ∀ i, i < ops.size → L i = true) :
    ∀ m, m ≤ ops.size → cFr ops L (fs 0) vs m = fs m := by
  intro m
  induction m with
  | zero => intro _; rfl
  | succ m ih =>
    intro hm
    obtain ⟨o, ho⟩ := op_at (ops := ops) (i := m) (n := ops.size) (by omega) (Nat.le_refl _)
    rw [cFr_in ho (hL m (by omega)), ih (by omega), (tr m o ho).2.1]

theorem cFr_empty {ops : Array Oper} {L : Nat → Bool} {f0 : Fr} {vs : Nat → PV} (hL : ∀ i, L i = false) : ∀ m, cFr ops L f0 vs m = f0 := by
  intro m
  induction m with
  | zero => rfl
  | succ m ih => rw [cFr_out (hL m), ih]
theorem cSt_empty {L : Nat → Bool} {s0 : Store} {ss : Nat → Store} {chg : Nat → Bool} (hL : ∀ i, L i = false) : ∀ m, cSt L s0 ss chg m = s0 := by
  intro m
  induction m with
  | zero => rfl
  | succ m ih => simp [cSt, hL m, ih]

theorem any_sound {E : Env} (hE : EnvOk E) {F : Fence} (hF : FenceOk F) {n : Nat} {ops : Array Oper} {B : List Nat} (D : DrawFacts E.pl ops B) {fs : Nat → Fr} {ss : Nat → Store} {vs : Nat → PV} {wt : Nat → Bool}
    (tr : ∀ (i : Nat) (o : Oper), ops[i]? = some o → TrOk E ops fs ss vs wt i o) {Q : Exit → Act → World → Prop} {K0 : Know} {ι0 : Nat → Value} {w0 : World} {N : Nat} {df : List Deferred} (hreg : regIn N ops = true)
    (hQ : ∀ (K : Know) (ι : Nat → Value) (a : Act) (w : World), Stp E.G K0 ι0 (ss 0) w0 K ι (ss ops.size) w → FrRel K ι (ss ops.size) (fs ops.size) a.tmps → a.tmps.size = N → a.defers = df → Q .normal a w) :
    ∀ (fuel : Nat) (listed : Array Bool) (K : Know) (ι : Nat → Value) (a : Act) (w : World), listed.size = ops.size → Closed ops (Lof listed) → unl ops listed ≤ fuel →
      Stp E.G K0 ι0 (ss 0) w0 K ι (cSt (Lof listed) (ss 0) ss (chgO E.pl ops) ops.size) w → FrRel K ι (cSt (Lof listed) (ss 0) ss (chgO E.pl ops) ops.size) (cFr ops (Lof listed) (fs 0) vs ops.size) a.tmps → a.tmps.size = N → a.defers = df →
      wpAnyIn F n E.P .any ops Q fuel listed a w := by
  have full : ∀ (listed : Array Bool) (K : Know) (ι : Nat → Value) (a : Act) (w : World), (∀ i, i < ops.size → Lof listed i = true) →
      Stp E.G K0 ι0 (ss 0) w0 K ι (cSt (Lof listed) (ss 0) ss (chgO E.pl ops) ops.size) w → FrRel K ι (cSt (Lof listed) (ss 0) ss (chgO E.pl ops) ops.size) (cFr ops (Lof listed) (fs 0) vs ops.size) a.tmps → a.tmps.size = N → a.defers = df → Q .normal a w := by
    intro listed K ι a w hall hs hf hn hd
    rw [cSt_eq tr (Nat.le_refl _) (fun i hi _ => hall i hi) _ (Nat.le_refl _)] at hs hf
    rw [cFr_full tr hall _ (Nat.le_refl _)] at hf
    exact hQ K ι a w hs hf hn hd
  have done : ∀ (listed : Array Bool), listed.size = ops.size → Region.ready .any ops listed = [] → ∀ i, i < ops.size → Lof listed i = true := by
    intro listed hls hr i hi
    cases hL : Lof listed i with
    | true => rfl
    | false =>
      obtain ⟨k, o, hk⟩ := ready_ex D.edge i hi hL
      have := ready_mem hls hk
      rw [hr] at this
      cases this
  intro fuel
  induction fuel with
  | zero =>
    intro listed K ι a w hls hcl hu hs hf hn hd
    have hall : ∀ i, i < ops.size → Lof listed i = true := by
      intro i hi
      have h0 : unl ops listed = 0 := by omega
      unfold unl at h0
      rw [List.countP_eq_zero] at h0
      have := h0 i (by simpa using hi)
      simpa using this
    refine ⟨?_, full listed K ι a w hall hs hf hn hd⟩
    cases hr : Region.ready .any ops listed with
    | nil => rfl
    | cons i l =>
      obtain ⟨o, hk⟩ := ready_spec hls (i := i) (by rw [hr]; simp) D.edge
      have := hall i (Array.getElem?_eq_some_iff.1 hk.1).1
      rw [hk.2.1] at this
      cases this
  | succ fuel ih =>
    intro listed K ι a w hls hcl hu hs hf hn hd
    refine ⟨fun hr => full listed K ι a w (done listed hls hr) hs hf hn hd, fun i hi => ?_⟩
    obtain ⟨o, hk⟩ := ready_spec hls hi D.edge
    have his : i < ops.size := (Array.getElem?_eq_some_iff.1 hk.1).1
    have hset := Lof_set (listed := listed) (i := i) (by omega)
    have hcl' : Closed ops (Lof (listed.setIfInBounds i true)) := by
      rw [hset]
      intro j oj hj hLj e he hb
      by_cases e1 : j = i
      · subst e1
        rw [hk.1] at hj; cases hj
        have := hk.2.2 e he hb
        simp [adds, this]
      · rw [adds_ne e1] at hLj
        simp [adds, hcl j oj hj hLj e he hb]
    have hu' : unl ops (listed.setIfInBounds i true) ≤ fuel := by
      have : unl ops (listed.setIfInBounds i true) < unl ops listed := by
        unfold unl
        rw [hset]
        refine countP_lt _ (fun x _ hx => ?_) i (by simpa using his) (by simp [hk.2.1]) (by simp [adds])
        simp [adds] at hx ⊢
        exact hx.2
      omega
    have hin := regIn_at hreg hk.1
    have hlook := fun t (ht : t ∈ tmpsOf ops o) => cFr_looks D tr hcl hk ht
    obtain ⟨t1, t2, t3, t4⟩ := tr i o hk.1
    have hgd : guardF ops (cFr ops (Lof listed) (fs 0) vs ops.size) o = some (wt i) := by rw [guardF_congr hlook]; exact t1
    unfold wpOpIn
    rw [hk.1]
    simp only
    have nextF : cFr ops (Lof (listed.setIfInBounds i true)) (fs 0) vs ops.size = upd (cFr ops (Lof listed) (fs 0) vs ops.size) o.dst (vs i) := by rw [hset]; exact cFr_adds D hcl hk (fs 0)
    cases hw : wt i with
    | false =>
      rw [hw] at hgd
      rw [if_neg (by rw [guard_rel (by rw [hn]; exact hreg) hf hgd]; simp)]
      refine ⟨fun f _ => hF.fn f, ?_⟩
      have hst : cSt (Lof (listed.setIfInBounds i true)) (ss 0) ss (chgO E.pl ops) ops.size = cSt (Lof listed) (ss 0) ss (chgO E.pl ops) ops.size := by
        rw [hset]
        cases hc : chgO E.pl ops i with
        | false => exact cSt_calm hc _ _
        | true => obtain ⟨a1, a2⟩ := cSt_chg D tr hcl hk hc; rw [a1, a2, (t4 hw).2]
      refine ih _ K ι _ w (by simpa using hls) hcl' hu' (by rw [hst]; exact hs) ?_ (by rw [put_size]; exact hn) (by rw [put_defers]; exact hd)
      rw [hst, nextF, (t4 hw).1]
      exact hf.put (undef_rel K ι _)
    | true =>
      rw [hw] at hgd
      rw [if_pos (guard_rel (by rw [hn]; exact hreg) hf hgd)]
      have hst : StepR E (cFr ops (Lof listed) (fs 0) vs ops.size) (cSt (Lof listed) (ss 0) ss (chgO E.pl ops) ops.size) o (vs i) (cSt (Lof (listed.setIfInBounds i true)) (ss 0) ss (chgO E.pl ops) ops.size) := by
        refine stepR_congr (fun t ht => hlook t (tmps_ops ht)) ?_
        have s := t3 hw
        rw [hset]
        cases he : effO E.pl o with
        | n =>
          have hc : chgO E.pl ops i = false := by rw [chgO_at hk.1, he]
          rw [cSt_calm hc]
          exact (stepR_n he s).2 _
        | r =>
          have hc : chgO E.pl ops i = false := by rw [chgO_at hk.1, he]
          rw [cSt_calm hc]
          obtain ⟨x, hx⟩ := cSt_read D tr hcl hk he
          rw [hx]
          exact (stepR_r he s).2 x
        | a =>
          have hc : chgO E.pl ops i = true := by rw [chgO_at hk.1, he]
          obtain ⟨a1, a2⟩ := cSt_chg D tr hcl hk hc
          rw [a1, a2]; exact s
        | w =>
          have hc : chgO E.pl ops i = true := by rw [chgO_at hk.1, he]
          obtain ⟨a1, a2⟩ := cSt_chg D tr hcl hk hc
          rw [a1, a2]; exact s
      refine stepR_sound hE hF hs.rel hf (by rw [hn]; exact hin.1) hst (fun K' ι' w' rv s r => ?_)
      refine ih _ K' ι' _ w' (by simpa using hls) hcl' hu' (hs.trans s) ?_ (by rw [put_size]; exact hn) (by rw [put_defers]; exact hd)
      rw [nextF]
      exact (hf.mono s.ext).put r

/-- **A region that draws.** -/
theorem draw_sound {E : Env} (hE : EnvOk E) {F : Fence} (hF : FenceOk F) {n : Nat} {id : Nat} {ops : Array Oper} {B : List Nat} (hB : drawOk E.pl ops B = true) {KK : Fr → Store → Prop} {Q : Exit → Act → World → Prop} {N : Nat} (hreg : regIn N ops = true)
    {K : Know} {ι : Nat → Value} {st : Store} {fr : Fr} {a : Act} {w : World} (h : Rel E.G K ι st w) (hf : FrRel K ι st fr a.tmps) (hn : a.tmps.size = N) (hW : OpsW E ops ops.toList fr st KK)
    (hQ : ∀ (K' : Know) (ι' : Nat → Value) (st' : Store) (fr' : Fr) (a' : Act) (w' : World), KK fr' st' → Stp E.G K ι st w K' ι' st' w' → FrRel K' ι' st' fr' a'.tmps → a'.tmps.size = N → a'.defers = a.defers → Q .normal a' w') :
    (Code.region id ops true).wpIn F n E.P Q a w := by
  obtain ⟨fs, ss, vs, wt, rfl, rfl, tr, hK⟩ := OpsW.trace _ _ _ (fun o ho => by
    obtain ⟨i, hi⟩ := List.getElem?_of_mem ho
    exact (drawFacts hB).nonext i o (by simpa using hi)) hW
  have tr' : ∀ (i : Nat) (o : Oper), ops[i]? = some o → TrOk E ops fs ss vs wt i o := fun i o ho => tr i o (by simpa using ho)
  have hL : ∀ i, Lof (Array.replicate ops.size false) i = false := fun i => by
    unfold Lof
    rw [Array.getD_eq_getD_getElem?, Array.getElem?_replicate]
    split <;> rfl
  refine wpIn_region_any hE.mixed (any_sound hE hF (drawFacts hB) tr' (K0 := K) (ι0 := ι) (w0 := w) (df := a.defers) hreg (fun K' ι' a' w' s f q d => hQ K' ι' _ _ a' w' (by simpa using hK) s f q d) ops.size _ K ι a _ (by simp) (fun j oj _ hj => by rw [hL] at hj; cases hj) ?_ ?_ ?_ hn rfl)
  · unfold unl
    exact Nat.le_trans List.countP_le_length (by simp)
  · rw [cSt_empty hL]; exact Stp.drew h
  · rw [cSt_empty hL, cFr_empty hL]; exact hf


/-- What a region that draws comes to, whatever is ready being taken next. -/
def AnyW (E : Env) (ops : Array Oper) (KK : Fr → Store → Prop) : Nat → Array Bool → Fr → Store → Prop
  | 0, listed, fr, st => Region.ready .any ops listed = [] ∧ KK fr st
  | f + 1, listed, fr, st => (Region.ready .any ops listed = [] → KK fr st) ∧ ∀ i ∈ Region.ready .any ops listed, ∃ o, ops[i]? = some o ∧
      match guardF ops fr o with
      | some g => Br g (StepW E fr st o fun v st' => AnyW E ops KK f (listed.setIfInBounds i true) (upd fr o.dst v) st') (AnyW E ops KK f (listed.setIfInBounds i true) (upd fr o.dst (.tup [])) st)
      | none => False
theorem AnyW.mono {E : Env} {ops : Array Oper} {KK KK' : Fr → Store → Prop} (hk : ∀ fr st, KK fr st → KK' fr st) : ∀ (f : Nat) (listed : Array Bool) (fr : Fr) (st : Store), AnyW E ops KK f listed fr st → AnyW E ops KK' f listed fr st
  | 0, _, _, _, h => ⟨h.1, hk _ _ h.2⟩
  | f + 1, listed, fr, st, h => by
    refine ⟨fun e => hk _ _ (h.1 e), fun i hi => ?_⟩
    obtain ⟨o, ho, q⟩ := h.2 i hi
    refine ⟨o, ho, ?_⟩
    split at q
    · exact Br.mk (fun hg => (q.1 hg).mono fun v st' b => AnyW.mono hk f _ _ _ b) (fun hg => AnyW.mono hk f _ _ _ (q.2 hg))
    · exact q.elim

/-- **A region that draws, each order being looked at.** -/
theorem anyW_sound {E : Env} (hE : EnvOk E) {F : Fence} (hF : FenceOk F) {n : Nat} {ops : Array Oper} {KK : Fr → Store → Prop} {Q : Exit → Act → World → Prop} {N : Nat} (hreg : regIn N ops = true) {K0 : Know} {ι0 : Nat → Value} {st0 : Store} {w0 : World} {df : List Deferred}
    (hQ : ∀ (K' : Know) (ι' : Nat → Value) (st' : Store) (fr' : Fr) (a' : Act) (w' : World), KK fr' st' → Stp E.G K0 ι0 st0 w0 K' ι' st' w' → FrRel K' ι' st' fr' a'.tmps → a'.tmps.size = N → a'.defers = df → Q .normal a' w') :
    ∀ (f : Nat) (listed : Array Bool) (K : Know) (ι : Nat → Value) (st : Store) (fr : Fr) (a : Act) (w : World), Stp E.G K0 ι0 st0 w0 K ι st w → FrRel K ι st fr a.tmps → a.tmps.size = N → a.defers = df → AnyW E ops KK f listed fr st → wpAnyIn F n E.P .any ops Q f listed a w
  | 0, listed, K, ι, st, fr, a, w, hs, hf, hn, hd, h => ⟨h.1, hQ K ι st fr a w h.2 hs hf hn hd⟩
  | f + 1, listed, K, ι, st, fr, a, w, hs, hf, hn, hd, h => by
    refine ⟨fun e => hQ K ι st fr a w (h.1 e) hs hf hn hd, fun i hi => ?_⟩
    obtain ⟨o, ho, q⟩ := h.2 i hi
    have hin := regIn_at hreg ho
    unfold wpOpIn
    rw [ho]
    simp only
    split at q
    · rename_i g hg
      cases g with
      | true =>
        rw [if_pos (guard_rel (by rw [hn]; exact hreg) hf hg)]
        refine stepW_sound hE hF hs.rel hf (by rw [hn]; exact hin.1) (q.1 rfl) (fun v st' K' ι' w' rv h s r => ?_)
        exact anyW_sound hE hF hreg hQ f _ K' ι' st' _ _ w' (hs.trans s) ((hf.mono s.ext).put r) (by rw [put_size]; exact hn) (by rw [put_defers]; exact hd) h
      | false =>
        rw [if_neg (by rw [guard_rel (by rw [hn]; exact hreg) hf hg]; simp)]
        refine ⟨fun f _ => hF.fn f, ?_⟩
        exact anyW_sound hE hF hreg hQ f _ K ι st _ _ w hs (hf.put (undef_rel K ι _)) (by rw [put_size]; exact hn) (by rw [put_defers]; exact hd) (q.2 rfl)
    · exact q.elim

theorem any_region_sound {E : Env} (hE : EnvOk E) {F : Fence} (hF : FenceOk F) {n : Nat} {id : Nat} {ops : Array Oper} {KK : Fr → Store → Prop} {Q : Exit → Act → World → Prop} {N : Nat} (hreg : regIn N ops = true)
    {K : Know} {ι : Nat → Value} {st : Store} {fr : Fr} {a : Act} {w : World} (h : Rel E.G K ι st w) (hf : FrRel K ι st fr a.tmps) (hn : a.tmps.size = N) (hW : AnyW E ops KK ops.size (Array.replicate ops.size false) fr st)
    (hQ : ∀ (K' : Know) (ι' : Nat → Value) (st' : Store) (fr' : Fr) (a' : Act) (w' : World), KK fr' st' → Stp E.G K ι st w K' ι' st' w' → FrRel K' ι' st' fr' a'.tmps → a'.tmps.size = N → a'.defers = a.defers → Q .normal a' w') :
    (Code.region id ops true).wpIn F n E.P Q a w :=
  wpIn_region_any hE.mixed (anyW_sound hE hF hreg (df := a.defers) hQ ops.size _ K ι st fr a _ (Stp.drew h) hf hn rfl hW)
end Go.Pv
end
section
namespace Go.Pv

def LoopW (B : Fr → Store → (Exit → Fr → Store → Prop) → Prop) (Q : Exit → Fr → Store → Prop) : Nat → Fr → Store → Prop
  | 0, _, _ => False
  | n + 1, fr, st => B fr st fun e fr' st' => match e with
    | .normal => LoopW B Q n fr' st'
    | e => Q e fr' st'

def deadLoop : Ob := .loop (fun _ => .bad) [] .skip .skip 0 3 none

/-- A range over a function: the function is called with the loop's yield; what the rounds do is what their contract says. -/
def RangeW (E : Env) (N : Nat) (g : Operand) (ps : List Nat) (asg body : Code) (fr : Fr) (st : Store) (Q : Exit → Fr → Store → Prop) : Prop :=
  match evalO E fr g with
  | .fn f caps => ∃ v st1, Spec E f (.yld st.length :: caps) (st ++ [.loop fr ps asg body N 0 none]) v st1 ∧
    ∃ fr1 ps1 asg1 body1 nt1 s pd, st1[st.length]? = some (.loop fr1 ps1 asg1 body1 nt1 s pd) ∧ s < 2 ∧
      match pd with
      | none => Q .normal fr (st1.set st.length deadLoop)
      | some .ret => Q .ret fr (st1.set st.length deadLoop)
      | some (.exit i) => Q (.exit i) fr (st1.set st.length deadLoop)
      | _ => False
  | _ => False

/-- **What code comes to**, on plain values. -/
def W (E : Env) (N : Nat) : Code → Fr → Store → (Exit → Fr → Store → Prop) → Prop
  | .skip, fr, st, Q => Q .normal fr st
  | .region id ops draw, fr, st, Q => if (draw && E.xr id) = true then AnyW E ops (Q .normal) ops.size (Array.replicate ops.size false) fr st else OpsW E ops ops.toList fr st (Q .normal)
  | .seq a b, fr, st, Q => W E N a fr st fun e fr' st' => match e with
    | .normal => W E N b fr' st' Q
    | e => Q e fr' st'
  | .cond c x y, fr, st, Q => match evalO E fr c with
    | .bool b => Br b (W E N x fr st Q) (W E N y fr st Q)
    | _ => False
  | .block id b, fr, st, Q => W E N b fr st fun e fr' st' => match e with
    | .exit i => if i = id then Q .normal fr' st' else Q (.exit i) fr' st'
    | e => Q e fr' st'
  | .loop b, fr, st, Q => ∃ n, LoopW (fun fr st Q => W E N b fr st Q) Q n fr st
  | .exit i, fr, st, Q => Q (.exit i) fr st
  | .label _, fr, st, Q => Q .normal fr st
  | .ret, fr, st, Q => Q .ret fr st
  | .rangeFunc g ps asg body, fr, st, Q => RangeW E N g ps.toList asg body fr st Q
  | _, _, _, _ => False

theorem LoopW.mono {B : Fr → Store → (Exit → Fr → Store → Prop) → Prop} (hB : ∀ (Q Q' : Exit → Fr → Store → Prop), (∀ e fr st, Q e fr st → Q' e fr st) → ∀ fr st, B fr st Q → B fr st Q') {Q Q' : Exit → Fr → Store → Prop} (h : ∀ e fr st, Q e fr st → Q' e fr st) :
    ∀ n fr st, LoopW B Q n fr st → LoopW B Q' n fr st
  | 0, _, _, q => q
  | n + 1, fr, st, q => hB _ _ (fun e fr st r => by
      cases e <;> first | exact LoopW.mono hB h n _ _ r | exact h _ _ _ r) fr st q

theorem W.mono {E : Env} {N : Nat} : ∀ (c : Code) (Q Q' : Exit → Fr → Store → Prop), (∀ e fr st, Q e fr st → Q' e fr st) → ∀ fr st, W E N c fr st Q → W E N c fr st Q'
  | .skip, _, _, h, fr, st, q => h _ _ _ q
  | .region id ops draw, _, _, h, fr, st, q => by
    unfold W at q ⊢
    split at q
    · rename_i e; rw [if_pos e]; exact AnyW.mono (fun _ _ r => h _ _ _ r) _ _ _ _ q
    · rename_i e; rw [if_neg e]; exact OpsW.mono (fun _ _ r => h _ _ _ r) _ _ _ q
  | .seq a b, _, _, h, fr, st, q => W.mono a _ _ (fun e fr st r => by
      cases e <;> first | exact W.mono b _ _ h _ _ r | exact h _ _ _ r) fr st q
  | .cond c x y, _, _, h, fr, st, q => by
    unfold W at q ⊢
    split at q
    · exact Br.mk (fun e => W.mono x _ _ h _ _ (q.1 e)) (fun e => W.mono y _ _ h _ _ (q.2 e))
    · exact q.elim
  | .block id b, _, _, h, fr, st, q => W.mono b _ _ (fun e fr st r => by
      cases e <;> simp only at r ⊢ <;> first | exact h _ _ _ r | skip
      split at r
      · rename_i e; rw [if_pos e]; exact h _ _ _ r
      · rename_i e; rw [if_neg e]; exact h _ _ _ r) fr st q
  | .loop b, _, _, h, fr, st, q => let ⟨n, q⟩ := q; ⟨n, LoopW.mono (fun Q Q' h fr st r => W.mono b Q Q' h fr st r) h n fr st q⟩
  | .exit _, _, _, h, fr, st, q => h _ _ _ q
  | .label _, _, _, h, fr, st, q => h _ _ _ q
  | .ret, _, _, h, fr, st, q => h _ _ _ q
  | .rangeFunc g ps asg body, _, _, h, fr, st, q => by
    unfold W RangeW at q ⊢
    split at q
    · obtain ⟨v, st1, a1, fr1, ps1, asg1, body1, nt1, s, pd, a2, a3, a4⟩ := q
      refine ⟨v, st1, a1, fr1, ps1, asg1, body1, nt1, s, pd, a2, a3, ?_⟩
      split at a4
      · exact h _ _ _ a4
      · exact h _ _ _ a4
      · exact h _ _ _ a4
      · exact a4.elim
    · exact q.elim
  | .goto _, _, _, _, _, _, q => q.elim
  | .scope _, _, _, _, _, _, q => q.elim
  | .refuse _, _, _, _, _, _, q => q.elim

/-- What is looked at beforehand: operands and destinations within the frame; the regions that draw; ranges over functions only where they may stand. -/
def okC (pl : FuncId → Bool) (xr : Nat → Bool) (N : Nat) (rf : Bool) : Code → Bool
  | .region id ops draw => regIn N ops && (!draw || (xr id || drawOk pl ops (Region.before ops).toList))
  | .seq a b => okC pl xr N rf a && okC pl xr N rf b
  | .cond c x y => opdIn N c && (okC pl xr N rf x && okC pl xr N rf y)
  | .block _ b => okC pl xr N rf b
  | .loop b => okC pl xr N rf b
  | .rangeFunc g ps asg body => rf && (opdIn N g && (ps.all (decide <| · < N) && (okC pl xr N false asg && okC pl xr N false body)))
  | _ => true

/-- The marks among a frame's deferred calls: each for a block of its own, still open. -/
def Dfs (b0 : Nat) (w : World) (ds : List Deferred) : Prop :=
  ∃ rs : List Nat, ds = rs.map (fun r => { target := .collected r, args := #[] }) ∧ rs.Nodup ∧ ∀ r ∈ rs, b0 ≤ r ∧ w.heap[r]? = some (.deferred (some []))

theorem not_owned_deferred {G K ι st w} (h : Rel G K ι st w) {r : Nat} {x} (hr : w.heap[r]? = some (.deferred x)) : ¬ Owned ι st r := by
  rintro ⟨id, hid, hb⟩
  have q := h.obj id _ (List.getElem?_eq_getElem hid)
  cases ho : st[id] <;> rw [ho] at q
  · obtain ⟨b, arr, e, hh, hw, _⟩ := q
    rw [hh] at hb; cases hb; rw [hw] at hr; cases hr
  · obtain ⟨b, cap, arr, hh, hw, _⟩ := q
    rw [hh] at hb; cases hb; rw [hw] at hr; cases hr
  · obtain ⟨b, ents, clock, hh, hw, _⟩ := q
    rw [hh] at hb; cases hb; rw [hw] at hr; cases hr
  · obtain ⟨b, mb, hh, hw, _⟩ := q
    rw [hh] at hb; cases hb; rw [hw] at hr; cases hr
  · obtain ⟨b, l, hh, hw, _⟩ := q
    rw [hh] at hb; cases hb; rw [hw] at hr; cases hr

theorem Dfs.step {G K ι st w K' ι' st' w'} (h : Rel G K ι st w) (s : Stp G K ι st w K' ι' st' w') {b0 : Nat} {ds : List Deferred} (d : Dfs b0 w ds) : Dfs b0 w' ds := by
  obtain ⟨rs, e, nd, hr⟩ := d
  refine ⟨rs, e, nd, fun r hm => ⟨(hr r hm).1, ?_⟩⟩
  rw [s.block r (heap_lt (hr r hm).2) (not_owned_deferred h (hr r hm).2)]
  exact (hr r hm).2

/-- An object of no account is laid in memory. -/
theorem Stp.allocOther {G K ι st w} (h : Rel G K ι st w) (go : Go.Obj) : Stp G K ι st w K ι st (w.alloc go) := by
  have x : Ext K ι st K ι st := .refl _ _ _
  refine ⟨⟨fun a v e => ?_, h.glob, fun id o e => ?_, h.apart, h.gsz.keep fun b hlt _ _ => heap_alloc_old w go b hlt, h.gown⟩, x, rfl, rfl, rfl, by simp, fun b hlt _ => heap_alloc_old w go b hlt, fun b hb _ => hb, fun a v e => .inl e⟩
  · rw [World.cell?_alloc_lt w go a (h.know_lt e)]; exact h.know a v e
  · have hid := (List.getElem?_eq_some_iff.1 e).1
    exact (h.obj id o e).carry x (fun b hb => heap_alloc_old w go b (h.owned_lt ⟨id, hid, hb⟩)) (fun _ _ _ q => q)

end Go.Pv
end
