/-
  The pure machine, part I: that the operations on plain values are the model's own (5): making, maps, conversions, literals, builtins.
-/
import Derived.Test.YtbfmlkdpeaeblaaPvH
import Derived.IntWalk
set_option linter.all false
set_option linter.unusedSimpArgs false
set_option linter.unusedVariables false
namespace Go.Pv

theorem rep_get {α : Type} (z : List α) : ∀ (n j : Nat), j < n * z.length → ((List.replicate n z).flatten)[j]? = z[j % z.length]?
  | 0, j, h => by simp at h
  | n + 1, j, h => by
    rw [List.replicate_succ, List.flatten_cons]
    by_cases hj : j < z.length
    · rw [List.getElem?_append_left hj, Nat.mod_eq_of_lt hj]
    · rw [List.getElem?_append_right (by omega), rep_get z n (j - z.length) (by rw [Nat.add_mul] at h; omega)]
      congr 1
      exact (Nat.mod_eq_sub_mod (by omega)).symm
theorem rep_length {α : Type} (z : List α) (n : Nat) : ((List.replicate n z).flatten).length = n * z.length := by
  induction n with
  | zero => simp
  | succ n ih => rw [List.replicate_succ, List.flatten_cons, List.length_append, ih, Nat.add_mul]; omega

theorem wrap64_id {n : Int} (h0 : -9223372036854775808 ≤ n) (h1 : n ≤ 9223372036854775807) : IntKind.i64.wrap n = n := by
  exact IntWalk.i64_in n ⟨by omega, by omega⟩

theorem mk_cells (z : Array Value) (n j : Nat) (h : j < n * z.size) : (((Array.range (n * z.size)).map fun i => z[i % z.size]!))[j]? = z[j % z.size]? := by
  have hz : 0 < z.size := by
    rcases Nat.eq_zero_or_pos z.size with e | e
    · rw [e] at h; simp at h
    · exact e
  have hlt : j % z.size < z.size := Nat.mod_lt _ hz
  simp [h, hlt]

theorem gives_makeSlice {E : Env} (hE : EnvOk E) {K ι st w} (h : Rel E.G K ι st w) {t e : TypeId} {ti te : TI} (hT : E.T t = some ti) (hk : ti.kind = .slice e) (hTe : E.T e = some te) (n : Nat) (hn : n ≤ LIM) (hp : 0 < te.size) :
    Gives E.G K ι st w ((Instr.makeSlice t (.int .i64 (n : Int)) (.int .i64 (n : Int))).run E.P w) (.osl st.length (n * te.size) 0 n te.size) (st ++ [.cells ((List.replicate n te.zero).flatten)]) := by
  obtain ⟨d, i, ty⟩ := hE.ty hT
  obtain ⟨d', i', tye⟩ := hE.ty hTe
  obtain ⟨z, hz, hs, hl, hr, _, _⟩ := tye.hz
  have hu := kind_slice ty hk
  unfold LIM at hn
  have hw : IntKind.i64.wrap (n : Int) = n := wrap64_id (by omega) (by omega)
  have hb := tye.hb
  have hbytes : i'.bytes * n ≤ 4096 * n := Nat.mul_le_mul_right n hb
  have hi' : (i'.bytes : Int) * (n : Int) ≤ 281474976710656 := by
    rw [← Int.natCast_mul]
    omega
  have run : (Instr.makeSlice t (.int .i64 (n : Int)) (.int .i64 (n : Int))).run E.P w =
      .ok (.slice (some ⟨w.heap.size, 0, none⟩) n n) (w.alloc (.cells ((Array.range (n * te.size)).map fun j => (if n * te.size = 0 then (#[] : Array Value) else z.cells)[j % (if n * te.size = 0 then (#[] : Array Value) else z.cells).size]!) e)) := by
    have h2 : ¬ ((281474976710656 : Int) < (i'.bytes : Int) * (n : Int)) := by omega
    have h3 : ¬ ((n : Int) < 0) := by omega
    by_cases h0 : n * te.size = 0
    · have hn0 : n = 0 := (Nat.mul_eq_zero.1 h0).resolve_right (by omega)
      subst hn0
      have hw0 : IntKind.i64.wrap 0 = 0 := wrap64_id (by omega) (by omega)
      simp [Instr.makeSlice, run_underlying hu, asInt, asIntOf, typeInfo, tye.hi, tye.sizeOf, newRow, hw0]
    · simp [Instr.makeSlice, run_underlying hu, asInt, asIntOf, typeInfo, tye.hi, hw, h2, h3, tye.sizeOf, h0, newRow, tye.zeroV hz]
  have hflat : (List.replicate n te.zero).flatten.length = n * te.size := by rw [rep_length, hl]
  have cellAt : ∀ j, j < n * te.size → ∃ v, ((Array.range (n * te.size)).map fun j => (if n * te.size = 0 then (#[] : Array Value) else z.cells)[j % (if n * te.size = 0 then (#[] : Array Value) else z.cells).size]!)[j]? = some v ∧
      z.cells[j % te.size]? = some v := by
    intro j hj
    have hne0 : ¬ n * te.size = 0 := by omega
    have := mk_cells z.cells n j (by rw [hs]; exact hj)
    rw [hs] at this
    have hm : j % te.size < z.cells.size := by rw [hs]; exact Nat.mod_lt _ hp
    refine ⟨z.cells[j % te.size], ?_, Array.getElem?_eq_getElem hm⟩
    simp only [if_neg hne0, hs]
    rw [this]
    exact Array.getElem?_eq_getElem hm
  have zc : ∀ (j : Nat) (p : PV), te.zero[j]? = some p → ∀ v : Value, z.cells[j]? = some v → TRel K p v ∧ v.oneCell' = true := by
    intro j p hp v hv
    obtain ⟨v', a1, a2, a3⟩ := hr K j p hp
    rw [hv] at a1; injection a1 with a1; subst a1
    exact ⟨a2, a3⟩
  have s1 := Stp.newCells h ((List.replicate n te.zero).flatten) ((Array.range (n * te.size)).map fun j => (if n * te.size = 0 then (#[] : Array Value) else z.cells)[j % (if n * te.size = 0 then (#[] : Array Value) else z.cells).size]!) e
    (by rw [hflat]; simp) (fun j v hj => by
      have hlt : j < n * te.size := by simpa using (Array.getElem?_eq_some_iff.1 hj).1
      obtain ⟨v', b1, b2⟩ := cellAt j hlt
      rw [hj] at b1; injection b1 with b1; subst b1
      have hm : j % te.size < te.zero.length := by rw [hl]; exact Nat.mod_lt _ hp
      exact (zc _ _ (List.getElem?_eq_getElem hm) v b2).2) (fun j p v hp' hj => by
      have hlt : j < n * te.size := by simpa using (Array.getElem?_eq_some_iff.1 hj).1
      obtain ⟨v', b1, b2⟩ := cellAt j hlt
      rw [hj] at b1; injection b1 with b1; subst b1
      rw [rep_get _ _ _ (by rw [hl]; exact hlt), hl] at hp'
      exact .tree _ _ (zc _ _ hp' v b2).1)
  obtain ⟨s1, s2⟩ := s1
  refine ⟨_, _, _, _, run, s1, .osl _ _ _ _ _ _ _ ((List.replicate n te.zero).flatten) (by simp) (by omega) (Nat.le_refl _) ⟨fun q => (by cases q), by have : maxLen = 9223372036854775807 := rfl; omega⟩ (fun q => ⟨w.heap.size, _, by rw [ins_same], fun _ => rfl, by omega, by simp⟩)⟩

theorem gives_makeMap {E : Env} {K ι st w} (h : Rel E.G K ι st w) (t : TypeId) : Gives E.G K ι st w ((Instr.makeMap t none).run E.P w) (.map st.length) (st ++ [.map []]) := by
  have s1 := Stp.newOb h (.map []) (.map #[] 0) (.map (some w.heap.size)) rfl (fun _ _ => ⟨w.heap.size, #[], 0, rfl, heap_alloc_new w _, rfl, by simp, by simp, by simp⟩)
  refine ⟨_, _, _, _, ?_, s1, .map _ [] w.heap.size (by simp) (by rw [ins_same])⟩
  simp [Instr.makeMap]

theorem same_key {K ι st p q} {a b : Value} {r : Bool} (h : keyEq p q = some r) (ha : VRel K ι st p a) (hb : VRel K ι st q b) (td : TypeDesc) (hd : (∃ k, td = .int k) ∧ (∃ k n, p = .int k n) ∨ td = .string ∧ ∃ s, p = .str s) : Instr.sameNow td a b = some r := by
  unfold keyEq at h
  split at h
  · rw [ha.intV, hb.intV]
    split at h
    · rename_i hk
      injection h with h
      subst h hk
      rcases hd with ⟨⟨k, rfl⟩, _⟩ | ⟨_, s, e⟩
      · simp [Instr.sameNow]
      · cases e
    · cases h
  · rw [ha.strV, hb.strV]
    injection h with h
    subst h
    rcases hd with ⟨_, ⟨k, n, e⟩⟩ | ⟨rfl, _⟩
    · cases e
    · have : ∀ x y : List UInt8, (bytesV x == bytesV y) = (x == y) := fun x y => by rw [beq_toListBytes, toList_bytesV, toList_bytesV]
      simp [Instr.sameNow, this]
  · cases h

theorem find_key {K ι st p} {a : Value} (ha : VRel K ι st p a) (td : TypeDesc) (hd : (∃ k, td = .int k) ∧ (∃ k n, p = .int k n) ∨ td = .string ∧ ∃ s, p = .str s) :
    ∀ (es : List (PV × PV)) (ents : List MapEntry) (i : Nat) (r : Option (Nat × PV)), findF p es i = some r → ents.length = es.length →
      (∀ (j : Nat) (kp vp : PV) (en : MapEntry), es[j]? = some (kp, vp) → ents[j]? = some en → VRel K ι st kp en.key ∧ VRel K ι st vp en.val) →
      (r = none ∧ Instr.findNow td a ents i = some none) ∨ ∃ j v en, r = some (i + j, v) ∧ ents[j]? = some en ∧ (∃ kp, es[j]? = some (kp, v) ∧ keyEq p kp = some true) ∧ VRel K ι st v en.val ∧ Instr.findNow td a ents i = some (some (i + j, en.val))
  | [], [], i, r, h, _, _ => by
    simp [findF] at h
    exact .inl ⟨h.symm, rfl⟩
  | [], _ :: _, i, r, _, hl, _ => by simp at hl
  | _ :: _, [], i, r, _, hl, _ => by simp at hl
  | (kp, vp) :: es, en :: ents, i, r, h, hl, hr => by
    obtain ⟨r1, r2⟩ := hr 0 kp vp en rfl rfl
    simp only [findF] at h
    split at h
    · rename_i hk
      injection h with h
      subst h
      refine .inr ⟨0, vp, en, rfl, rfl, ⟨kp, rfl, hk⟩, r2, ?_⟩
      simp [Instr.findNow, same_key hk ha r1 td hd]
    · rename_i hk
      rcases find_key ha td hd es ents (i + 1) r h (by simpa using hl) (fun j kp vp en h1 h2 => hr (j + 1) kp vp en (by simpa using h1) (by simpa using h2)) with ⟨rfl, e⟩ | ⟨j, v, en', rfl, e1, ⟨kp', e2, e2'⟩, e3, e4⟩
      · exact .inl ⟨rfl, by simp [Instr.findNow, same_key hk ha r1 td hd, e]⟩
      · refine .inr ⟨j + 1, v, en', by simp; omega, by simpa using e1, ⟨kp', by simpa using e2, e2'⟩, e3, ?_⟩
        simp only [Instr.findNow, same_key hk ha r1 td hd, e4]
        congr 3
        omega
    · cases h

theorem key_kind {P t ik d i} (ty : TyFacts P t ik d i) {p : PV} (hk : keyK ik p = true) : (∃ k, d = .int k) ∧ (∃ k n, p = .int k n) ∨ d = .string ∧ ∃ s, p = .str s := by
  unfold keyK at hk
  have hkk := ty.hk
  split at hk
  · rename_i k' k n e
    rw [e] at hkk
    cases d <;> simp [kindOk] at hkk
    exact .inl ⟨⟨_, rfl⟩, ⟨_, _, rfl⟩⟩
  · rename_i s e
    rw [e] at hkk
    cases d <;> simp [kindOk] at hkk
    exact .inr ⟨rfl, ⟨_, rfl⟩⟩
  · cases hk

theorem check_key {P : Program} {t : TypeId} {d : TypeDesc} (hu : P.underlying t = some d) (hd : (∃ k, d = .int k) ∨ d = .string) (b : Bool) (v : Value) (w : World) : (Instr.checkKey b 10000 t v).run P w = .ok () w := by
  rcases hd with ⟨k, rfl⟩ | rfl <;> (unfold Instr.checkKey; simp [run_underlying hu])

theorem valOf_rel {P t iv d i} (ty : TyFacts P t iv d i) (K : Know) : ∃ z, i.zero = some z ∧ TRel K (valOf iv iv.zero) z := by
  obtain ⟨z, hz, hs, hl, hr, h1, h2⟩ := ty.hz
  refine ⟨z, hz, ?_⟩
  unfold valOf
  by_cases ha : iv.agg = true
  · rw [if_pos ha]
    obtain ⟨cs, rfl⟩ := h1 ha
    simp only [Value.cells] at hs hr
    refine .agg _ _ (by omega) (fun j v hj => ?_) (fun j p v hp hj => ?_)
    · have hlt : j < iv.zero.length := by rw [hl, ← hs]; exact (Array.getElem?_eq_some_iff.1 hj).1
      obtain ⟨v', a1, a2, a3⟩ := hr K j _ (List.getElem?_eq_getElem hlt)
      rw [hj] at a1; injection a1 with a1; subst a1; exact a3
    · obtain ⟨v', a1, a2, a3⟩ := hr K j p hp
      rw [hj] at a1; injection a1 with a1; subst a1; exact a2
  · rw [if_neg ha]
    have hc := h2 (by simpa using ha)
    have h1' := ty.h1 (by simpa using ha)
    obtain ⟨p, hp⟩ : ∃ p, iv.zero[0]? = some p := ⟨_, List.getElem?_eq_getElem (by omega)⟩
    obtain ⟨v', a1, a2, a3⟩ := hr K 0 p hp
    rw [hc] at a1
    simp at a1
    subst a1
    rw [headD_get _ _ _ hp]
    exact a2

/-- A look into a map. -/
theorem gives_lookup {E : Env} (hE : EnvOk E) {K ι st w} (h : Rel E.G K ι st w) {t tk tv : TypeId} {ti ik iv : TI} (hT : E.T t = some ti) (hk : ti.kind = .map tk tv) (hTk : E.T tk = some ik) (hTv : E.T tv = some iv)
    {p m : PV} {a b : Value} (hp : VRel K ι st p a) (hm : VRel K ι st m b) (hkk : keyK ik p = true) {es : List (PV × PV)} (hes : m = .nilmap ∧ es = [] ∨ ∃ id, m = .map id ∧ st[id]? = some (.map es)) {r : Option (Nat × PV)} (hf : findF p es 0 = some r) (ok : Bool) :
    Gives E.G K ι st w ((Instr.lookup t b a ok).run E.P w)
      (match r with | some (_, v) => if ok then .tup [v, .bool true] else v | none => if ok then .tup [valOf iv iv.zero, .bool false] else valOf iv iv.zero) st := by
  obtain ⟨d, i, ty⟩ := hE.ty hT
  obtain ⟨dk, i2, tyk⟩ := hE.ty hTk
  obtain ⟨dv, i3, tyv⟩ := hE.ty hTv
  have hu := kind_map ty hk
  have hd := key_kind tyk hkk
  have hd' : (∃ k, dk = .int k) ∨ dk = .string := hd.imp (·.1) (·.1)
  obtain ⟨z, hz, hzr⟩ := valOf_rel tyv K
  -- the entries
  have ents : ∃ ents : Array MapEntry, (b = .map none ∧ ents = #[] ∨ ∃ r clock, b = .map (some r) ∧ w.heap[r]? = some (.map ents clock)) ∧ ents.size = es.length ∧
      ∀ (j : Nat) (kp vp : PV) (en : MapEntry), es[j]? = some (kp, vp) → ents.toList[j]? = some en → VRel K ι st kp en.key ∧ VRel K ι st vp en.val := by
    rcases hes with ⟨rfl, rfl⟩ | ⟨id, rfl, hst⟩
    · have : b = .map none := by cases hm with | tree _ _ q => cases q; rfl
      subst this
      exact ⟨#[], .inl ⟨rfl, rfl⟩, rfl, by simp⟩
    · obtain ⟨bb, ents, clock, hh, hw, hl, hr, _⟩ := h.obj id _ hst
      cases hm with
      | tree _ _ q => cases q
      | map _ es' b' hst' hb =>
        rw [hb] at hh
        injection hh with hh
        injection hh with hh
        subst hh
        refine ⟨ents, .inr ⟨b', clock, rfl, hw⟩, hl, fun j kp vp en h1 h2 => ?_⟩
        obtain ⟨en', a1, a2, a3⟩ := hr j kp vp h1
        simp at h2
        rw [a1] at h2
        injection h2 with h2
        subst h2
        exact ⟨a2, a3⟩
  obtain ⟨ents, he, hl, hr⟩ := ents
  have hfk := find_key hp dk hd es ents.toList 0 r hf (by simpa using hl) hr
  have fin : ∀ (v : PV) (rv : Value), VRel K ι st v rv → ∀ o : Bool, VRel K ι st (if ok then .tup [v, .bool o] else v) (if ok then .tuple #[rv, .bool o] else rv) := by
    intro v rv hv o
    cases ok
    · exact hv
    · refine .tup _ _ rfl (fun j p v' h1 h2 => ?_)
      match j, h1, h2 with
      | 0, h1, h2 => simp at h1 h2; subst h1 h2; exact hv
      | 1, h1, h2 => simp at h1 h2; subst h1 h2; exact .tree _ _ (.bool _)
      | j + 2, h1, h2 => simp at h1
  rcases hfk with ⟨rfl, e⟩ | ⟨j, v, en, rfl, e1, _, e3, e4⟩
  · refine ⟨K, ι, w, (if ok then .tuple #[z, .bool false] else z), ?_, .refl h, fin _ _ (.tree _ _ hzr) false⟩
    rcases he with ⟨rfl, rfl⟩ | ⟨r, clock, rfl, hw⟩
    · simp only [Instr.lookup, Sem.run_bind, run_underlying hu, Result.andThen_ok, Sem.run_pure, check_key tyk.hu hd', Instr.findKey, run_underlying tyk.hu, e, tyv.zeroV hz]
    · simp only [Instr.lookup, Sem.run_bind, run_underlying hu, Result.andThen_ok, getObj, Sem.run, hw, Sem.run_pure, check_key tyk.hu hd', Instr.findKey, run_underlying tyk.hu, e, tyv.zeroV hz]
  · refine ⟨K, ι, w, (if ok then .tuple #[en.val, .bool true] else en.val), ?_, .refl h, fin _ _ e3 true⟩
    rcases he with ⟨rfl, rfl⟩ | ⟨r, clock, rfl, hw⟩
    · simp only [Instr.lookup, Sem.run_bind, run_underlying hu, Result.andThen_ok, Sem.run_pure, check_key tyk.hu hd', Instr.findKey, run_underlying tyk.hu, e4]
    · simp only [Instr.lookup, Sem.run_bind, run_underlying hu, Result.andThen_ok, getObj, Sem.run, hw, Sem.run_pure, check_key tyk.hu hd', Instr.findKey, run_underlying tyk.hu, e4]

end Go.Pv
