/-
  The pure machine, part I: that the operations on plain values are the model's own (5): making, maps, conversions, literals, builtins.
-/
import Derived.Test.YtgbaaobgnpjhcaaGreatDoorPvH
import Derived.IntWalk
import Derived.Room.Entries
import Derived.Laws.NewFold
import Derived.Laws.BytesString
import Derived.Laws.Cells
import Derived.TacticsIn
set_option linter.all false
set_option linter.unusedSimpArgs false
set_option linter.unusedVariables false
section
namespace Go.Pv

theorem rep_get {α : Type} (z : List α) : ∀ (n j : Nat), j < n * z.length → ((List.replicate n z).flatten)[j]? = z[j % z.length]?
  | 0, j, h => by simp at h
  | n + 1, j, h => by
    rw [List.replicate_succ, List.flatten_cons]
    by_cases hj : j < z.length
    · rw [List.getElem?_append_left hj, Nat.mod_eq_of_lt hj]
    · rw [List.getElem?_append_right (by omega), rep_get z n (j - z.length) (by rw [Nat.add_mul] at h; omega)]
      congr 1
      exact (Nat.mod_eq_sub_mod (by omega)).symm
theorem rep_length {α : Type} (z : List α) (n : Nat) : ((List.replicate n z).flatten).length = n * z.length := by
  induction n with
  | zero => simp
  | succ n ih => rw [List.replicate_succ, List.flatten_cons, List.length_append, ih, Nat.add_mul]; omega

theorem wrap64_id {n : Int} (h0 : -9223372036854775808 ≤ n) (h1 : n ≤ 9223372036854775807) : IntKind.i64.wrap n = n := by
  exact IntWalk.i64_in n ⟨by omega, by omega⟩

theorem mk_cells (z : Array Value) (n j : Nat) (h : j < n * z.size) : (((Array.range (n * z.size)).map fun i => z[i % z.size]!))[j]? = z[j % z.size]? := by
  have hz : 0 < z.size := by
    rcases Nat.eq_zero_or_pos z.size with e | e
    · rw [e] at h; simp at h
    · exact e
  have hlt : j % z.size < z.size := Nat.mod_lt _ hz
  simp [h, hlt]

theorem gives_makeSlice {E : Env} (hE : EnvOk E) {K ι st w} (h : Rel E.G K ι st w) {t e : TypeId} {ti te : TI} (hT : E.T t = some ti) (hk : ti.kind = .slice e) (hTe : E.T e = some te) (n : Nat) (hn : n ≤ LIM) (hp : 0 < te.size) :
    Gives E.G K ι st w ((Instr.makeSlice t (.int .i64 (n : Int)) (.int .i64 (n : Int))).run E.P w) (.osl st.length (n * te.size) 0 n te.size) (st ++ [.cells ((List.replicate n te.zero).flatten)]) := by
  obtain ⟨d, i, ty⟩ := hE.ty hT
  obtain ⟨d', i', tye⟩ := hE.ty hTe
  obtain ⟨z, hz, hs, hl, hr, _, _⟩ := tye.hz
  have hu := kind_slice ty hk
  unfold LIM at hn
  have hw : IntKind.i64.wrap (n : Int) = n := wrap64_id (by omega) (by omega)
  have hb := tye.hb
  have hbytes : i'.bytes * n ≤ 4096 * n := Nat.mul_le_mul_right n hb
  have hi' : (i'.bytes : Int) * (n : Int) ≤ 281474976710656 := by
    rw [← Int.natCast_mul]
    omega
  have run : (Instr.makeSlice t (.int .i64 (n : Int)) (.int .i64 (n : Int))).run E.P w =
      .ok (.slice (some ⟨w.heap.size, 0, none⟩) n n) (w.alloc (.cells ((Array.range (n * te.size)).map fun j => (if n * te.size = 0 then (#[] : Array Value) else z.cells)[j % (if n * te.size = 0 then (#[] : Array Value) else z.cells).size]!) e)) := by
    have h2 : ¬ ((281474976710656 : Int) < (i'.bytes : Int) * (n : Int)) := by omega
    have h3 : ¬ ((n : Int) < 0) := by omega
    by_cases h0 : n * te.size = 0
    · have hn0 : n = 0 := (Nat.mul_eq_zero.1 h0).resolve_right (by omega)
      subst hn0
      have hw0 : IntKind.i64.wrap 0 = 0 := wrap64_id (by omega) (by omega)
      simp [Instr.makeSlice, run_underlying hu, asInt, asIntOf, typeInfo, tye.hi, tye.sizeOf, newRow, hw0]
    · simp [Instr.makeSlice, run_underlying hu, asInt, asIntOf, typeInfo, tye.hi, hw, h2, h3, tye.sizeOf, h0, newRow, tye.zeroV hz]
  have hflat : (List.replicate n te.zero).flatten.length = n * te.size := by rw [rep_length, hl]
  have cellAt : ∀ j, j < n * te.size → ∃ v, ((Array.range (n * te.size)).map fun j => (if n * te.size = 0 then (#[] : Array Value) else z.cells)[j % (if n * te.size = 0 then (#[] : Array Value) else z.cells).size]!)[j]? = some v ∧
      z.cells[j % te.size]? = some v := by
    intro j hj
    have hne0 : ¬ n * te.size = 0 := by omega
    have := mk_cells z.cells n j (by rw [hs]; exact hj)
    rw [hs] at this
    have hm : j % te.size < z.cells.size := by rw [hs]; exact Nat.mod_lt _ hp
    refine ⟨z.cells[j % te.size], ?_, Array.getElem?_eq_getElem hm⟩
    simp only [if_neg hne0, hs]
    rw [this]
    exact Array.getElem?_eq_getElem hm
  have zc : ∀ (j : Nat) (p : PV), te.zero[j]? = some p → ∀ v : Value, z.cells[j]? = some v → TRel K p v ∧ v.oneCell' = true := by
    intro j p hp v hv
    obtain ⟨v', a1, a2, a3⟩ := hr K j p hp
    rw [hv] at a1; injection a1 with a1; subst a1
    exact ⟨a2, a3⟩
  have s1 := Stp.newCells h ((List.replicate n te.zero).flatten) ((Array.range (n * te.size)).map fun j => (if n * te.size = 0 then (#[] : Array Value) else z.cells)[j % (if n * te.size = 0 then (#[] : Array Value) else z.cells).size]!) e
    (by rw [hflat]; simp) (fun j v hj => by
      have hlt : j < n * te.size := by simpa using (Array.getElem?_eq_some_iff.1 hj).1
      obtain ⟨v', b1, b2⟩ := cellAt j hlt
      rw [hj] at b1; injection b1 with b1; subst b1
      have hm : j % te.size < te.zero.length := by rw [hl]; exact Nat.mod_lt _ hp
      exact (zc _ _ (List.getElem?_eq_getElem hm) v b2).2) (fun j p v hp' hj => by
      have hlt : j < n * te.size := by simpa using (Array.getElem?_eq_some_iff.1 hj).1
      obtain ⟨v', b1, b2⟩ := cellAt j hlt
      rw [hj] at b1; injection b1 with b1; subst b1
      rw [rep_get _ _ _ (by rw [hl]; exact hlt), hl] at hp'
      exact .tree _ _ (zc _ _ hp' v b2).1)
  obtain ⟨s1, s2⟩ := s1
  refine ⟨_, _, _, _, run, s1, .osl _ _ _ _ _ _ _ ((List.replicate n te.zero).flatten) (by simp) (by omega) (Nat.le_refl _) ⟨fun q => (by cases q), by have : maxLen = 9223372036854775807 := rfl; omega⟩ (fun q => ⟨w.heap.size, _, by rw [ins_same], fun _ => rfl, by omega, by simp⟩)⟩

theorem gives_makeMap {E : Env} {K ι st w} (h : Rel E.G K ι st w) (t : TypeId) : Gives E.G K ι st w ((Instr.makeMap t none).run E.P w) (.map st.length) (st ++ [.map []]) := by
  have s1 := Stp.newOb h (.map []) (.map #[] 0) (.map (some w.heap.size)) rfl (fun _ _ => ⟨w.heap.size, #[], 0, rfl, heap_alloc_new w _, rfl, by simp, by simp, by simp⟩)
  refine ⟨_, _, _, _, ?_, s1, .map _ [] w.heap.size (by simp) (by rw [ins_same])⟩
  simp [Instr.makeMap]

theorem same_key {K ι st p q} {a b : Value} {r : Bool} (h : keyEq p q = some r) (ha : VRel K ι st p a) (hb : VRel K ι st q b) (td : TypeDesc) (hd : (∃ k, td = .int k) ∧ (∃ k n, p = .int k n) ∨ td = .string ∧ ∃ s, p = .str s) : Instr.sameNow td a b = some r := by
  unfold keyEq at h
  split at h
  · rw [ha.intV, hb.intV]
    split at h
    · rename_i hk
      injection h with h
      subst h hk
      rcases hd with ⟨⟨k, rfl⟩, _⟩ | ⟨_, s, e⟩
      · simp [Instr.sameNow]
      · cases e
    · cases h
  · rw [ha.strV, hb.strV]
    injection h with h
    subst h
    rcases hd with ⟨_, ⟨k, n, e⟩⟩ | ⟨rfl, _⟩
    · cases e
    · have : ∀ x y : List UInt8, (bytesV x == bytesV y) = (x == y) := fun x y => by rw [beq_toListBytes, toList_bytesV, toList_bytesV]
      simp [Instr.sameNow, this]
  · cases h

theorem find_key {K ι st p} {a : Value} (ha : VRel K ι st p a) (td : TypeDesc) (hd : (∃ k, td = .int k) ∧ (∃ k n, p = .int k n) ∨ td = .string ∧ ∃ s, p = .str s) :
    ∀ (es : List (PV × PV)) (ents : List MapEntry) (i : Nat) (r : Option (Nat × PV)), findF p es i = some r → ents.length = es.length →
      (∀ (j : Nat) (kp vp : PV) (en : MapEntry), es[j]? = some (kp, vp) → ents[j]? = some en → VRel K ι st kp en.key ∧ VRel K ι st vp en.val) →
      (r = none ∧ Instr.findNow td a ents i = some none) ∨ ∃ j v en, r = some (i + j, v) ∧ ents[j]? = some en ∧ (∃ kp, es[j]? = some (kp, v) ∧ keyEq p kp = some true) ∧ VRel K ι st v en.val ∧ Instr.findNow td a ents i = some (some (i + j, en.val))
  | [], [], i, r, h, _, _ => by
    simp [findF] at h
    exact .inl ⟨h.symm, rfl⟩
  | [], _ :: _, i, r, _, hl, _ => by simp at hl
  | _ :: _, [], i, r, _, hl, _ => by simp at hl
  | (kp, vp) :: es, en :: ents, i, r, h, hl, hr => by
    obtain ⟨r1, r2⟩ := hr 0 kp vp en rfl rfl
    simp only [findF] at h
    split at h
    · rename_i hk
      injection h with h
      subst h
      refine .inr ⟨0, vp, en, rfl, rfl, ⟨kp, rfl, hk⟩, r2, ?_⟩
      simp [Instr.findNow, same_key hk ha r1 td hd]
    · rename_i hk
      rcases find_key ha td hd es ents (i + 1) r h (by simpa using hl) (fun j kp vp en h1 h2 => hr (j + 1) kp vp en (by simpa using h1) (by simpa using h2)) with ⟨rfl, e⟩ | ⟨j, v, en', rfl, e1, ⟨kp', e2, e2'⟩, e3, e4⟩
      · exact .inl ⟨rfl, by simp [Instr.findNow, same_key hk ha r1 td hd, e]⟩
      · refine .inr ⟨j + 1, v, en', by simp; omega, by simpa using e1, ⟨kp', by simpa using e2, e2'⟩, e3, ?_⟩
        simp only [Instr.findNow, same_key hk ha r1 td hd, e4]
        congr 3
        omega
    · cases h

theorem key_kind {P t ik d i} (ty : TyFacts P t ik d i) {p : PV} (hk : keyK ik p = true) : (∃ k, d = .int k) ∧ (∃ k n, p = .int k n) ∨ d = .string ∧ ∃ s, p = .str s := by
  unfold keyK at hk
  have hkk := ty.hk
  split at hk
  · rename_i k' k n e
    rw [e] at hkk
    cases d <;> simp [kindOk] at hkk
    exact .inl ⟨⟨_, rfl⟩, ⟨_, _, rfl⟩⟩
  · rename_i s e
    rw [e] at hkk
    cases d <;> simp [kindOk] at hkk
    exact .inr ⟨rfl, ⟨_, rfl⟩⟩
  · cases hk

theorem check_key {P : Program} {t : TypeId} {d : TypeDesc} (hu : P.underlying t = some d) (hd : (∃ k, d = .int k) ∨ d = .string) (b : Bool) (v : Value) (w : World) : (Instr.checkKey b 10000 t v).run P w = .ok () w := by
  rcases hd with ⟨k, rfl⟩ | rfl <;> (unfold Instr.checkKey; simp [run_underlying hu])

theorem valOf_rel {P t iv d i} (ty : TyFacts P t iv d i) (K : Know) : ∃ z, i.zero = some z ∧ TRel K (valOf iv iv.zero) z := by
  obtain ⟨z, hz, hs, hl, hr, h1, h2⟩ := ty.hz
  refine ⟨z, hz, ?_⟩
  unfold valOf
  by_cases ha : iv.agg = true
  · rw [if_pos ha]
    obtain ⟨cs, rfl⟩ := h1 ha
    simp only [Value.cells] at hs hr
    refine .agg _ _ (by omega) (fun j v hj => ?_) (fun j p v hp hj => ?_)
    · have hlt : j < iv.zero.length := by rw [hl, ← hs]; exact (Array.getElem?_eq_some_iff.1 hj).1
      obtain ⟨v', a1, a2, a3⟩ := hr K j _ (List.getElem?_eq_getElem hlt)
      rw [hj] at a1; injection a1 with a1; subst a1; exact a3
    · obtain ⟨v', a1, a2, a3⟩ := hr K j p hp
      rw [hj] at a1; injection a1 with a1; subst a1; exact a2
  · rw [if_neg ha]
    have hc := h2 (by simpa using ha)
    have h1' := ty.h1 (by simpa using ha)
    obtain ⟨p, hp⟩ : ∃ p, iv.zero[0]? = some p := ⟨_, List.getElem?_eq_getElem (by omega)⟩
    obtain ⟨v', a1, a2, a3⟩ := hr K 0 p hp
    rw [hc] at a1
    simp at a1
    subst a1
    rw [headD_get _ _ _ hp]
    exact a2

/-- A look into a map. -/
theorem gives_lookup {E : Env} (hE : EnvOk E) {K ι st w} (h : Rel E.G K ι st w) {t tk tv : TypeId} {ti ik iv : TI} (hT : E.T t = some ti) (hk : ti.kind = .map tk tv) (hTk : E.T tk = some ik) (hTv : E.T tv = some iv)
    {p m : PV} {a b : Value} (hp : VRel K ι st p a) (hm : VRel K ι st m b) (hkk : keyK ik p = true) {es : List (PV × PV)} (hes : m = .nilmap ∧ es = [] ∨ ∃ id, m = .map id ∧ st[id]? = some (.map es)) {r : Option (Nat × PV)} (hf : findF p es 0 = some r) (ok : Bool) :
    Gives E.G K ι st w ((Instr.lookup t b a ok).run E.P w)
      (match r with | some (_, v) => if ok then .tup [v, .bool true] else v | none => if ok then .tup [valOf iv iv.zero, .bool false] else valOf iv iv.zero) st := by
  obtain ⟨d, i, ty⟩ := hE.ty hT
  obtain ⟨dk, i2, tyk⟩ := hE.ty hTk
  obtain ⟨dv, i3, tyv⟩ := hE.ty hTv
  have hu := kind_map ty hk
  have hd := key_kind tyk hkk
  have hd' : (∃ k, dk = .int k) ∨ dk = .string := hd.imp (·.1) (·.1)
  obtain ⟨z, hz, hzr⟩ := valOf_rel tyv K
  -- the entries
  have ents : ∃ ents : Array MapEntry, (b = .map none ∧ ents = #[] ∨ ∃ r clock, b = .map (some r) ∧ w.heap[r]? = some (.map ents clock)) ∧ ents.size = es.length ∧
      ∀ (j : Nat) (kp vp : PV) (en : MapEntry), es[j]? = some (kp, vp) → ents.toList[j]? = some en → VRel K ι st kp en.key ∧ VRel K ι st vp en.val := by
    rcases hes with ⟨rfl, rfl⟩ | ⟨id, rfl, hst⟩
    · have : b = .map none := by cases hm with | tree _ _ q => cases q; rfl
      subst this
      exact ⟨#[], .inl ⟨rfl, rfl⟩, rfl, by simp⟩
    · obtain ⟨bb, ents, clock, hh, hw, hl, hr, _⟩ := h.obj id _ hst
      cases hm with
      | tree _ _ q => cases q
      | map _ es' b' hst' hb =>
        rw [hb] at hh
        injection hh with hh
        injection hh with hh
        subst hh
        refine ⟨ents, .inr ⟨b', clock, rfl, hw⟩, hl, fun j kp vp en h1 h2 => ?_⟩
        obtain ⟨en', a1, a2, a3⟩ := hr j kp vp h1
        simp at h2
        rw [a1] at h2
        injection h2 with h2
        subst h2
        exact ⟨a2, a3⟩
  obtain ⟨ents, he, hl, hr⟩ := ents
  have hfk := find_key hp dk hd es ents.toList 0 r hf (by simpa using hl) hr
  have fin : ∀ (v : PV) (rv : Value), VRel K ι st v rv → ∀ o : Bool, VRel K ι st (if ok then .tup [v, .bool o] else v) (if ok then .tuple #[rv, .bool o] else rv) := by
    intro v rv hv o
    cases ok
    · exact hv
    · refine .tup _ _ rfl (fun j p v' h1 h2 => ?_)
      match j, h1, h2 with
      | 0, h1, h2 => simp at h1 h2; subst h1 h2; exact hv
      | 1, h1, h2 => simp at h1 h2; subst h1 h2; exact .tree _ _ (.bool _)
      | j + 2, h1, h2 => simp at h1
  rcases hfk with ⟨rfl, e⟩ | ⟨j, v, en, rfl, e1, _, e3, e4⟩
  · refine ⟨K, ι, w, (if ok then .tuple #[z, .bool false] else z), ?_, .refl h, fin _ _ (.tree _ _ hzr) false⟩
    rcases he with ⟨rfl, rfl⟩ | ⟨r, clock, rfl, hw⟩
    · simp only [Instr.lookup, Sem.run_bind, run_underlying hu, Result.andThen_ok, Sem.run_pure, check_key tyk.hu hd', Instr.findKey, run_underlying tyk.hu, e, tyv.zeroV hz]
    · simp only [Instr.lookup, Sem.run_bind, run_underlying hu, Result.andThen_ok, getObj, Sem.run, hw, Sem.run_pure, check_key tyk.hu hd', Instr.findKey, run_underlying tyk.hu, e, tyv.zeroV hz]
  · refine ⟨K, ι, w, (if ok then .tuple #[en.val, .bool true] else en.val), ?_, .refl h, fin _ _ e3 true⟩
    rcases he with ⟨rfl, rfl⟩ | ⟨r, clock, rfl, hw⟩
    · simp only [Instr.lookup, Sem.run_bind, run_underlying hu, Result.andThen_ok, Sem.run_pure, check_key tyk.hu hd', Instr.findKey, run_underlying tyk.hu, e4]
    · simp only [Instr.lookup, Sem.run_bind, run_underlying hu, Result.andThen_ok, getObj, Sem.run, hw, Sem.run_pure, check_key tyk.hu hd', Instr.findKey, run_underlying tyk.hu, e4]

end Go.Pv
end
section
namespace Go.Pv

theorem sameBits_key {K ι st p q} {a b : Value} (h : keyEq p q = some true) (ha : VRel K ι st p a) (hb : VRel K ι st q b) : Instr.sameBits 10000 b a = true ∧ a = b := by
  unfold keyEq at h
  split at h
  · rw [ha.intV, hb.intV]
    split at h
    · rename_i hk
      subst hk
      simp at h
      subst h
      exact ⟨by simp [Instr.sameBits], rfl⟩
    · cases h
  · rw [ha.strV, hb.strV]
    simp at h
    subst h
    exact ⟨by simp [Instr.sameBits, beq_toListBytes], rfl⟩
  · cases h

theorem setObj_run {P : Program} {w : World} {r : Nat} {o o' : Go.Obj} (h : w.heap[r]? = some o) (hc : ∀ c e f, o ≠ .cells c e f) : (setObj r o').run P w = .ok () { w with heap := w.heap.setIfInBounds r o' } := by
  simp only [setObj, Sem.run, h]

theorem heap_set_other (w : World) (r k : Nat) (o : Go.Obj) (h : k ≠ r) : (w.heap.setIfInBounds r o)[k]? = w.heap[k]? := by
  rw [Array.getElem?_setIfInBounds_ne (Ne.symm h)]
theorem heap_set_same (w : World) (r : Nat) (o o' : Go.Obj) (h : w.heap[r]? = some o) : (w.heap.setIfInBounds r o')[r]? = some o' := by
  rw [Array.getElem?_setIfInBounds_self_of_lt (heap_lt h)]

/-- A map's object turns. -/
theorem Stp.mapSet {G K ι st w} (h : Rel G K ι st w) (id : Nat) (es es' : List (PV × PV)) (hid : st[id]? = some (.map es)) (b : Nat) (hh : ι id = .map (some b)) (ents ents' : Array MapEntry) (clock clock' : Nat) (hw : w.heap[b]? = some (.map ents clock))
    (ho : Ext K ι st K ι (st.set id (.map es')) → ents'.size = es'.length ∧
      (∀ (i : Nat) (kp vp : PV), es'[i]? = some (kp, vp) → ∃ en : MapEntry, ents'[i]? = some en ∧ VRel K ι (st.set id (.map es')) kp en.key ∧ VRel K ι (st.set id (.map es')) vp en.val) ∧
      (∀ (i : Nat) (x : MapEntry), ents'[i]? = some x → x.born = i) ∧ clock' = ents'.size) :
    Stp G K ι st w K ι (st.set id (.map es')) { w with heap := w.heap.setIfInBounds b (.map ents' clock') } := by
  have key := Stp.setOb h id (.map es) (.map es') hid (ι id) (by simp [Ob.le]) K (fun _ _ q => q) { w with heap := w.heap.setIfInBounds b (.map ents' clock') } b b (by rw [hh]; rfl) (by rw [hh]; rfl) (.inl rfl) rfl rfl rfl (by simp)
    (fun k _ hk => heap_set_other w b k _ hk)
    (fun a v q => by
      have hc := h.know a v q
      by_cases hab : a.block = b
      · rw [World.cell?, hab, hw] at hc; simp at hc
      · rw [← hc]; exact World.cell?_of_block (w := w) (heap_set_other w b a.block _ hab))
    (fun a v q => .inl q) (fun x => by
      rw [ins_id] at x ⊢
      exact ⟨b, ents', clock', hh, heap_set_same w b _ _ hw, ho x⟩)
  rw [ins_id] at key
  exact key

theorem gives_mapUpdate {E : Env} (hE : EnvOk E) {K ι st w} (h : Rel E.G K ι st w) {t tk tv : TypeId} {ti ik : TI} (hT : E.T t = some ti) (hk : ti.kind = .map tk tv) (hTk : E.T tk = some ik)
    {p : PV} {x : PV} {id : Nat} {a b c : Value} (hp : VRel K ι st p a) (hm : VRel K ι st (.map id) b) (hx : VRel K ι st x c) (hkk : keyK ik p = true) {es : List (PV × PV)} (hst : st[id]? = some (.map es)) {r : Option (Nat × PV)} (hf : findF p es 0 = some r) :
    ∃ w', (Instr.mapUpdate t b a c).run E.P w = .ok () w' ∧ Stp E.G K ι st w K ι (st.set id (.map (match r with | some (i, _) => es.set i (p, x) | none => es ++ [(p, x)]))) w' := by
  obtain ⟨d, i, ty⟩ := hE.ty hT
  obtain ⟨dk, i2, tyk⟩ := hE.ty hTk
  have hu := kind_map ty hk
  have hd := key_kind tyk hkk
  have hd' : (∃ k, dk = .int k) ∨ dk = .string := hd.imp (·.1) (·.1)
  obtain ⟨bb, ents, clock, hh, hw, hl, hr, hb1, hb2⟩ := h.obj id _ hst
  cases hm with
  | tree _ _ q => cases q
  | map _ es' b' hst' hb =>
    rw [hb] at hh
    injection hh with hh
    injection hh with hh
    subst hh
    have hr' : ∀ (j : Nat) (kp vp : PV) (en : MapEntry), es[j]? = some (kp, vp) → ents.toList[j]? = some en → VRel K ι st kp en.key ∧ VRel K ι st vp en.val := by
      intro j kp vp en h1 h2
      obtain ⟨en', a1, a2, a3⟩ := hr j kp vp h1
      simp at h2
      rw [a1] at h2
      injection h2 with h2
      subst h2
      exact ⟨a2, a3⟩
    rcases find_key hp dk hd es ents.toList 0 r hf (by simpa using hl) hr' with ⟨rfl, e⟩ | ⟨j, v, en, rfl, e1, ⟨kp, e2, e2'⟩, e3, e4⟩
    · refine ⟨_, ?_, Stp.mapSet h id es (es ++ [(p, x)]) hst b' hb ents (ents.push { key := a, val := c, born := clock }) clock (clock + 1) hw (fun q => ⟨by simp [hl], fun i kp vp hi => ?_, fun i x' h1 => ?_, by simp [hb2]⟩)⟩
      · simp only [Instr.mapUpdate, Sem.run_bind, run_underlying hu, Result.andThen_ok, getObj, Sem.run, hw, check_key tyk.hu hd', Instr.findKey, run_underlying tyk.hu, e, Sem.run_pure]
        rw [setObj_run hw (by simp)]
      · by_cases hi' : i < es.length
        · rw [List.getElem?_append_left hi'] at hi
          obtain ⟨en, c1, c2, c3⟩ := hr i kp vp hi
          refine ⟨en, ?_, c2.mono q, c3.mono q⟩
          rw [Array.getElem?_push, if_neg (by omega)]; exact c1
        · have hi2 : i = es.length := by
            have := (List.getElem?_eq_some_iff.1 hi).1
            simp at this; omega
          subst hi2
          simp at hi
          obtain ⟨rfl, rfl⟩ := hi
          exact ⟨{ key := a, val := c, born := clock }, by rw [← hl]; simp, hp.mono q, hx.mono q⟩
      · rw [Array.getElem?_push] at h1
        split at h1
        · rename_i q1
          injection h1 with h1; subst h1; simp [hb2, q1]
        · exact hb1 i x' h1
    · rw [Nat.zero_add] at e4
      have e1' : ents[j]? = some en := by simpa using e1
      obtain ⟨hkp, _⟩ := hr' j kp v en e2 e1
      obtain ⟨sb, rfl⟩ := sameBits_key e2' hp hkp
      have hj : j < ents.size := (Array.getElem?_eq_some_iff.1 e1').1
      refine ⟨_, ?_, Stp.mapSet h id es (es.set (0 + j) (p, x)) hst b' hb ents (ents.modify j fun e => { e with key := en.key, val := c }) clock clock hw (fun q => ⟨by simp [hl], fun i kp' vp' hi => ?_, fun i x' h1 => ?_, by simp [hb2]⟩)⟩
      · simp only [Instr.mapUpdate, Sem.run_bind, run_underlying hu, Result.andThen_ok, getObj, Sem.run, hw, check_key tyk.hu hd', Instr.findKey, run_underlying tyk.hu, e4, Sem.run_pure, e1', Option.map_some, Option.getD_some, Instr.keyThatStays, sb, if_true]
        rw [setObj_run hw (by simp)]
      · rw [Nat.zero_add] at hi
        rw [Array.getElem?_modify]
        by_cases hij : j = i
        · subst hij
          rw [getElem?_set_eq' _ _ _ _ e2] at hi
          injection hi with hi
          injection hi with q1 q2
          subst q1 q2
          rw [if_pos rfl, e1']
          exact ⟨_, rfl, hp.mono q, hx.mono q⟩
        · rw [getElem?_set_ne' _ _ _ _ hij] at hi
          rw [if_neg hij]
          obtain ⟨en', c1, c2, c3⟩ := hr i kp' vp' hi
          exact ⟨en', c1, c2.mono q, c3.mono q⟩
      · rw [Array.getElem?_modify] at h1
        split at h1
        · obtain ⟨x0, q1, q2⟩ := Option.map_eq_some_iff.1 h1
          rw [← q2]
          exact hb1 i x0 q1
        · exact hb1 i x' h1

theorem gives_conv {E : Env} (hE : EnvOk E) {K ι st w} (h : Rel E.G K ι st w) {src dst : TypeId} {x q : PV} {a : Value} (ha : VRel K ι st x a)
    (ho : (∃ ts td k k' n, E.T src = some ts ∧ E.T dst = some td ∧ td.kind = .int k ∧ x = .int k' n ∧ q = .int k (k.wrap n)) ∨ ∃ ts td s, E.T src = some ts ∧ E.T dst = some td ∧ ts.kind = .str ∧ td.kind = .str ∧ x = .str s ∧ q = .str s) :
    Gives E.G K ι st w ((convert src dst a).run E.P w) q st := by
  rcases ho with ⟨ts, td, k, k', n, hTs, hTd, hk, rfl, rfl⟩ | ⟨ts, td, s, hTs, hTd, hk, hk', rfl, rfl⟩
  · obtain ⟨d, i, ty⟩ := hE.ty hTs
    obtain ⟨d', i', ty'⟩ := hE.ty hTd
    have hu := kind_int ty' hk
    rw [ha.intV]
    have : (convert src dst (.int k' n)).run E.P w = .ok (.int k (k.wrap n)) w := by
      simp only [convert, Sem.run_bind, ty.underl w, Result.andThen_ok, run_underlying hu, Conv.intToInt, Sem.run_pure]
    rw [this]
    exact Gives.pure h (.tree _ _ (.int _ _))
  · obtain ⟨d, i, ty⟩ := hE.ty hTs
    obtain ⟨d', i', ty'⟩ := hE.ty hTd
    have hu := kind_str ty' hk'
    have hu0 := kind_str ty hk
    rw [ha.strV]
    have : (convert src dst (.string (bytesV s))).run E.P w = .ok (.string (bytesV s)) w := by
      simp only [convert, Sem.run_bind, run_underlying hu0, Result.andThen_ok, run_underlying hu, Sem.run_pure]
    rw [this]
    exact Gives.pure h (.tree _ _ (.str _))

theorem gives_extract {G : Nat → PV} {P : Program} {K ι st w} (h : Rel G K ι st w) {vs : List PV} {a : Value} (ha : VRel K ι st (.tup vs) a) {i : Nat} {q : PV} (hq : vs[i]? = some q) : Gives G K ι st w ((Instr.extract a i).run P w) q st := by
  obtain ⟨us, rfl, hl, hr⟩ := ha.tupV
  have hlt : i < us.size := by rw [← hl]; exact (List.getElem?_eq_some_iff.1 hq).1
  have e : us[i]? = some us[i] := Array.getElem?_eq_getElem hlt
  have : (Instr.extract (.tuple us) i).run P w = .ok us[i] w := by simp [Instr.extract, e, Sem.run_pure]
  rw [this]
  exact Gives.pure h (hr i q _ hq e)

end Go.Pv
end
section
namespace Go.Pv

theorem isAgg_spec {p : PV} (h : (scal p || isAgg p) = true) : scal p = true ∨ ∃ cs, p = .agg cs := by
  cases p <;> simp_all [scal, isAgg]

/-! ### Struct and array literals -/
theorem fold_set (vs : List Value) : ∀ (off j0 : Nat) (cs : Array Value), off + j0 + vs.length ≤ cs.size →
    ((vs.zipIdx j0).foldl (fun cs (c, j) => cs.setIfInBounds (off + j) c) cs).size = cs.size ∧
    ∀ i, ((vs.zipIdx j0).foldl (fun cs (c, j) => cs.setIfInBounds (off + j) c) cs)[i]? = if off + j0 ≤ i ∧ i < off + j0 + vs.length then vs[i - (off + j0)]? else cs[i]? := by
  induction vs with
  | nil => intro off j0 cs _; exact ⟨rfl, fun i => by rw [if_neg (by simp)]; rfl⟩
  | cons v vs ih =>
    intro off j0 cs h
    simp only [List.length_cons] at h
    simp only [List.zipIdx_cons, List.foldl_cons]
    obtain ⟨h1, h2⟩ := ih off (j0 + 1) (cs.setIfInBounds (off + j0) v) (by simp; omega)
    refine ⟨by rw [h1]; simp, fun i => ?_⟩
    rw [h2]
    by_cases h3 : i = off + j0
    · subst h3
      rw [if_neg (by omega), if_pos (by simp)]
      have : off + j0 < cs.size := by omega
      simp [this]
    · by_cases h4 : off + j0 < i ∧ i < off + j0 + (vs.length + 1)
      · rw [if_pos (by omega), if_pos (by simp; omega)]
        have : i - (off + j0) = (i - (off + (j0 + 1))) + 1 := by omega
        rw [this, List.getElem?_cons_succ]
      · rw [if_neg (by omega), if_neg (by simp; omega), Array.getElem?_setIfInBounds_ne (by omega)]

theorem fill_run {K ι st} (place : Nat → Option (Nat × Nat)) : ∀ (ps : List (Nat × PV)) (vs : List (Nat × Value)) (cs : List PV) (us : Array Value) (out : List PV), fillF place ps cs = some out → ps.length = vs.length →
    (∀ (j : Nat) (p : Nat × PV) (v : Nat × Value), ps[j]? = some p → vs[j]? = some v → p.1 = v.1 ∧ VRel K ι st p.2 v.2) →
    cs.length = us.size → (∀ (j : Nat) (v : Value), us[j]? = some v → v.oneCell' = true) → (∀ (j : Nat) (p : PV) (v : Value), cs[j]? = some p → us[j]? = some v → VRel K ι st p v) →
    ∃ us', Instr.fill place us vs = some us' ∧ out.length = us'.size ∧ (∀ (j : Nat) (v : Value), us'[j]? = some v → v.oneCell' = true) ∧ ∀ (j : Nat) (p : PV) (v : Value), out[j]? = some p → us'[j]? = some v → VRel K ι st p v
  | [], [], cs, us, out, h, _, _, hl, h1, hr => by
    simp [fillF] at h
    subst h
    exact ⟨us, rfl, hl, h1, hr⟩
  | [], _ :: _, _, _, _, _, hl, _, _, _, _ => by simp at hl
  | _ :: _, [], _, _, _, _, hl, _, _, _, _ => by simp at hl
  | (i, p) :: ps, (i', v) :: vs, cs, us, out, h, hlen, hp, hl, h1, hr => by
    obtain ⟨hi, hpv⟩ := hp 0 (i, p) (i', v) rfl rfl
    simp only at hi hpv
    subst hi
    simp only [fillF] at h
    split at h
    · cases h
    · rename_i off size hpl
      split at h
      · rename_i hs
        have hs' := isAgg_spec hs
        obtain ⟨l1, o1, r1⟩ := hpv.cellsV hs'
        split at h
        · rename_i hfit
          have hsz : v.cells.size = size := by omega
          obtain ⟨f1, f2⟩ := fold_set v.cells.toList off 0 us (by simp; omega)
          have e1 : (v.cells.zipIdx.foldl (fun cs (c, j) => cs.setIfInBounds (off + j) c) us) = ((v.cells.toList.zipIdx 0).foldl (fun cs (c, j) => cs.setIfInBounds (off + j) c) us) := by
            rw [← Array.foldl_toList, Array.toList_zipIdx]
          have lsp : (splice cs off (cellsOf p)).length = cs.length := splice_length _ _ _ (by omega)
          obtain ⟨us', g1, g2⟩ := fill_run place ps vs (splice cs off (cellsOf p)) out h (by simpa using hlen) (fun j p v a b => hp (j + 1) p v (by simpa using a) (by simpa using b)) (us := (v.cells.toList.zipIdx 0).foldl (fun cs (c, j) => cs.setIfInBounds (off + j) c) us)
            (by rw [lsp, f1, hl]) (fun j u hj => by
              rw [f2] at hj
              split at hj
              · exact o1 u (List.mem_of_getElem? hj)
              · exact h1 j u hj) (fun j q u hq hu => by
              rw [f2] at hu
              rw [splice_get _ _ _ (by omega)] at hq
              simp only [Nat.add_zero, Array.length_toList] at hu
              split at hu
              · rename_i hc
                rw [if_pos (by omega)] at hq
                exact r1 _ q u hq hu
              · rename_i hc
                rw [if_neg (by omega)] at hq
                exact hr j q u hq hu)
          refine ⟨us', ?_, g2⟩
          simp only [Instr.fill, hpl]
          rw [if_neg (by simp; omega), e1]
          exact g1
        · cases h
      · cases h

theorem mapM_places {P : Program} {l : List Field} {w : World} (hs : ∀ f ∈ l, ∃ n, ∀ w, (sizeOf f.type).run P w = .ok n w) :
    ∃ out : List (Nat × Nat), (l.mapM fun f => (do pure (f.offset, ← sizeOf f.type) : Sem (Nat × Nat))).run P w = .ok out w ∧ out.length = l.length ∧ ∀ (j : Nat) (f : Field), l[j]? = some f → ∃ n, out[j]? = some (f.offset, n) ∧ ∀ w, (sizeOf f.type).run P w = .ok n w := by
  induction l with
  | nil => exact ⟨[], rfl, rfl, by simp⟩
  | cons f fs ih =>
    obtain ⟨n, hn⟩ := hs f (by simp)
    obtain ⟨out, h1, h2, h3⟩ := ih (fun g hg => hs g (by simp [hg]))
    refine ⟨(f.offset, n) :: out, ?_, by simp [h2], fun j g hj => ?_⟩
    · rw [List.mapM_cons]
      simp only [Sem.run_bind, hn, Result.andThen_ok, Sem.run_pure, h1]
    · match j, hj with
      | 0, hj => simp at hj; subst hj; exact ⟨n, rfl, hn⟩
      | j + 1, hj => simp at hj; exact h3 j g hj

theorem fillF_place {place place' : Nat → Option (Nat × Nat)} : ∀ (ps : List (Nat × PV)) (cs out : List PV), (∀ i x, place i = some x → place' i = some x) → fillF place ps cs = some out → fillF place' ps cs = some out
  | [], _, _, _, h => h
  | (i, p) :: ps, cs, out, hp, h => by
    simp only [fillF] at h ⊢
    split at h
    · cases h
    · rename_i off size e
      rw [hp _ _ e]
      simp only
      split at h
      · rename_i hs
        rw [if_pos hs]
        split at h
        · rename_i hf
          rw [if_pos hf]
          exact fillF_place ps _ out hp h
        · cases h
      · cases h

theorem gives_build {E : Env} (hE : EnvOk E) {K ι st w} (h : Rel E.G K ι st w) {t : TypeId} {ti : TI} (hT : E.T t = some ti) (ps : List (Nat × PV)) (vs : Array (Nat × Value)) (hl : ps.length = vs.size)
    (hp : ∀ (j : Nat) (p : Nat × PV) (v : Nat × Value), ps[j]? = some p → vs[j]? = some v → p.1 = v.1 ∧ VRel K ι st p.2 v.2) {out : List PV}
    (ho : (∃ fs, ti.kind = .strct fs ∧ (∀ f ∈ fs, (E.T f.2).isSome = true) ∧ fillF (fun i => (fs[i]?).bind fun f => (E.T f.2).map fun tf => (f.1, tf.size)) ps ti.zero = some out) ∨
      ∃ n e te, ti.kind = .array n e ∧ E.T e = some te ∧ fillF (fun i => some (i * te.size, te.size)) ps ti.zero = some out) :
    Gives E.G K ι st w ((Instr.build t vs).run E.P w) (.agg out) st := by
  obtain ⟨d, i, ty⟩ := hE.ty hT
  obtain ⟨z, hz, hs, hzl, hr, hag, _⟩ := ty.hz
  have zr : ∀ (j : Nat) (p : PV) (v : Value), ti.zero[j]? = some p → z.cells[j]? = some v → VRel K ι st p v := fun j p v a b => by
    obtain ⟨v', a1, a2, a3⟩ := hr K j p a
    rw [b] at a1; injection a1 with a1; subst a1; exact .tree _ _ a2
  have zo : ∀ (j : Nat) (v : Value), z.cells[j]? = some v → v.oneCell' = true := fun j v b => by
    have hlt : j < ti.zero.length := by rw [hzl, ← hs]; exact (Array.getElem?_eq_some_iff.1 b).1
    obtain ⟨v', a1, a2, a3⟩ := hr K j _ (List.getElem?_eq_getElem hlt)
    rw [b] at a1; injection a1 with a1; subst a1; exact a3
  rcases ho with ⟨fs, hk, hall, hf⟩ | ⟨n, e, te, hk, hTe, hf⟩
  · obtain ⟨l, hu, hlf⟩ := kind_strct ty hk
    obtain ⟨pl, m1, m2, m3⟩ := mapM_places (P := E.P) (l := l.toList) (w := w) (fun f hf => by
      have : (f.offset, f.type) ∈ fs := by rw [← hlf]; exact List.mem_map.2 ⟨f, hf, rfl⟩
      obtain ⟨tf, htf⟩ := Option.isSome_iff_exists.1 (hall _ this)
      obtain ⟨d', i', ty'⟩ := hE.ty htf
      exact ⟨tf.size, fun w => ty'.sizeOf w⟩)
    have hf' := fillF_place (place' := fun i : Nat => pl[i]?) ps _ _ (fun i x hx => by
      obtain ⟨f, a1, a2⟩ := Option.bind_eq_some_iff.1 hx
      obtain ⟨tf, a3, a4⟩ := Option.map_eq_some_iff.1 a2
      obtain ⟨g, b1, b2, b3⟩ := field_at hlf (show fs[i]? = some (f.1, f.2) from a1)
      obtain ⟨n, c1, c2⟩ := m3 i g (by simpa using b1)
      obtain ⟨d', i', ty'⟩ := hE.ty a3
      have := c2 w
      rw [b3, ty'.sizeOf w] at this
      injection this with this
      rw [c1, ← a4, b2, this]) hf
    obtain ⟨us', g1, g2, g3, g4⟩ := fill_run (K := K) (ι := ι) (st := st) (fun i : Nat => pl[i]?) ps vs.toList ti.zero z.cells out hf' (by simpa using hl) (fun j p v a b => hp j p v a (by simpa using b)) (by omega) zo zr
    have : (Instr.build t vs).run E.P w = .ok (.agg us') w := by
      have m1' : (l.mapM fun f => (do pure (f.offset, ← sizeOf f.type) : Sem (Nat × Nat))).run E.P w = .ok pl.toArray w := by
        rw [Array.mapM_eq_mapM_toList]
        simp only [Sem.run_map, m1, Result.andThen_ok]
      simp only [Instr.build, Sem.run_bind, ty.zeroV hz, Result.andThen_ok, run_underlying hu, m1']
      have e : (fun x : Nat => pl.toArray[x]?) = (fun x : Nat => pl[x]?) := by funext x; simp
      rw [e, g1]
      rfl
    rw [this]
    exact Gives.pure h (.agg _ _ g2 g3 g4)
  · have hu := kind_array ty hk
    obtain ⟨d', i', tye⟩ := hE.ty hTe
    obtain ⟨us', g1, g2, g3, g4⟩ := fill_run (K := K) (ι := ι) (st := st) _ ps vs.toList ti.zero z.cells out hf (by simpa using hl) (fun j p v a b => hp j p v a (by simpa using b)) (by omega) zo zr
    have : (Instr.build t vs).run E.P w = .ok (.agg us') w := by
      simp only [Instr.build, Sem.run_bind, ty.zeroV hz, Result.andThen_ok, run_underlying hu, tye.sizeOf w]
      rw [g1]
      rfl
    rw [this]
    exact Gives.pure h (.agg _ _ g2 g3 g4)

end Go.Pv
end
section
namespace Go.Pv

theorem share_cell {K ι st p v} (h : VRel K ι st p v) (hc : cellOk (tokRo p) = true) : TRel K (tokRo p) v := by
  cases p with
  | sl k es t =>
    cases t with
    | own i => exact h.slTree
    | ro => cases h with | tree _ _ h => exact h
    | full => cases h with | tree _ _ h => exact h
  | fn f caps =>
    cases caps with
    | cons c cs => simp [tokRo, cellOk] at hc
    | nil =>
      cases h with
      | tree _ _ h => exact h
      | fn _ _ vs hl h =>
        have : vs = #[] := Array.eq_empty_of_size_eq_zero (by simpa using hl.symm)
        subst this
        exact .fn f
  | int => cases h with | tree _ _ h => exact h
  | bool => cases h with | tree _ _ h => exact h
  | str => cases h with | tree _ _ h => exact h
  | nilp => cases h with | tree _ _ h => exact h
  | nilmap => cases h with | tree _ _ h => exact h
  | nilfn => cases h with | tree _ _ h => exact h
  | nilif => cases h with | tree _ _ h => exact h
  | _ => simp [tokRo, cellOk] at hc

/-- Rows of one size, filled in one after the other. -/
theorem fill_rows (k : Nat) : ∀ (vs : List Value) (s : Nat) (us : Array Value), (∀ v ∈ vs, v.cells.size = k) → (s + vs.length) * k ≤ us.size →
    ∃ us', Instr.fill (fun i => some (i * k, k)) us ((vs.zipIdx s).map fun q => (q.2, q.1)) = some us' ∧ us'.size = us.size ∧
      (∀ (j i : Nat) (v : Value), vs[j]? = some v → i < k → us'[(s + j) * k + i]? = v.cells[i]?) ∧ ∀ q, q < s * k → us'[q]? = us[q]?
  | [], s, us, _, _ => ⟨us, rfl, rfl, by simp, fun _ _ => rfl⟩
  | v :: vs, s, us, hk, hl => by
    have hv := hk v (by simp)
    have hsk : (s + 1) * k ≤ us.size := Nat.le_trans (Nat.mul_le_mul_right k (by simp)) hl
    have hsk' : s * k + k ≤ us.size := by rw [Nat.add_mul, Nat.one_mul] at hsk; exact hsk
    obtain ⟨f1, f2⟩ := fold_set v.cells.toList (s * k) 0 us (by simp; omega)
    have e1 : (v.cells.zipIdx.foldl (fun cs (c, j) => cs.setIfInBounds (s * k + j) c) us) = ((v.cells.toList.zipIdx 0).foldl (fun cs (c, j) => cs.setIfInBounds (s * k + j) c) us) := by
      rw [← Array.foldl_toList, Array.toList_zipIdx]
    obtain ⟨us', g1, g2, g3, g4⟩ := fill_rows k vs (s + 1) ((v.cells.toList.zipIdx 0).foldl (fun cs (c, j) => cs.setIfInBounds (s * k + j) c) us) (fun u hu => hk u (by simp [hu])) (by rw [f1]; simp only [List.length_cons] at hl; rw [show s + 1 + vs.length = s + (vs.length + 1) by omega]; exact hl)
    refine ⟨us', ?_, by rw [g2, f1], fun j i u hj hi => ?_, fun q hq => ?_⟩
    · simp only [List.zipIdx_cons, List.map_cons, Instr.fill]
      rw [if_neg (by simp; omega), e1]
      exact g1
    · match j, hj with
      | 0, hj =>
        simp at hj
        subst hj
        rw [Nat.add_zero, g4 _ (by rw [Nat.add_mul]; omega), f2]
        rw [if_pos (by simp; omega)]
        simp
      | j + 1, hj =>
        simp at hj
        rw [show s + (j + 1) = s + 1 + j by omega]
        exact g3 j i u hj hi
    · rw [g4 q (by rw [Nat.add_mul]; omega), f2, if_neg (by simp; omega)]

theorem flat_get {α : Type} (k : Nat) : ∀ (rows : List (List α)), (∀ r ∈ rows, r.length = k) → rows.flatten.length = rows.length * k ∧ ∀ (j i : Nat) (r : List α), rows[j]? = some r → i < k → rows.flatten[j * k + i]? = r[i]?
  | [], _ => ⟨by simp, by simp⟩
  | r :: rows, h => by
    have hr := h r (by simp)
    obtain ⟨h1, h2⟩ := flat_get k rows (fun x hx => h x (by simp [hx]))
    refine ⟨by simp [h1, hr, Nat.add_mul]; omega, fun j i x hj hi => ?_⟩
    rw [List.flatten_cons]
    match j, hj with
    | 0, hj => simp at hj; subst hj; rw [List.getElem?_append_left (by omega)]; simp
    | j + 1, hj =>
      simp at hj
      rw [List.getElem?_append_right (by rw [Nat.add_mul]; omega), ← h2 j i x hj hi]
      congr 1
      rw [Nat.add_mul]; omega

theorem gives_buildSlice {E : Env} (hE : EnvOk E) {K ι st w} (h : Rel E.G K ι st w) {t e : TypeId} {ti te : TI} (hT : E.T t = some ti) (hk : ti.kind = .slice e) (hTe : E.T e = some te) (hpos : 0 < te.size) (hsz : te.size ≤ 256)
    (ps : List PV) (vs : List Value) (hl : ps.length = vs.length) (hlen : ps.length ≤ 4096) (hp : ∀ (j : Nat) (p : PV) (v : Value), ps[j]? = some p → vs[j]? = some v → VRel K ι st p v)
    (hs : ∀ p ∈ ps, (scal p || isAgg p) = true ∧ (cellsOf p).length = te.size) (hc : ∀ p ∈ ps, ((cellsOf p).map tokRo).all cellOk = true) :
    Gives E.G K ι st w ((Instr.buildSlice t vs.length ((vs.zipIdx 0).map fun q => (q.2, q.1)).toArray).run E.P w) (.sl te.size (ps.map fun p => (cellsOf p).map tokRo) .full) st := by
  obtain ⟨d, i, ty⟩ := hE.ty hT
  obtain ⟨d', i', tye⟩ := hE.ty hTe
  have hu := kind_slice ty hk
  -- each value's cells
  have cv : ∀ (j : Nat) (p : PV) (v : Value), ps[j]? = some p → vs[j]? = some v → (cellsOf p).length = v.cells.size ∧ (∀ u ∈ v.cells.toList, u.oneCell' = true) ∧
      ∀ (i : Nat) (q : PV) (u : Value), (cellsOf p)[i]? = some q → v.cells.toList[i]? = some u → TRel K (tokRo q) u := by
    intro j p v a b
    have hm := List.mem_of_getElem? a
    obtain ⟨l1, o1, r1⟩ := (hp j p v a b).cellsV (isAgg_spec (hs p hm).1)
    refine ⟨l1, o1, fun i q u hq hu => share_cell (r1 i q u hq hu) ?_⟩
    have := hc p hm
    rw [List.all_eq_true] at this
    exact this _ (List.mem_map.2 ⟨q, List.mem_of_getElem? hq, rfl⟩)
  have cs : ∀ v ∈ vs, v.cells.size = te.size := by
    intro v hv
    obtain ⟨j, hj⟩ := List.mem_iff_getElem?.1 hv
    have hjl : j < ps.length := by rw [hl]; exact (List.getElem?_eq_some_iff.1 hj).1
    have a := List.getElem?_eq_getElem hjl
    rw [← (cv j _ v a hj).1]
    exact (hs _ (List.getElem_mem hjl)).2
  have hle : vs.length * te.size ≤ 16777216 := by
    have h1 : vs.length * te.size ≤ 4096 * te.size := Nat.mul_le_mul_right _ (by omega)
    omega
  -- the zero row
  obtain ⟨zr, hzs, hzr⟩ : ∃ zr : Array Value, zr.size = vs.length * te.size ∧ ∀ us', Instr.fill (fun i => some (i * te.size, te.size)) zr ((vs.zipIdx 0).map fun q => (q.2, q.1)) = some us' →
      (Instr.buildSlice t vs.length ((vs.zipIdx 0).map fun q => (q.2, q.1)).toArray).run E.P w = .ok (.slice (some ⟨w.heap.size, 0, none⟩) vs.length vs.length) (w.alloc (.cells us' e)) := by
    have hbig : ¬ (vs.length * te.size > 2 ^ 24) := by omega
    by_cases h0 : vs.length * te.size = 0
    · refine ⟨(Array.range (vs.length * te.size)).map ((#[] : Array Value)[· % (#[] : Array Value).size]!), by simp, fun us' hf => ?_⟩
      simp only [Instr.buildSlice, Sem.run_bind, run_underlying hu, Result.andThen_ok, tye.sizeOf w, if_neg hbig, if_pos h0, Sem.run_pure, hf]
      simp [newRow]
    · obtain ⟨z, hz, _⟩ := tye.hz
      refine ⟨(Array.range (vs.length * te.size)).map (z.cells[· % z.cells.size]!), by simp, fun us' hf => ?_⟩
      simp only [Instr.buildSlice, Sem.run_bind, run_underlying hu, Result.andThen_ok, tye.sizeOf w, if_neg hbig, if_neg h0, Sem.run_pure, tye.zeroV hz, hf]
      simp [newRow]
  obtain ⟨us', g1, g2, g3, _⟩ := fill_rows te.size vs 0 zr cs (by rw [hzs, Nat.zero_add]; exact Nat.le_refl _)
  have hsz' : us'.size = vs.length * te.size := by rw [g2, hzs]
  rw [hzr us' g1]
  have stp := Stp.newKnow h us' e us'.toList (fun j _ => by simp)
  have hm : vs.length ≤ maxLen := by
    have : maxLen = 9223372036854775807 := rfl
    omega
  have at_ : ∀ (j i : Nat) (r : List PV) (q : PV), (ps.map fun p => (cellsOf p).map tokRo)[j]? = some r → r[i]? = some q → ∀ v, us'.toList[j * te.size + i]? = some v → TRel (addK K w.heap.size us'.toList) q v ∧ v.oneCell' = true := by
    intro j i r q hr hq v hv
    rw [List.getElem?_map] at hr
    obtain ⟨p, hpj, rfl⟩ := Option.map_eq_some_iff.1 hr
    rw [List.getElem?_map] at hq
    obtain ⟨q0, hq0, rfl⟩ := Option.map_eq_some_iff.1 hq
    have hjl : j < vs.length := by rw [← hl]; exact (List.getElem?_eq_some_iff.1 hpj).1
    have hvj := List.getElem?_eq_getElem hjl
    obtain ⟨l1, o1, r1⟩ := cv j p _ hpj hvj
    have hil : i < te.size := by
      have := (List.getElem?_eq_some_iff.1 hq0).1
      have h2 := (hs p (List.mem_of_getElem? hpj)).2
      omega
    have := g3 j i _ hvj hil
    rw [Nat.zero_add] at this
    have e2 : us'[j * te.size + i]? = some v := by simpa using hv
    rw [this] at e2
    have e3 : (vs[j].cells.toList)[i]? = some v := by simpa using e2
    exact ⟨(r1 i q0 v hq0 e3).mono stp.ext.know, o1 v (List.mem_of_getElem? e3)⟩
  have hrows : ∀ (j : Nat) (r : List PV), (ps.map fun p => (cellsOf p).map tokRo)[j]? = some r → r.length = te.size := by
    intro j r hr
    rw [List.getElem?_map] at hr
    obtain ⟨p, hpj, rfl⟩ := Option.map_eq_some_iff.1 hr
    rw [List.length_map]
    exact (hs p (List.mem_of_getElem? hpj)).2
  have hlen' : (ps.map fun p => (cellsOf p).map tokRo).length = vs.length := by rw [List.length_map, hl]
  refine ⟨_, _, _, _, rfl, stp, .tree _ _ ?_⟩
  have key := TRel.slOf (K := addK K w.heap.size us'.toList) te.size (ps.map fun p => (cellsOf p).map tokRo) w.heap.size vs.length us'.toList (by rw [hlen']; simpa using hsz') (fun q hq => by rw [addK_at _ _ _ _ hq]) hrows
    (fun j i r q v hr hq hv => (at_ j i r q hr hq v hv).1) (fun v hv => by
      obtain ⟨q, hq⟩ := List.mem_iff_getElem?.1 hv
      have hql : q < vs.length * te.size := by
        have := (List.getElem?_eq_some_iff.1 hq).1
        simpa [hsz'] using this
      obtain ⟨e1, e2, e3⟩ := split_row hql
      have hj : q / te.size < (ps.map fun p => (cellsOf p).map tokRo).length := by rw [hlen']; exact e2
      have a := List.getElem?_eq_getElem hj
      have hi : q % te.size < ((ps.map fun p => (cellsOf p).map tokRo)[q / te.size]).length := by rw [hrows _ _ a]; exact e3
      exact (at_ _ _ _ _ a (List.getElem?_eq_getElem hi) v (by rw [← e1]; exact hq)).2) (by omega) hm .full (.inr ⟨rfl, hlen'.symm⟩)
  rw [hlen'] at key
  exact key

/-! ### append -/
/-- What is appended. -/
theorem src_of {E : Env} (hE : EnvOk E) {K ι st w} (h : Rel E.G K ι st w) {tx : TypeId} {te : TI} {x : PV} {b : Value} (hb : VRel K ι st x b) (es2 : List (List PV)) (k2 : Nat)
    (ho : (∃ tox ttx e', E.T tx = some ttx ∧ ttx.kind = .slice e' ∧ x = .sl k2 es2 tox) ∨ ∃ ttx s, E.T tx = some ttx ∧ ttx.kind = .str ∧ x = .str s ∧ es2 = s.map (fun c => [.int .u8 c.toNat]) ∧ k2 = 1) (hk : k2 = te.size ∨ es2 = []) :
    ∃ news, Src E.P te.size tx b es2.length news w ∧ (∀ (j : Nat) (e : List PV), es2[j]? = some e → e.length = k2) ∧
      ∀ (j i : Nat) (e : List PV) (p : PV) (v : Value), es2[j]? = some e → e[i]? = some p → news[j * te.size + i]? = some v → TRel K p v := by
  rcases ho with ⟨tox, ttx, e', hT, hkk, rfl⟩ | ⟨ttx, s, hT, hkk, rfl, rfl, rfl⟩
  · obtain ⟨d, i, ty⟩ := hE.ty hT
    have hu := kind_slice ty hkk
    obtain ⟨A, c, bb, off, f, rfl, hkl, hA, hK, hv, h1, _⟩ := hb.slTree.slCells
    by_cases hne : es2 = []
    · subst hne
      refine ⟨[], ?_, hkl, by simp⟩
      cases A with
      | none => exact ⟨.inl ⟨e', hu⟩, fun _ => rfl, run_firstCells_none w te.size 0 0 c, run_firstCells_none w.drew te.size 0 0 c, by simp, by simp⟩
      | some ad => exact Src.ofSlice w hu ad 0 c [] (by simp) (by simp) (by simp)
    · have hk' : k2 = te.size := hk.resolve_right hne
      subst hk'
      rw [hA hne]
      refine ⟨flatF f es2.length te.size, Src.ofSlice w hu _ _ c _ (flatF_length _ _ _) (fun j u hj => ?_) (fun u hu' => ?_), hkl, fun j i e p v hj hi hv' => ?_⟩
      · have hlt : j < es2.length * te.size := by rw [← flatF_length f]; exact (List.getElem?_eq_some_iff.1 hj).1
        rw [flatF_get _ _ _ _ hlt] at hj
        injection hj with hj
        rw [Addr.add_mid, ← hj]
        exact h.know _ _ (hK j hlt)
      · obtain ⟨j, i, rfl⟩ := flatF_mem hu'
        exact h1 j i
      · have hjl : j < es2.length := (List.getElem?_eq_some_iff.1 hj).1
        have hil : i < te.size := by rw [← hkl j e hj]; exact (List.getElem?_eq_some_iff.1 hi).1
        rw [flatF_at f hjl hil] at hv'
        injection hv' with hv'
        rw [← hv']
        exact hv j i e p hj hi
  · obtain ⟨d, i, ty⟩ := hE.ty hT
    have hu := kind_str ty hkk
    rw [hb.strV]
    have hlen : (s.map fun c => [PV.int .u8 c.toNat]).length = (bytesV s).size := by simp [bytesV, ByteArray.size]
    by_cases hne : s = []
    · subst hne
      refine ⟨[], ⟨.inr hu, fun _ => rfl, ?_, ?_, by simp, by simp⟩, by simp, by simp⟩
      · simp [Builtin.firstCells, bytesV]
      · simp [Builtin.firstCells, bytesV]
    · have hk' : 1 = te.size := hk.resolve_right (by simpa using hne)
      rw [← hk', hlen]
      refine ⟨byteCells (bytesV s), Src.ofString w hu _, fun j e hj => ?_, fun j i e p v hj hi hv => ?_⟩
      · simp at hj
        obtain ⟨c, _, rfl⟩ := hj
        rfl
      · rw [List.getElem?_map] at hj
        obtain ⟨c, hc, rfl⟩ := Option.map_eq_some_iff.1 hj
        have hi0 : i = 0 := by
          have := (List.getElem?_eq_some_iff.1 hi).1
          simp at this; omega
        subst hi0
        simp at hi
        subst hi
        simp only [Nat.mul_one, Nat.add_zero, byteCells, bytesV, List.getElem?_map, hc] at hv
        simp at hv
        rw [← hv]
        exact .int _ _

end Go.Pv
end
section
namespace Go.Pv

theorem firstCells_nil {P : Program} (size : Nat) (A : Option Addr) (c : Nat) (w : World) : (Builtin.firstCells size 0 (.slice A 0 c)).run P w = .ok #[] w := by
  cases A with
  | none => exact run_firstCells_none w size 0 0 c
  | some ad => exact run_firstCells_some w size 0 ad 0 c [] (by simp) (by simp)

theorem append_nothing {P : Program} {t tx e ty : TypeId} {te : TI} {dd i} (hu : P.underlying t = some (.slice e)) (tye : TyFacts P e te dd i) {A : Option Addr} {n c : Nat} {b : Value} {w : World} (hs : Src P te.size tx b 0 [] w) (hc : n ≤ c) :
    (Builtin.append_ #[t, tx] ty #[.slice A n c, b]).run P w = .ok (.slice A n c) w := by
  have hcells := hs.cells
  have e0 : (#[] : Array Value) = ([] : List Value).toArray := rfl
  rcases hs.kind with ⟨e', hk⟩ | hk <;> cases A <;>
    simp [Builtin.append_, run_underlying hu, run_underlying hk, tye.sizeOf, hs.len, hc, hcells, storeCells]

theorem row_new {K : Know} {k : Nat} {es es2 : List (List PV)} {b : Nat} {c : Nat} (olds news : List Value) (h1 : olds.length = es.length * k) (h2 : news.length = es2.length * k)
    (hk1 : ∀ (j : Nat) (e : List PV), es[j]? = some e → e.length = k) (hk2 : ∀ (j : Nat) (e : List PV), es2[j]? = some e → e.length = k)
    (hv1 : ∀ (j i : Nat) (e : List PV) (p : PV) (v : Value), es[j]? = some e → e[i]? = some p → olds[j * k + i]? = some v → TRel K p v)
    (hv2 : ∀ (j i : Nat) (e : List PV) (p : PV) (v : Value), es2[j]? = some e → e[i]? = some p → news[j * k + i]? = some v → TRel K p v)
    (ho : ∀ v ∈ olds, v.oneCell' = true) (hn : ∀ v ∈ news, v.oneCell' = true) (hK : ∀ q, q < (olds ++ news).length → K ⟨b, q, none⟩ = (olds ++ news)[q]?) (hc : es.length + es2.length ≤ c) (hm : c ≤ maxLen) :
    TRel K (.sl k (es ++ es2) .ro) (.slice (some ⟨b, 0, none⟩) (es.length + es2.length) c) := by
  have hl : (es ++ es2).length = es.length + es2.length := List.length_append
  rw [← hl]
  refine TRel.slOf k (es ++ es2) b c (olds ++ news) (by rw [List.length_append, h1, h2, hl, Nat.add_mul]) hK (fun j e he => ?_) (fun j i e p v he hp hv => ?_) (fun v hv => ?_) (by omega) hm .ro (.inl rfl)
  · by_cases hj : j < es.length
    · rw [List.getElem?_append_left hj] at he; exact hk1 j e he
    · rw [List.getElem?_append_right (by omega)] at he; exact hk2 _ e he
  · by_cases hj : j < es.length
    · rw [List.getElem?_append_left hj] at he
      have hi : i < k := by rw [← hk1 j e he]; exact (List.getElem?_eq_some_iff.1 hp).1
      rw [List.getElem?_append_left (by rw [h1]; exact row_lt hj hi)] at hv
      exact hv1 j i e p v he hp hv
    · rw [List.getElem?_append_right (by omega)] at he
      have hle : es.length * k ≤ j * k := Nat.mul_le_mul_right k (by omega)
      rw [List.getElem?_append_right (by rw [h1]; omega)] at hv
      refine hv2 (j - es.length) i e p v he hp ?_
      rw [← hv, h1]
      congr 1
      rw [Nat.sub_mul]; omega
  · rcases List.mem_append.1 hv with q | q
    · exact ho v q
    · exact hn v q

theorem maxLen_eq : maxLen = 9223372036854775807 := rfl

theorem gives_append {E : Env} (hE : EnvOk E) {K ι st w} (h : Rel E.G K ι st w) {t tx e ty : TypeId} {ti : TI} (hT : E.T t = some ti) (hk : ti.kind = .slice e) {s x q : PV} {a b : Value} {st' : Store} (ha : VRel K ι st s a) (hb : VRel K ι st x b)
    (es2 : List (List PV)) (k2 : Nat)
    (hx : (∃ tox ttx e', E.T tx = some ttx ∧ ttx.kind = .slice e' ∧ x = .sl k2 es2 tox) ∨ ∃ ttx s, E.T tx = some ttx ∧ ttx.kind = .str ∧ x = .str s ∧ es2 = s.map (fun c => [.int .u8 c.toNat]) ∧ k2 = 1)
    (ho : appendF E st e s es2 k2 = some (q, st')) : Gives E.G K ι st w ((Builtin.append_ #[t, tx] ty #[a, b]).run E.P w) q st' := by
  obtain ⟨d, i, tyt⟩ := hE.ty hT
  have hu := kind_slice tyt hk
  unfold appendF at ho
  split at ho
  · cases ho
  · rename_i te hTe
    obtain ⟨d', ie, tye⟩ := hE.ty hTe
    split at ho
    · rename_i k es tok
      split at ho
      · rename_i hcond
        obtain ⟨hlim, hpos, hk1, hk2⟩ := hcond
        unfold LIM at hlim
        obtain ⟨news, src, hl2, hv2⟩ := src_of hE h hb es2 k2 hx hk2
        have htr := ha.slTree
        obtain ⟨A, c, bb, off, f, rfl, hkl, hA, hK, hv, h1, hcc, hmm, hn, _⟩ := htr.slCells
        split at ho
        · rename_i he
          simp only [Option.some.injEq, Prod.mk.injEq] at ho
          obtain ⟨rfl, rfl⟩ := ho
          subst he
          have hnews : news = [] := List.eq_nil_of_length_eq_zero (by rw [src.newsLen]; simp)
          subst hnews
          rw [append_nothing (ty := ty) hu tye src hcc]
          exact Gives.pure h ha
        · rename_i hne
          have hm0 : 0 < es2.length := List.length_pos_iff.2 hne
          have hk2' : k2 = te.size := hk2.resolve_right hne
          have hz := tye.hz
          obtain ⟨z, hz, hzs, _⟩ := hz
          -- the cells that were there
          have old : ∃ olds : List Value, olds.length = es.length * te.size ∧ (Builtin.firstCells ie.size es.length (.slice A es.length c)).run E.P w.drew = .ok olds.toArray w.drew ∧ (∀ v ∈ olds, v.oneCell' = true) ∧
              (∀ (j i : Nat) (e : List PV) (p : PV) (v : Value), es[j]? = some e → e[i]? = some p → olds[j * te.size + i]? = some v → TRel K p v) ∧ (∀ (j : Nat) (e : List PV), es[j]? = some e → e.length = te.size) ∧
              ∀ q, q < olds.length → K ⟨bb, off + q, none⟩ = olds[q]? := by
            rcases hk1 with hk1 | hk1
            · subst hk1
              by_cases hes : es = []
              · subst hes
                exact ⟨[], by simp, firstCells_nil _ _ _ _, by simp, by simp, by simp, by simp⟩
              · rw [hA hes]
                refine ⟨flatF f es.length te.size, flatF_length _ _ _, ?_, fun v hv' => ?_, fun j i e p v he hp hv' => ?_, hkl, fun q hq => ?_⟩
                · refine run_firstCells_some w.drew _ _ _ _ _ _ (by rw [flatF_length, tye.hs]) (fun j v hj => ?_)
                  have hlt : j < es.length * te.size := by rw [← flatF_length f]; exact (List.getElem?_eq_some_iff.1 hj).1
                  rw [flatF_get _ _ _ _ hlt] at hj
                  injection hj with hj
                  rw [Addr.add_mid, World.cell?_drew, ← hj]
                  exact h.know _ _ (hK j hlt)
                · obtain ⟨j, i, rfl⟩ := flatF_mem hv'; exact h1 j i
                · have hjl : j < es.length := (List.getElem?_eq_some_iff.1 he).1
                  have hil : i < te.size := by rw [← hkl j e he]; exact (List.getElem?_eq_some_iff.1 hp).1
                  rw [flatF_at f hjl hil] at hv'
                  injection hv' with hv'
                  rw [← hv']
                  exact hv j i e p he hp
                · rw [flatF_length] at hq
                  rw [flatF_get _ _ _ _ hq]; exact hK q hq
            · subst hk1
              exact ⟨[], by simp, firstCells_nil _ _ _ _, by simp, by simp, by simp, by simp⟩
          obtain ⟨olds, o1, o2, o3, o4, o5, o6⟩ := old
          have nl : news.length = es2.length * te.size := src.newsLen
          have hl2' : ∀ (j : Nat) (e : List PV), es2[j]? = some e → e.length = te.size := fun j e he => hk2' ▸ hl2 j e he
          -- growth
          have grow : c < es.length + es2.length → (Builtin.append_ #[t, tx] ty #[.slice A es.length c, b]).run E.P w =
              .ok (.slice (some ⟨w.heap.size, 0, none⟩) (es.length + es2.length) (grownCap w (es.length + es2.length) c e))
                (w.drew.alloc (.cells ((olds ++ news).toArray ++ Builtin.zeroCells z.cells (grownCap w (es.length + es2.length) c e - (es.length + es2.length))) e)) := by
            intro hg
            refine run_append_grow_src w t tx ty e ie z hu tye.hi hz A es.length c olds o2 b es2.length news (by rw [tye.hs]; exact src) hg (by omega) ?_
            have hb := tye.hb
            have h2 := Go.Room.nextslicecap_le' hg
            calc Builtin.nextslicecap (es.length + es2.length) c * ie.bytes ≤ (2 * (es.length + es2.length)) * 4096 := Nat.mul_le_mul h2 hb
              _ ≤ 281474976710656 := by omega
          have cap1 := grownCap_ge w (es.length + es2.length) c e
          have cap2 := grownCap_le_maxLen w (es.length + es2.length) c e (by rw [maxLen_eq]; omega)
          have xl : (olds ++ news).length = (es.length + es2.length) * te.size := by rw [List.length_append, o1, nl, Nat.add_mul]
          have arrsz : ((olds ++ news).toArray ++ Builtin.zeroCells z.cells (grownCap w (es.length + es2.length) c e - (es.length + es2.length))).size = grownCap w (es.length + es2.length) c e * te.size := by
            rw [Array.size_append, size_zeroCells, hzs, List.size_toArray, xl, ← Nat.add_mul]
            congr 1; omega
          have arrget : ∀ j, j < (olds ++ news).length → ((olds ++ news).toArray ++ Builtin.zeroCells z.cells (grownCap w (es.length + es2.length) c e - (es.length + es2.length)))[j]? = (olds ++ news)[j]? := by
            intro j hj
            rw [Array.getElem?_append_left (by simpa using hj), List.getElem?_toArray]
          cases tok with
          | ro => cases ho
          | full =>
            simp only [Option.some.injEq, Prod.mk.injEq] at ho
            obtain ⟨rfl, rfl⟩ := ho
            have hcl : c = es.length := by
              cases ha with
              | tree _ _ q => cases q with | sl _ _ _ _ _ _ _ _ _ _ _ _ _ _ _ _ ht => simpa using ht
            have hg : c < es.length + es2.length := by omega
            rw [grow hg]
            have stp := (Stp.drew h).trans (Stp.tokNew h.drew _ e (es.length + es2.length) _ te.size (olds ++ news) arrsz cap1 cap2 hpos xl arrget)
            rw [World.size_drew] at stp
            refine ⟨_, _, _, _, rfl, stp, ?_⟩
            have hx := stp.ext.know
            have := VRel.own (K := addK K w.heap.size (olds ++ news)) (ι := ins ι st.length (.slice (some ⟨w.heap.size, 0, none⟩) (es.length + es2.length) (grownCap w (es.length + es2.length) c e))) (st := st ++ [.tok (es.length + es2.length) e te.size])
              te.size (es ++ es2) st.length (some ⟨w.heap.size, 0, none⟩) (grownCap w (es.length + es2.length) c e) (es.length + es2.length) e
              (by rw [List.length_append]; exact row_new olds news o1 nl o5 hl2' (fun j i e p v a b c => (o4 j i e p v a b c).mono hx) (fun j i e p v a b c => (hv2 j i e p v a b c).mono hx) o3 src.one (fun q hq => by rw [addK_at _ _ _ _ hq]) cap1 cap2)
              (by simp) (by simp) (fun _ => by rw [ins_same, List.length_append])
            rw [List.length_append] at this
            exact this
          | own id =>
            simp only at ho
            split at ho
            · rename_i n e' k' hst
              split at ho
              · rename_i hq
                obtain ⟨rfl, he', rfl, rfl⟩ := hq
                replace he' := he'.symm
                subst he'
                simp only [Option.some.injEq, Prod.mk.injEq] at ho
                obtain ⟨rfl, rfl⟩ := ho
                have hh : ι id = .slice A es.length c := by
                  cases ha with
                  | tree _ _ q => cases q with | sl _ _ _ _ _ _ _ _ _ _ _ _ _ _ _ _ ht => simp at ht
                  | own _ _ _ _ _ m e'' _ hst' hle heq =>
                    rw [hst] at hst'
                    injection hst' with hst'
                    injection hst' with q1 _ _
                    exact heq q1
                obtain ⟨b', cap, arr, hh', hw, a1, a2, a3, a4, a5⟩ := h.obj id _ hst
                rw [hh] at hh'
                injection hh' with q1 _ q3
                subst q1 q3
                -- the block's head is what is known
                have hhead : arr.toList.take (es.length * te.size) = olds := by
                  apply List.ext_getElem?
                  intro j
                  by_cases hj : j < es.length * te.size
                  · rw [take_getElem? _ hj]
                    have hne' : es ≠ [] := fun q => by rw [q] at hj; simp at hj
                    have hAA := hA hne'
                    injection hAA with hAA
                    injection hAA with q1 q2 _
                    have := h.know _ _ ((o6 j (by rw [o1]; exact hj)).trans (List.getElem?_eq_getElem (by rw [o1]; exact hj)))
                    rw [← q1, ← q2, Nat.zero_add] at this
                    simp [World.cell?, hw] at this
                    rw [List.getElem?_eq_getElem (l := olds) (by rw [o1]; exact hj)]
                    simpa using this
                  · rw [List.getElem?_eq_none (by rw [List.length_take]; omega), List.getElem?_eq_none (by rw [o1]; omega)]
                by_cases hroom : es.length + es2.length ≤ c
                · have run := run_append_room_src w t tx ty e ie hu tye.hi b' 0 es.length c b es2.length news (by rw [tye.hs]; exact src) hroom (fun j hj => by
                      rw [tye.hs, Nat.zero_add]
                      have hlt : es.length * te.size + j < arr.size := by
                        rw [a1]
                        have := Nat.mul_le_mul_right te.size hroom
                        rw [Nat.add_mul] at this
                        omega
                      simp [World.cell?, hw, hlt]) (fun j hj => frozen_of_row w b' _ arr e hw)
                  rw [run, tye.hs, Nat.zero_add]
                  have hfit : es.length * te.size + news.length ≤ arr.size := by
                    rw [a1, nl, ← Nat.add_mul]; exact Nat.mul_le_mul_right _ hroom
                  have hsr : w.setCells b' (es.length * te.size) news = w.setRow b' (arr.toList.take (es.length * te.size) ++ news ++ arr.toList.drop (es.length * te.size + news.length)).toArray := by
                    have e1 := run_storeCells_at E.P b' (es.length * te.size) e news 0 arr w hw (by simpa using hfit) src.one
                    have e2 := run_storeCells_cells (P := E.P) b' (es.length * te.size) news 0 w (fun j hj => by
                      have hlt : es.length * te.size + j < arr.size := by omega
                      simp [World.cell?, hw, hlt]) (fun j hj => frozen_of_row w b' _ arr e hw) src.one
                    simp only [Nat.add_zero] at e1 e2
                    rw [e1] at e2
                    injection e2 with _ e2
                    exact e2.symm
                  rw [hsr]
                  have stp := Stp.tokRoom h id es.length te.size e hst b' c arr hh hw es2.length news nl hroom
                  rw [hhead] at stp
                  rw [hhead]
                  refine ⟨_, _, _, _, rfl, stp, ?_⟩
                  have hx := stp.ext.know
                  have := VRel.own (K := addK K b' (olds ++ news)) (ι := ins ι id (.slice (some ⟨b', 0, none⟩) (es.length + es2.length) c)) (st := st.set id (.tok (es.length + es2.length) e te.size))
                    te.size (es ++ es2) id (some ⟨b', 0, none⟩) c (es.length + es2.length) e
                    (by rw [List.length_append]; exact row_new olds news o1 nl o5 hl2' (fun j i e p v a b c => (o4 j i e p v a b c).mono hx) (fun j i e p v a b c => (hv2 j i e p v a b c).mono hx) o3 src.one (fun q hq => by rw [addK_at _ _ _ _ hq]) hroom hmm)
                    (getElem?_set_eq' _ _ _ _ hst) (by simp) (fun _ => by rw [ins_same, List.length_append])
                  rw [List.length_append] at this
                  exact this
                · rw [grow (by omega)]
                  have stp := (Stp.drew h).trans (Stp.tokGrow h.drew id es.length te.size e hst es2.length hm0 _ _ (olds ++ news) arrsz cap1 cap2 xl arrget)
                  rw [World.size_drew] at stp
                  refine ⟨_, _, _, _, rfl, stp, ?_⟩
                  have hx := stp.ext.know
                  have := VRel.own (K := addK K w.heap.size (olds ++ news)) (ι := ins ι id (.slice (some ⟨w.heap.size, 0, none⟩) (es.length + es2.length) (grownCap w (es.length + es2.length) c e))) (st := st.set id (.tok (es.length + es2.length) e te.size))
                    te.size (es ++ es2) id (some ⟨w.heap.size, 0, none⟩) (grownCap w (es.length + es2.length) c e) (es.length + es2.length) e
                    (by rw [List.length_append]; exact row_new olds news o1 nl o5 hl2' (fun j i e p v a b c => (o4 j i e p v a b c).mono hx) (fun j i e p v a b c => (hv2 j i e p v a b c).mono hx) o3 src.one (fun q hq => by rw [addK_at _ _ _ _ hq]) cap1 cap2)
                    (getElem?_set_eq' _ _ _ _ hst) (by simp) (fun _ => by rw [ins_same, List.length_append])
                  rw [List.length_append] at this
                  exact this
              · cases ho
            · cases ho
      · cases ho
    · cases ho

end Go.Pv
end
section
namespace Go.Pv

/-- What an operation of the model has come to. -/
def Does (G : Nat → PV) (K : Know) (ι : Nat → Value) (st : Store) (w : World) (r : Result Next) (v : PV) (st' : Store) : Prop :=
  ∃ (K' : Know) (ι' : Nat → Value) (w' : World) (nx : Next) (rv : Value), r = .ok nx w' ∧ (nx = Next.value rv ∨ (nx = Next.skip ∧ rv = undef)) ∧ Stp G K ι st w K' ι' st' w' ∧ VRel K' ι' st' v rv

theorem Gives.does {G : Nat → PV} {P : Program} {K ι st w} {s : Sem Value} {v : PV} {st' : Store} (h : Gives G K ι st w (s.run P w) v st') : Does G K ι st w ((do Pure.pure (Next.value (← s)) : Sem Next).run P w) v st' := by
  obtain ⟨K', ι', w', rv, e, stp, hv⟩ := h
  exact ⟨K', ι', w', .value rv, rv, by rw [Sem.run_bind, e]; rfl, .inl rfl, stp, hv⟩
theorem does_unit {G : Nat → PV} {P : Program} {K ι st w} {s : Sem Unit} {st' : Store} {K' ι' w'} (e : s.run P w = .ok () w') (stp : Stp G K ι st w K' ι' st' w') : Does G K ι st w ((do s; pure Next.skip : Sem Next).run P w) (.tup []) st' :=
  ⟨K', ι', w', .skip, undef, by rw [Sem.run_bind, e]; rfl, .inr ⟨rfl, rfl⟩, stp, .tree _ _ (.tup [] #[] rfl (by simp))⟩
theorem does_pure {G : Nat → PV} {P : Program} {K ι st w} (h : Rel G K ι st w) {v : PV} {rv : Value} (hv : VRel K ι st v rv) : Does G K ι st w ((pure (Next.value rv) : Sem Next).run P w) v st :=
  ⟨K, ι, w, .value rv, rv, rfl, .inl rfl, .refl h, hv⟩

/-- Every operand lies within the frame. -/
def opIn (N : Nat) (op : Op) : Bool := op.operands.all (opdIn N)
theorem opIn_mem {N : Nat} {op : Op} (h : opIn N op = true) {x : Operand} (hx : x ∈ op.operands) : opdIn N x = true := Array.all_eq_true_iff_forall_mem.1 h x hx

theorem toV_gives {G : Nat → PV} {K ι st w} (h : Rel G K ι st w) {p : PV} (hf : flat0 p = true) : Gives G K ι st w (.ok (toV p) w) p st := Gives.pure h (.tree _ _ (toV_rel K hf))

theorem opt_rel {E : Env} {K ι st w fr} {a : Act} (h : Rel E.G K ι st w) (hf : FrRel K ι st fr a.tmps) (o : Option Operand) (ho : ∀ x, o = some x → opdIn a.tmps.size x = true) :
    (∀ p, o.map (evalO E fr) = some p → ∃ b, o.map a.eval = some b ∧ VRel K ι st p b) ∧ (o.map (evalO E fr) = none → o.map a.eval = none) := by
  cases o with
  | none => exact ⟨fun p q => (by cases q), fun _ => rfl⟩
  | some x => exact ⟨fun p q => ⟨_, rfl, by simp at q; subst q; exact evalO_rel h hf x (ho x rfl)⟩, fun q => by cases q⟩

theorem len_run {P : Program} {t : TypeId} {d : TypeDesc} {b : Value} {n : Nat} (hu : P.underlying t = some d) (hd : (∃ e, d = .slice e) ∧ (∃ A c, b = .slice A n c) ∨ d = .string ∧ (∃ s, b = .string s ∧ s.size = n)) (ty : TypeId) (w : World) :
    (Builtin.len_ #[t] ty #[b]).run P w = .ok (.int .i64 n) w := by
  rcases hd with ⟨⟨e, rfl⟩, ⟨A, c, rfl⟩⟩ | ⟨rfl, ⟨s, rfl, rfl⟩⟩ <;> simp [Builtin.len_, run_underlying hu, goInt]

theorem callB_sound {E : Env} (hE : EnvOk E) {K ι st w} (h : Rel E.G K ι st w) {b : Builtin} {ts : List TypeId} {xs : List PV} {vs : List Value} (hl : xs.length = vs.length) (hx : ∀ (j : Nat) (p : PV) (v : Value), xs[j]? = some p → vs[j]? = some v → VRel K ι st p v)
    {v : PV} {st' : Store} (ho : callB E st b ts xs = some (v, st')) (ty : TypeId) (cs : Array Bool) : Does E.G K ι st w ((builtin b ts.toArray ty cs vs.toArray).run E.P w) v st' := by
  unfold callB at ho
  split at ho
  · rename_i t x
    obtain ⟨b, rfl⟩ : ∃ b, vs = [b] := by
      match vs, hl with
      | [b], _ => exact ⟨b, rfl⟩
    have hb := hx 0 x b rfl rfl
    refine Gives.does (s := Builtin.len_ #[t] ty #[b]) ?_
    split at ho
    · cases ho
    · rename_i ti hT
      obtain ⟨d, i, tyf⟩ := hE.ty hT
      split at ho
      · rename_i e k es tok hk
        simp only [Option.some.injEq, Prod.mk.injEq] at ho
        obtain ⟨rfl, rfl⟩ := ho
        obtain ⟨A, c, _, _, _, rfl, _⟩ := hb.slTree.slCells
        rw [len_run (kind_slice tyf hk) (.inl ⟨⟨_, rfl⟩, ⟨_, _, rfl⟩⟩)]
        exact Gives.pure h (.tree _ _ (.int _ _))
      · rename_i e id tot off n k hk
        simp only [Option.some.injEq, Prod.mk.injEq] at ho
        obtain ⟨rfl, rfl⟩ := ho
        obtain ⟨A, c, rfl⟩ : ∃ A c, b = .slice A n c := by
          cases hb with
          | tree _ _ q => cases q
          | osl _ _ _ _ _ A c => exact ⟨A, c, rfl⟩
        rw [len_run (kind_slice tyf hk) (.inl ⟨⟨_, rfl⟩, ⟨_, _, rfl⟩⟩)]
        exact Gives.pure h (.tree _ _ (.int _ _))
      · rename_i s hk
        simp only [Option.some.injEq, Prod.mk.injEq] at ho
        obtain ⟨rfl, rfl⟩ := ho
        rw [hb.strV, len_run (n := s.length) (kind_str tyf hk) (.inr ⟨rfl, ⟨_, rfl, by simp [bytesV, ByteArray.size]⟩⟩)]
        exact Gives.pure h (.tree _ _ (.int _ _))
      · rename_i tk tv hk
        simp only [Option.some.injEq, Prod.mk.injEq] at ho
        obtain ⟨rfl, rfl⟩ := ho
        have : b = .map none := by cases hb with | tree _ _ q => cases q; rfl
        subst this
        have : (Builtin.len_ #[t] ty #[.map none]).run E.P w = .ok (.int .i64 0) w := by simp [Builtin.len_, run_underlying (kind_map tyf hk), goInt]
        rw [this]
        exact Gives.pure h (.tree _ _ (.int _ _))
      · rename_i tk tv id hk
        split at ho
        · rename_i es hst
          simp only [Option.some.injEq, Prod.mk.injEq] at ho
          obtain ⟨rfl, rfl⟩ := ho
          obtain ⟨bb, ents, clock, hh, hw, hl', hr, _⟩ := h.obj id _ hst
          cases hb with
          | tree _ _ q => cases q
          | map _ es' b' hst' hb =>
            rw [hb] at hh
            injection hh with hh
            injection hh with hh
            subst hh
            have : (Builtin.len_ #[t] ty #[.map (some b')]).run E.P w = .ok (.int .i64 es.length) w := by
              simp [Builtin.len_, run_underlying (kind_map tyf hk), goInt, getObj, Sem.run, hw, hl']
            rw [this]
            exact Gives.pure h (.tree _ _ (.int _ _))
        · cases ho
      · cases ho
  · rename_i k x k' y
    split at ho
    · rename_i hk
      subst hk
      simp only [Option.some.injEq, Prod.mk.injEq] at ho
      obtain ⟨rfl, rfl⟩ := ho
      obtain ⟨b, c, rfl⟩ : ∃ b c, vs = [b, c] := by
        match vs, hl with
        | [b, c], _ => exact ⟨b, c, rfl⟩
      rw [(hx 0 _ b rfl rfl).intV, (hx 1 _ c rfl rfl).intV]
      refine Gives.does (s := Builtin.max_ ts.toArray ty #[.int k x, .int k y]) ?_
      have : (Builtin.max_ ts.toArray ty #[.int k x, .int k y]).run E.P w = .ok (.int k (if y > x then y else x)) w := by simp [Builtin.max_, Builtin.max2]
      rw [this]
      exact Gives.pure h (.tree _ _ (.int _ _))
    · cases ho
  · rename_i k x k' y
    split at ho
    · rename_i hk
      subst hk
      simp only [Option.some.injEq, Prod.mk.injEq] at ho
      obtain ⟨rfl, rfl⟩ := ho
      obtain ⟨b, c, rfl⟩ : ∃ b c, vs = [b, c] := by
        match vs, hl with
        | [b, c], _ => exact ⟨b, c, rfl⟩
      rw [(hx 0 _ b rfl rfl).intV, (hx 1 _ c rfl rfl).intV]
      refine Gives.does (s := Builtin.min_ ts.toArray ty #[.int k x, .int k y]) ?_
      have : (Builtin.min_ ts.toArray ty #[.int k x, .int k y]).run E.P w = .ok (.int k (if y < x then y else x)) w := by simp [Builtin.min_, Builtin.min2]
      rw [this]
      exact Gives.pure h (.tree _ _ (.int _ _))
    · cases ho
  · rename_i k x k' y k'' z
    split at ho
    · rename_i hk
      obtain ⟨rfl, rfl⟩ := hk
      simp only [Option.some.injEq, Prod.mk.injEq] at ho
      obtain ⟨rfl, rfl⟩ := ho
      obtain ⟨b, c, d, rfl⟩ : ∃ b c d, vs = [b, c, d] := by
        match vs, hl with
        | [b, c, d], _ => exact ⟨b, c, d, rfl⟩
      rw [(hx 0 _ b rfl rfl).intV, (hx 1 _ c rfl rfl).intV, (hx 2 _ d rfl rfl).intV]
      refine Gives.does (s := Builtin.max_ ts.toArray ty #[.int k x, .int k y, .int k z]) ?_
      have : (Builtin.max_ ts.toArray ty #[.int k x, .int k y, .int k z]).run E.P w = .ok (.int k (if z > (if y > x then y else x) then z else (if y > x then y else x))) w := by simp [Builtin.max_, Builtin.max2]
      rw [this]
      exact Gives.pure h (.tree _ _ (.int _ _))
    · cases ho
  · rename_i k x k' y k'' z
    split at ho
    · rename_i hk
      obtain ⟨rfl, rfl⟩ := hk
      simp only [Option.some.injEq, Prod.mk.injEq] at ho
      obtain ⟨rfl, rfl⟩ := ho
      obtain ⟨b, c, d, rfl⟩ : ∃ b c d, vs = [b, c, d] := by
        match vs, hl with
        | [b, c, d], _ => exact ⟨b, c, d, rfl⟩
      rw [(hx 0 _ b rfl rfl).intV, (hx 1 _ c rfl rfl).intV, (hx 2 _ d rfl rfl).intV]
      refine Gives.does (s := Builtin.min_ ts.toArray ty #[.int k x, .int k y, .int k z]) ?_
      have : (Builtin.min_ ts.toArray ty #[.int k x, .int k y, .int k z]).run E.P w = .ok (.int k (if z < (if y < x then y else x) then z else (if y < x then y else x))) w := by simp [Builtin.min_, Builtin.min2]
      rw [this]
      exact Gives.pure h (.tree _ _ (.int _ _))
    · cases ho
  · rename_i t tx s x
    obtain ⟨a, b, rfl⟩ : ∃ a b, vs = [a, b] := by
      match vs, hl with
      | [a, b], _ => exact ⟨a, b, rfl⟩
    refine Gives.does (s := Builtin.append_ #[t, tx] ty #[a, b]) ?_
    split at ho
    · rename_i e sz z hT
      split at ho
      · rename_i e' sz' z' k2 es2 tok2 hTx
        exact gives_append hE h hT rfl (hx 0 _ a rfl rfl) (hx 1 _ b rfl rfl) es2 k2 (.inl ⟨_, _, _, hTx, rfl, rfl⟩) ho
      · rename_i sz' z' bs hTx
        exact gives_append hE h hT rfl (hx 0 _ a rfl rfl) (hx 1 _ b rfl rfl) _ 1 (.inr ⟨_, _, hTx, rfl, rfl, rfl, rfl⟩) ho
      · cases ho
    · cases ho
  · cases ho

end Go.Pv
end
section
namespace Go.Pv

theorem VRel.itV {K ι st id} {v : Value} (h : VRel K ι st (.it id) v) : ∃ b m n seen, st[id]? = some (.iter m n seen) ∧ ι id = .pointer (some ⟨b, 0, none⟩) ∧ v = .pointer (some ⟨b, 0, none⟩) := by
  cases h with
  | tree _ _ q => cases q
  | it _ b m n seen hst hb => exact ⟨b, m, n, seen, hst, hb, rfl⟩

theorem gives_range_nil {E : Env} (hE : EnvOk E) {K ι st w} (h : Rel E.G K ι st w) {t tk tv : TypeId} {ti : TI} (hT : E.T t = some ti) (hk : ti.kind = .map tk tv) {a : Value} (ha : VRel K ι st .nilmap a) :
    Gives E.G K ι st w ((Instr.range t a).run E.P w) (.it st.length) (st ++ [.iter none 0 []]) := by
  obtain ⟨d, i, ty⟩ := hE.ty hT
  have hu := kind_map ty hk
  have : a = .map none := by
    cases ha with | tree _ _ q => cases q; rfl
  subst this
  have s1 := Stp.newOb h (.iter none 0 []) (.mapIter none 0 #[] 0) (.pointer (some ⟨w.heap.size, 0, none⟩)) rfl (fun _ _ => ⟨w.heap.size, none, rfl, heap_alloc_new w _, rfl⟩)
  refine ⟨_, _, _, _, ?_, s1, .it _ w.heap.size none 0 [] (by simp) (by rw [ins_same])⟩
  simp [Instr.range, Sem.run_bind, run_underlying hu, Sem.run_pure]

theorem gives_range {E : Env} (hE : EnvOk E) {K ι st w} (h : Rel E.G K ι st w) {t tk tv : TypeId} {ti : TI} (hT : E.T t = some ti) (hk : ti.kind = .map tk tv) {a : Value} {id : Nat} {es : List (PV × PV)} (hst : st[id]? = some (.map es)) (ha : VRel K ι st (.map id) a) :
    Gives E.G K ι st w ((Instr.range t a).run E.P w) (.it st.length) (st ++ [.iter (some id) es.length []]) := by
  obtain ⟨d, i, ty⟩ := hE.ty hT
  have hu := kind_map ty hk
  obtain ⟨b0, ents, clock, hh, hw, hl, hr, hb1, hb2⟩ := h.obj id _ hst
  cases ha with
  | tree _ _ q => cases q
  | map _ es' b hst' hb =>
    rw [hb] at hh
    injection hh with hh
    injection hh with hh
    subst hh
    have hid : id < st.length := (List.getElem?_eq_some_iff.1 hst).1
    have s1 := Stp.newOb h (.iter (some id) es.length []) (.mapIter (some b) clock #[] clock) (.pointer (some ⟨w.heap.size, 0, none⟩)) rfl (fun _ _ => ⟨w.heap.size, some b, rfl, by rw [hb2, hl]; exact heap_alloc_new w _, b, es, rfl, by rw [ins_other _ _ (by omega), hb], by rw [List.getElem?_append_left hid]; exact hst⟩)
    refine ⟨_, _, _, _, ?_, s1, .it _ w.heap.size (some id) es.length [] (by simp) (by rw [ins_same])⟩
    simp [Instr.range, Sem.run_bind, run_underlying hu, getObj, Sem.run, hw]

theorem gives_entry {E : Env} {K ι st w} (h : Rel E.G K ι st w) {a : Value} {i m n j : Nat} {seen : List Nat} {es : List (PV × PV)} {kp vp : PV} (ha : VRel K ι st (.it i) a) (hi : st[i]? = some (.iter (some m) n seen)) (hm : st[m]? = some (.map es)) (hn : es.length = n)
    (hj : seen.getLast? = some j) (he : es[j]? = some (kp, vp)) : Gives E.G K ι st w ((Instr.entry a).run E.P w) (.tup [kp, vp]) st := by
  obtain ⟨b, m', n', seen', h1, h2, rfl⟩ := ha.itV
  rw [hi] at h1
  obtain ⟨rfl, rfl, rfl⟩ : some m = m' ∧ n = n' ∧ seen = seen' := by simpa using h1
  obtain ⟨b1, mb, hh, hw, r, es1, e1, e2, e3⟩ := h.obj i _ hi
  rw [h2] at hh
  injection hh with hh
  injection hh with hh
  injection hh with hh
  subst hh e1
  obtain ⟨b2, ents, clock, hh2, hw2, hl, hr, hb1, hb2⟩ := h.obj m _ hm
  rw [e2] at hh2
  injection hh2 with hh2
  injection hh2 with hh2
  subst hh2
  obtain ⟨en, g1, g2, g3⟩ := hr j kp vp he
  have hfind : ents.find? (fun x => x.born == j) = some en := by
    rw [Array.find?_eq_some_iff_getElem]
    have hlt : j < ents.size := (Array.getElem?_eq_some_iff.1 g1).1
    have hg : ents[j] = en := (Array.getElem?_eq_some_iff.1 g1).2
    refine ⟨by rw [hb1 j en g1]; simp, j, hlt, hg, fun k hk => ?_⟩
    have := hb1 k ents[k] (Array.getElem?_eq_getElem _)
    rw [this]
    simp; omega
  have hback : Array.back? seen.toArray = some j := by simpa using hj
  refine ⟨K, ι, w, .tuple #[en.key, en.val], ?_, .refl h, .tup _ _ rfl (fun k p v hp hv => ?_)⟩
  · simp [Instr.entry, Sem.run_bind, getObj, Sem.run, hw, hw2, hback, hfind, hb2, hl, hn, Sem.run_pure]
  · match k, hp, hv with
    | 0, hp, hv => simp at hp hv; subst hp hv; exact g2
    | 1, hp, hv => simp at hp hv; subst hp hv; exact g3
    | k + 2, hp, hv => simp at hp

def isSlice (E : Env) (t : TypeId) : Prop := ∃ e s z, E.T t = some ⟨.slice e, s, z⟩
theorem isSlice.under {E : Env} (hE : EnvOk E) {t : TypeId} (h : isSlice E t) : ∃ e, E.P.underlying t = some (.slice e) := by
  obtain ⟨e, s, z, hT⟩ := h
  obtain ⟨d, i, ty⟩ := hE.ty hT
  have hk := ty.hk
  have hu := ty.hu
  cases d <;> simp [kindOk] at hk
  subst hk
  exact ⟨_, hu⟩
/-- A slice compared with nil: of an empty one it is not told whether it is nil. -/
def NilW (neq : Bool) (x : PV) (st : Store) (k : PV → Store → Prop) : Prop :=
  match x with
  | .sl _ es _ => (es = [] → k (.bool true) st ∧ k (.bool false) st) ∧ (es ≠ [] → k (.bool neq) st)
  | .osl _ _ _ len _ => (len = 0 → k (.bool true) st ∧ k (.bool false) st) ∧ (len ≠ 0 → k (.bool neq) st)
  | _ => False
theorem NilW.mono {neq x st} {k k' : PV → Store → Prop} (h : ∀ v st, k v st → k' v st) (q : NilW neq x st k) : NilW neq x st k' := by
  unfold NilW at q ⊢
  split at q
  · exact ⟨fun e => ⟨h _ _ (q.1 e).1, h _ _ (q.1 e).2⟩, fun e => h _ _ (q.2 e)⟩
  · exact ⟨fun e => ⟨h _ _ (q.1 e).1, h _ _ (q.1 e).2⟩, fun e => h _ _ (q.2 e)⟩
  · exact q
theorem nilW_pick {neq x} {K ι st} {a : Value} (ha : VRel K ι st x a) {k : PV → Store → Prop} (q : NilW neq x st k) : ∃ A n c, a = .slice A n c ∧ k (.bool (if A.isNone then !neq else neq)) st := by
  unfold NilW at q
  have fin : ∀ (A : Option Addr) (p : Prop), (p → k (.bool true) st ∧ k (.bool false) st) ∧ (¬ p → k (.bool neq) st) → (A = none → p) → k (.bool (if A.isNone then !neq else neq)) st := by
    intro A p q hA
    cases A with
    | none =>
      have := q.1 (hA rfl)
      cases neq
      · exact this.1
      · exact this.2
    | some A =>
      by_cases hp : p
      · have := q.1 hp
        cases neq
        · exact this.2
        · exact this.1
      · exact q.2 hp
  split at q
  · rename_i k0 es tok
    have : ∃ A c, a = .slice A es.length c ∧ (A = none → es = []) := by
      cases ha with
      | tree _ _ h =>
        cases h with
        | sl _ _ _ A c b off f _ hA => exact ⟨A, c, rfl, fun e => by
            cases es with
            | nil => rfl
            | cons x l => have := hA (by simp); rw [e] at this; cases this⟩
      | own _ _ i A c m e h =>
        refine ⟨A, c, rfl, fun e1 => ?_⟩
        cases h with
        | sl _ _ _ A c b off f _ hA =>
          cases es with
          | nil => rfl
          | cons x l => have := hA (by simp); rw [e1] at this; cases this
    obtain ⟨A, c, rfl, hA⟩ := this
    exact ⟨A, _, c, rfl, fin A (es = []) ⟨q.1, q.2⟩ hA⟩
  · rename_i id tot off len k0
    cases ha with
    | tree _ _ h => cases h
    | osl _ _ _ _ _ A c cs hst hle hlc hn heq =>
      exact ⟨A, len, c, rfl, fin A (len = 0) ⟨q.1, q.2⟩ fun e => by have := hn.1 e; omega⟩
  · exact q.elim

/-- What a range over a map may do next: it is over where every entry has been met; otherwise it meets any entry that it has not met. -/
def NextW (E : Env) (fr : Fr) (st : Store) (op : Op) (k : PV → Store → Prop) : Prop :=
  match op with
  | .next x false => (match evalO E fr x with
    | .it i => (match st[i]? with
      | some (.iter none _ _) => k (.tup [.bool false]) st
      | some (.iter (some m) n seen) => (match st[m]? with
        | some (.map es) => es.length = n ∧ ((∀ j, j < n → j ∈ seen) → k (.tup [.bool false]) st) ∧ ∀ (j : Nat) (kp vp : PV), j ∉ seen → es[j]? = some (kp, vp) → k (.tup [.bool true, kp, vp]) (st.set i (.iter (some m) n (seen ++ [j])))
        | _ => False)
      | _ => False)
    | _ => False)
  | .binOp .eql t x (.const (.slice none 0 0)) _ => isSlice E t ∧ NilW false (evalO E fr x) st k
  | .binOp .neq t x (.const (.slice none 0 0)) _ => isSlice E t ∧ NilW true (evalO E fr x) st k
  | _ => False
theorem NextW.mono {E fr st op} {k k' : PV → Store → Prop} (h : ∀ v st, k v st → k' v st) (q : NextW E fr st op k) : NextW E fr st op k' := by
  unfold NextW at q ⊢
  split at q
  · split at q
    · split at q
      · exact h _ _ q
      · split at q
        · exact ⟨q.1, fun r => h _ _ (q.2.1 r), fun j kp vp a b => h _ _ (q.2.2 j kp vp a b)⟩
        · exact q
      · exact q
    · exact q
  · exact ⟨q.1, q.2.mono h⟩
  · exact ⟨q.1, q.2.mono h⟩
  · exact q

/-- An iterator's step. -/
theorem Stp.iterSet {G K ι st w} (h : Rel G K ι st w) {i m n b mb : Nat} {seen seen' : List Nat} (hi : st[i]? = some (.iter (some m) n seen)) (hh : ι i = .pointer (some ⟨b, 0, none⟩)) (hw : w.heap[b]? = some (.mapIter (some mb) n seen.toArray n)) (hmb : ι m = .map (some mb)) {es} (hm : st[m]? = some (.map es)) :
    Stp G K ι st w K ι (st.set i (.iter (some m) n seen')) { w with heap := w.heap.setIfInBounds b (.mapIter (some mb) n seen'.toArray n) } := by
  have key := Stp.setOb h i _ (.iter (some m) n seen') hi (ι i) (by simp [Ob.le]) K (fun _ _ q => q) { w with heap := w.heap.setIfInBounds b (.mapIter (some mb) n seen'.toArray n) } b b (by rw [hh]; rfl) (by rw [hh]; rfl) (.inl rfl) rfl rfl rfl (by simp)
    (fun k _ hk => heap_set_other w b k _ hk)
    (fun a v q => by
      have hc := h.know a v q
      by_cases hab : a.block = b
      · rw [World.cell?, hab, hw] at hc; simp at hc
      · rw [← hc]; exact World.cell?_of_block (w := w) (heap_set_other w b a.block _ hab))
    (fun a v q => .inl q) (fun x => by
      rw [ins_id] at x ⊢
      have him : i ≠ m := fun q => by subst q; rw [hi] at hm; cases hm
      exact ⟨b, some mb, hh, heap_set_same w b _ _ hw, mb, es, rfl, hmb, by rw [List.getElem?_set_ne him]; exact hm⟩)
  rw [ins_id] at key
  exact key

theorem Stp.drawn1 {G K ι st w} (h : Rel G K ι st w) (d : Nat) : Stp G K ι st w K ι st { w with drawn := d } := by
  have x : Ext K ι st K ι st := .refl _ _ _
  refine ⟨⟨h.know, h.glob, fun id o e => ?_, h.apart, h.gsz, h.gown⟩, x, rfl, rfl, rfl, Nat.le_refl _, fun _ _ _ => rfl, fun _ hb _ => hb, fun a v e => .inl e⟩
  exact (h.obj id o e).carry x (fun _ _ => rfl) (fun _ _ _ q => q)

theorem next_sound {E : Env} {K ι st w} (h : Rel E.G K ι st w) {fr : Fr} {x : Operand} {a : Value} {t : TypeId} (ha : VRel K ι st (evalO E fr x) a) {k : PV → Store → Prop} (q : NextW E fr st (.next x false) k) :
    ∃ v st', k v st' ∧ Gives E.G K ι st w ((Instr.next a false t).run E.P w) v st' := by
  have over : ∀ w', Stp E.G K ι st w K ι st w' → ∀ r : Result Value, r = .ok (.tuple #[.bool false]) w' → Gives E.G K ι st w r (.tup [.bool false]) st := by
    intro w' s r hr
    refine ⟨K, ι, w', _, hr, s, .tup _ _ rfl (fun i p v hp hv => ?_)⟩
    match i, hp, hv with
    | 0, hp, hv => simp at hp hv; subst hp hv; exact .tree _ _ (.bool false)
    | i + 1, hp, hv => simp at hp
  unfold NextW at q
  simp only at q
  split at q
  · rename_i i hi
    rw [hi] at ha
    obtain ⟨b, m', n', seen', h1, h2, rfl⟩ := ha.itV
    rw [h1] at q
    cases m' with
    | none =>
      simp only at q
      obtain ⟨b1, mb, hh, hw, rfl⟩ := h.obj i _ h1
      rw [h2] at hh
      obtain rfl : b = b1 := by simpa using hh
      exact ⟨_, _, q, over w (.refl h) _ (by simp [Instr.next, Sem.run_bind, getObj, Sem.run, hw, Sem.run_pure])⟩
    | some m =>
      simp only at q
      split at q
      · rename_i es hm
        obtain ⟨hn, q1, q2⟩ := q
        obtain ⟨b1, mb, hh, hw, r, es1, rfl, e2, e3⟩ := h.obj i _ h1
        rw [h2] at hh
        obtain rfl : b = b1 := by simpa using hh
        obtain ⟨b2, ents, clock, hh2, hw2, hl, hr, hb1, hb2⟩ := h.obj m _ hm
        rw [e2] at hh2
        obtain rfl : r = b2 := by simpa using hh2
        have hstop : (!seen'.toArray.isEmpty && !ents.isEmpty && ents.all (fun x => decide (x.born ≥ n'))) = false := by
          cases hz : ents.isEmpty with
          | true => simp
          | false =>
            have h0 : 0 < ents.size := by
              have : ents ≠ #[] := by simpa using hz
              exact Array.size_pos_iff.2 this
            have hall : ents.all (fun x => decide (x.born ≥ n')) = false := by
              cases hc : ents.all (fun x => decide (x.born ≥ n')) with
              | false => rfl
              | true =>
                rw [Array.all_eq_true] at hc
                have := hc 0 h0
                rw [hb1 0 ents[0] (Array.getElem?_eq_getElem _)] at this
                simp at this; omega
            rw [hall]; simp
        let left := ents.filter fun e => !seen'.toArray.contains e.born
        let old := left.filter (·.born < n')
        let new := left.filter (·.born ≥ n')
        have hnew : new = #[] := by
          simp only [new, left]
          rw [Array.filter_eq_empty_iff]
          intro x hx
          obtain ⟨hx, _⟩ := Array.mem_filter.1 hx
          obtain ⟨j, hj, rfl⟩ := Array.mem_iff_getElem.1 hx
          rw [hb1 j _ (Array.getElem?_eq_getElem hj)]
          simp; omega
        have hold : ∀ x ∈ old, ∃ j : Nat, ents[j]? = some x ∧ x.born = j ∧ j ∉ seen' := by
          intro x hx
          obtain ⟨hx, _⟩ := Array.mem_filter.1 hx
          obtain ⟨hx, hs⟩ := Array.mem_filter.1 hx
          obtain ⟨j, hj, rfl⟩ := Array.mem_iff_getElem.1 hx
          have := hb1 j _ (Array.getElem?_eq_getElem hj)
          refine ⟨j, Array.getElem?_eq_getElem hj, this, ?_⟩
          rw [this] at hs
          simpa using hs
        have run : (Instr.next (.pointer (some ⟨b, 0, none⟩)) false t).run E.P w = (do
            let candidates := (if old.isEmpty then #[none] else #[]) ++ (old ++ new).map some
            match candidates[← choose (.mapNext candidates.size)]? with
            | some (some e) => setObj b (.mapIter (some r) n' (seen'.toArray.push e.born) clock); pure (.tuple #[.bool true, e.key, e.val])
            | some none => pure (.tuple #[.bool false])
            | none => stuck "Next: no such candidate" : Sem Value).run E.P w := by
          simp only [Instr.next, Sem.run_bind, getObj, Sem.run, hw, hw2, Result.andThen_ok, hstop, Bool.false_eq_true, if_false, Sem.run_pure]
          rfl
        rw [hnew, Array.append_empty] at run
        by_cases ho : old = #[]
        · have hover : ∀ j, j < n' → j ∈ seen' := by
            intro j hj
            by_cases hs : j ∈ seen'
            · exact hs
            · have hje : j < ents.size := by omega
              have hbj := hb1 j ents[j] (Array.getElem?_eq_getElem hje)
              have : ents[j] ∈ old := by
                simp only [old, left]
                rw [Array.mem_filter, Array.mem_filter]
                refine ⟨⟨Array.getElem_mem hje, ?_⟩, ?_⟩
                · rw [hbj]; simpa using hs
                · rw [hbj]; simpa using hj
              rw [ho] at this
              simp at this
          refine ⟨_, _, q1 hover, over w (.refl h) _ ?_⟩
          rw [run, ho]
          simp [Sem.run_bind, run_choose_drew, Question.forced, Sem.run_pure]
        · have hemp : old.isEmpty = false := by simpa using ho
          have hpos : 0 < old.size := Array.size_pos_iff.2 ho
          obtain ⟨c, w1, hc, hw1, hcs, hheap⟩ : ∃ c w1, (choose (.mapNext (old.map some).size)).run E.P w = .ok c w1 ∧ Stp E.G K ι st w K ι st w1 ∧ c < old.size ∧ w1.heap = w.heap := by
            rw [run_choose_drew]
            by_cases hf : (Question.mapNext (old.map some).size).forced = true
            · exact ⟨0, w, by rw [if_pos hf], .refl h, hpos, rfl⟩
            · refine ⟨_, _, by rw [if_neg hf], .drew h, ?_, rfl⟩
              simp only [Question.cut, Array.size_map]
              exact Nat.mod_lt _ hpos
          have hget : (old.map some)[c]? = some (some old[c]) := by simp [hcs]
          obtain ⟨j, hj, hbj, hjs⟩ := hold old[c] (Array.getElem_mem hcs)
          have hjl : j < es.length := by
            have := (Array.getElem?_eq_some_iff.1 hj).1
            omega
          obtain ⟨en, g1, g2, g3⟩ := hr j es[j].1 es[j].2 (by rw [List.getElem?_eq_getElem hjl])
          rw [hj] at g1
          injection g1 with g1
          subst g1
          have hstep := Stp.iterSet hw1.rel (seen' := seen' ++ [j]) h1 h2 (by rw [hheap]; exact hw) e2 hm
          refine ⟨_, _, q2 j es[j].1 es[j].2 hjs (List.getElem?_eq_getElem hjl), K, ι, _, .tuple #[.bool true, old[c].key, old[c].val], ?_, hw1.trans hstep, .tup _ _ rfl (fun i' p v hp hv => ?_)⟩
          · rw [run, hemp]
            simp only [Bool.false_eq_true, if_false, Array.empty_append, Sem.run_bind, hc, Result.andThen_ok, hget]
            rw [setObj_run (by rw [hheap]; exact hw) (by simp)]
            simp only [Result.andThen_ok, Sem.run_pure]
            rw [hbj, hb2, hl, hn, List.push_toArray]
          · match i', hp, hv with
            | 0, hp, hv => simp at hp hv; subst hp hv; exact .tree _ _ (.bool true)
            | 1, hp, hv => simp at hp hv; subst hp hv; exact g2.mono hstep.ext
            | 2, hp, hv => simp at hp hv; subst hp hv; exact g3.mono hstep.ext
            | i' + 3, hp, hv => simp at hp
      · exact q.elim
  · exact q.elim

theorem nil_sound {E : Env} {K ι st w} (h : Rel E.G K ι st w) {op : BinOp} (hop : op = .eql ∨ op = .neq) {t e : TypeId} (hu : E.P.underlying t = some (.slice e)) {A : Option Addr} {n c : Nat} (ox oy : Operand) :
    Gives E.G K ι st w ((do eqGuard op t ox oy (.slice A n c) (.slice none 0 0); binOp op t (.slice A n c) (.slice none 0 0) : Sem Value).run E.P w) (.bool (if A.isNone then !(decide (op = .neq)) else decide (op = .neq))) st := by
  have e1 := eqGuard_plain (P := E.P) op t ox oy (.slice A n c) (.slice none 0 0) w (by simp) (by simp)
  have e2 : (Op.equal t (.slice A n c) (.slice none 0 0)).run E.P w = .ok A.isNone w := by
    show (Op.equalIn (9999 + 1) t _ _).run E.P w = _
    generalize 9999 = d
    cases A <;> simp [Op.equalIn, run_underlying hu]
  refine ⟨K, ι, w, .bool (if A.isNone then !(decide (op = .neq)) else decide (op = .neq)), ?_, .refl h, .tree _ _ (.bool _)⟩
  rw [Sem.run_bind, e1]
  rcases hop with rfl | rfl
  · show (do pure (.bool (← Op.equal t _ _)) : Sem Value).run E.P w = _
    rw [Sem.run_bind, e2]
    cases A <;> simp [Sem.run_pure]
  · show (do pure (.bool (!(← Op.equal t _ _))) : Sem Value).run E.P w = _
    rw [Sem.run_bind, e2]
    cases A <;> simp [Sem.run_pure]
end Go.Pv
end
section
namespace Go.Pv

theorem foldl_push_app : ∀ (ns : List Int) (s : ByteArray), (ns.foldl (fun r n => r.push (UInt8.ofNat n.toNat)) s).data.toList = s.data.toList ++ ns.map fun n => UInt8.ofNat n.toNat
  | [], s => by simp
  | n :: ns, s => by
    rw [List.foldl_cons, foldl_push_app ns]
    simp [ByteArray.push]
theorem foldl_push_bytesV (ns : List Int) : ns.foldl (fun r n => r.push (UInt8.ofNat n.toNat)) ByteArray.empty = bytesV (ns.map fun n => UInt8.ofNat n.toNat) := by
  have := foldl_push_app ns ByteArray.empty
  generalize ns.foldl (fun r n => r.push (UInt8.ofNat n.toNat)) ByteArray.empty = x at this ⊢
  obtain ⟨⟨l⟩⟩ := x
  simp at this
  simp [bytesV, this]

theorem byteEs_spec : ∀ (es : List (List PV)) (s : List UInt8), byteEs es = some s → ∃ ns : List Int, es = ns.map (fun n => [PV.int .u8 n]) ∧ s = ns.map fun n => UInt8.ofNat n.toNat
  | [], s, h => ⟨[], rfl, by simp [byteEs] at h; simp [h]⟩
  | e :: es, s, h => by
    unfold byteEs at h
    split at h
    · rename_i heq; cases heq
    · rename_i n es' heq
      obtain ⟨rfl, rfl⟩ := List.cons.inj heq
      obtain ⟨r, hr, rfl⟩ := Option.map_eq_some_iff.1 h
      obtain ⟨ns, rfl, rfl⟩ := byteEs_spec _ _ hr
      exact ⟨n :: ns, rfl, rfl⟩
    · cases h

theorem gives_bytesStr {E : Env} (hE : EnvOk E) {K ι st w} (h : Rel E.G K ι st w) {src dst e : TypeId} {ts td te : TI} (hTs : E.T src = some ts) (hks : ts.kind = .slice e) (hTd : E.T dst = some td) (hkd : td.kind = .str)
    (hTe : E.T e = some te) (hke : te.kind = .int .u8) {k : Nat} {es : List (List PV)} {tok : Tok} {a : Value} (ha : VRel K ι st (.sl k es tok) a) {s : List UInt8} (hs : byteEs es = some s) :
    Gives E.G K ι st w ((convert src dst a).run E.P w) (.str s) st := by
  obtain ⟨d, i, ty⟩ := hE.ty hTs
  obtain ⟨d', i', ty'⟩ := hE.ty hTd
  obtain ⟨d'', i'', ty''⟩ := hE.ty hTe
  obtain ⟨A, c, b, off, f, rfl, hk, hA, hK, hv, h1, hc, hm, hn, ht⟩ := ha.slTree.slCells
  rw [run_convert_bytes_string w src dst e _ _ _ (kind_slice ty hks) (kind_int ty'' hke) (kind_str ty' hkd)]
  obtain ⟨ns, rfl, rfl⟩ := byteEs_spec es s hs
  cases A with
  | none =>
    have : ns = [] := by
      cases ns with
      | nil => rfl
      | cons n ns => exact absurd (hA (by simp)) (by simp)
    subst this
    refine ⟨K, ι, w, .string (bytesV []), ?_, .refl h, .tree _ _ (.str _)⟩
    simp [Conv.bytesToString, Sem.run_pure, bytesV]
    rfl
  | some ad =>
    refine ⟨K, ι, w, .string (bytesV (ns.map fun n => UInt8.ofNat n.toNat)), ?_, .refl h, .tree _ _ (.str _)⟩
    have hl : (loadCells ad ns.length).run E.P w = .ok (ns.map (Value.int .u8)).toArray w := by
      have := run_loadCells_list (P := E.P) w ad (ns.map (Value.int .u8)) (fun j v hj => ?_)
      · simpa using this
      · have hjl : j < ns.length := by simpa using (List.getElem?_eq_some_iff.1 hj).1
        have hne : ns.map (fun n => [PV.int .u8 n]) ≠ [] := by intro q; simp at q; subst q; simp at hjl
        have := hA hne
        injection this with this
        subst this
        rw [List.getElem?_map] at hj
        obtain ⟨n, hn1, rfl⟩ := Option.map_eq_some_iff.1 hj
        have hk1 : k = 1 := by
          have := hk j [PV.int .u8 n] (by simp [hn1])
          simpa using this.symm
        subst hk1
        have q := hK j (by simpa using hjl)
        have r := hv j 0 [PV.int .u8 n] (.int .u8 n) (by simp [hn1]) rfl
        have e1 : f j 0 = .int .u8 n := by generalize f j 0 = z at r; cases r; rfl
        simp only [Nat.div_one, Nat.mod_one, e1] at q
        have := h.know ⟨b, off + j, none⟩ _ q
        by_cases h0 : j = 0
        · subst h0; simpa [Addr.add] using this
        · simpa [Addr.add, h0] using this
    simp only [List.length_map]
    rw [run_bytesToString w ad ns.length c ns hl, foldl_push_bytesV]

theorem opIn1 {N : Nat} {x : Operand} {l : List Operand} (h : (x :: l).toArray.all (opdIn N) = true) : opdIn N x = true ∧ l.toArray.all (opdIn N) = true := by
  simpa using h

theorem zip_rel {K ι st} {a : Act} (f : TypeId → Operand → PV) (hfx : ∀ t x, opdIn a.tmps.size x = true → VRel K ι st (f t x) (a.eval x)) :
    ∀ (xs : List Operand) (ts : List TypeId), xs.length = ts.length → (∀ x ∈ xs, opdIn a.tmps.size x = true) → ∀ (j : Nat) (p : PV) (v : Value),
      ((xs.zip ts).map fun q => f q.2 q.1)[j]? = some p → (xs.map a.eval)[j]? = some v → VRel K ι st p v := by
  intro xs ts hl hx j p v hp hv
  rw [List.getElem?_map] at hp hv
  obtain ⟨q, hq, rfl⟩ := Option.map_eq_some_iff.1 hp
  obtain ⟨x, hx', rfl⟩ := Option.map_eq_some_iff.1 hv
  rw [List.getElem?_zip_eq_some] at hq
  rw [hx'] at hq
  obtain ⟨q1, q2⟩ := hq
  injection q1 with q1
  rw [← q1]
  exact hfx _ _ (hx _ (List.mem_of_getElem? hx'))

theorem opF_buildSlice {E : Env} (hE : EnvOk E) {K ι st w fr} {a : Act} (h : Rel E.G K ι st w) {dst ty pos after guard} (t : TypeId) (len : Nat) (parts : Array (Nat × Operand))
    (oT : ∀ t' x, x ∈ (Op.buildSlice t len parts).operands → VRel K ι st (evalT E t' fr x) (a.eval x)) {v : PV} {st' : Store}
    (ho : opF E ty fr st (.buildSlice t len parts) = some (v, st')) : Does E.G K ι st w ((execOp a.eval ⟨dst, .buildSlice t len parts, ty, pos, after, guard⟩).run E.P w) v st' := by
  simp only [opF] at ho
  split at ho
  · rename_i e _ _ hT
    split at ho
    · rename_i te hTe
      split at ho
      · rename_i hc
        obtain ⟨c1, c2, c3, c4, c5⟩ := hc
        split at ho
        · rename_i hrows
          simp only [Option.some.injEq, Prod.mk.injEq] at ho
          obtain ⟨rfl, rfl⟩ := ho
          have hlen : parts.size = len := by simpa using congrArg List.length c1
          rw [List.all_eq_true] at c5 hrows
          have := gives_buildSlice hE h hT rfl hTe c4 c3 (parts.toList.map fun q => evalT E e fr q.2) (parts.toList.map fun q => a.eval q.2) (by simp) (by simp; omega)
            (fun j p v hp hv => by
              rw [List.getElem?_map] at hp hv
              obtain ⟨x, hx, rfl⟩ := Option.map_eq_some_iff.1 hp
              rw [hx] at hv
              simp only [Option.map_some, Option.some.injEq] at hv
              subst hv
              refine oT e x.2 ?_
              simp only [Op.operands, List.mem_toArray, List.mem_map]
              exact ⟨x, List.mem_of_getElem? hx, rfl⟩)
            (fun p hp => by
              obtain ⟨x, hx, rfl⟩ := List.mem_map.1 hp
              simpa using c5 x hx)
            (fun p hp => by
              obtain ⟨x, hx, rfl⟩ := List.mem_map.1 hp
              exact hrows _ (List.mem_map.2 ⟨x, hx, rfl⟩))
          have e0 : execOp a.eval ⟨dst, .buildSlice t len parts, ty, pos, after, guard⟩ = (do Pure.pure (Next.value (← Instr.buildSlice t len (parts.map fun (i, x) => (i, a.eval x)))) : Sem Next) := rfl
          have e2 : (parts.map fun (i, x) => (i, a.eval x)) = parts.map fun q => (q.1, a.eval q.2) := rfl
          rw [e0, e2]
          refine Gives.does ?_
          have e1 : (parts.map fun q => (q.1, a.eval q.2)) = (((parts.toList.map fun q => a.eval q.2).zipIdx 0).map fun q => (q.2, q.1)).toArray := by
            apply Array.toList_inj.1
            apply List.ext_getElem?
            intro j
            simp only [Array.toList_map, List.getElem?_map, List.getElem?_zipIdx, Nat.zero_add]
            cases hj : parts.toList[j]? with
            | none => simp
            | some x =>
              have := congrArg (·[j]?) c1
              simp only [List.getElem?_map, hj, Option.map_some] at this
              have hjl : j < len := by
                have := (List.getElem?_eq_some_iff.1 hj).1
                simp at this; omega
              rw [List.getElem?_range hjl] at this
              simp at this
              simp [this]
          rw [e1]
          simp only [List.length_map, Array.length_toList, hlen] at this
          have e3 : ((parts.toList.map fun q => evalT E e fr q.2).map fun p => (cellsOf p).map tokRo) = parts.toList.map fun q => (cellsOf (evalT E e fr q.2)).map tokRo := by rw [List.map_map]; rfl
          rw [e3] at this
          exact this
        · cases ho
      · cases ho
    · cases ho
  · cases ho

theorem opF_sound {E : Env} (hE : EnvOk E) {K ι st w fr} {a : Act} (h : Rel E.G K ι st w) (hf : FrRel K ι st fr a.tmps) {o : Oper} (hin : opIn a.tmps.size o.op = true) {v : PV} {st' : Store}
    (ho : opF E o.type fr st o.op = some (v, st')) : Does E.G K ι st w ((execOp a.eval o).run E.P w) v st' := by
  obtain ⟨dst, op, ty, pos, after, guard⟩ := o
  have oO : ∀ x, x ∈ op.operands → VRel K ι st (evalO E fr x) (a.eval x) := fun x hx => evalO_rel h hf x (opIn_mem hin hx)
  have oT : ∀ t x, x ∈ op.operands → VRel K ι st (evalT E t fr x) (a.eval x) := fun t x hx => evalT_rel h hf t x (opIn_mem hin hx)
  have oN : ∀ x, x ∈ op.operands → opdIn a.tmps.size x = true := fun x hx => opIn_mem hin hx
  have oT' : ∀ t x, opdIn a.tmps.size x = true → VRel K ι st (evalT E t fr x) (a.eval x) := fun t x hx => evalT_rel h hf t x hx
  cases op <;> simp only [opF] at ho <;> try (cases ho; done)
  case move x =>
    simp only [Option.some.injEq, Prod.mk.injEq] at ho
    obtain ⟨rfl, rfl⟩ := ho
    exact does_pure h (oT _ x (by simp [Op.operands]))
  case assign x =>
    simp only [Option.some.injEq, Prod.mk.injEq] at ho
    obtain ⟨rfl, rfl⟩ := ho
    exact does_pure h (oT _ x (by simp [Op.operands]))
  case pick c x y =>
    have hc := oO c (by simp [Op.operands])
    have hx := oO x (by simp [Op.operands])
    have hy := oO y (by simp [Op.operands])
    have go : ∀ t, evalO E fr c = .bool t → Does E.G K ι st w ((execOp a.eval ⟨dst, .pick c x y, ty, pos, after, guard⟩).run E.P w) (if t then evalO E fr x else evalO E fr y) st := by
      intro t e
      rw [e] at hc
      have : (execOp a.eval ⟨dst, .pick c x y, ty, pos, after, guard⟩).run E.P w = .ok (.value (if t then a.eval x else a.eval y)) w := by
        simp [execOp, hc.boolV, asBool, Sem.run_bind, Sem.run_pure]
      rw [this]
      refine ⟨K, ι, w, _, _, rfl, .inl rfl, .refl h, ?_⟩
      cases t <;> assumption
    split at ho
    · rename_i t x' y' e1 e2 e3
      simp only [Option.some.injEq, Prod.mk.injEq] at ho
      obtain ⟨rfl, rfl⟩ := ho
      have := go t e1
      rw [e2, e3] at this
      cases t <;> exact this
    · rename_i t e1 _
      simp only [Option.some.injEq, Prod.mk.injEq] at ho
      obtain ⟨rfl, rfl⟩ := ho
      exact go t e1
    · cases ho
  case alloc e =>
    split at ho
    · rename_i te hT
      simp only [Option.some.injEq, Prod.mk.injEq] at ho
      obtain ⟨rfl, rfl⟩ := ho
      exact (gives_alloc hE h hT).does
    · cases ho
  case box e x =>
    split at ho
    · rename_i te hT
      split at ho
      · rename_i hc
        simp only [Option.some.injEq, Prod.mk.injEq] at ho
        obtain ⟨rfl, rfl⟩ := ho
        rw [← hc.2]
        exact (gives_box h (oT _ x (by simp [Op.operands])) (isAgg_spec hc.1)).does
      · cases ho
    · cases ho
  case load t x =>
    have hx := oO x (by simp [Op.operands])
    split at ho
    · rename_i te cs hT e
      rw [e] at hx
      exact (gives_load hE h hT hx ho).does
    · rename_i te id tot off hT e
      rw [e] at hx
      exact (gives_load hE h hT hx ho).does
    · cases ho
  case store t x y =>
    have hx := oO x (by simp [Op.operands])
    have hy := oT t y (by simp [Op.operands])
    split at ho
    · rename_i te id tot off hT e
      split at ho
      · rename_i cs hst
        split at ho
        · rename_i hc
          simp only [Option.some.injEq, Prod.mk.injEq] at ho
          obtain ⟨rfl, rfl⟩ := ho
          rw [e] at hx
          obtain ⟨w', e1, e2⟩ := gives_store hE h hT hx hy hst hc.1 hc.2.1 hc.2.2.1 (isAgg_spec hc.2.2.2)
          exact does_unit e1 e2
        · cases ho
      · cases ho
    · cases ho
  case binOp op t x y _ =>
    obtain ⟨p, hp, q⟩ := Option.map_eq_some_iff.1 ho
    simp only [Prod.mk.injEq] at q
    obtain ⟨rfl, rfl⟩ := q
    obtain ⟨e1, e2⟩ := binF_run hE hp (oO x (by simp [Op.operands])) (oO y (by simp [Op.operands])) w x y
    refine Gives.does (s := do eqGuard op t x y (a.eval x) (a.eval y); binOp op t (a.eval x) (a.eval y)) ?_
    rw [e1]
    exact toV_gives h e2
  case unOp op t x =>
    obtain ⟨p, hp, q⟩ := Option.map_eq_some_iff.1 ho
    simp only [Prod.mk.injEq] at q
    obtain ⟨rfl, rfl⟩ := q
    obtain ⟨e1, e2⟩ := unF_run (P := E.P) hp (oO x (by simp [Op.operands])) w
    refine Gives.does (s := Op.unary op (a.eval x)) ?_
    rw [e1]
    exact toV_gives h e2
  case nilCheck x =>
    have hx := oO x (by simp [Op.operands])
    split at ho
    · rename_i id tot off e
      simp only [Option.some.injEq, Prod.mk.injEq] at ho
      obtain ⟨rfl, rfl⟩ := ho
      rw [e] at hx
      obtain ⟨ad, e1⟩ := hx.optrV
      have : (execOp a.eval ⟨dst, .nilCheck x, ty, pos, after, guard⟩).run E.P w = .ok (.value (a.eval x)) w := by simp [execOp, e1, Sem.run_pure]
      rw [this]
      exact ⟨K, ι, w, _, _, rfl, .inl rfl, .refl h, hx⟩
    · rename_i cs e
      simp only [Option.some.injEq, Prod.mk.injEq] at ho
      obtain ⟨rfl, rfl⟩ := ho
      rw [e] at hx
      obtain ⟨b, off, f, e1, _⟩ := hx.rptrV
      have : (execOp a.eval ⟨dst, .nilCheck x, ty, pos, after, guard⟩).run E.P w = .ok (.value (a.eval x)) w := by simp [execOp, e1, Sem.run_pure]
      rw [this]
      exact ⟨K, ι, w, _, _, rfl, .inl rfl, .refl h, hx⟩
    · rename_i f caps e
      simp only [Option.some.injEq, Prod.mk.injEq] at ho
      obtain ⟨rfl, rfl⟩ := ho
      rw [e] at hx
      obtain ⟨vs, e1⟩ : ∃ vs, a.eval x = .func (.func f) #[] vs := by
        generalize a.eval x = z at hx ⊢
        cases hx with
        | tree _ _ q => cases q; exact ⟨_, rfl⟩
        | fn _ _ vs => exact ⟨vs, rfl⟩
      have : (execOp a.eval ⟨dst, .nilCheck x, ty, pos, after, guard⟩).run E.P w = .ok (.value (a.eval x)) w := by simp [execOp, e1, Sem.run_pure]
      rw [this]
      exact ⟨K, ι, w, _, _, rfl, .inl rfl, .refl h, hx⟩
    · rename_i l e
      simp only [Option.some.injEq, Prod.mk.injEq] at ho
      obtain ⟨rfl, rfl⟩ := ho
      rw [e] at hx
      obtain ⟨b, e1⟩ : ∃ b, a.eval x = .func (.yield b) #[] #[] := by
        generalize a.eval x = z at hx ⊢
        cases hx with
        | tree _ _ q => cases q
        | yld _ b => exact ⟨b, rfl⟩
      have : (execOp a.eval ⟨dst, .nilCheck x, ty, pos, after, guard⟩).run E.P w = .ok (.value (a.eval x)) w := by simp [execOp, e1, Sem.run_pure]
      rw [this]
      exact ⟨K, ι, w, _, _, rfl, .inl rfl, .refl h, hx⟩
    · cases ho
  case convert src dst x =>
    obtain ⟨p, hp, q⟩ := Option.map_eq_some_iff.1 ho
    simp only [Prod.mk.injEq] at q
    obtain ⟨rfl, rfl⟩ := q
    have hx := oO x (by simp [Op.operands])
    refine Gives.does (s := convert src dst (a.eval x)) ?_
    unfold convF at hp
    split at hp
    · rename_i k _ _ _ n hs hd e
      cases hp
      rw [e] at hx
      exact gives_conv hE h hx (.inl ⟨_, _, _, _, _, hs, hd, rfl, rfl, rfl⟩)
    · rename_i s hs hd e
      cases hp
      rw [e] at hx
      exact gives_conv hE h hx (.inr ⟨_, _, _, hs, hd, rfl, rfl, rfl, rfl⟩)
    · rename_i e _ _ _ _ _ es _ hs hd e'
      split at hp
      · rename_i hTe
        obtain ⟨s, hs', rfl⟩ := Option.map_eq_some_iff.1 hp
        rw [e'] at hx
        exact gives_bytesStr hE h hs rfl hd rfl hTe rfl hx hs'
      · cases hp
    · cases hp
  case makeFunc f first caps =>
    cases f <;> simp only at ho <;> try (cases ho; done)
    rename_i f
    split at ho
    · rename_i he
      simp only [Option.some.injEq, Prod.mk.injEq] at ho
      obtain ⟨rfl, rfl⟩ := ho
      have he' : first = #[] := by simpa using he
      subst he'
      have : (execOp a.eval ⟨dst, .makeFunc (.func f) #[] caps, ty, pos, after, guard⟩).run E.P w = .ok (.value (.func (.func f) #[] (caps.map a.eval))) w := by
        simp [execOp, Instr.makeFunc, Sem.run_pure]
      rw [this]
      refine ⟨K, ι, w, _, _, rfl, .inl rfl, .refl h, .fn f _ _ (by simp) (fun i p v hp hv => ?_)⟩
      rw [List.getElem?_map] at hp
      rw [Array.getElem?_map] at hv
      obtain ⟨x, hx, rfl⟩ := Option.map_eq_some_iff.1 hp
      obtain ⟨y, hy, rfl⟩ := Option.map_eq_some_iff.1 hv
      have : x = y := by simpa [hy] using hx.symm
      subst this
      exact oO x (by simp [Op.operands, Array.mem_of_getElem? hy])
    · cases ho
  case makeMap t r =>
    cases r with
    | some _ => cases ho
    | none =>
      simp only [Option.some.injEq, Prod.mk.injEq] at ho
      obtain ⟨rfl, rfl⟩ := ho
      exact (gives_makeMap h t).does
  case makeSlice t l c =>
    have hl := oO l (by simp [Op.operands])
    have hc := oO c (by simp [Op.operands])
    split at ho
    · rename_i e _ _ n m hT e1 e2
      split at ho
      · rename_i te hTe
        split at ho
        · rename_i hcond
          obtain ⟨q1, q2, rfl, q3⟩ := hcond
          simp only [Option.some.injEq, Prod.mk.injEq] at ho
          obtain ⟨rfl, rfl⟩ := ho
          rw [e1] at hl
          rw [e2] at hc
          refine Gives.does (s := Instr.makeSlice t (a.eval l) (a.eval c)) ?_
          rw [hl.intV, hc.intV]
          obtain ⟨n, rfl⟩ := Int.eq_ofNat_of_zero_le q1
          exact gives_makeSlice hE h hT rfl hTe n (by omega) q3
        · cases ho
      · cases ho
    · cases ho
  case slice t x lo hi mx =>
    have hx := oO x (by simp [Op.operands])
    obtain ⟨a1, a2⟩ := opt_rel h hf lo (fun y e => oN y (by subst e; simp [Op.operands]))
    obtain ⟨b1, b2⟩ := opt_rel h hf hi (fun y e => oN y (by subst e; simp [Op.operands]))
    obtain ⟨c1, c2⟩ := opt_rel h hf mx (fun y e => oN y (by subst e; simp [Op.operands]))
    refine Gives.does (s := Instr.sliceAt t (a.eval x) (lo.map a.eval) (hi.map a.eval) (mx.map a.eval)) ?_
    split at ho
    · rename_i ti hT
      split at ho
      · rename_i s hk e
        rw [e] at hx
        split at ho
        · rename_i l hh f hs
          split at ho
          · rename_i hmx
            simp only [Option.some.injEq, Prod.mk.injEq] at ho
            obtain ⟨rfl, rfl⟩ := ho
            exact gives_slice hE h hT hx a1 a2 b1 b2 c1 c2 (.inl ⟨s, l, hh, f, hk, rfl, by cases mx <;> simp_all, hs, rfl⟩)
          · cases ho
        · cases ho
      · rename_i el k es tok hk e
        rw [e] at hx
        split at ho
        · rename_i te l hh f hTe hs
          split at ho
          · cases ho
          · rename_i hkk
            simp only [Option.some.injEq, Prod.mk.injEq] at ho
            obtain ⟨rfl, rfl⟩ := ho
            refine gives_slice hE h hT hx a1 a2 b1 b2 c1 c2 (.inr (.inl ⟨el, te, k, es, tok, l, hh, f, hk, hTe, by simpa using hkk, rfl, hs, ?_⟩))
            cases tok <;> simp
        · cases ho
      · rename_i el id tot off len k hk e
        rw [e] at hx
        split at ho
        · rename_i te l hh f hTe hs
          split at ho
          · rename_i hkk
            simp only [Option.some.injEq, Prod.mk.injEq] at ho
            obtain ⟨rfl, rfl⟩ := ho
            exact gives_slice hE h hT hx a1 a2 b1 b2 c1 c2 (.inr (.inr (.inl ⟨el, te, id, tot, off, len, k, l, hh, f, hk, hTe, hkk, rfl, hs, rfl⟩)))
          · cases ho
        · cases ho
      · rename_i n el id tot off hk e
        rw [e] at hx
        split at ho
        · rename_i te cs l hh f hTe hst hs
          split at ho
          · rename_i hkk
            simp only [Option.some.injEq, Prod.mk.injEq] at ho
            obtain ⟨rfl, rfl⟩ := ho
            exact gives_slice hE h hT hx a1 a2 b1 b2 c1 c2 (.inr (.inr (.inr ⟨n, el, te, id, tot, off, cs, l, hh, f, hk, hTe, rfl, hst, hs, hkk.1, hkk.2, rfl⟩)))
          · cases ho
        · cases ho
      · cases ho
    · cases ho
  case fieldAddr s x f =>
    have hx := oO x (by simp [Op.operands])
    split at ho
    · rename_i fs _ _ hT
      split at ho
      · rename_i foff ft hf'
        split at ho
        · rename_i tf hTf
          split at ho
          · cases ho
          · rename_i hn
            split at ho
            · rename_i cs e
              simp only [Option.some.injEq, Prod.mk.injEq] at ho
              obtain ⟨rfl, rfl⟩ := ho
              rw [e] at hx
              exact (gives_fieldAddr hE h hT rfl hf' hTf hn hx (.inl ⟨cs, rfl, rfl⟩)).does
            · rename_i id tot off e
              simp only [Option.some.injEq, Prod.mk.injEq] at ho
              obtain ⟨rfl, rfl⟩ := ho
              rw [e] at hx
              exact (gives_fieldAddr hE h hT rfl hf' hTf hn hx (.inr ⟨id, tot, off, rfl, rfl⟩)).does
            · cases ho
        · cases ho
      · cases ho
    · cases ho
  case field t x f =>
    have hx := oO x (by simp [Op.operands])
    split at ho
    · rename_i fs _ _ hT
      split at ho
      · rename_i foff ft cs hf' e
        split at ho
        · rename_i tf hTf
          obtain ⟨p, hp, q⟩ := Option.map_eq_some_iff.1 ho
          simp only [Prod.mk.injEq] at q
          obtain ⟨rfl, rfl⟩ := q
          rw [e] at hx
          exact (gives_field hE h hT rfl hf' hTf hx hp).does
        · cases ho
      · cases ho
    · cases ho
  case indexAddr t x i =>
    have hx := oO x (by simp [Op.operands])
    have hi := oO i (by simp [Op.operands])
    split at ho
    · rename_i ti j hT hj
      split at ho
      · rename_i el k es tok hk e
        rw [e] at hx
        split at ho
        · rename_i te c hTe hc
          split at ho
          · rename_i hkk
            simp only [Option.some.injEq, Prod.mk.injEq] at ho
            obtain ⟨rfl, rfl⟩ := ho
            exact (gives_indexAddr hE h hT hx hi hj (.inl ⟨el, k, es, tok, c, hk, ⟨te, hTe, hkk⟩, rfl, hc, rfl⟩)).does
          · cases ho
        · cases ho
      · rename_i el id tot off len k hk e
        rw [e] at hx
        split at ho
        · rename_i te hTe
          split at ho
          · rename_i hkk
            simp only [Option.some.injEq, Prod.mk.injEq] at ho
            obtain ⟨rfl, rfl⟩ := ho
            exact (gives_indexAddr hE h hT hx hi hj (.inr (.inl ⟨el, te, id, tot, off, len, k, hk, hTe, hkk.2, rfl, hkk.1, rfl⟩))).does
          · cases ho
        · cases ho
      · rename_i n el cs hk e
        rw [e] at hx
        split at ho
        · rename_i te hTe
          split at ho
          · rename_i hkk
            simp only [Option.some.injEq, Prod.mk.injEq] at ho
            obtain ⟨rfl, rfl⟩ := ho
            exact (gives_indexAddr hE h hT hx hi hj (.inr (.inr (.inl ⟨n, el, te, cs, hk, hTe, rfl, hkk, rfl⟩)))).does
          · cases ho
        · cases ho
      · rename_i n el id tot off hk e
        rw [e] at hx
        split at ho
        · rename_i te hTe
          split at ho
          · rename_i hkk
            simp only [Option.some.injEq, Prod.mk.injEq] at ho
            obtain ⟨rfl, rfl⟩ := ho
            exact (gives_indexAddr hE h hT hx hi hj (.inr (.inr (.inr ⟨n, el, te, id, tot, off, hk, hTe, rfl, hkk, rfl⟩)))).does
          · cases ho
        · cases ho
      · cases ho
    · cases ho
  case index t x i =>
    have hx := oO x (by simp [Op.operands])
    have hi := oO i (by simp [Op.operands])
    split at ho
    · rename_i ti j hT hj
      split at ho
      · rename_i s hk e
        rw [e] at hx
        split at ho
        · rename_i b hb
          simp only [Option.some.injEq, Prod.mk.injEq] at ho
          obtain ⟨rfl, rfl⟩ := ho
          exact (gives_index hE h hT hx hi hj (.inl ⟨s, b, hk, rfl, hb, rfl⟩)).does
        · cases ho
      · rename_i n el cs hk e
        rw [e] at hx
        split at ho
        · rename_i te hTe
          split at ho
          · rename_i hkk
            obtain ⟨p, hp, q⟩ := Option.map_eq_some_iff.1 ho
            simp only [Prod.mk.injEq] at q
            obtain ⟨rfl, rfl⟩ := q
            exact (gives_index hE h hT hx hi hj (.inr ⟨n, el, te, cs, hk, hTe, rfl, hkk, hp⟩)).does
          · cases ho
        · cases ho
      · cases ho
    · cases ho
  case lookup t m k ok =>
    have hm := oO m (by simp [Op.operands])
    have hk := oO k (by simp [Op.operands])
    split at ho
    · rename_i tk tv _ _ hT
      split at ho
      · rename_i ik iv hTk hTv
        split at ho
        · rename_i hkk
          split at ho
          · rename_i es hes
            have hes' : evalO E fr m = .nilmap ∧ es = [] ∨ ∃ id, evalO E fr m = .map id ∧ st[id]? = some (.map es) := by
              unfold mapEs at hes
              split at hes
              · rename_i e; simp at hes; exact .inl ⟨e, hes⟩
              · rename_i id e
                split at hes
                · rename_i es' hst; simp at hes; subst hes; exact .inr ⟨id, e, hst⟩
                · cases hes
              · cases hes
            split at ho
            · rename_i i u hfind
              simp only [Option.some.injEq, Prod.mk.injEq] at ho
              obtain ⟨rfl, rfl⟩ := ho
              exact (gives_lookup hE h hT rfl hTk hTv hk hm hkk hes' hfind ok).does
            · rename_i hfind
              simp only [Option.some.injEq, Prod.mk.injEq] at ho
              obtain ⟨rfl, rfl⟩ := ho
              exact (gives_lookup hE h hT rfl hTk hTv hk hm hkk hes' hfind ok).does
            · cases ho
          · cases ho
        · cases ho
      · cases ho
    · cases ho
  case mapUpdate t m k x =>
    have hm := oO m (by simp [Op.operands])
    have hk := oO k (by simp [Op.operands])
    split at ho
    · rename_i tk tv _ _ hT
      have hx := oT tv x (by simp [Op.operands])
      split at ho
      · rename_i ik hTk
        split at ho
        · rename_i hkk
          split at ho
          · rename_i id e
            rw [e] at hm
            split at ho
            · rename_i es hst
              split at ho
              · rename_i i u hfind
                simp only [Option.some.injEq, Prod.mk.injEq] at ho
                obtain ⟨rfl, rfl⟩ := ho
                obtain ⟨w', e1, e2⟩ := gives_mapUpdate hE h hT rfl hTk hk hm hx hkk hst hfind
                exact does_unit e1 e2
              · rename_i hfind
                simp only [Option.some.injEq, Prod.mk.injEq] at ho
                obtain ⟨rfl, rfl⟩ := ho
                obtain ⟨w', e1, e2⟩ := gives_mapUpdate hE h hT rfl hTk hk hm hx hkk hst hfind
                exact does_unit e1 e2
              · cases ho
            · cases ho
          · cases ho
        · cases ho
      · cases ho
    · cases ho
  case range t x =>
    have hx := oO x (by simp [Op.operands])
    split at ho
    · rename_i tk tv _ _ hT
      split at ho
      · rename_i e
        rw [e] at hx
        simp only [Option.some.injEq, Prod.mk.injEq] at ho
        obtain ⟨rfl, rfl⟩ := ho
        exact (gives_range_nil hE h hT rfl hx).does
      · rename_i id e
        rw [e] at hx
        split at ho
        · rename_i es hst
          simp only [Option.some.injEq, Prod.mk.injEq] at ho
          obtain ⟨rfl, rfl⟩ := ho
          exact (gives_range hE h hT rfl hst hx).does
        · cases ho
      · cases ho
    · cases ho
  case entry x =>
    have hx := oO x (by simp [Op.operands])
    split at ho
    · rename_i i e
      rw [e] at hx
      split at ho
      · rename_i m n seen hi
        split at ho
        · rename_i es hm
          split at ho
          · rename_i hn
            split at ho
            · rename_i j hj
              split at ho
              · rename_i kp vp hes
                simp only [Option.some.injEq, Prod.mk.injEq] at ho
                obtain ⟨rfl, rfl⟩ := ho
                exact (gives_entry h hx hi hm hn hj hes).does
              · cases ho
            · cases ho
          · cases ho
        · cases ho
      · cases ho
    · cases ho
  case extract t i =>
    have ht := oO t (by simp [Op.operands])
    split at ho
    · rename_i vs e
      rw [e] at ht
      obtain ⟨p, hp, q⟩ := Option.map_eq_some_iff.1 ho
      simp only [Prod.mk.injEq] at q
      obtain ⟨rfl, rfl⟩ := q
      exact (gives_extract h ht hp).does
    · cases ho
  case call c =>
    obtain ⟨callee, args, argTypes⟩ := c
    cases callee <;> simp only at ho <;> try (cases ho; done)
    rename_i b
    split at ho
    · rename_i hsz
      have hl : ((args.toList.zip argTypes.toList).map fun q => evalT E q.2 fr q.1).length = (args.toList.map a.eval).length := by simp [hsz]
      have := callB_sound hE h hl (zip_rel (evalT E · fr ·) oT' args.toList argTypes.toList (by simpa using hsz) (fun x hx => oN x (by simp [Op.operands, Call.operands]; simpa using hx))) ho ty (args.map fun | .const _ => true | _ => false)
      have e : (execOp a.eval ⟨dst, .call ⟨.builtin b, args, argTypes⟩, ty, pos, after, guard⟩).run E.P w = (builtin b argTypes.toList.toArray ty (args.map fun | .const _ => true | _ => false) (args.toList.map a.eval).toArray).run E.P w := by
        have q : (args.toList.map a.eval).toArray = args.map a.eval := by apply Array.toList_inj.1; simp
        rw [q]
        simp [execOp, resolve, invoke, Sem.run_bind, Sem.run_pure]
        rfl
      rw [e]
      exact this
    · cases ho
  case build t parts =>
    have hparts : ∀ (j : Nat) (p : Nat × PV) (v : Nat × Value), (parts.toList.map fun q => (q.1, evalO E fr q.2))[j]? = some p → (parts.map fun q => (q.1, a.eval q.2))[j]? = some v → p.1 = v.1 ∧ VRel K ι st p.2 v.2 := by
      intro j p v hp hv
      rw [List.getElem?_map] at hp
      rw [Array.getElem?_map] at hv
      obtain ⟨x, hx, rfl⟩ := Option.map_eq_some_iff.1 hp
      obtain ⟨y, hy, rfl⟩ := Option.map_eq_some_iff.1 hv
      have : x = y := by simpa [hy] using hx.symm
      subst this
      refine ⟨rfl, oO x.2 ?_⟩
      simp only [Op.operands, List.mem_toArray, List.mem_map]
      exact ⟨x, by simpa using Array.mem_of_getElem? hy, rfl⟩
    split at ho
    · rename_i fs _ z hT
      split at ho
      · cases ho
      · rename_i hall
        obtain ⟨p, hp, q⟩ := Option.map_eq_some_iff.1 ho
        simp only [Prod.mk.injEq] at q
        obtain ⟨rfl, rfl⟩ := q
        exact (gives_build hE h hT _ _ (by simp) hparts (.inl ⟨fs, rfl, fun f hfm => List.all_eq_true.1 (by cases hb : fs.all fun f => (E.T f.2).isSome <;> simp_all) f hfm, hp⟩)).does
    · rename_i n e _ z hT
      split at ho
      · rename_i te hTe
        obtain ⟨p, hp, q⟩ := Option.map_eq_some_iff.1 ho
        simp only [Prod.mk.injEq] at q
        obtain ⟨rfl, rfl⟩ := q
        exact (gives_build hE h hT _ _ (by simp) hparts (.inr ⟨n, e, te, rfl, hTe, hp⟩)).does
      · cases ho
    · cases ho
  case buildSlice t len parts => exact opF_buildSlice hE h t len parts oT ho
end Go.Pv
end
section
namespace Go.Pv

/-- A call of the function enters its body. -/
def Enters (P : Program) (f : FuncId) : Prop := ∃ fn, P.funcs[f]? = some fn ∧ (fn.name == "runtime.NumGoroutine") = false ∧ fn.body.isNone = false

def ArgsRel (K : Know) (ι : Nat → Value) (st : Store) (ps : List PV) (vs : Array Value) : Prop :=
  ps.length = vs.size ∧ ∀ (i : Nat) (p : PV) (v : Value), ps[i]? = some p → vs[i]? = some v → VRel K ι st p v

/-- **A contract**: called with these, over this store, the function hands back this, and leaves that store. -/
def Spec (E : Env) (f : FuncId) (args : List PV) (st : Store) (v : PV) (st' : Store) : Prop :=
  Enters E.P f ∧ ∀ (K : Know) (ι : Nat → Value) (w : World) (vs : Array Value), Rel E.G K ι st w → ArgsRel K ι st args vs →
    Calls E.P f vs w fun e w' => ∃ (K' : Know) (ι' : Nat → Value) (rv : Value), e = .returned rv ∧ Stp E.G K ι st w K' ι' st' w' ∧ VRel K' ι' st' v rv

/-- **A plain contract**: no store on either side. -/
def Plain (E : Env) (f : FuncId) (args : List PV) (v : PV) : Prop :=
  Enters E.P f ∧ ∀ (K : Know) (w : World) (vs : Array Value), Rel E.G K (fun _ => undef) [] w → (args.length = vs.size ∧ ∀ (i : Nat) (p : PV) (u : Value), args[i]? = some p → vs[i]? = some u → TRel K p u) →
    Calls E.P f vs w fun e w' => ∃ (K' : Know) (rv : Value), e = .returned rv ∧ Stp E.G K (fun _ => undef) [] w K' (fun _ => undef) [] w' ∧ TRel K' v rv

/-- A round of the range over a function whose record is object 'l'. -/
def YSpec (E : Env) (l : Nat) (args : List PV) (st : Store) (v : PV) (st' : Store) : Prop :=
  ∀ (K : Know) (ι : Nat → Value) (w : World) (vs : Array Value) (b : Nat), Rel E.G K ι st w → ArgsRel K ι st args vs → ι l = .pointer (some ⟨b, 0, none⟩) → l < st.length →
    ∃ fn tmps asg body, (Instr.yield b vs).run E.P w = .ok (.round b fn tmps asg body) w ∧
      RoundIn Fence.wide 0 E.P b fn tmps asg body w fun e w' => ∃ (K' : Know) (ι' : Nat → Value) (rv : Value), e = .returned rv ∧ Stp E.G K ι st w K' ι' st' w' ∧ VRel K' ι' st' v rv

/-- With nothing in the store, nothing is owned. -/
theorem Rel.none {G K ι st w} (h : Rel G K ι st w) (ι' : Nat → Value) : Rel G K ι' [] w :=
  ⟨h.know, h.glob, fun id o e => by simp at e, fun i j b hi => by simp at hi, h.gsz, fun _ _ _ ⟨id, h, _⟩ => by simp at h⟩
theorem not_owned_nil {ι : Nat → Value} {b : Nat} : ¬ Owned ι [] b := fun ⟨id, h, _⟩ => by simp at h

/-- What is done beside the store leaves the store as it was. -/
theorem Stp.beside {G K ι st w K' ι' ι'' w'} (h : Rel G K ι st w) (s : Stp G K ι' [] w K' ι'' [] w') : Stp G K ι st w K' ι st w' := by
  have hx : Ext K ι st K' ι st := ⟨s.ext.know, Nat.le_refl _, fun id o e => ⟨o, e, Ob.le_refl _ _⟩⟩
  have own_lt : ∀ b, Owned ι st b → b < w.heap.size := fun b hb => h.owned_lt hb
  refine ⟨⟨s.rel.know, s.rel.glob, fun id o e => ?_, h.apart, s.rel.gsz, h.gown⟩, hx, s.os, s.tape, s.output, s.size, fun b hb _ => s.block b hb not_owned_nil, fun b hb _ => hb, fun a v e => ?_⟩
  · have hid : id < st.length := (List.getElem?_eq_some_iff.1 e).1
    refine (h.obj id o e).carry hx (fun b hb => s.block b (own_lt b ⟨id, hid, hb⟩) not_owned_nil) (fun b hb j hj => ?_)
    cases hk : K' ⟨b, j, none⟩ with
    | none => rfl
    | some v =>
      rcases s.fresh _ _ hk with q | q | q
      · rw [hj] at q; cases q
      · exact absurd (own_lt b ⟨id, hid, hb⟩) (by simpa using q)
      · exact absurd q not_owned_nil
  · rcases s.fresh a v e with q | q | q
    · exact .inl q
    · exact .inr (.inl q)
    · exact absurd q not_owned_nil

/-- A value without references: read with nothing of the store. -/
theorem strip1_rel {K ι st} {p q : PV} {v : Value} (h : VRel K ι st p v) (e : strip1 p = some q) : TRel K q v := by
  have cell : ∀ (p : PV) (v : Value), VRel K ι st p v → cellOk (tokRo p) = true → TRel K (tokRo p) v := fun p v h hc => share_cell h hc
  unfold strip1 at e
  split at e
  · rename_i cs
    obtain ⟨cs', hs, rfl⟩ := Option.map_eq_some_iff.1 e
    unfold share at hs
    split at hs
    · rename_i hall
      cases hs
      obtain ⟨vs, rfl, hl, h1, hr⟩ := h.aggV
      refine .agg _ vs (by simpa using hl) h1 (fun i p v hp hv => ?_)
      rw [List.getElem?_map] at hp
      obtain ⟨p0, hp0, rfl⟩ := Option.map_eq_some_iff.1 hp
      rw [List.all_eq_true] at hall
      exact cell p0 v (hr i p0 v hp0 hv) (hall _ (List.mem_map.2 ⟨p0, List.mem_of_getElem? hp0, rfl⟩))
    · cases hs
  · cases e
    cases h with | tree _ _ h => exact h
  · split at e
    · rename_i hc
      cases e
      exact cell p v h hc
    · cases e

theorem strips_rel {K ι st} : ∀ (ps qs : List PV), strips ps = some qs → qs.length = ps.length ∧ ∀ (i : Nat) (q : PV), qs[i]? = some q → ∃ p, ps[i]? = some p ∧ ∀ v, VRel K ι st p v → TRel K q v
  | [], qs, h => by simp [strips] at h; subst h; simp
  | p :: ps, qs, h => by
    unfold strips at h
    split at h
    · rename_i q qs' h1 h2
      cases h
      obtain ⟨l, r⟩ := strips_rel ps qs' h2
      refine ⟨by simp [l], fun i x hx => ?_⟩
      cases i with
      | zero => simp at hx; subst hx; exact ⟨p, rfl, fun v hv => strip1_rel hv h1⟩
      | succ i => simpa using r i x (by simpa using hx)
    · cases h

theorem Plain.spec {E : Env} {f : FuncId} {args xs : List PV} {v : PV} (h : Plain E f xs v) (hs : strips args = some xs) (st : Store) : Spec E f args st v st := by
  refine ⟨h.1, fun K ι w vs hr ha => ?_⟩
  obtain ⟨l, r⟩ := strips_rel (K := K) (ι := ι) (st := st) args xs hs
  refine Calls.mono (h.2 K w vs (hr.none _) ⟨by rw [l]; exact ha.1, fun i p u hp hu => ?_⟩) (fun e w' q => ?_)
  · obtain ⟨p0, hp0, hq⟩ := r i p hp
    exact hq u (ha.2 i p0 u hp0 hu)
  · obtain ⟨K', rv, e1, s, t⟩ := q
    exact ⟨K', ι, rv, e1, s.beside hr, .tree _ _ t⟩

/-! ### Operations, calls and all -/

def callArgs (E : Env) (fr : Fr) (c : Call) : List PV := (c.args.toList.zip c.argTypes.toList).map fun q => evalT E q.2 fr q.1

/-- A call's plain meaning. -/
def CallR (E : Env) (fr : Fr) (st : Store) (g : Operand) (c : Call) (v : PV) (st' : Store) : Prop :=
  c.args.size = c.argTypes.size ∧
  match evalO E fr g with
  | .fn f caps => if E.pl f then (caps = [] ∧ st' = st ∧ ∃ xs, strips (callArgs E fr c) = some xs ∧ Plain E f xs v) else Spec E f (callArgs E fr c ++ caps) st v st'
  | .yld l => YSpec E l (callArgs E fr c) st v st'
  | _ => False

/-- One operation's plain meaning. -/
def StepR (E : Env) (fr : Fr) (st : Store) (o : Oper) (v : PV) (st' : Store) : Prop :=
  match o.op with
  | .call c => (match c.callee with
    | .value g => CallR E fr st g c v st'
    | _ => opF E o.type fr st o.op = some (v, st'))
  | op => opF E o.type fr st op = some (v, st')

def guardF (ops : Array Oper) (fr : Fr) (o : Oper) : Option Bool :=
  match o.guard with
  | none => some true
  | some (j, b) => match (ops[j]?).bind (·.dst) with
    | none => some false
    | some t => match fr t with
      | .bool c => some (c == b)
      | .tup [] => some false
      | _ => none

/-- A test, and what hangs on it: looked at once the test is decided. -/
def Br (b : Bool) (A B : Prop) : Prop := (b = true → A) ∧ (b = false → B)
@[congr] theorem Br_congr {b b' : Bool} {A B : Prop} (h : b = b') : Br b A B = Br b' A B := by rw [h]
@[simp] theorem Br_true {A B : Prop} : Br true A B = A := by simp [Br]
@[simp] theorem Br_false {A B : Prop} : Br false A B = B := by simp [Br]
theorem Br.mk {b : Bool} {A B : Prop} (h : b = true → A) (h' : b = false → B) : Br b A B := And.intro h h'

/-- Has the operation more than one outcome: a range's step, a slice compared with nil? -/
def isNext : Op → Bool
  | .next .. => true
  | .binOp .eql _ _ (.const (.slice none 0 0)) _ => true
  | .binOp .neq _ _ (.const (.slice none 0 0)) _ => true
  | _ => false
/-- An operation, and what is asked behind it: of a range's step, at each entry that it may meet. -/
def StepW (E : Env) (fr : Fr) (st : Store) (o : Oper) (k : PV → Store → Prop) : Prop :=
  if isNext o.op = true then NextW E fr st o.op k else ∃ v st', StepR E fr st o v st' ∧ k v st'
theorem StepW.mono {E fr st o} {k k' : PV → Store → Prop} (h : ∀ v st, k v st → k' v st) (q : StepW E fr st o k) : StepW E fr st o k' := by
  unfold StepW at q ⊢
  split at q
  · rename_i e; rw [if_pos e]; exact q.mono h
  · rename_i e; rw [if_neg e]; obtain ⟨v, st', a, b⟩ := q; exact ⟨v, st', a, h _ _ b⟩
theorem stepW_other {E fr st} {o : Oper} {k : PV → Store → Prop} (h : isNext o.op = false) : StepW E fr st o k = ∃ v st', StepR E fr st o v st' ∧ k v st' := by
  unfold StepW
  rw [if_neg (by rw [h]; simp)]

/-- The operations of a region, in the order of the text. -/
def OpsW (E : Env) (ops : Array Oper) : List Oper → Fr → Store → (Fr → Store → Prop) → Prop
  | [], fr, st, K => K fr st
  | o :: rest, fr, st, K => match guardF ops fr o with
    | some g => Br g (StepW E fr st o fun v st' => OpsW E ops rest (upd fr o.dst v) st' K) (OpsW E ops rest (upd fr o.dst (.tup [])) st K)
    | none => False

theorem OpsW.mono {E : Env} {ops : Array Oper} {K K' : Fr → Store → Prop} (hk : ∀ fr st, K fr st → K' fr st) : ∀ (l : List Oper) (fr : Fr) (st : Store), OpsW E ops l fr st K → OpsW E ops l fr st K'
  | [], fr, st, h => hk _ _ h
  | o :: rest, fr, st, h => by
    unfold OpsW at h ⊢
    split at h
    · refine Br.mk (fun hg => ?_) (fun hg => OpsW.mono hk rest _ _ (h.2 hg))
      exact (h.1 hg).mono fun v st' b => OpsW.mono hk rest _ _ b
    · exact h.elim

def FenceOk (F : Fence) : Prop := F = Fence.wide ∨ ∃ l, F = Fence.wide.inRound l
theorem FenceOk.fn {F : Fence} (h : FenceOk F) (f : FuncId) : F.fn f := by
  rcases h with rfl | ⟨l, rfl⟩ <;> trivial
theorem FenceOk.depth {F : Fence} (h : FenceOk F) : F.depth = none := by
  rcases h with rfl | ⟨l, rfl⟩ <;> rfl
theorem FenceOk.calls {F : Fence} (h : FenceOk F) {n : Nat} {P f args w R} (c : Calls P f args w R) : CallsIn F n P f args w R := by
  rcases h with rfl | ⟨l, rfl⟩
  · exact callsIn_wide.2 c
  · exact CallsIn.inRound l (callsIn_wide.2 c)

theorem run_callFunc {P : Program} {f : FuncId} (h : Enters P f) (args : Array Value) (w : World) : (callFunc f args).run P w = .ok (.enter f args) w := by
  obtain ⟨fn, h1, h2, h3⟩ := h
  have h2' : ¬ fn.name = "runtime.NumGoroutine" := by simpa using h2
  cases hb : fn.body with
  | none => rw [hb] at h3; cases h3
  | some c => simp [callFunc, Sem.run_bind, run_program, h1, h2', hb, Sem.run_pure]

theorem FenceOk.round {F : Fence} (h : FenceOk F) {n : Nat} {P l f tmps asg body w R} (c : RoundIn Fence.wide 0 P l f tmps asg body w R) : RoundIn F n P l f tmps asg body w R := by
  refine ⟨h.fn _, fun c' cs _ => ?_⟩
  obtain ⟨e, w', hR, s⟩ := c.2 c' cs (room_wide _)
  refine ⟨e, w', hR, ?_⟩
  rcases h with rfl | ⟨l, rfl⟩ <;> exact s

theorem callArgs_rel {E : Env} {K ι st w fr} {a : Act} (h : Rel E.G K ι st w) (hf : FrRel K ι st fr a.tmps) {c : Call} (hsz : c.args.size = c.argTypes.size) (hin : ∀ x ∈ c.args, opdIn a.tmps.size x = true) :
    ArgsRel K ι st (callArgs E fr c) (c.args.map a.eval) := by
  refine ⟨by simp [callArgs, hsz], fun i p v hp hv => ?_⟩
  refine zip_rel (evalT E · fr ·) (fun t x hx => evalT_rel h hf t x hx) c.args.toList c.argTypes.toList (by simpa using hsz) (fun x hx => hin x (by simpa using hx)) i p v hp ?_
  rw [← hv, Array.getElem?_map, List.getElem?_map]
  simp

theorem stepR_sound {E : Env} (hE : EnvOk E) {F : Fence} (hF : FenceOk F) {n : Nat} {K ι st w fr} {a : Act} (h : Rel E.G K ι st w) (hf : FrRel K ι st fr a.tmps) {o : Oper} (hin : opIn a.tmps.size o.op = true) {v : PV} {st' : Store}
    (ho : StepR E fr st o v st') {next : Act → World → Prop} {Q : Exit → Act → World → Prop}
    (hk : ∀ (K' : Know) (ι' : Nat → Value) (w' : World) (rv : Value), Stp E.G K ι st w K' ι' st' w' → VRel K' ι' st' v rv → next (a.put o.dst rv) w') : o.wpIn F n E.P a w next Q := by
  have nd : ∀ c, o.op ≠ .defer c := by
    intro c e
    unfold StepR at ho
    rw [e] at ho
    simp [opF] at ho
  refine ⟨fun f _ => hF.fn f, ?_⟩
  rw [Oper.semAt_eq _ _ _ nd]
  have plainOp : opF E o.type fr st o.op = some (v, st') → o.uponIn F n E.P a next Q ((execOp a.eval o).run E.P w) := by
    intro e
    obtain ⟨K', ι', w', nx, rv, e1, e2, s, r⟩ := opF_sound hE h hf hin e
    rw [e1]
    rcases e2 with rfl | ⟨rfl, rfl⟩
    · exact hk K' ι' w' rv s r
    · exact hk K' ι' w' _ s r
  unfold StepR at ho
  split at ho
  · rename_i c hop
    split at ho
    · rename_i g hcal
      obtain ⟨hsz, ho⟩ := ho
      obtain ⟨callee, args, argTypes⟩ := c
      simp only at hcal
      subst hcal
      have hops : o.op.operands = #[g] ++ args := by rw [hop]; rfl
      have hg := evalO_rel h hf g (opIn_mem hin (by rw [hops]; simp))
      have hargs := callArgs_rel (E := E) h hf (c := ⟨.value g, args, argTypes⟩) hsz (fun x hx => opIn_mem hin (by rw [hops]; simp at hx ⊢; exact .inr hx))
      have hexec : execOp a.eval o = (do let d ← resolve a.eval ⟨.value g, args, argTypes⟩ o.type; invoke d.target d.args) := by unfold execOp; rw [hop]
      have enter : ∀ f (caps : Array Value) (w0 : World), a.eval g = .func (.func f) #[] caps → Enters E.P f → (execOp a.eval o).run E.P w0 = .ok (.enter f (args.map a.eval ++ caps)) w0 := by
        intro f caps w0 e he
        rw [hexec]
        simp [Sem.run_bind, resolve, Deferred.ofValue, e, invoke, Sem.run_pure, run_callFunc he]
      split at ho
      · rename_i f caps he
        rw [he] at hg
        obtain ⟨vcs, e1, hcl, hcr⟩ : ∃ vs, a.eval g = .func (.func f) #[] vs ∧ caps.length = vs.size ∧ ∀ (i : Nat) (p : PV) (v : Value), caps[i]? = some p → vs[i]? = some v → VRel K ι st p v := by
          generalize a.eval g = z at hg ⊢
          cases hg with
          | tree _ _ q => cases q; exact ⟨_, rfl, rfl, fun i p v hp => by simp at hp⟩
          | fn _ _ vs hl hr => exact ⟨vs, rfl, hl, hr⟩
        have go : Spec E f (callArgs E fr ⟨.value g, args, argTypes⟩ ++ caps) st v st' → o.uponIn F n E.P a next Q ((execOp a.eval o).run E.P w) := by
          intro hs
          rw [enter f vcs w e1 hs.1]
          refine ⟨fun q => by rw [hF.depth] at q; simp at q, hF.calls ((hs.2 K ι w _ h ⟨?_, fun i p u hp hu => ?_⟩).mono fun e w' q => ?_)⟩
          · rw [List.length_append, Array.size_append, hargs.1, hcl]
          · by_cases hi : i < (args.map a.eval).size
            · rw [Array.getElem?_append_left hi] at hu
              rw [List.getElem?_append_left (by rw [hargs.1]; exact hi)] at hp
              exact hargs.2 i p u hp hu
            · rw [Array.getElem?_append_right (by omega)] at hu
              rw [List.getElem?_append_right (by rw [hargs.1]; simpa using hi), hargs.1] at hp
              exact hcr _ p u hp hu
          · obtain ⟨K', ι', rv, rfl, s, r⟩ := q
            exact hk K' ι' w' rv s r
        split at ho
        · obtain ⟨rfl, rfl, xs, hx, hp⟩ := ho
          exact go (by rw [List.append_nil]; exact hp.spec hx _)
        · exact go ho
      · rename_i l he
        rw [he] at hg
        obtain ⟨b, e1, e2, hlt⟩ : ∃ b, a.eval g = .func (.yield b) #[] #[] ∧ ι l = .pointer (some ⟨b, 0, none⟩) ∧ l < st.length := by
          generalize a.eval g = z at hg ⊢
          cases hg with
          | tree _ _ q => cases q
          | yld _ b fr ps asg body nt r pd hst hb => exact ⟨b, rfl, hb, (List.getElem?_eq_some_iff.1 hst).1⟩
        obtain ⟨fn, tmps, asg, body, e3, e4⟩ := ho K ι w _ b h hargs e2 hlt
        have : (execOp a.eval o).run E.P w = .ok (.round b fn tmps asg body) w := by
          rw [hexec]
          simp only [Sem.run_bind, resolve, Deferred.ofValue, e1, Sem.run_pure, Result.andThen_ok, invoke]
          simpa using e3
        rw [this]
        refine ⟨fun q => by rw [hF.depth] at q; simp at q, hF.round (RoundIn.mono e4 fun e w' q => ?_)⟩
        obtain ⟨K', ι', rv, rfl, s, r⟩ := q
        exact hk K' ι' w' rv s r
      · exact ho.elim
    · exact plainOp (by rw [hop] at ho ⊢; exact ho)
  · exact plainOp ho

end Go.Pv
end
