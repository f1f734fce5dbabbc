/-
  The pure machine, part F: that the operations on plain values are the model's own (2): memory.
-/
import Derived.Test.YtbfmlkdpeaeblaaPvE
set_option linter.all false
set_option linter.unusedSimpArgs false
set_option linter.unusedVariables false
namespace Go.Pv

section
variable {P : Program} {t : TypeId} {ti : TI} {d : TypeDesc} {i : TypeInfo}

theorem TyFacts.row (h : TyFacts P t ti d i) : d.isRow = ti.agg := by
  have hk := h.hk
  unfold TI.agg
  unfold kindOk at hk
  split at hk <;> simp_all

theorem TyFacts.load (h : TyFacts P t ti d i) (b o : Nat) (cs : List Value) (w : World) (hl : cs.length = ti.size) (hc : ∀ (j : Nat) (v : Value), cs[j]? = some v → w.cell? ⟨b, o + j, none⟩ = some v) :
    (Instr.loadAt t (.pointer (some ⟨b, o, none⟩))).run P w = .ok (if ti.agg then .agg cs.toArray else cs.headD undef) w := by
  by_cases ha : ti.agg = true
  · rw [if_pos ha]
    exact run_loadAt_mid w b o t cs d hc h.hu (by rw [h.row, ha]) (by rw [h.hi]; simp [h.hs, hl])
  · rw [if_neg ha]
    have ha' : ti.agg = false := by simpa using ha
    have h1 := h.h1 ha'
    obtain ⟨v, rfl⟩ : ∃ v, cs = [v] := by
      match cs, hl with
      | [], e => simp [h1] at e
      | [v], _ => exact ⟨v, rfl⟩
      | _ :: _ :: _, e => simp [h1] at e
    have hv := hc 0 v rfl
    simp only [Instr.loadAt, Instr.sureAddr, Sem.run_bind, Sem.run_pure, Result.andThen_ok, loadVar, h.isAgg w, ha', Bool.false_eq_true, if_false, run_load, List.headD_cons]
    simp only [Nat.add_zero] at hv
    rw [hv]

theorem headD_get {α : Type} (cs : List α) (x : α) (a : α) (h : cs[0]? = some a) : cs.headD x = a := by
  cases cs with
  | nil => simp at h
  | cons y ys => simpa using h
end

theorem fun_list (f : Nat → Value) (n : Nat) (j : Nat) (v : Value) (h : ((List.range n).map f)[j]? = some v) : j < n ∧ v = f j := by
  simp only [List.getElem?_map, Option.map_eq_some_iff] at h
  obtain ⟨q, e, rfl⟩ := h
  have hq := List.getElem?_eq_some_iff.1 e
  obtain ⟨hlt, hq⟩ := hq
  simp at hlt hq
  subst hq
  exact ⟨hlt, rfl⟩

theorem drop_take_get {α : Type} (cs : List α) (off n j : Nat) (h : j < n) : ((cs.drop off).take n)[j]? = cs[off + j]? := by
  rw [List.getElem?_take_of_lt h, List.getElem?_drop]

/-- It gives this, and the world is as it was. -/
def GivesP (K : Know) (ι : Nat → Value) (st : Store) (w : World) (r : Result Value) (v : PV) : Prop := ∃ rv, r = .ok rv w ∧ VRel K ι st v rv
theorem GivesP.mk {K ι st w} {v : PV} {rv : Value} (h : VRel K ι st v rv) : GivesP K ι st w (.ok rv w) v := ⟨rv, rfl, h⟩

/-- A load. -/
theorem load_gives {E : Env} (hE : EnvOk E) {K ι st w} (h : Rel E.G K ι st w) {t : TypeId} {te : TI} (hT : E.T t = some te) (b o : Nat) (f : Nat → Value) (cs : List PV) (off : Nat) (v : PV)
    (hv : partF te cs off = some v) (hc : ∀ j : Nat, j < cs.length → w.cell? ⟨b, o + j, none⟩ = some (f j)) (h1 : ∀ j, j < cs.length → (f j).oneCell' = true)
    (hr : ∀ (j : Nat) (p : PV), cs[j]? = some p → VRel K ι st p (f j)) : GivesP K ι st w ((Instr.loadAt t (.pointer (some ⟨b, o + off, none⟩))).run E.P w) v := by
  obtain ⟨d, i, ty⟩ := hE.ty hT
  unfold partF at hv
  by_cases ha : te.agg = true
  · rw [if_pos ha] at hv
    split at hv
    · rename_i hfit
      injection hv with hv
      subst hv
      have hl := ty.load b (o + off) ((List.range te.size).map fun j => f (off + j)) w (by simp) (fun j v hj => by
        obtain ⟨hlt, rfl⟩ := fun_list _ _ _ _ hj
        rw [Nat.add_assoc]
        exact hc _ (by omega))
      rw [hl, if_pos ha]
      refine GivesP.mk (.agg _ _ (by simp; omega) (fun j v hj => ?_) (fun j p v hp hj => ?_))
      · rw [List.getElem?_toArray] at hj
        obtain ⟨hlt, rfl⟩ := fun_list _ _ _ _ hj
        exact h1 _ (by omega)
      · rw [List.getElem?_toArray] at hj
        obtain ⟨hlt, rfl⟩ := fun_list _ _ _ _ hj
        rw [drop_take_get _ _ _ _ hlt] at hp
        exact hr _ _ hp
    · cases hv
  · have ha' : te.agg = false := by simpa using ha
    rw [if_neg ha] at hv
    have hlt : off < cs.length := (List.getElem?_eq_some_iff.1 hv).1
    have hl := ty.load b (o + off) [f off] w (by simp [ty.h1 ha']) (fun j v hj => by
      match j, hj with
      | 0, hj => simp at hj; subst hj; exact hc _ hlt)
    rw [hl, if_neg ha]
    exact GivesP.mk (hr _ _ hv)

theorem load_pure {E : Env} (hE : EnvOk E) {K ι st w} (h : Rel E.G K ι st w) {t : TypeId} {te : TI} (hT : E.T t = some te) {x : PV} {a : Value} (ha : VRel K ι st x a) {v : PV} {st' : Store}
    (ho : (match x with
      | .rptr cs => (partF te cs 0).map fun v => (v, st)
      | .optr id tot off => (match st[id]? with
        | some (.cells cs) => if tot = cs.length then (partF te cs off).map fun v => (v, st) else none
        | _ => none)
      | _ => none) = some (v, st')) : st' = st ∧ GivesP K ι st w ((Instr.loadAt t a).run E.P w) v := by
  cases x with
  | rptr cs =>
    obtain ⟨v', hv, e⟩ := Option.map_eq_some_iff.1 ho
    injection e with e1 e2
    subst e1 e2
    obtain ⟨b, off, f, rfl, hK, h1, hr⟩ := ha.rptrV
    exact ⟨rfl, load_gives hE h hT b off f cs 0 v' hv (fun j hj => h.know _ _ (hK j hj)) (fun j _ => h1 j) (fun j p hp => .tree _ _ (hr j p hp))⟩
  | optr id tot off =>
    simp only at ho
    split at ho
    · rename_i cs hst
      split at ho
      · rename_i htot
        obtain ⟨v', hv, e⟩ := Option.map_eq_some_iff.1 ho
        injection e with e1 e2
        subst e1 e2
        cases ha with
        | tree _ _ q => cases q
        | optr _ _ _ a cs' hst' hle heq =>
          rw [hst] at hst'
          injection hst' with hst'
          injection hst' with hst'
          subst hst'
          obtain ⟨b, s, hh, rfl⟩ := heq htot
          obtain ⟨b', arr, e, hh', hw, hl, hcs, hn⟩ := h.obj id _ hst
          rw [hh] at hh'
          injection hh' with q1 _ q3
          injection q1 with q1
          injection q1 with q1
          subst q1
          have get : ∀ j, j < cs.length → ∃ x, arr[j]? = some x := fun j hj => ⟨_, Array.getElem?_eq_getElem (by omega)⟩
          have := load_gives hE h hT b 0 (fun j => (arr[j]?).getD undef) cs off v' hv (fun j hj => by
              obtain ⟨x, hx⟩ := get j hj
              simp [World.cell?, hw, hx]) (fun j hj => by
              obtain ⟨p, hp⟩ : ∃ p, cs[j]? = some p := ⟨_, List.getElem?_eq_getElem hj⟩
              obtain ⟨v, a1, a2, a3⟩ := hcs j p hp
              rw [a1]; exact a3) (fun j p hp => by
              obtain ⟨v, a1, a2, a3⟩ := hcs j p hp
              rw [a1]; exact a2)
          exact ⟨rfl, by simpa using this⟩
      · cases ho
    · cases ho
  | _ => cases ho

theorem gives_load {E : Env} (hE : EnvOk E) {K ι st w} (h : Rel E.G K ι st w) {t : TypeId} {te : TI} (hT : E.T t = some te) {x : PV} {a : Value} (ha : VRel K ι st x a) {v : PV} {st' : Store}
    (ho : (match x with
      | .rptr cs => (partF te cs 0).map fun v => (v, st)
      | .optr id tot off => (match st[id]? with
        | some (.cells cs) => if tot = cs.length then (partF te cs off).map fun v => (v, st) else none
        | _ => none)
      | _ => none) = some (v, st')) : Gives E.G K ι st w ((Instr.loadAt t a).run E.P w) v st' := by
  obtain ⟨rfl, rv, e, r⟩ := load_pure hE h hT ha ho
  rw [e]
  exact Gives.pure h r

theorem TyFacts.storeV {P t ti d i} (h : TyFacts P t ti d i) (v : Value) (hs : v.cells.size = ti.size) (b o : Nat) (e : TypeId) (arr : Array Value) (w : World) (hw : w.heap[b]? = some (.cells arr e (0, 0)))
    (hfit : o + v.cells.size ≤ arr.size) (h1 : ∀ u ∈ v.cells.toList, u.oneCell' = true) :
    (Instr.storeAt t (.pointer (some ⟨b, o, none⟩)) v).run P w = .ok () (w.setRow b (arr.toList.take o ++ v.cells.toList ++ arr.toList.drop (o + v.cells.toList.length)).toArray) := by
  have hst := run_storeCells_at P b o e v.cells.toList 0 arr w hw (by simpa using hfit) h1
  simp only [Nat.add_zero] at hst
  have hn : ¬ (v.cells.size ≠ ti.size) := by simp [hs]
  simp only [Instr.storeAt, Instr.sureAddr, Sem.run_bind, Sem.run_pure, Result.andThen_ok, storeVar, h.sizeOf w, if_neg hn]
  exact hst

/-- The cells of a value. -/
theorem VRel.cellsV {K ι st p v} (h : VRel K ι st p v) (hs : scal p = true ∨ ∃ cs, p = .agg cs) : (cellsOf p).length = v.cells.size ∧ (∀ u ∈ v.cells.toList, u.oneCell' = true) ∧
    ∀ (i : Nat) (q : PV) (u : Value), (cellsOf p)[i]? = some q → v.cells.toList[i]? = some u → VRel K ι st q u := by
  rcases hs with hs | ⟨cs, rfl⟩
  · obtain ⟨h1, h2⟩ := h.one hs
    have : cellsOf p = [p] := by cases p <;> simp_all [scal, cellsOf]
    rw [this, h2]
    refine ⟨rfl, by simpa using h1, fun i q u hq hu => ?_⟩
    match i, hq, hu with
    | 0, hq, hu => simp at hq hu; subst hq hu; exact h
  · obtain ⟨vs, rfl, hl, h1, hr⟩ := h.aggV
    refine ⟨hl, fun u hu => ?_, fun i q u hq hu => hr i q u hq (by simpa [Value.cells] using hu)⟩
    obtain ⟨j, hj⟩ := List.mem_iff_getElem?.1 hu
    exact h1 j u (by simpa [Value.cells] using hj)

theorem gives_store {E : Env} (hE : EnvOk E) {K ι st w} (h : Rel E.G K ι st w) {t : TypeId} {te : TI} (hT : E.T t = some te) {id tot off : Nat} {a : Value} (ha : VRel K ι st (.optr id tot off) a) {p : PV} {v : Value}
    (hp : VRel K ι st p v) {cs : List PV} (hst : st[id]? = some (.cells cs)) (htot : tot = cs.length) (hfit : off + te.size ≤ tot) (hl : (cellsOf p).length = te.size) (hs : scal p = true ∨ ∃ cs, p = .agg cs) :
    ∃ w', (Instr.storeAt t a v).run E.P w = .ok () w' ∧ Stp E.G K ι st w K ι (st.set id (.cells (splice cs off (cellsOf p)))) w' := by
  obtain ⟨d, i, ty⟩ := hE.ty hT
  obtain ⟨l1, o1, r1⟩ := hp.cellsV hs
  obtain ⟨b, arr, e, hh, hw, hf, stp⟩ := Stp.store h id cs hst off (cellsOf p) v.cells.toList (by simpa using l1) (by omega) o1 r1
  cases ha with
  | tree _ _ q => cases q
  | optr _ _ _ a cs' hst' hle heq =>
    rw [hst] at hst'
    injection hst' with hst'
    injection hst' with hst'
    subst hst'
    obtain ⟨b', s, hh', rfl⟩ := heq htot
    rw [hh] at hh'
    injection hh' with q1 _ q3
    injection q1 with q1
    injection q1 with q1
    subst q1
    exact ⟨_, ty.storeV v (by omega) b off e arr w hw (by simpa using hf) o1, stp⟩

/-- New cells: a variable. -/
theorem Stp.newCells {G K ι st w} (h : Rel G K ι st w) (cs : List PV) (vs : Array Value) (e : TypeId) (hl : cs.length = vs.size) (h1 : ∀ (j : Nat) (v : Value), vs[j]? = some v → v.oneCell' = true)
    (hr : ∀ (j : Nat) (p : PV) (v : Value), cs[j]? = some p → vs[j]? = some v → VRel K ι st p v) :
    Stp G K ι st w K (ins ι st.length (.slice (some ⟨w.heap.size, 0, none⟩) 0 vs.size)) (st ++ [.cells cs]) (w.alloc (.cells vs e)) ∧
    VRel K (ins ι st.length (.slice (some ⟨w.heap.size, 0, none⟩) 0 vs.size)) (st ++ [.cells cs]) (.optr st.length cs.length 0) (.pointer (some ⟨w.heap.size, 0, none⟩)) := by
  refine ⟨Stp.newOb h (.cells cs) _ _ rfl (fun x hno => ⟨w.heap.size, vs, e, rfl, heap_alloc_new w _, by omega, fun j p hp => ?_, hno⟩),
    .optr _ _ _ _ cs (by simp) (Nat.le_refl _) (fun _ => ⟨w.heap.size, vs.size, by rw [ins_same], rfl⟩)⟩
  have hj : j < vs.size := by rw [← hl]; exact (List.getElem?_eq_some_iff.1 hp).1
  have e1 : vs[j]? = some vs[j] := Array.getElem?_eq_getElem hj
  exact ⟨_, e1, (hr j p _ hp e1).mono x, h1 j _ e1⟩

theorem run_newVar {P : Program} (t : TypeId) (v : Value) (w : World) : (newVar t v).run P w = .ok ⟨w.heap.size, 0, none⟩ (w.alloc (.cells v.cells t)) := by
  simp [newVar, newRow]

theorem gives_alloc {E : Env} (hE : EnvOk E) {K ι st w} (h : Rel E.G K ι st w) {t : TypeId} {te : TI} (hT : E.T t = some te) :
    Gives E.G K ι st w ((Instr.alloc t true (.tuple #[])).run E.P w) (.optr st.length te.size 0) (st ++ [.cells te.zero]) := by
  obtain ⟨d, i, ty⟩ := hE.ty hT
  obtain ⟨z, hz, hs, hl, hr, _, _⟩ := ty.hz
  obtain ⟨s1, s2⟩ := Stp.newCells h te.zero z.cells t (by omega) (fun j v hj => by
    have hj' : j < te.zero.length := by rw [hl, ← hs]; exact (Array.getElem?_eq_some_iff.1 hj).1
    obtain ⟨v', a1, a2, a3⟩ := hr K j _ (List.getElem?_eq_getElem hj')
    rw [hj] at a1; injection a1 with a1; subst a1; exact a3) (fun j p v hp hj => by
    obtain ⟨v', a1, a2, a3⟩ := hr K j p hp
    rw [hj] at a1; injection a1 with a1; subst a1; exact .tree _ _ a2)
  refine ⟨_, _, _, _, ?_, s1, by rw [hl] at s2; exact s2⟩
  simp [Instr.alloc, ty.zeroV hz, run_newVar]

theorem gives_box {E : Env} {K ι st w} (h : Rel E.G K ι st w) {t : TypeId} {p : PV} {v : Value} (hp : VRel K ι st p v) (hs : scal p = true ∨ ∃ cs, p = .agg cs) :
    Gives E.G K ι st w ((Instr.box t v).run E.P w) (.optr st.length (cellsOf p).length 0) (st ++ [.cells (cellsOf p)]) := by
  obtain ⟨l1, o1, r1⟩ := hp.cellsV hs
  obtain ⟨s1, s2⟩ := Stp.newCells h (cellsOf p) v.cells t l1 (fun j u hj => o1 u (List.mem_of_getElem? (i := j) (by simpa using hj))) (fun j q u hq hj => r1 j q u hq (by simpa using hj))
  refine ⟨_, _, _, _, ?_, s1, s2⟩
  simp [Instr.box, run_newVar]

end Go.Pv
