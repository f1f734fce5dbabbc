/-
  The pure machine, part J: that the operations on plain values are the model's own (6): stores into maps, conversions, literals, builtins.
-/
import Derived.Test.YtbfmlkdpeaeblaaPvI
set_option linter.all false
set_option linter.unusedSimpArgs false
set_option linter.unusedVariables false
namespace Go.Pv

theorem sameBits_key {K ι st p q} {a b : Value} (h : keyEq p q = some true) (ha : VRel K ι st p a) (hb : VRel K ι st q b) : Instr.sameBits 10000 b a = true ∧ a = b := by
  unfold keyEq at h
  split at h
  · rw [ha.intV, hb.intV]
    split at h
    · rename_i hk
      subst hk
      simp at h
      subst h
      exact ⟨by simp [Instr.sameBits], rfl⟩
    · cases h
  · rw [ha.strV, hb.strV]
    simp at h
    subst h
    exact ⟨by simp [Instr.sameBits, beq_toListBytes], rfl⟩
  · cases h

theorem setObj_run {P : Program} {w : World} {r : Nat} {o o' : Go.Obj} (h : w.heap[r]? = some o) (hc : ∀ c e f, o ≠ .cells c e f) : (setObj r o').run P w = .ok () { w with heap := w.heap.setIfInBounds r o' } := by
  simp only [setObj, Sem.run, h]

theorem heap_set_other (w : World) (r k : Nat) (o : Go.Obj) (h : k ≠ r) : (w.heap.setIfInBounds r o)[k]? = w.heap[k]? := by
  rw [Array.getElem?_setIfInBounds_ne (Ne.symm h)]
theorem heap_set_same (w : World) (r : Nat) (o o' : Go.Obj) (h : w.heap[r]? = some o) : (w.heap.setIfInBounds r o')[r]? = some o' := by
  rw [Array.getElem?_setIfInBounds_self_of_lt (heap_lt h)]

/-- A map's object turns. -/
theorem Stp.mapSet {G K ι st w} (h : Rel G K ι st w) (id : Nat) (es es' : List (PV × PV)) (hid : st[id]? = some (.map es)) (b : Nat) (hh : ι id = .map (some b)) (ents ents' : Array MapEntry) (clock clock' : Nat) (hw : w.heap[b]? = some (.map ents clock))
    (ho : Ext K ι st K ι (st.set id (.map es')) → ents'.size = es'.length ∧
      (∀ (i : Nat) (kp vp : PV), es'[i]? = some (kp, vp) → ∃ en : MapEntry, ents'[i]? = some en ∧ VRel K ι (st.set id (.map es')) kp en.key ∧ VRel K ι (st.set id (.map es')) vp en.val) ∧
      (∀ (i j : Nat) (x y : MapEntry), ents'[i]? = some x → ents'[j]? = some y → x.born = y.born → i = j) ∧ ∀ (i : Nat) (x : MapEntry), ents'[i]? = some x → x.born < clock') :
    Stp G K ι st w K ι (st.set id (.map es')) { w with heap := w.heap.setIfInBounds b (.map ents' clock') } := by
  have key := Stp.setOb h id (.map es) (.map es') hid (ι id) (by simp [Ob.le]) K (fun _ _ q => q) { w with heap := w.heap.setIfInBounds b (.map ents' clock') } b b (by rw [hh]; rfl) (by rw [hh]; rfl) (.inl rfl) rfl rfl rfl (by simp)
    (fun k _ hk => heap_set_other w b k _ hk)
    (fun a v q => by
      have hc := h.know a v q
      by_cases hab : a.block = b
      · rw [World.cell?, hab, hw] at hc; simp at hc
      · rw [← hc]; exact World.cell?_of_block (w := w) (heap_set_other w b a.block _ hab))
    (fun a v q => .inl q) (fun x => by
      rw [ins_id] at x ⊢
      exact ⟨b, ents', clock', hh, heap_set_same w b _ _ hw, ho x⟩)
  rw [ins_id] at key
  exact key

theorem gives_mapUpdate {E : Env} (hE : EnvOk E) {K ι st w} (h : Rel E.G K ι st w) {t tk tv : TypeId} {ti ik : TI} (hT : E.T t = some ti) (hk : ti.kind = .map tk tv) (hTk : E.T tk = some ik)
    {p : PV} {x : PV} {id : Nat} {a b c : Value} (hp : VRel K ι st p a) (hm : VRel K ι st (.map id) b) (hx : VRel K ι st x c) (hkk : keyK ik p = true) {es : List (PV × PV)} (hst : st[id]? = some (.map es)) {r : Option (Nat × PV)} (hf : findF p es 0 = some r) :
    ∃ w', (Instr.mapUpdate t b a c).run E.P w = .ok () w' ∧ Stp E.G K ι st w K ι (st.set id (.map (match r with | some (i, _) => es.set i (p, x) | none => es ++ [(p, x)]))) w' := by
  obtain ⟨d, i, ty⟩ := hE.ty hT
  obtain ⟨dk, i2, tyk⟩ := hE.ty hTk
  have hu := kind_map ty hk
  have hd := key_kind tyk hkk
  have hd' : (∃ k, dk = .int k) ∨ dk = .string := hd.imp (·.1) (·.1)
  obtain ⟨bb, ents, clock, hh, hw, hl, hr, hb1, hb2⟩ := h.obj id _ hst
  cases hm with
  | tree _ _ q => cases q
  | map _ es' b' hst' hb =>
    rw [hb] at hh
    injection hh with hh
    injection hh with hh
    subst hh
    have hr' : ∀ (j : Nat) (kp vp : PV) (en : MapEntry), es[j]? = some (kp, vp) → ents.toList[j]? = some en → VRel K ι st kp en.key ∧ VRel K ι st vp en.val := by
      intro j kp vp en h1 h2
      obtain ⟨en', a1, a2, a3⟩ := hr j kp vp h1
      simp at h2
      rw [a1] at h2
      injection h2 with h2
      subst h2
      exact ⟨a2, a3⟩
    rcases find_key hp dk hd es ents.toList 0 r hf (by simpa using hl) hr' with ⟨rfl, e⟩ | ⟨j, v, en, rfl, e1, ⟨kp, e2, e2'⟩, e3, e4⟩
    · refine ⟨_, ?_, Stp.mapSet h id es (es ++ [(p, x)]) hst b' hb ents (ents.push { key := a, val := c, born := clock }) clock (clock + 1) hw (fun q => ⟨by simp [hl], fun i kp vp hi => ?_, fun i j x' y' h1 h2 h3 => ?_, fun i x' h1 => ?_⟩)⟩
      · simp only [Instr.mapUpdate, Sem.run_bind, run_underlying hu, Result.andThen_ok, getObj, Sem.run, hw, check_key tyk.hu hd', Instr.findKey, run_underlying tyk.hu, e, Sem.run_pure]
        rw [setObj_run hw (by simp)]
      · by_cases hi' : i < es.length
        · rw [List.getElem?_append_left hi'] at hi
          obtain ⟨en, c1, c2, c3⟩ := hr i kp vp hi
          refine ⟨en, ?_, c2.mono q, c3.mono q⟩
          rw [Array.getElem?_push, if_neg (by omega)]; exact c1
        · have hi2 : i = es.length := by
            have := (List.getElem?_eq_some_iff.1 hi).1
            simp at this; omega
          subst hi2
          simp at hi
          obtain ⟨rfl, rfl⟩ := hi
          exact ⟨{ key := a, val := c, born := clock }, by rw [← hl]; simp, hp.mono q, hx.mono q⟩
      · rw [Array.getElem?_push] at h1 h2
        split at h1 <;> split at h2
        · omega
        · rename_i q1 q2
          injection h1 with h1; subst h1
          have := hb2 j y' h2
          simp at h3; omega
        · rename_i q1 q2
          injection h2 with h2; subst h2
          have := hb2 i x' h1
          simp at h3; omega
        · exact hb1 i j x' y' h1 h2 h3
      · rw [Array.getElem?_push] at h1
        split at h1
        · injection h1 with h1; subst h1; simp
        · have := hb2 i x' h1; omega
    · rw [Nat.zero_add] at e4
      have e1' : ents[j]? = some en := by simpa using e1
      obtain ⟨hkp, _⟩ := hr' j kp v en e2 e1
      obtain ⟨sb, rfl⟩ := sameBits_key e2' hp hkp
      have hj : j < ents.size := (Array.getElem?_eq_some_iff.1 e1').1
      refine ⟨_, ?_, Stp.mapSet h id es (es.set (0 + j) (p, x)) hst b' hb ents (ents.modify j fun e => { e with key := en.key, val := c }) clock clock hw (fun q => ⟨by simp [hl], fun i kp' vp' hi => ?_, fun i j' x' y' h1 h2 h3 => ?_, fun i x' h1 => ?_⟩)⟩
      · simp only [Instr.mapUpdate, Sem.run_bind, run_underlying hu, Result.andThen_ok, getObj, Sem.run, hw, check_key tyk.hu hd', Instr.findKey, run_underlying tyk.hu, e4, Sem.run_pure, e1', Option.map_some, Option.getD_some, Instr.keyThatStays, sb, if_true]
        rw [setObj_run hw (by simp)]
      · rw [Nat.zero_add] at hi
        rw [Array.getElem?_modify]
        by_cases hij : j = i
        · subst hij
          rw [getElem?_set_eq' _ _ _ _ e2] at hi
          injection hi with hi
          injection hi with q1 q2
          subst q1 q2
          rw [if_pos rfl, e1']
          exact ⟨_, rfl, hp.mono q, hx.mono q⟩
        · rw [getElem?_set_ne' _ _ _ _ hij] at hi
          rw [if_neg hij]
          obtain ⟨en', c1, c2, c3⟩ := hr i kp' vp' hi
          exact ⟨en', c1, c2.mono q, c3.mono q⟩
      · have bn : ∀ (i : Nat) (x : MapEntry), (ents.modify j fun e => { e with key := en.key, val := c })[i]? = some x → ∃ x0, ents[i]? = some x0 ∧ x0.born = x.born := by
          intro i x hx'
          rw [Array.getElem?_modify] at hx'
          split at hx'
          · obtain ⟨x0, q1, q2⟩ := Option.map_eq_some_iff.1 hx'
            exact ⟨x0, q1, by rw [← q2]⟩
          · exact ⟨x, hx', rfl⟩
        obtain ⟨x0, q1, q2⟩ := bn i x' h1
        obtain ⟨y0, q3, q4⟩ := bn j' y' h2
        exact hb1 i j' x0 y0 q1 q3 (by rw [q2, q4, h3])
      · rw [Array.getElem?_modify] at h1
        split at h1
        · obtain ⟨x0, q1, q2⟩ := Option.map_eq_some_iff.1 h1
          rw [← q2]
          exact hb2 i x0 q1
        · exact hb2 i x' h1

theorem gives_conv {E : Env} (hE : EnvOk E) {K ι st w} (h : Rel E.G K ι st w) {src dst : TypeId} {x q : PV} {a : Value} (ha : VRel K ι st x a)
    (ho : (∃ ts td k k' n, E.T src = some ts ∧ E.T dst = some td ∧ td.kind = .int k ∧ x = .int k' n ∧ q = .int k (k.wrap n)) ∨ ∃ ts td s, E.T src = some ts ∧ E.T dst = some td ∧ ts.kind = .str ∧ td.kind = .str ∧ x = .str s ∧ q = .str s) :
    Gives E.G K ι st w ((convert src dst a).run E.P w) q st := by
  rcases ho with ⟨ts, td, k, k', n, hTs, hTd, hk, rfl, rfl⟩ | ⟨ts, td, s, hTs, hTd, hk, hk', rfl, rfl⟩
  · obtain ⟨d, i, ty⟩ := hE.ty hTs
    obtain ⟨d', i', ty'⟩ := hE.ty hTd
    have hu := kind_int ty' hk
    rw [ha.intV]
    have : (convert src dst (.int k' n)).run E.P w = .ok (.int k (k.wrap n)) w := by
      simp only [convert, Sem.run_bind, ty.underl w, Result.andThen_ok, run_underlying hu, Conv.intToInt, Sem.run_pure]
    rw [this]
    exact Gives.pure h (.tree _ _ (.int _ _))
  · obtain ⟨d, i, ty⟩ := hE.ty hTs
    obtain ⟨d', i', ty'⟩ := hE.ty hTd
    have hu := kind_str ty' hk'
    have hu0 := kind_str ty hk
    rw [ha.strV]
    have : (convert src dst (.string (bytesV s))).run E.P w = .ok (.string (bytesV s)) w := by
      simp only [convert, Sem.run_bind, run_underlying hu0, Result.andThen_ok, run_underlying hu, Sem.run_pure]
    rw [this]
    exact Gives.pure h (.tree _ _ (.str _))

theorem gives_extract {G : Nat → PV} {P : Program} {K ι st w} (h : Rel G K ι st w) {vs : List PV} {a : Value} (ha : VRel K ι st (.tup vs) a) {i : Nat} {q : PV} (hq : vs[i]? = some q) : Gives G K ι st w ((Instr.extract a i).run P w) q st := by
  obtain ⟨us, rfl, hl, hr⟩ := ha.tupV
  have hlt : i < us.size := by rw [← hl]; exact (List.getElem?_eq_some_iff.1 hq).1
  have e : us[i]? = some us[i] := Array.getElem?_eq_getElem hlt
  have : (Instr.extract (.tuple us) i).run P w = .ok us[i] w := by simp [Instr.extract, e, Sem.run_pure]
  rw [this]
  exact Gives.pure h (hr i q _ hq e)

end Go.Pv
