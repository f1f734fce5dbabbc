/-
  The pure machine, part B: what a step of memory does to the relation between plain values and memory.
-/
import Derived.Test.YtbfmlkdpeaeblaaPvA
import Derived.OneCell
set_option linter.all false
set_option linter.unusedSimpArgs false
set_option linter.unusedVariables false
namespace Go.Pv

def ins (ι : Nat → Value) (n : Nat) (h : Value) : Nat → Value := fun i => if i = n then h else ι i
theorem ins_same (ι : Nat → Value) (n : Nat) (h : Value) : ins ι n h n = h := by simp [ins]
theorem ins_other (ι : Nat → Value) {n i : Nat} (h : Value) (hne : i ≠ n) : ins ι n h i = ι i := by simp [ins, hne]

theorem Ext.newOb (K : Know) (ι : Nat → Value) (st : Store) (o : Ob) (hv : Value) : Ext K ι st K (ins ι st.length hv) (st ++ [o]) :=
  ⟨fun _ _ h => h, by simp, fun id o' e => by
    have hlt : id < st.length := (List.getElem?_eq_some_iff.1 e).1
    exact ⟨o', by rw [List.getElem?_append_left hlt]; exact e, by rw [ins_other _ _ (by omega)]; exact Ob.le_refl _ _⟩⟩

theorem heap_lt {w : World} {b : Nat} {o : Go.Obj} (h : w.heap[b]? = some o) : b < w.heap.size := (Array.getElem?_eq_some_iff.1 h).1

/-- A new object. -/
theorem Stp.newOb {G K ι st w} (h : Rel G K ι st w) (o : Ob) (go : Go.Obj) (hv : Value) (hb : hblk hv = some w.heap.size)
    (ho : Ext K ι st K (ins ι st.length hv) (st ++ [o]) → (∀ j, K ⟨w.heap.size, j, none⟩ = none) → ObRel K (ins ι st.length hv) (st ++ [o]) (w.alloc go) hv o) :
    Stp G K ι st w K (ins ι st.length hv) (st ++ [o]) (w.alloc go) := by
  have x := Ext.newOb K ι st o hv
  have hno : ∀ j, K ⟨w.heap.size, j, none⟩ = none := by
    intro j
    cases e : K ⟨w.heap.size, j, none⟩ with
    | none => rfl
    | some v => have := h.know_lt e; simp at this
  refine ⟨⟨fun a v e => ?_, h.glob, fun id o' e => ?_, fun i j b hi hj ei ej => ?_⟩, x, rfl, rfl, rfl, by simp, fun b hlt _ => heap_alloc_old w go b hlt, ?_, fun a v e => .inl e⟩
  · rw [World.cell?_alloc_lt w go a (h.know_lt e)]; exact h.know a v e
  · by_cases hid : id = st.length
    · subst hid
      simp at e
      subst e
      rw [ins_same]
      exact ho x hno
    · have hlt : id < st.length := by
        have := (List.getElem?_eq_some_iff.1 e).1
        simp at this; omega
      rw [List.getElem?_append_left hlt] at e
      rw [ins_other _ _ hid]
      exact (h.obj id o' e).carry x (fun b hb' => heap_alloc_old w go b (h.owned_lt ⟨id, hlt, hb'⟩)) (fun _ _ _ q => q)
  · simp at hi hj
    by_cases h1 : i = st.length <;> by_cases h2 : j = st.length
    · omega
    · exfalso
      subst h1
      rw [ins_same, hb] at ei
      rw [ins_other _ _ h2] at ej
      have := h.owned_lt ⟨j, by omega, ej⟩
      injection ei with ei
      omega
    · exfalso
      subst h2
      rw [ins_same, hb] at ej
      rw [ins_other _ _ h1] at ei
      have := h.owned_lt ⟨i, by omega, ei⟩
      injection ej with ej
      omega
    · rw [ins_other _ _ h1] at ei
      rw [ins_other _ _ h2] at ej
      exact h.apart i j b (by omega) (by omega) ei ej
  · rintro b ⟨id, hid, e⟩ hlt
    simp at hid
    by_cases h1 : id = st.length
    · subst h1
      rw [ins_same, hb] at e
      injection e with e
      omega
    · rw [ins_other _ _ h1] at e
      exact ⟨id, by omega, e⟩

/-- Known memory with a block more. -/
def addK (K : Know) (b : Nat) (xs : List Value) : Know := fun a => if a.block = b ∧ a.spot = none ∧ a.off < xs.length then xs[a.off]? else K a
theorem addK_at (K : Know) (b : Nat) (xs : List Value) (j : Nat) (hj : j < xs.length) : addK K b xs ⟨b, j, none⟩ = xs[j]? := by simp [addK, hj]
theorem addK_past (K : Know) (b : Nat) (xs : List Value) (j : Nat) (hj : xs.length ≤ j) : addK K b xs ⟨b, j, none⟩ = K ⟨b, j, none⟩ := by
  simp only [addK]; rw [if_neg (by simp; omega)]
theorem addK_other (K : Know) (b : Nat) (xs : List Value) (a : Addr) (hb : a.block ≠ b) : addK K b xs a = K a := by simp [addK, hb]

/-- A new row of shared memory. -/
theorem Stp.newKnow {G K ι st w} (h : Rel G K ι st w) (arr : Array Value) (e : TypeId) (xs : List Value) (hx : ∀ j, j < xs.length → arr[j]? = xs[j]?) :
    Stp G K ι st w (addK K w.heap.size xs) ι st (w.alloc (.cells arr e)) := by
  have hno : ∀ a v, K a = some v → a.block ≠ w.heap.size := fun a v q => by have := h.know_lt q; omega
  have hk : ∀ a v, K a = some v → addK K w.heap.size xs a = some v := fun a v q => by rw [addK_other _ _ _ _ (hno a v q)]; exact q
  have x : Ext K ι st (addK K w.heap.size xs) ι st := ⟨hk, Nat.le_refl _, fun id o e => ⟨o, e, Ob.le_refl _ _⟩⟩
  refine ⟨⟨fun a v q => ?_, fun g => (h.glob g).mono hk, fun id o q => ?_, h.apart⟩, x, rfl, rfl, rfl, by simp, fun b hlt _ => heap_alloc_old w _ b hlt, fun b hb _ => hb, fun a v q => ?_⟩
  · by_cases hc : a.block = w.heap.size ∧ a.spot = none ∧ a.off < xs.length
    · obtain ⟨b, off, sp⟩ := a
      obtain ⟨rfl, rfl, hlt⟩ := hc
      simp only at hlt
      rw [addK_at _ _ _ _ hlt] at q
      rw [World.cell?_alloc_new, hx _ hlt]
      exact q
    · rw [addK, if_neg hc] at q
      rw [World.cell?_alloc_lt w _ a (h.know_lt q)]
      exact h.know a v q
  · have hid : id < st.length := (List.getElem?_eq_some_iff.1 q).1
    exact (h.obj id o q).carry x (fun b hb' => heap_alloc_old w _ b (h.owned_lt ⟨id, hid, hb'⟩))
      (fun b hb' j hn => by
        have := h.owned_lt ⟨id, hid, hb'⟩
        rw [addK_other _ _ _ _ (by simp; omega)]; exact hn)
  · by_cases hc : a.block = w.heap.size
    · exact .inr (.inl (by omega))
    · rw [addK_other _ _ _ _ hc] at q; exact .inl q

theorem getElem?_set_ne' {α : Type} (l : List α) (i j : Nat) (x : α) (h : i ≠ j) : (l.set i x)[j]? = l[j]? := by simp [List.getElem?_set, h]
theorem getElem?_set_eq' {α : Type} (l : List α) (i : Nat) (x y : α) (h : l[i]? = some y) : (l.set i x)[i]? = some x := by
  have := (List.getElem?_eq_some_iff.1 h).1
  simp [List.getElem?_set, this]

theorem Ext.setOb (K : Know) (ι : Nat → Value) (st : Store) (id : Nat) (o o' : Ob) (h : st[id]? = some o) (hv : Value) (hle : Ob.le o o' (ι id) hv) (K' : Know) (hK : ∀ a v, K a = some v → K' a = some v) :
    Ext K ι st K' (ins ι id hv) (st.set id o') :=
  ⟨hK, by simp, fun i q e => by
    by_cases hi : i = id
    · subst hi
      rw [h] at e
      injection e with e
      subst e
      exact ⟨o', getElem?_set_eq' _ _ _ _ h, by rw [ins_same]; exact hle⟩
    · exact ⟨q, by rw [getElem?_set_ne' _ _ _ _ (Ne.symm hi)]; exact e, by rw [ins_other _ _ hi]; exact Ob.le_refl _ _⟩⟩

/-- An object turns, in its own block or with a new one. -/
theorem Stp.setOb {G K ι st w} (h : Rel G K ι st w) (id : Nat) (o o' : Ob) (hid : st[id]? = some o) (hv : Value) (hle : Ob.le o o' (ι id) hv) (K' : Know)
    (hK : ∀ a v, K a = some v → K' a = some v) (w' : World) (b b' : Nat) (hb : hblk (ι id) = some b) (hb' : hblk hv = some b') (hnew : b' = b ∨ w.heap.size ≤ b')
    (hos : w'.os = w.os) (htape : w'.tape = w.tape) (hout : w'.output = w.output) (hsz : w.heap.size ≤ w'.heap.size)
    (hblock : ∀ k, k < w.heap.size → k ≠ b → w'.heap[k]? = w.heap[k]?)
    (hknow : ∀ a v, K' a = some v → w'.cell? a = some v)
    (hfresh : ∀ a v, K' a = some v → K a = some v ∨ a.block = b')
    (ho : Ext K ι st K' (ins ι id hv) (st.set id o') → ObRel K' (ins ι id hv) (st.set id o') w' hv o') :
    Stp G K ι st w K' (ins ι id hv) (st.set id o') w' := by
  have x := Ext.setOb K ι st id o o' hid hv hle K' hK
  have hlt : id < st.length := (List.getElem?_eq_some_iff.1 hid).1
  have hbl : b < w.heap.size := h.owned_lt ⟨id, hlt, hb⟩
  have ne_of : ∀ i b'', i < st.length → i ≠ id → hblk (ι i) = some b'' → b'' ≠ b ∧ b'' ≠ b' ∧ b'' < w.heap.size := by
    intro i b'' hi hne e
    have h1 : b'' < w.heap.size := h.owned_lt ⟨i, hi, e⟩
    have h2 : b'' ≠ b := fun q => hne (h.apart i id b hi hlt (q ▸ e) hb)
    exact ⟨h2, by rcases hnew with q | q <;> omega, h1⟩
  have kn : ∀ b'' j, b'' ≠ b' → K ⟨b'', j, none⟩ = none → K' ⟨b'', j, none⟩ = none := by
    intro b'' j hne e
    cases q : K' ⟨b'', j, none⟩ with
    | none => rfl
    | some v =>
      rcases hfresh _ v q with r | r
      · rw [e] at r; cases r
      · exact absurd r hne
  refine ⟨⟨hknow, fun g => (h.glob g).mono hK, fun i q e => ?_, fun i j b'' hi hj ei ej => ?_⟩, x, hos, htape, hout, hsz, fun k hk hn => hblock k hk (fun q => hn ⟨id, hlt, q ▸ hb⟩), ?_, fun a v q => ?_⟩
  · by_cases hi : i = id
    · subst hi
      rw [getElem?_set_eq' _ _ _ _ hid] at e
      injection e with e
      subst e
      rw [ins_same]
      exact ho x
    · rw [getElem?_set_ne' _ _ _ _ (Ne.symm hi)] at e
      rw [ins_other _ _ hi]
      have hil : i < st.length := (List.getElem?_eq_some_iff.1 e).1
      exact (h.obj i q e).carry x (fun k hk => hblock k (ne_of i k hil hi hk).2.2 (ne_of i k hil hi hk).1) (fun k hk j hn => kn k j (ne_of i k hil hi hk).2.1 hn)
  · simp only [List.length_set] at hi hj
    by_cases h1 : i = id <;> by_cases h2 : j = id
    · omega
    · exfalso
      subst h1
      rw [ins_same, hb'] at ei
      rw [ins_other _ _ h2] at ej
      injection ei with ei
      exact (ne_of j b'' hj h2 ej).2.1 ei.symm
    · exfalso
      subst h2
      rw [ins_same, hb'] at ej
      rw [ins_other _ _ h1] at ei
      injection ej with ej
      exact (ne_of i b'' hi h1 ei).2.1 ej.symm
    · rw [ins_other _ _ h1] at ei
      rw [ins_other _ _ h2] at ej
      exact h.apart i j b'' hi hj ei ej
  · rintro k ⟨i, hi, e⟩ hk
    simp only [List.length_set] at hi
    by_cases h1 : i = id
    · subst h1
      rw [ins_same, hb'] at e
      injection e with e
      rcases hnew with q | q
      · exact ⟨i, hlt, by rw [hb, ← q, e]⟩
      · omega
    · rw [ins_other _ _ h1] at e
      exact ⟨i, hi, e⟩
  · rcases hfresh a v q with r | r
    · exact .inl r
    · rcases hnew with s | s
      · exact .inr (.inr ⟨id, hlt, by rw [hb, r, s]⟩)
      · exact .inr (.inl (by omega))

theorem ins_id (ι : Nat → Value) (id : Nat) : ins ι id (ι id) = ι := by
  funext i
  by_cases h : i = id
  · subst h; exact ins_same _ _ _
  · exact ins_other _ _ h

theorem heap_setRow_same (w : World) (b : Nat) (arr cs : Array Value) (e : TypeId) (h : w.heap[b]? = some (.cells arr e (0, 0))) : (w.setRow b cs).heap[b]? = some (.cells cs e (0, 0)) := setRow_heap w b arr cs e _ h
theorem heap_setRow_other (w : World) (b k : Nat) (cs : Array Value) (h : k ≠ b) : (w.setRow b cs).heap[k]? = w.heap[k]? := by
  simp only [World.setRow, Array.getElem?_modify]
  rw [if_neg (by omega)]
theorem cell_setRow_other (w : World) (b : Nat) (cs : Array Value) (a : Addr) (h : a.block ≠ b) : (w.setRow b cs).cell? a = w.cell? a := World.cell?_of_block (w := w) (heap_setRow_other w b a.block cs h)

/-- A list of cells with others put in from 'off' on. -/
def splice {α : Type} (cs : List α) (off : Nat) (vs : List α) : List α := cs.take off ++ vs ++ cs.drop (off + vs.length)
theorem splice_length {α : Type} (cs vs : List α) (off : Nat) (h : off + vs.length ≤ cs.length) : (splice cs off vs).length = cs.length := by simp [splice]; omega
theorem splice_get {α : Type} (cs vs : List α) (off : Nat) (h : off + vs.length ≤ cs.length) (i : Nat) : (splice cs off vs)[i]? = if off ≤ i ∧ i < off + vs.length then vs[i - off]? else cs[i]? := by
  unfold splice
  by_cases h1 : i < off
  · rw [List.append_assoc, List.getElem?_append_left (by simp; omega), List.getElem?_take_of_lt h1, if_neg (by omega)]
  · by_cases h2 : i < off + vs.length
    · rw [if_pos ⟨by omega, h2⟩, List.getElem?_append_left (by simp; omega), List.getElem?_append_right (by simp; omega)]
      congr 1
      simp
      omega
    · rw [if_neg (by omega), List.getElem?_append_right (by simp; omega), List.getElem?_drop]
      congr 1
      simp
      omega

theorem arr_splice (arr : Array Value) (off : Nat) (vs : List Value) (h : off + vs.length ≤ arr.size) (i : Nat) :
    (arr.toList.take off ++ vs ++ arr.toList.drop (off + vs.length)).toArray[i]? = if off ≤ i ∧ i < off + vs.length then vs[i - off]? else arr[i]? := by
  have := splice_get arr.toList vs off (by simpa using h) i
  simpa [splice] using this

/-- A store into an object's cells. -/
theorem Stp.store {G K ι st w} (h : Rel G K ι st w) (id : Nat) (cs : List PV) (hid : st[id]? = some (.cells cs)) (off : Nat) (ps : List PV) (vs : List Value) (hl : ps.length = vs.length)
    (hfit : off + ps.length ≤ cs.length) (h1 : ∀ v ∈ vs, v.oneCell' = true) (hv : ∀ (i : Nat) (p : PV) (v : Value), ps[i]? = some p → vs[i]? = some v → VRel K ι st p v) :
    ∃ b arr e, ι id = .slice (some ⟨b, 0, none⟩) 0 arr.size ∧ w.heap[b]? = some (.cells arr e (0, 0)) ∧ off + vs.length ≤ arr.size ∧
      Stp G K ι st w K ι (st.set id (.cells (splice cs off ps))) (w.setRow b (arr.toList.take off ++ vs ++ arr.toList.drop (off + vs.length)).toArray) := by
  obtain ⟨b, arr, e, hh, hw, hle, hc, hn⟩ := h.obj id _ hid
  have hfit' : off + vs.length ≤ arr.size := by omega
  refine ⟨b, arr, e, hh, hw, hfit', ?_⟩
  have hblt := heap_lt hw
  have hsz : (arr.toList.take off ++ vs ++ arr.toList.drop (off + vs.length)).toArray.size = arr.size := by simp; omega
  have key := Stp.setOb h id (.cells cs) (.cells (splice cs off ps)) hid (ι id) (by simp [Ob.le, splice_length cs ps off hfit]) K (fun _ _ q => q)
    (w.setRow b (arr.toList.take off ++ vs ++ arr.toList.drop (off + vs.length)).toArray) b b (by rw [hh]; rfl) (by rw [hh]; rfl) (.inl rfl) rfl rfl rfl (by simp)
    (fun k _ hk => heap_setRow_other w b k _ hk)
    (fun a v q => by
      by_cases hab : a.block = b
      · exfalso
        obtain ⟨ab, ao, as⟩ := a
        simp only at hab
        subst hab
        have hcell := h.know _ _ q
        cases as with
        | some s => simp [World.cell?, hw] at hcell
        | none => rw [hn ao] at q; cases q
      · rw [cell_setRow_other w b _ a hab]; exact h.know a v q)
    (fun a v q => .inl q)
    (fun x => ⟨b, _, e, by rw [hsz]; exact hh, heap_setRow_same w b arr _ e hw, by rw [splice_length cs ps off hfit, hsz]; exact hle, fun i p hp => by
      rw [splice_get cs ps off hfit] at hp
      rw [arr_splice arr off vs hfit']
      by_cases hr : off ≤ i ∧ i < off + ps.length
      · rw [if_pos hr] at hp
        rw [if_pos (by omega)]
        have hlt : i - off < vs.length := by omega
        have hg : vs[i - off]? = some vs[i - off] := List.getElem?_eq_getElem hlt
        exact ⟨vs[i - off], hg, (hv _ p _ hp hg).mono x, h1 _ (List.getElem_mem hlt)⟩
      · rw [if_neg hr] at hp
        rw [if_neg (by omega)]
        obtain ⟨v, a1, a2, a3⟩ := hc i p hp
        exact ⟨v, a1, a2.mono x, a3⟩, hn⟩)
  rw [ins_id] at key
  exact key

end Go.Pv
