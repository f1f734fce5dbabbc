/-
  The pure machine, part Z: contracts of functions out of their code (3): plain contracts; rounds.
-/
import Derived.Test.YtbfmlkdpeaeblaaPvY
set_option linter.all false
set_option linter.unusedSimpArgs false
set_option linter.unusedVariables false
namespace Go.Pv

/-- What is known when a function has ended that began with nothing: all that it laid. -/
def KEnd (K : Know) (n0 : Nat) (w : World) : Know := fun a => if a.block < n0 then K a else w.cell? a

section
variable {G : Nat → PV} {K : Know} {ι0 : Nat → Value} {w0 : World} {K' : Know} {ι : Nat → Value} {st : Store} {w : World}

theorem KEnd.ge (h0 : Rel G K ι0 [] w0) (s : Stp G K ι0 [] w0 K' ι st w) : ∀ a v, K' a = some v → KEnd K w0.heap.size w a = some v := by
  intro a v e
  unfold KEnd
  split
  · rename_i hlt
    rcases s.fresh a v e with q | q | q
    · exact q
    · omega
    · exact absurd q not_owned_nil
  · exact s.rel.know a v e

theorem own_new (s : Stp G K ι0 [] w0 K' ι st w) {id : Nat} (hid : id < st.length) {b : Nat} (hb : hblk (ι id) = some b) : w0.heap.size ≤ b := by
  rcases Nat.lt_or_ge b w0.heap.size with q | q
  · exact absurd (s.owns b ⟨id, hid, hb⟩ q) not_owned_nil
  · exact q

/-- An object's cells, read as known memory. -/
theorem KEnd.cells (s : Stp G K ι0 [] w0 K' ι st w) {id : Nat} {cs : List PV} (hst : st[id]? = some (.cells cs)) {b sz : Nat} (hι : ι id = .slice (some ⟨b, 0, none⟩) 0 sz) :
    ∃ f : Nat → Value, (∀ i, i < cs.length → KEnd K w0.heap.size w ⟨b, i, none⟩ = some (f i)) ∧ (∀ i, (f i).oneCell' = true) ∧ ∀ (i : Nat) (p : PV), cs[i]? = some p → VRel K' ι st p (f i) := by
  obtain ⟨b', arr, e, hh, hw, hl, hc, _⟩ := s.rel.obj id _ hst
  rw [hι] at hh
  injection hh with q1 _ _
  injection q1 with q1
  injection q1 with q1
  subst q1
  have hnew := own_new s (List.getElem?_eq_some_iff.1 hst).1 (b := b) (by rw [hι]; rfl)
  refine ⟨fun i => if i < cs.length then (arr[i]?).getD (.bool false) else .bool false, fun i hi => ?_, fun i => ?_, fun i p hp => ?_⟩
  · have hx : arr[i]? = some arr[i] := Array.getElem?_eq_getElem (by omega)
    unfold KEnd
    rw [if_neg (by simp; omega)]
    simp [World.cell?, hw, hx, hi]
  · show (if i < cs.length then (arr[i]?).getD (.bool false) else .bool false : Value).oneCell' = true
    split
    · rename_i hi
      obtain ⟨v, a1, _, a3⟩ := hc i _ (List.getElem?_eq_getElem hi)
      rw [a1]; exact a3
    · rfl
  · have hi := (List.getElem?_eq_some_iff.1 hp).1
    obtain ⟨v, a1, a2, _⟩ := hc i p hp
    show VRel K' ι st p (if i < cs.length then (arr[i]?).getD (.bool false) else .bool false)
    rw [if_pos hi, a1]; exact a2

theorem pub_rel (h0 : Rel G K ι0 [] w0) (s : Stp G K ι0 [] w0 K' ι st w) : ∀ (n : Nat) (p q : PV) (v : Value), VRel K' ι st p v → pub st n p = some q → TRel (KEnd K w0.heap.size w) q v
  | 0, _, _, _, _, h => by simp [pub] at h
  | n + 1, p, q, v, hv, h => by
    have ih := pub_rel h0 s n
    have mono := KEnd.ge h0 s
    unfold pub at h
    split at h
    · rename_i id tot off len k
      split at h
      · rename_i cs hst
        split at h
        · rename_i hc
          obtain ⟨c1, c2, c3⟩ := hc
          obtain ⟨rows, hrows, rfl⟩ := Option.map_eq_some_iff.1 h
          cases hv with
          | tree _ _ q => cases q
          | osl _ _ _ _ _ A c cs' hst' hle hlc hn heq =>
            rw [hst] at hst'
            injection hst' with hst'
            injection hst' with hst'
            subst hst'
            obtain ⟨b, sz, e1, e2, e3, e4⟩ := heq c1
            obtain ⟨f, f1, f2, f3⟩ := KEnd.cells s hst e1
            obtain ⟨l, g⟩ := allRows_get hrows
            have row : ∀ (j : Nat) (r : List PV), rows[j]? = some r → j < len ∧ allSome (pub st n) ((cs.drop (off + j * k)).take k) = some r := fun j r hr => ⟨by
              have := (List.getElem?_eq_some_iff.1 hr).1; omega, g j r hr⟩
            have fit : ∀ j, j < len → off + j * k + k ≤ cs.length := fun j hj => by
              have : (j + 1) * k ≤ len * k := Nat.mul_le_mul_right k (by omega)
              rw [Nat.add_mul] at this
              omega
            have : TRel (KEnd K w0.heap.size w) (.sl k rows .ro) (.slice A rows.length c) := by
              refine .sl k rows .ro A c b off (fun j i => f (off + (j * k + i))) (fun j r hr => ?_) (fun hne => e2 ?_) (fun j i hj hi => ?_) (fun j i r p hr hp => ?_) (fun j i => f2 _) (by omega) hn.2 hn.1 (.inl rfl)
              · obtain ⟨h1, h2⟩ := row j r hr
                rw [(allSome_get h2).1]
                have := fit j h1
                simp; omega
              · have : rows.length ≠ 0 := fun q => hne (List.length_eq_zero_iff.1 q)
                omega
              · have := fit j (by omega)
                exact f1 _ (by omega)
              · obtain ⟨h1, h2⟩ := row j r hr
                obtain ⟨l2, g2⟩ := allSome_get h2
                obtain ⟨p0, hp0, hpp⟩ := g2 i p hp
                have hi : i < k := by
                  have := (List.getElem?_eq_some_iff.1 hp0).1
                  simp at this; omega
                rw [drop_take_get _ _ _ _ hi] at hp0
                refine ih p0 p _ ?_ hpp
                have := f3 _ p0 hp0
                rw [Nat.add_assoc] at this
                exact this
            rw [l] at this
            exact this
        · cases h
      · cases h
    · rename_i id tot off
      split at h
      · rename_i cs hst
        split at h
        · rename_i hc
          obtain ⟨xs, hxs, rfl⟩ := Option.map_eq_some_iff.1 h
          cases hv with
          | tree _ _ q => cases q
          | optr _ _ _ ad cs' hst' hle heq =>
            rw [hst] at hst'
            injection hst' with hst'
            injection hst' with hst'
            subst hst'
            obtain ⟨b, sz, e1, rfl⟩ := heq hc
            obtain ⟨f, f1, f2, f3⟩ := KEnd.cells s hst e1
            obtain ⟨l, g⟩ := allSome_get hxs
            refine .rptr xs b off (fun i => f (off + i)) (fun i hi => f1 _ ?_) (fun i => f2 _) (fun i p hp => ?_)
            · rw [l] at hi; simp at hi; omega
            · obtain ⟨p0, hp0, hpp⟩ := g i p hp
              rw [List.getElem?_drop] at hp0
              exact ih p0 p _ (f3 _ p0 hp0) hpp
        · cases h
      · cases h
    · rename_i cs
      obtain ⟨xs, hxs, rfl⟩ := Option.map_eq_some_iff.1 h
      obtain ⟨l, g⟩ := allSome_get hxs
      obtain ⟨vs, rfl, hl, h1, hr⟩ := hv.aggV
      refine .agg xs vs (by omega) h1 (fun i p v hp hv => ?_)
      obtain ⟨p0, hp0, hpp⟩ := g i p hp
      exact ih p0 p v (hr i p0 v hp0 hv) hpp
    · rename_i cs
      obtain ⟨xs, hxs, rfl⟩ := Option.map_eq_some_iff.1 h
      obtain ⟨l, g⟩ := allSome_get hxs
      obtain ⟨vs, rfl, hl, hr⟩ := hv.tupV
      refine .tup xs vs (by omega) (fun i p v hp hv => ?_)
      obtain ⟨p0, hp0, hpp⟩ := g i p hp
      exact ih p0 p v (hr i p0 v hp0 hv) hpp
    · cases h
      cases hv with | tree _ _ q => exact q.mono mono
    · split at h
      · rename_i hc
        cases h
        exact (share_cell hv hc).mono mono
      · cases h

/-- With what it laid being known, it is as though it had begun and ended with nothing. -/
theorem Stp.ends (h0 : Rel G K ι0 [] w0) (s : Stp G K ι0 [] w0 K' ι st w) (ι1 : Nat → Value) : Stp G K ι1 [] w0 (KEnd K w0.heap.size w) ι1 [] w := by
  have old : ∀ a v, K a = some v → KEnd K w0.heap.size w a = some v := fun a v e => by
    unfold KEnd
    rw [if_pos (h0.know_lt e)]; exact e
  refine ⟨⟨fun a v e => ?_, fun g => (s.rel.glob g).mono (KEnd.ge h0 s), fun id o e => by simp at e, fun i j b hi => by simp at hi⟩, ⟨old, Nat.le_refl _, fun id o e => by simp at e⟩, s.os, s.tape, s.output, s.size, fun b hb _ => s.block b hb not_owned_nil, fun b hb => absurd hb not_owned_nil, fun a v e => ?_⟩
  · unfold KEnd at e
    split at e
    · exact s.rel.know a v (s.ext.know a v e)
    · exact e
  · unfold KEnd at e
    split at e
    · exact .inl e
    · exact .inr (.inl (by omega))
end

/-- **A plain contract, out of the code.** -/
theorem plain_of_W {E : Env} (hE : EnvOk E) {f : FuncId} {N : Nat} {rs : List ResultVar} {c : Code} (hok : FnOk E f N rs c) {args : List PV} {v : PV} (hl : args.length ≤ N) (h : BodyW E N rs c args [] fun p st1 => ∃ n, pub st1 n p = some v) :
    Plain E f args v :=
  ⟨hok.enters, fun K w vs hr ha => (calls_of_W hE hok hl h hr ⟨ha.1, fun i p u hp hu => .tree _ _ (ha.2 i p u hp hu)⟩).mono fun e w' q => by
    obtain ⟨K', ι', st1, p, rv, rfl, ⟨n, hn⟩, s, r⟩ := q
    exact ⟨KEnd K w.heap.size w', rv, rfl, s.ends hr _, pub_rel hr s n p v rv r hn⟩⟩

end Go.Pv
