/-
  The pure machine, part C: append.
-/
import Derived.Test.YtbfmlkdpeaeblaaPvB
set_option linter.all false
set_option linter.unusedSimpArgs false
set_option linter.unusedVariables false
namespace Go.Pv

def flatF (f : Nat → Nat → Value) (n k : Nat) : List Value := (List.range (n * k)).map fun q => f (q / k) (q % k)
theorem flatF_length (f n k) : (flatF f n k).length = n * k := by simp [flatF]
theorem flatF_get (f : Nat → Nat → Value) (n k q : Nat) (h : q < n * k) : (flatF f n k)[q]? = some (f (q / k) (q % k)) := by simp [flatF, h]
theorem row_lt {j i n k : Nat} (hj : j < n) (hi : i < k) : j * k + i < n * k := by
  have : (j + 1) * k ≤ n * k := Nat.mul_le_mul_right k hj
  rw [Nat.add_mul, Nat.one_mul] at this
  omega
theorem row_div {j i k : Nat} (hi : i < k) : (j * k + i) / k = j := by
  have hk : 0 < k := by omega
  rw [Nat.add_comm, Nat.add_mul_div_right _ _ hk, Nat.div_eq_of_lt hi, Nat.zero_add]
theorem row_mod {j i k : Nat} (hi : i < k) : (j * k + i) % k = i := by rw [Nat.add_comm, Nat.add_mul_mod_self_right, Nat.mod_eq_of_lt hi]
theorem flatF_at (f : Nat → Nat → Value) {n k j i : Nat} (hj : j < n) (hi : i < k) : (flatF f n k)[j * k + i]? = some (f j i) := by
  rw [flatF_get _ _ _ _ (row_lt hj hi), row_div hi, row_mod hi]
theorem flatF_mem {f : Nat → Nat → Value} {n k : Nat} {v : Value} (h : v ∈ flatF f n k) : ∃ j i, v = f j i := by
  simp [flatF] at h
  obtain ⟨q, _, rfl⟩ := h
  exact ⟨_, _, rfl⟩
theorem split_row {q n k : Nat} (h : q < n * k) : q = q / k * k + q % k ∧ q / k < n ∧ q % k < k := by
  have hk : 0 < k := by
    rcases Nat.eq_zero_or_pos k with e | e
    · subst e; simp at h
    · exact e
  refine ⟨(Nat.div_add_mod' q k).symm, ?_, Nat.mod_lt _ hk⟩
  exact Nat.div_lt_of_lt_mul (by rw [Nat.mul_comm]; exact h)

/-- What a shared slice reads as: its cells. -/
theorem TRel.slCells {K : Know} {k : Nat} {es : List (List PV)} {t : Tok} {v : Value} (h : TRel K (.sl k es t) v) :
    ∃ (A : Option Addr) (c b off : Nat) (f : Nat → Nat → Value), v = .slice A es.length c ∧ (∀ (j : Nat) (e : List PV), es[j]? = some e → e.length = k) ∧ (es ≠ [] → A = some ⟨b, off, none⟩) ∧
      (∀ q, q < es.length * k → K ⟨b, off + q, none⟩ = some (f (q / k) (q % k))) ∧
      (∀ (j i : Nat) (e : List PV) (p : PV), es[j]? = some e → e[i]? = some p → TRel K p (f j i)) ∧ (∀ j i : Nat, (f j i).oneCell' = true) ∧ es.length ≤ c ∧ c ≤ maxLen ∧ (A = none → c = 0) ∧ (t = .ro ∨ (t = .full ∧ c = es.length)) := by
  cases h with
  | sl _ _ _ A c b off f hk hA hK hv h1 hc hm hn ht =>
    refine ⟨A, c, b, off, f, rfl, hk, hA, fun q hq => ?_, hv, h1, hc, hm, hn, ht⟩
    obtain ⟨e, a1, a2⟩ := split_row hq
    have := hK (q / k) (q % k) a1 a2
    rw [← e] at this
    exact this

/-- The same with whatever knowledge of its capacity. -/
theorem VRel.slTree {K ι st} {k : Nat} {es : List (List PV)} {t : Tok} {v : Value} (h : VRel K ι st (.sl k es t) v) : TRel K (.sl k es .ro) v := by
  cases h with
  | tree _ _ h =>
    cases h with
    | sl _ _ _ A c b off f hk hA hK hv h1 hc hm hn ht => exact .sl k es .ro A c b off f hk hA hK hv h1 hc hm hn (.inl rfl)
  | own _ _ i A c m e h hst hle heq => exact h

theorem TRel.slOf {K : Know} (k : Nat) (es : List (List PV)) (b c : Nat) (xs : List Value) (hx : xs.length = es.length * k) (hK : ∀ q, q < xs.length → K ⟨b, q, none⟩ = xs[q]?)
    (hk : ∀ (j : Nat) (e : List PV), es[j]? = some e → e.length = k)
    (hv : ∀ (j i : Nat) (e : List PV) (p : PV) (v : Value), es[j]? = some e → e[i]? = some p → xs[j * k + i]? = some v → TRel K p v) (h1 : ∀ v ∈ xs, v.oneCell' = true)
    (hc : es.length ≤ c) (hm : c ≤ maxLen) (t : Tok) (ht : t = .ro ∨ (t = .full ∧ c = es.length)) : TRel K (.sl k es t) (.slice (some ⟨b, 0, none⟩) es.length c) := by
  have get : ∀ j i, j < es.length → i < k → ∃ v, xs[j * k + i]? = some v := fun j i hj hi =>
    ⟨_, List.getElem?_eq_getElem (by rw [hx]; exact row_lt hj hi)⟩
  refine .sl k es t _ c b 0 (fun j i => (xs[j * k + i]?).getD (.bool false)) hk (fun _ => rfl) (fun j i hj hi => ?_) (fun j i e p he hp => ?_) (fun j i => ?_) hc hm (fun h => by cases h) ht
  · obtain ⟨v, e⟩ := get j i hj hi
    have hlt : j * k + i < xs.length := by rw [hx]; exact row_lt hj hi
    rw [Nat.zero_add, hK _ hlt, e]
    rfl
  · have hj : j < es.length := (List.getElem?_eq_some_iff.1 he).1
    have hi : i < k := by rw [← hk j e he]; exact (List.getElem?_eq_some_iff.1 hp).1
    obtain ⟨v, e'⟩ := get j i hj hi
    rw [e']
    exact hv j i e p v he hp e'
  · cases e : xs[j * k + i]? with
    | none => rfl
    | some v => exact h1 v (List.mem_of_getElem? e)

/-- Some cells of a token's block become known. -/
theorem Stp.learn {G K ι st w} (h : Rel G K ι st w) (b : Nat) (xs : List Value) (hx : ∀ j, j < xs.length → w.cell? ⟨b, j, none⟩ = xs[j]?)
    (ho : ∀ id o, st[id]? = some o → hblk (ι id) = some b → ∃ n e k, o = .tok n e k ∧ xs.length ≤ n * k) (hown : Owned ι st b) : Stp G K ι st w (addK K b xs) ι st w := by
  have hk : ∀ a v, K a = some v → addK K b xs a = some v := by
    intro a v q
    by_cases hc : a.block = b ∧ a.spot = none ∧ a.off < xs.length
    · obtain ⟨ab, ao, as⟩ := a
      obtain ⟨rfl, rfl, hlt⟩ := hc
      simp only at hlt
      rw [addK_at _ _ _ _ hlt, ← hx _ hlt]
      exact h.know _ _ q
    · rw [addK, if_neg hc]; exact q
  have x : Ext K ι st (addK K b xs) ι st := ⟨hk, Nat.le_refl _, fun id o e => ⟨o, e, Ob.le_refl _ _⟩⟩
  refine ⟨⟨fun a v q => ?_, fun g => (h.glob g).mono hk, fun id o q => ?_, h.apart⟩, x, rfl, rfl, rfl, Nat.le_refl _, fun _ _ _ => rfl, fun _ q _ => q, fun a v q => ?_⟩
  · by_cases hc : a.block = b ∧ a.spot = none ∧ a.off < xs.length
    · obtain ⟨ab, ao, as⟩ := a
      obtain ⟨rfl, rfl, hlt⟩ := hc
      simp only at hlt
      rw [addK_at _ _ _ _ hlt] at q
      rw [hx _ hlt]; exact q
    · rw [addK, if_neg hc] at q; exact h.know a v q
  · have q' := h.obj id o q
    by_cases hb : hblk (ι id) = some b
    · obtain ⟨n, e, k, rfl, hlen⟩ := ho id o q hb
      obtain ⟨b', cap, arr, hh, hw, h1, h2, h3, h4, h5⟩ := q'
      refine ⟨b', cap, arr, hh, hw, h1, h2, h3, h4, fun j hj => ?_⟩
      rw [hh] at hb
      simp [hblk] at hb
      subst hb
      rw [addK_past _ _ _ _ (by omega)]
      exact h5 j hj
    · exact q'.carry x (fun _ _ => rfl) (fun b' hb' j hn => by
        have : b' ≠ b := fun e => hb (e ▸ hb')
        rw [addK_other _ _ _ _ (by simpa using this)]; exact hn)
  · by_cases hc : a.block = b
    · exact .inr (.inr (hc ▸ hown))
    · rw [addK_other _ _ _ _ hc] at q; exact .inl q

/-- A new row of the call's own, known as far as it is filled. -/
theorem Stp.tokNew {G K ι st w} (h : Rel G K ι st w) (arr : Array Value) (e : TypeId) (n cap k : Nat) (xs : List Value) (hsz : arr.size = cap * k) (hn : n ≤ cap) (hm : cap ≤ maxLen) (hk : 0 < k)
    (hl : xs.length = n * k) (hx : ∀ j, j < xs.length → arr[j]? = xs[j]?) :
    Stp G K ι st w (addK K w.heap.size xs) (ins ι st.length (.slice (some ⟨w.heap.size, 0, none⟩) n cap)) (st ++ [.tok n e k]) (w.alloc (.cells arr e)) := by
  have s1 := Stp.newOb h (.tok n e k) (.cells arr e) (.slice (some ⟨w.heap.size, 0, none⟩) n cap) rfl
    (fun _ hno => ⟨w.heap.size, cap, arr, rfl, heap_alloc_new w _, hsz, hn, hm, hk, fun j _ => hno j⟩)
  refine s1.trans (Stp.learn s1.rel w.heap.size xs (fun j hj => by rw [World.cell?_alloc_new]; exact hx j hj) (fun id o q hb => ?_) ⟨st.length, by simp, by rw [ins_same]; rfl⟩)
  have : id = st.length := s1.rel.apart id st.length w.heap.size (List.getElem?_eq_some_iff.1 q).1 (by simp) hb (by rw [ins_same]; rfl)
  subst this
  simp at q
  exact ⟨n, e, k, q.symm, by omega⟩

theorem take_getElem? {α : Type} (l : List α) {n i : Nat} (h : i < n) : (l.take n)[i]? = l[i]? := List.getElem?_take_of_lt h

/-- A row of the call's own grows within its block. -/
theorem Stp.tokRoom {G K ι st w} (h : Rel G K ι st w) (i n k : Nat) (e : TypeId) (hi : st[i]? = some (.tok n e k)) (b cap : Nat) (arr : Array Value)
    (hh : ι i = .slice (some ⟨b, 0, none⟩) n cap) (hw : w.heap[b]? = some (.cells arr e (0, 0))) (m : Nat) (news : List Value) (hl : news.length = m * k) (hroom : n + m ≤ cap) :
    Stp G K ι st w (addK K b (arr.toList.take (n * k) ++ news)) (ins ι i (.slice (some ⟨b, 0, none⟩) (n + m) cap)) (st.set i (.tok (n + m) e k))
      (w.setRow b (arr.toList.take (n * k) ++ news ++ arr.toList.drop (n * k + news.length)).toArray) := by
  obtain ⟨b', cap', arr', hh', hw', h1, h2, h3, h4, h5⟩ := h.obj i _ hi
  rw [hh] at hh'
  injection hh' with q1 _ q2
  injection q1 with q1
  injection q1 with q1
  subst q1 q2
  rw [hw] at hw'
  injection hw' with hw'
  injection hw' with hw'
  subst hw'
  have hfit : n * k + news.length ≤ arr.size := by
    rw [hl, h1, ← Nat.add_mul]
    exact Nat.mul_le_mul_right k hroom
  have hxl : (arr.toList.take (n * k) ++ news).length = (n + m) * k := by
    rw [List.length_append, List.length_take, Array.length_toList, hl, Nat.add_mul]
    omega
  have hget : ∀ j, j < (n + m) * k → (arr.toList.take (n * k) ++ news ++ arr.toList.drop (n * k + news.length)).toArray[j]? = (arr.toList.take (n * k) ++ news)[j]? := by
    intro j hj
    rw [List.getElem?_toArray, List.getElem?_append_left (by rw [hxl]; exact hj)]
  have hold : ∀ a v, K a = some v → a.block = b → a.spot = none ∧ a.off < n * k ∧ arr[a.off]? = some v := by
    intro a v q hab
    obtain ⟨ab, ao, as⟩ := a
    simp only at hab
    subst hab
    have hcell := h.know _ _ q
    cases as with
    | some s => simp [World.cell?, hw] at hcell
    | none =>
      simp [World.cell?, hw] at hcell
      refine ⟨rfl, ?_, hcell⟩
      refine Nat.lt_of_not_le fun hle => ?_
      rw [h5 ao hle] at q
      cases q
  refine Stp.setOb h i _ _ hi _ ?_ _ (fun a v q => ?_) _ b b (by rw [hh]; rfl) rfl (.inl rfl) rfl rfl rfl (by simp) (fun j _ hj => heap_setRow_other w b j _ hj) (fun a v q => ?_) (fun a v q => ?_) (fun x => ?_)
  · rw [hh]; simp [Ob.le]
  · by_cases hab : a.block = b
    · obtain ⟨a1, a2, a3⟩ := hold a v q hab
      obtain ⟨ab, ao, as⟩ := a
      simp only at hab a1 a2 a3
      subst hab a1
      have hlt : ao < (n + m) * k := Nat.lt_of_lt_of_le a2 (Nat.mul_le_mul_right k (by omega))
      rw [addK_at _ _ _ _ (by rw [hxl]; exact hlt), List.getElem?_append_left (by rw [List.length_take, Array.length_toList]; omega), take_getElem? _ a2]
      simpa using a3
    · rw [addK_other _ _ _ _ hab]; exact q
  · by_cases hab : a.block = b
    · obtain ⟨ab, ao, as⟩ := a
      simp only at hab
      subst hab
      by_cases hc : as = none ∧ ao < (arr.toList.take (n * k) ++ news).length
      · obtain ⟨rfl, hlt⟩ := hc
        rw [addK_at _ _ _ _ hlt] at q
        simp only [World.cell?, heap_setRow_same w ab arr _ e hw, Option.isSome_none, Bool.false_eq_true, if_false]
        rw [hget ao (by rw [← hxl]; exact hlt)]
        exact q
      · rw [addK, if_neg (by simpa using hc)] at q
        obtain ⟨a1, a2, _⟩ := hold _ v q rfl
        exact absurd ⟨a1, by rw [hxl]; exact Nat.lt_of_lt_of_le a2 (Nat.mul_le_mul_right k (by omega))⟩ hc
    · rw [addK_other _ _ _ _ hab] at q
      rw [cell_setRow_other w b _ a hab]
      exact h.know a v q
  · by_cases hab : a.block = b
    · exact .inr hab
    · rw [addK_other _ _ _ _ hab] at q; exact .inl q
  · refine ⟨b, cap, _, rfl, heap_setRow_same w b arr _ e hw, ?_, hroom, h3, h4, fun j hj => ?_⟩
    · simp only [List.size_toArray, List.length_append, List.length_take, List.length_drop, Array.length_toList]; omega
    · rw [addK_past _ _ _ _ (by rw [hxl]; exact hj)]
      exact h5 j (Nat.le_trans (Nat.mul_le_mul_right k (by omega)) hj)

/-- A row of the call's own moves to a greater block. -/
theorem Stp.tokGrow {G K ι st w} (h : Rel G K ι st w) (i n k : Nat) (e : TypeId) (hi : st[i]? = some (.tok n e k)) (m : Nat) (hm0 : 0 < m) (cap : Nat) (arr : Array Value) (xs : List Value)
    (hsz : arr.size = cap * k) (hn : n + m ≤ cap) (hm : cap ≤ maxLen) (hl : xs.length = (n + m) * k) (hx : ∀ j, j < xs.length → arr[j]? = xs[j]?) :
    Stp G K ι st w (addK K w.heap.size xs) (ins ι i (.slice (some ⟨w.heap.size, 0, none⟩) (n + m) cap)) (st.set i (.tok (n + m) e k)) (w.alloc (.cells arr e)) := by
  obtain ⟨b, cap', arr', hh, hw, h1, h2, h3, h4, h5⟩ := h.obj i _ hi
  have hne : ∀ a v, K a = some v → a.block ≠ w.heap.size := fun a v q => by have := h.know_lt q; omega
  refine Stp.setOb h i _ _ hi _ ?_ _ (fun a v q => by rw [addK_other _ _ _ _ (hne a v q)]; exact q) _ b w.heap.size (by rw [hh]; rfl) rfl (.inr (Nat.le_refl _)) rfl rfl rfl (by simp)
    (fun j hj _ => heap_alloc_old w _ j hj) (fun a v q => ?_) (fun a v q => ?_) (fun x => ?_)
  · rw [hh]; simp [Ob.le]; omega
  · by_cases hc : a.block = w.heap.size ∧ a.spot = none ∧ a.off < xs.length
    · obtain ⟨ab, ao, as⟩ := a
      obtain ⟨rfl, rfl, hlt⟩ := hc
      simp only at hlt
      rw [addK_at _ _ _ _ hlt] at q
      rw [World.cell?_alloc_new, hx _ hlt]; exact q
    · rw [addK, if_neg hc] at q
      rw [World.cell?_alloc_lt w _ a (h.know_lt q)]
      exact h.know a v q
  · by_cases hab : a.block = w.heap.size
    · exact .inr hab
    · rw [addK_other _ _ _ _ hab] at q; exact .inl q
  · refine ⟨w.heap.size, cap, arr, rfl, heap_alloc_new w _, hsz, hn, hm, h4, fun j hj => ?_⟩
    rw [addK_past _ _ _ _ (by rw [hl]; exact hj)]
    cases q : K ⟨w.heap.size, j, none⟩ with
    | none => rfl
    | some v => exact absurd rfl (hne _ v q)

end Go.Pv
