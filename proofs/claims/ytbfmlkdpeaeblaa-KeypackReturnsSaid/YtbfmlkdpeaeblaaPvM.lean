/-
  The pure machine, part M: that the operations on plain values are the model's own (9): append, len, min, max.
-/
import Derived.Test.YtbfmlkdpeaeblaaPvL
set_option linter.all false
set_option linter.unusedSimpArgs false
set_option linter.unusedVariables false
namespace Go.Pv

theorem firstCells_nil {P : Program} (size : Nat) (A : Option Addr) (c : Nat) (w : World) : (Builtin.firstCells size 0 (.slice A 0 c)).run P w = .ok #[] w := by
  cases A with
  | none => exact run_firstCells_none w size 0 0 c
  | some ad => exact run_firstCells_some w size 0 ad 0 c [] (by simp) (by simp)

theorem append_nothing {P : Program} {t tx e ty : TypeId} {te : TI} {dd i} (hu : P.underlying t = some (.slice e)) (tye : TyFacts P e te dd i) {A : Option Addr} {n c : Nat} {b : Value} {w : World} (hs : Src P te.size tx b 0 [] w) (hc : n ≤ c) :
    (Builtin.append_ #[t, tx] ty #[.slice A n c, b]).run P w = .ok (.slice A n c) w := by
  have hcells := hs.cells
  have e0 : (#[] : Array Value) = ([] : List Value).toArray := rfl
  rcases hs.kind with ⟨e', hk⟩ | hk <;> cases A <;>
    simp [Builtin.append_, run_underlying hu, run_underlying hk, tye.sizeOf, hs.len, hc, hcells, storeCells]

theorem row_new {K : Know} {k : Nat} {es es2 : List (List PV)} {b : Nat} {c : Nat} (olds news : List Value) (h1 : olds.length = es.length * k) (h2 : news.length = es2.length * k)
    (hk1 : ∀ (j : Nat) (e : List PV), es[j]? = some e → e.length = k) (hk2 : ∀ (j : Nat) (e : List PV), es2[j]? = some e → e.length = k)
    (hv1 : ∀ (j i : Nat) (e : List PV) (p : PV) (v : Value), es[j]? = some e → e[i]? = some p → olds[j * k + i]? = some v → TRel K p v)
    (hv2 : ∀ (j i : Nat) (e : List PV) (p : PV) (v : Value), es2[j]? = some e → e[i]? = some p → news[j * k + i]? = some v → TRel K p v)
    (ho : ∀ v ∈ olds, v.oneCell' = true) (hn : ∀ v ∈ news, v.oneCell' = true) (hK : ∀ q, q < (olds ++ news).length → K ⟨b, q, none⟩ = (olds ++ news)[q]?) (hc : es.length + es2.length ≤ c) (hm : c ≤ maxLen) :
    TRel K (.sl k (es ++ es2) .ro) (.slice (some ⟨b, 0, none⟩) (es.length + es2.length) c) := by
  have hl : (es ++ es2).length = es.length + es2.length := List.length_append
  rw [← hl]
  refine TRel.slOf k (es ++ es2) b c (olds ++ news) (by rw [List.length_append, h1, h2, hl, Nat.add_mul]) hK (fun j e he => ?_) (fun j i e p v he hp hv => ?_) (fun v hv => ?_) (by omega) hm .ro (.inl rfl)
  · by_cases hj : j < es.length
    · rw [List.getElem?_append_left hj] at he; exact hk1 j e he
    · rw [List.getElem?_append_right (by omega)] at he; exact hk2 _ e he
  · by_cases hj : j < es.length
    · rw [List.getElem?_append_left hj] at he
      have hi : i < k := by rw [← hk1 j e he]; exact (List.getElem?_eq_some_iff.1 hp).1
      rw [List.getElem?_append_left (by rw [h1]; exact row_lt hj hi)] at hv
      exact hv1 j i e p v he hp hv
    · rw [List.getElem?_append_right (by omega)] at he
      have hle : es.length * k ≤ j * k := Nat.mul_le_mul_right k (by omega)
      rw [List.getElem?_append_right (by rw [h1]; omega)] at hv
      refine hv2 (j - es.length) i e p v he hp ?_
      rw [← hv, h1]
      congr 1
      rw [Nat.sub_mul]; omega
  · rcases List.mem_append.1 hv with q | q
    · exact ho v q
    · exact hn v q

theorem maxLen_eq : maxLen = 9223372036854775807 := rfl

theorem gives_append {E : Env} (hE : EnvOk E) {K ι st w} (h : Rel E.G K ι st w) {t tx e ty : TypeId} {ti : TI} (hT : E.T t = some ti) (hk : ti.kind = .slice e) {s x q : PV} {a b : Value} {st' : Store} (ha : VRel K ι st s a) (hb : VRel K ι st x b)
    (es2 : List (List PV)) (k2 : Nat)
    (hx : (∃ tox ttx e', E.T tx = some ttx ∧ ttx.kind = .slice e' ∧ x = .sl k2 es2 tox) ∨ ∃ ttx s, E.T tx = some ttx ∧ ttx.kind = .str ∧ x = .str s ∧ es2 = s.map (fun c => [.int .u8 c.toNat]) ∧ k2 = 1)
    (ho : appendF E st e s es2 k2 = some (q, st')) : Gives E.G K ι st w ((Builtin.append_ #[t, tx] ty #[a, b]).run E.P w) q st' := by
  obtain ⟨d, i, tyt⟩ := hE.ty hT
  have hu := kind_slice tyt hk
  unfold appendF at ho
  split at ho
  · cases ho
  · rename_i te hTe
    obtain ⟨d', ie, tye⟩ := hE.ty hTe
    split at ho
    · rename_i k es tok
      split at ho
      · rename_i hcond
        obtain ⟨hlim, hpos, hk1, hk2⟩ := hcond
        unfold LIM at hlim
        obtain ⟨news, src, hl2, hv2⟩ := src_of hE h hb es2 k2 hx hk2
        have htr := ha.slTree
        obtain ⟨A, c, bb, off, f, rfl, hkl, hA, hK, hv, h1, hcc, hmm, hn, _⟩ := htr.slCells
        split at ho
        · rename_i he
          simp only [Option.some.injEq, Prod.mk.injEq] at ho
          obtain ⟨rfl, rfl⟩ := ho
          subst he
          have hnews : news = [] := List.eq_nil_of_length_eq_zero (by rw [src.newsLen]; simp)
          subst hnews
          rw [append_nothing (ty := ty) hu tye src hcc]
          exact Gives.pure h ha
        · rename_i hne
          have hm0 : 0 < es2.length := List.length_pos_iff.2 hne
          have hk2' : k2 = te.size := hk2.resolve_right hne
          have hz := tye.hz
          obtain ⟨z, hz, hzs, _⟩ := hz
          -- the cells that were there
          have old : ∃ olds : List Value, olds.length = es.length * te.size ∧ (Builtin.firstCells ie.size es.length (.slice A es.length c)).run E.P w.drew = .ok olds.toArray w.drew ∧ (∀ v ∈ olds, v.oneCell' = true) ∧
              (∀ (j i : Nat) (e : List PV) (p : PV) (v : Value), es[j]? = some e → e[i]? = some p → olds[j * te.size + i]? = some v → TRel K p v) ∧ (∀ (j : Nat) (e : List PV), es[j]? = some e → e.length = te.size) ∧
              ∀ q, q < olds.length → K ⟨bb, off + q, none⟩ = olds[q]? := by
            rcases hk1 with hk1 | hk1
            · subst hk1
              by_cases hes : es = []
              · subst hes
                exact ⟨[], by simp, firstCells_nil _ _ _ _, by simp, by simp, by simp, by simp⟩
              · rw [hA hes]
                refine ⟨flatF f es.length te.size, flatF_length _ _ _, ?_, fun v hv' => ?_, fun j i e p v he hp hv' => ?_, hkl, fun q hq => ?_⟩
                · refine run_firstCells_some w.drew _ _ _ _ _ _ (by rw [flatF_length, tye.hs]) (fun j v hj => ?_)
                  have hlt : j < es.length * te.size := by rw [← flatF_length f]; exact (List.getElem?_eq_some_iff.1 hj).1
                  rw [flatF_get _ _ _ _ hlt] at hj
                  injection hj with hj
                  rw [Addr.add_mid, World.cell?_drew, ← hj]
                  exact h.know _ _ (hK j hlt)
                · obtain ⟨j, i, rfl⟩ := flatF_mem hv'; exact h1 j i
                · have hjl : j < es.length := (List.getElem?_eq_some_iff.1 he).1
                  have hil : i < te.size := by rw [← hkl j e he]; exact (List.getElem?_eq_some_iff.1 hp).1
                  rw [flatF_at f hjl hil] at hv'
                  injection hv' with hv'
                  rw [← hv']
                  exact hv j i e p he hp
                · rw [flatF_length] at hq
                  rw [flatF_get _ _ _ _ hq]; exact hK q hq
            · subst hk1
              exact ⟨[], by simp, firstCells_nil _ _ _ _, by simp, by simp, by simp, by simp⟩
          obtain ⟨olds, o1, o2, o3, o4, o5, o6⟩ := old
          have nl : news.length = es2.length * te.size := src.newsLen
          have hl2' : ∀ (j : Nat) (e : List PV), es2[j]? = some e → e.length = te.size := fun j e he => hk2' ▸ hl2 j e he
          -- growth
          have grow : c < es.length + es2.length → (Builtin.append_ #[t, tx] ty #[.slice A es.length c, b]).run E.P w =
              .ok (.slice (some ⟨w.heap.size, 0, none⟩) (es.length + es2.length) (grownCap w (es.length + es2.length) c e))
                (w.drew.alloc (.cells ((olds ++ news).toArray ++ Builtin.zeroCells z.cells (grownCap w (es.length + es2.length) c e - (es.length + es2.length))) e)) := by
            intro hg
            refine run_append_grow_src w t tx ty e ie z hu tye.hi hz A es.length c olds o2 b es2.length news (by rw [tye.hs]; exact src) hg (by omega) ?_
            have hb := tye.hb
            have h2 := Go.Room.nextslicecap_le' hg
            calc Builtin.nextslicecap (es.length + es2.length) c * ie.bytes ≤ (2 * (es.length + es2.length)) * 4096 := Nat.mul_le_mul h2 hb
              _ ≤ 281474976710656 := by omega
          have cap1 := grownCap_ge w (es.length + es2.length) c e
          have cap2 := grownCap_le_maxLen w (es.length + es2.length) c e (by rw [maxLen_eq]; omega)
          have xl : (olds ++ news).length = (es.length + es2.length) * te.size := by rw [List.length_append, o1, nl, Nat.add_mul]
          have arrsz : ((olds ++ news).toArray ++ Builtin.zeroCells z.cells (grownCap w (es.length + es2.length) c e - (es.length + es2.length))).size = grownCap w (es.length + es2.length) c e * te.size := by
            rw [Array.size_append, size_zeroCells, hzs, List.size_toArray, xl, ← Nat.add_mul]
            congr 1; omega
          have arrget : ∀ j, j < (olds ++ news).length → ((olds ++ news).toArray ++ Builtin.zeroCells z.cells (grownCap w (es.length + es2.length) c e - (es.length + es2.length)))[j]? = (olds ++ news)[j]? := by
            intro j hj
            rw [Array.getElem?_append_left (by simpa using hj), List.getElem?_toArray]
          cases tok with
          | ro => cases ho
          | full =>
            simp only [Option.some.injEq, Prod.mk.injEq] at ho
            obtain ⟨rfl, rfl⟩ := ho
            have hcl : c = es.length := by
              cases ha with
              | tree _ _ q => cases q with | sl _ _ _ _ _ _ _ _ _ _ _ _ _ _ _ _ ht => simpa using ht
            have hg : c < es.length + es2.length := by omega
            rw [grow hg]
            have stp := (Stp.drew h).trans (Stp.tokNew h.drew _ e (es.length + es2.length) _ te.size (olds ++ news) arrsz cap1 cap2 hpos xl arrget)
            rw [World.size_drew] at stp
            refine ⟨_, _, _, _, rfl, stp, ?_⟩
            have hx := stp.ext.know
            have := VRel.own (K := addK K w.heap.size (olds ++ news)) (ι := ins ι st.length (.slice (some ⟨w.heap.size, 0, none⟩) (es.length + es2.length) (grownCap w (es.length + es2.length) c e))) (st := st ++ [.tok (es.length + es2.length) e te.size])
              te.size (es ++ es2) st.length (some ⟨w.heap.size, 0, none⟩) (grownCap w (es.length + es2.length) c e) (es.length + es2.length) e
              (by rw [List.length_append]; exact row_new olds news o1 nl o5 hl2' (fun j i e p v a b c => (o4 j i e p v a b c).mono hx) (fun j i e p v a b c => (hv2 j i e p v a b c).mono hx) o3 src.one (fun q hq => by rw [addK_at _ _ _ _ hq]) cap1 cap2)
              (by simp) (by simp) (fun _ => by rw [ins_same, List.length_append])
            rw [List.length_append] at this
            exact this
          | own id =>
            simp only at ho
            split at ho
            · rename_i n e' k' hst
              split at ho
              · rename_i hq
                obtain ⟨rfl, he', rfl, rfl⟩ := hq
                replace he' := he'.symm
                subst he'
                simp only [Option.some.injEq, Prod.mk.injEq] at ho
                obtain ⟨rfl, rfl⟩ := ho
                have hh : ι id = .slice A es.length c := by
                  cases ha with
                  | tree _ _ q => cases q with | sl _ _ _ _ _ _ _ _ _ _ _ _ _ _ _ _ ht => simp at ht
                  | own _ _ _ _ _ m e'' _ hst' hle heq =>
                    rw [hst] at hst'
                    injection hst' with hst'
                    injection hst' with q1 _ _
                    exact heq q1
                obtain ⟨b', cap, arr, hh', hw, a1, a2, a3, a4, a5⟩ := h.obj id _ hst
                rw [hh] at hh'
                injection hh' with q1 _ q3
                subst q1 q3
                -- the block's head is what is known
                have hhead : arr.toList.take (es.length * te.size) = olds := by
                  apply List.ext_getElem?
                  intro j
                  by_cases hj : j < es.length * te.size
                  · rw [take_getElem? _ hj]
                    have hne' : es ≠ [] := fun q => by rw [q] at hj; simp at hj
                    have hAA := hA hne'
                    injection hAA with hAA
                    injection hAA with q1 q2 _
                    have := h.know _ _ ((o6 j (by rw [o1]; exact hj)).trans (List.getElem?_eq_getElem (by rw [o1]; exact hj)))
                    rw [← q1, ← q2, Nat.zero_add] at this
                    simp [World.cell?, hw] at this
                    rw [List.getElem?_eq_getElem (l := olds) (by rw [o1]; exact hj)]
                    simpa using this
                  · rw [List.getElem?_eq_none (by rw [List.length_take]; omega), List.getElem?_eq_none (by rw [o1]; omega)]
                by_cases hroom : es.length + es2.length ≤ c
                · have run := run_append_room_src w t tx ty e ie hu tye.hi b' 0 es.length c b es2.length news (by rw [tye.hs]; exact src) hroom (fun j hj => by
                      rw [tye.hs, Nat.zero_add]
                      have hlt : es.length * te.size + j < arr.size := by
                        rw [a1]
                        have := Nat.mul_le_mul_right te.size hroom
                        rw [Nat.add_mul] at this
                        omega
                      simp [World.cell?, hw, hlt]) (fun j hj => frozen_of_row w b' _ arr e hw)
                  rw [run, tye.hs, Nat.zero_add]
                  have hfit : es.length * te.size + news.length ≤ arr.size := by
                    rw [a1, nl, ← Nat.add_mul]; exact Nat.mul_le_mul_right _ hroom
                  have hsr : w.setCells b' (es.length * te.size) news = w.setRow b' (arr.toList.take (es.length * te.size) ++ news ++ arr.toList.drop (es.length * te.size + news.length)).toArray := by
                    have e1 := run_storeCells_at E.P b' (es.length * te.size) e news 0 arr w hw (by simpa using hfit) src.one
                    have e2 := run_storeCells_cells (P := E.P) b' (es.length * te.size) news 0 w (fun j hj => by
                      have hlt : es.length * te.size + j < arr.size := by omega
                      simp [World.cell?, hw, hlt]) (fun j hj => frozen_of_row w b' _ arr e hw) src.one
                    simp only [Nat.add_zero] at e1 e2
                    rw [e1] at e2
                    injection e2 with _ e2
                    exact e2.symm
                  rw [hsr]
                  have stp := Stp.tokRoom h id es.length te.size e hst b' c arr hh hw es2.length news nl hroom
                  rw [hhead] at stp
                  rw [hhead]
                  refine ⟨_, _, _, _, rfl, stp, ?_⟩
                  have hx := stp.ext.know
                  have := VRel.own (K := addK K b' (olds ++ news)) (ι := ins ι id (.slice (some ⟨b', 0, none⟩) (es.length + es2.length) c)) (st := st.set id (.tok (es.length + es2.length) e te.size))
                    te.size (es ++ es2) id (some ⟨b', 0, none⟩) c (es.length + es2.length) e
                    (by rw [List.length_append]; exact row_new olds news o1 nl o5 hl2' (fun j i e p v a b c => (o4 j i e p v a b c).mono hx) (fun j i e p v a b c => (hv2 j i e p v a b c).mono hx) o3 src.one (fun q hq => by rw [addK_at _ _ _ _ hq]) hroom hmm)
                    (getElem?_set_eq' _ _ _ _ hst) (by simp) (fun _ => by rw [ins_same, List.length_append])
                  rw [List.length_append] at this
                  exact this
                · rw [grow (by omega)]
                  have stp := (Stp.drew h).trans (Stp.tokGrow h.drew id es.length te.size e hst es2.length hm0 _ _ (olds ++ news) arrsz cap1 cap2 xl arrget)
                  rw [World.size_drew] at stp
                  refine ⟨_, _, _, _, rfl, stp, ?_⟩
                  have hx := stp.ext.know
                  have := VRel.own (K := addK K w.heap.size (olds ++ news)) (ι := ins ι id (.slice (some ⟨w.heap.size, 0, none⟩) (es.length + es2.length) (grownCap w (es.length + es2.length) c e))) (st := st.set id (.tok (es.length + es2.length) e te.size))
                    te.size (es ++ es2) id (some ⟨w.heap.size, 0, none⟩) (grownCap w (es.length + es2.length) c e) (es.length + es2.length) e
                    (by rw [List.length_append]; exact row_new olds news o1 nl o5 hl2' (fun j i e p v a b c => (o4 j i e p v a b c).mono hx) (fun j i e p v a b c => (hv2 j i e p v a b c).mono hx) o3 src.one (fun q hq => by rw [addK_at _ _ _ _ hq]) cap1 cap2)
                    (getElem?_set_eq' _ _ _ _ hst) (by simp) (fun _ => by rw [ins_same, List.length_append])
                  rw [List.length_append] at this
                  exact this
              · cases ho
            · cases ho
      · cases ho
    · cases ho

end Go.Pv
