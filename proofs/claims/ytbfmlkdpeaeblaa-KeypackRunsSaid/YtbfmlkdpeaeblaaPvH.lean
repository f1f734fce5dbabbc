/-
  The pure machine, part H: that the operations on plain values are the model's own (4): cutting, making, maps, conversions, literals.
-/
import Derived.Test.YtbfmlkdpeaeblaaPvG
set_option linter.all false
set_option linter.unusedSimpArgs false
set_option linter.unusedVariables false
namespace Go.Pv

theorem opt_idx {K ι st} {o : Option PV} {v : Option Value} {d j : Nat} (h : (match o with | none => some d | some p => idxN p) = some j) (hv : ∀ p, o = some p → ∃ a, v = some a ∧ VRel K ι st p a) (hn : o = none → v = none) :
    (o = none ∧ v = none ∧ j = d) ∨ ∃ k, v = some (.int k (j : Int)) ∧ o.isSome = true := by
  cases o with
  | none => simp at h; exact .inl ⟨rfl, hn rfl, h.symm⟩
  | some p =>
    obtain ⟨a, rfl, ha⟩ := hv p rfl
    obtain ⟨k, rfl, _⟩ := idx_int h ha
    exact .inr ⟨k, rfl, rfl⟩

theorem bound_in {P : Program} (k : IntKind) (j y : Nat) (c : BoundsCode) (h : j ≤ y) (w : World) : (Instr.sliceBound (.int k (j : Int)) y c).run P w = .ok j w := by
  have : (j : Int) ≤ (y : Int) := by omega
  simp [Instr.sliceBound, asIntOf, this]

/-- The bounds of a cut. -/
theorem sliceF_run {P : Program} {K ι st} {len : Nat} {lo hi mx : Option PV} {vlo vhi vmx : Option Value} {l h : Nat} {f : Bool} (hs : sliceF len lo hi mx = some (l, h, f))
    (h1 : ∀ p, lo = some p → ∃ a, vlo = some a ∧ VRel K ι st p a) (h1' : lo = none → vlo = none) (h2 : ∀ p, hi = some p → ∃ a, vhi = some a ∧ VRel K ι st p a) (h2' : hi = none → vhi = none)
    (h3 : ∀ p, mx = some p → ∃ a, vmx = some a ∧ VRel K ι st p a) (h3' : mx = none → vmx = none) (isS : Bool) (cap : Nat) (hc : len ≤ cap) (hc' : isS = false → cap = len) (w : World) :
    l ≤ h ∧ h ≤ len ∧ ∃ m, (Instr.sliceBounds isS len cap vlo vhi vmx).run P w = .ok (l, h, m) w ∧ h ≤ m ∧ m ≤ cap ∧ (f = true → m = h) ∧ (mx = none → m = cap) := by
  unfold sliceF at hs
  split at hs
  · rename_i hh ll eh el
    split at hs
    · rename_i hb
      cases mx with
      | none =>
        simp only [Option.some.injEq, Prod.mk.injEq] at hs
        obtain ⟨rfl, rfl, rfl⟩ := hs
        have hm : vmx = none := h3' rfl
        subst hm
        refine ⟨hb.1, hb.2, cap, ?_, by omega, Nat.le_refl _, by simp, fun _ => rfl⟩
        rcases opt_idx eh h2 h2' with ⟨q1, q2, q3⟩ | ⟨k, q2, q3⟩ <;> rcases opt_idx el h1 h1' with ⟨r1, r2, r3⟩ | ⟨k', r2, r3⟩ <;> subst q2 r2
        · subst q3 r3; simp [Instr.sliceBounds]
        · subst q3; simp [Instr.sliceBounds, bound_in _ _ _ _ hb.1]
        · subst r3; simp [Instr.sliceBounds, bound_in _ _ _ _ (Nat.le_trans hb.2 hc)]
        · simp [Instr.sliceBounds, bound_in _ _ _ _ (Nat.le_trans hb.2 hc), bound_in _ _ _ _ hb.1]
      | some p =>
        simp only at hs
        split at hs
        · rename_i m em
          split at hs
          · rename_i hm
            simp only [Option.some.injEq, Prod.mk.injEq] at hs
            obtain ⟨rfl, rfl, rfl⟩ := hs
            obtain ⟨a, rfl, ha⟩ := h3 p rfl
            obtain ⟨km, rfl, _⟩ := idx_int em ha
            refine ⟨hb.1, hb.2, m, ?_, hm.1, by omega, by simp, by simp⟩
            rcases opt_idx eh h2 h2' with ⟨q1, q2, q3⟩ | ⟨k, q2, q3⟩
            · rw [q1] at hm; simp at hm
            · rcases opt_idx el h1 h1' with ⟨r1, r2, r3⟩ | ⟨k', r2, r3⟩ <;> subst q2 r2
              · subst r3; simp [Instr.sliceBounds, bound_in _ _ _ _ (Nat.le_trans hm.2.1 hc), bound_in _ _ _ _ hm.1]
              · simp [Instr.sliceBounds, bound_in _ _ _ _ (Nat.le_trans hm.2.1 hc), bound_in _ _ _ _ hm.1, bound_in _ _ _ _ hb.1]
          · cases hs
        · cases hs
    · cases hs
  · cases hs

theorem str_cut (s : List UInt8) (l h : Nat) : (bytesV s).extract l h = bytesV ((s.take h).drop l) := by
  apply ByteArray.ext
  simp [bytesV, ByteArray.data_extract, List.drop_take]

/-- A shared slice, cut. -/
theorem TRel.cut {K : Know} {k : Nat} {es : List (List PV)} {A : Option Addr} {c : Nat} (h : TRel K (.sl k es .ro) (.slice A es.length c)) {l hh m : Nat} (hl : l ≤ hh) (hle : hh ≤ es.length) (hm : hh ≤ m) (hmc : m ≤ c) (t : Tok)
    (ht : t = .ro ∨ (t = .full ∧ m = hh)) : TRel K (.sl k ((es.take hh).drop l) t) (.slice (if m = l then A else A.map (·.add (l * k))) (hh - l) (m - l)) := by
  have hlen : ((es.take hh).drop l).length = hh - l := by simp; omega
  rw [← hlen]
  cases h with
  | sl _ _ _ _ _ b off f hk hA hK hv h1 hcc hmm hn _ =>
    have get : ∀ (j : Nat) (e : List PV), ((es.take hh).drop l)[j]? = some e → es[l + j]? = some e := by
      intro j e q
      rw [List.getElem?_drop] at q
      have : l + j < hh := by
        have := (List.getElem?_eq_some_iff.1 q).1
        simp at this; omega
      rwa [List.getElem?_take_of_lt this] at q
    refine .sl k _ t _ _ b (off + l * k) (fun j i => f (l + j) i) (fun j e q => hk _ _ (get j e q)) (fun hne => ?_) (fun j i hj hi => ?_) (fun j i e p q hp => hv _ _ e p (get j e q) hp) (fun j i => h1 _ _) (by omega) (by omega) (fun q => ?_) (by
      rcases ht with q | ⟨q, rfl⟩
      · exact .inl q
      · exact .inr ⟨q, hlen.symm⟩)
    · have hlt : 0 < ((es.take hh).drop l).length := List.length_pos_iff.2 hne
      have hne' : es ≠ [] := fun q => by rw [q] at hlt; simp at hlt
      rw [if_neg (by omega), hA hne']
      simp [Addr.add_mid]
    · rw [hlen] at hj
      have := hK (l + j) i (by omega) hi
      rw [← this]
      congr 2
      rw [Nat.add_mul]; omega
    · split at q
      · omega
      · cases A with
        | none => have := hn rfl; omega
        | some ad => cases q

theorem gives_slice {E : Env} (hE : EnvOk E) {K ι st w} (h : Rel E.G K ι st w) {t : TypeId} {ti : TI} (hT : E.T t = some ti) {x q : PV} {a : Value} (ha : VRel K ι st x a) {lo hi mx : Option PV} {vlo vhi vmx : Option Value}
    (h1 : ∀ p, lo = some p → ∃ a, vlo = some a ∧ VRel K ι st p a) (h1' : lo = none → vlo = none) (h2 : ∀ p, hi = some p → ∃ a, vhi = some a ∧ VRel K ι st p a) (h2' : hi = none → vhi = none)
    (h3 : ∀ p, mx = some p → ∃ a, vmx = some a ∧ VRel K ι st p a) (h3' : mx = none → vmx = none)
    (ho : (∃ s l h f, ti.kind = .str ∧ x = .str s ∧ mx = none ∧ sliceF s.length lo hi none = some (l, h, f) ∧ q = .str ((s.take h).drop l)) ∨
      (∃ e te k es tok l h f, ti.kind = .slice e ∧ E.T e = some te ∧ te.size = k ∧ x = .sl k es tok ∧ sliceF es.length lo hi mx = some (l, h, f) ∧
        q = .sl k ((es.take h).drop l) (if f then .full else match tok with | .full => if h = es.length ∧ mx.isNone then .full else .ro | _ => .ro)) ∨
      (∃ e te id tot off len k l h f, ti.kind = .slice e ∧ E.T e = some te ∧ te.size = k ∧ x = .osl id tot off len k ∧ sliceF len lo hi mx = some (l, h, f) ∧ q = .osl id tot (off + l * k) (h - l) k) ∨
      (∃ n e te id tot off cs l h f, ti.kind = .array n e ∧ E.T e = some te ∧ x = .optr id tot off ∧ st[id]? = some (.cells cs) ∧ sliceF n lo hi mx = some (l, h, f) ∧ tot = cs.length ∧ off + n * te.size ≤ tot ∧
        q = .osl id tot (off + l * te.size) (h - l) te.size)) :
    Gives E.G K ι st w ((Instr.sliceAt t a vlo vhi vmx).run E.P w) q st := by
  obtain ⟨d, i, ty⟩ := hE.ty hT
  rcases ho with ⟨s, l, hh, f, hk, rfl, rfl, hs, rfl⟩ | ⟨e, te, k, es, tok, l, hh, f, hk, hTe, hsz, rfl, hs, rfl⟩ | ⟨e, te, id, tot, off, len, k, l, hh, f, hk, hTe, hsz, rfl, hs, rfl⟩ | ⟨n, e, te, id, tot, off, cs, l, hh, f, hk, hTe, rfl, hst, hs, htot, hfit, rfl⟩
  · have hu := kind_str ty hk
    have hm := h3' rfl
    subst hm
    rw [ha.strV]
    obtain ⟨b1, b2, m, b3, _⟩ := sliceF_run (P := E.P) hs h1 h1' h2 h2' (fun _ q => by cases q) (fun _ => rfl) false s.length (Nat.le_refl _) (fun _ => rfl) w
    have hsz : (bytesV s).size = s.length := by simp [bytesV, ByteArray.size]
    have : (Instr.sliceAt t (.string (bytesV s)) vlo vhi none).run E.P w = .ok (.string (bytesV ((s.take hh).drop l))) w := by
      simp [Instr.sliceAt, Instr.slice, run_underlying hu, hsz, b3, str_cut]
    rw [this]
    exact Gives.pure h (.tree _ _ (.str _))
  · have hu := kind_slice ty hk
    obtain ⟨d', i', tye⟩ := hE.ty hTe
    have htr := ha.slTree
    obtain ⟨A, c, b, off, g, rfl, _, _, _, _, _, hcc, hmm, _, _⟩ := htr.slCells
    obtain ⟨b1, b2, m, b3, b4, b5, b6, b7⟩ := sliceF_run (P := E.P) hs h1 h1' h2 h2' h3 h3' true c hcc (fun q => by cases q) w
    have : (Instr.sliceAt t (.slice A es.length c) vlo vhi vmx).run E.P w = .ok (.slice (if m = l then A else A.map (·.add (l * k))) (hh - l) (m - l)) w := by
      simp [Instr.sliceAt, Instr.slice, run_underlying hu, b3, tye.sizeOf, hsz]
    rw [this]
    refine Gives.pure h (.tree _ _ (htr.cut b1 b2 b4 b5 _ ?_))
    by_cases hf : f = true
    · rw [if_pos hf]; exact .inr ⟨rfl, b6 hf⟩
    · rw [if_neg hf]
      cases tok with
      | full =>
        simp only
        split
        · rename_i hq
          refine .inr ⟨rfl, ?_⟩
          have hmx : mx = none := by simpa using hq.2
          rw [b7 hmx, hq.1]
          cases ha with
          | tree _ _ q =>
            cases q with
            | sl _ _ _ _ _ _ _ _ _ _ _ _ _ _ _ _ ht => simpa using ht
        · exact .inl rfl
      | _ => exact .inl rfl
  · have hu := kind_slice ty hk
    obtain ⟨d', i', tye⟩ := hE.ty hTe
    cases ha with
    | tree _ _ q => cases q
    | osl _ _ _ _ _ A c cs hst hle hlc hn heq =>
      obtain ⟨b1, b2, m, b3, b4, b5, b6, b7⟩ := sliceF_run (P := E.P) hs h1 h1' h2 h2' h3 h3' true c hlc (fun q => by cases q) w
      have : (Instr.sliceAt t (.slice A len c) vlo vhi vmx).run E.P w = .ok (.slice (if m = l then A else A.map (·.add (l * k))) (hh - l) (m - l)) w := by
        simp [Instr.sliceAt, Instr.slice, run_underlying hu, b3, tye.sizeOf, hsz]
      rw [this]
      refine Gives.pure h (.osl _ _ _ _ _ _ _ cs hst hle (by omega) ⟨fun q => ?_, by have := hn.2; omega⟩ (fun q => ?_))
      · split at q
        · omega
        · cases A with
          | none => have := hn.1 rfl; omega
          | some ad => cases q
      · obtain ⟨b, s, e1, e2, e3, e4⟩ := heq q
        refine ⟨b, s, e1, fun hz => ?_, ?_, ?_⟩
        · rw [if_neg (by omega), e2 (by omega)]
          simp [Addr.add_mid]
        · have : (l + (hh - l)) * k ≤ len * k := Nat.mul_le_mul_right k (by omega)
          rw [Nat.add_mul] at this
          omega
        · have : (l + (m - l)) * k ≤ c * k := Nat.mul_le_mul_right k (by omega)
          rw [Nat.add_mul] at this
          omega
  · have hu := kind_array ty hk
    obtain ⟨d', i', tye⟩ := hE.ty hTe
    cases ha with
    | tree _ _ q => cases q
    | optr _ _ _ ad cs' hst' hle heq =>
      rw [hst] at hst'
      injection hst' with hst'
      injection hst' with hst'
      subst hst'
      obtain ⟨b, s, e1, rfl⟩ := heq htot
      obtain ⟨b1, b2, m, b3, b4, b5, b6, b7⟩ := sliceF_run (P := E.P) hs h1 h1' h2 h2' h3 h3' false n (Nat.le_refl _) (fun _ => rfl) w
      have : (Instr.sliceAt t (.pointer (some ⟨b, off, none⟩)) vlo vhi vmx).run E.P w = .ok (.slice (some (if m = l then ⟨b, off, none⟩ else ⟨b, off + l * te.size, none⟩)) (hh - l) (m - l)) w := by
        simp [Instr.sliceAt, Instr.sureAddr, run_underlying hu, b3, tye.sizeOf, Addr.add_mid]
      rw [this]
      obtain ⟨b', arr, ee, hh', hw, hl, _⟩ := h.obj id _ hst
      rw [e1] at hh'
      injection hh' with q1 _ q3
      refine Gives.pure h (.osl _ _ _ _ _ _ _ cs hst hle (by omega) ⟨fun q => (by cases q), by have := kind_array_le ty hk; unfold LIM at this; have : maxLen = 9223372036854775807 := rfl; omega⟩ (fun q => ⟨b, s, e1, fun hz => by rw [if_neg (by omega)], ?_, ?_⟩))
      · have : (l + (hh - l)) * te.size ≤ n * te.size := Nat.mul_le_mul_right _ (by omega)
        rw [Nat.add_mul] at this
        omega
      · have : (l + (m - l)) * te.size ≤ n * te.size := Nat.mul_le_mul_right _ (by omega)
        rw [Nat.add_mul] at this
        omega

end Go.Pv
