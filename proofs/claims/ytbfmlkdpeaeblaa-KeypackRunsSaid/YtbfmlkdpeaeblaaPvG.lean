/-
  The pure machine, part G: that the operations on plain values are the model's own (3): addresses, slices, maps.
-/
import Derived.Test.YtbfmlkdpeaeblaaPvF
set_option linter.all false
set_option linter.unusedSimpArgs false
set_option linter.unusedVariables false
namespace Go.Pv

theorem idx_int {K ι st} {p : PV} {v : Value} {j : Nat} (h : idxN p = some j) (hv : VRel K ι st p v) : ∃ k, v = .int k (j : Int) ∧ p = .int k (j : Int) := by
  unfold idxN at h
  split at h
  · rename_i k n
    split at h
    · rename_i hn
      injection h with h
      subst h
      have : ((n.toNat : Nat) : Int) = n := Int.toNat_of_nonneg hn
      exact ⟨k, by rw [this]; exact hv.intV, by rw [this]⟩
    · cases h
  · cases h

theorem kind_strct {P t ti d i fs} (ty : TyFacts P t ti d i) (hk : ti.kind = .strct fs) : ∃ l, P.underlying t = some (.struct l) ∧ l.toList.map (fun f => (f.offset, f.type)) = fs := by
  have h := ty.hk
  rw [hk] at h
  rw [ty.hu]
  cases d <;> simp [kindOk] at h
  exact ⟨_, rfl, h⟩
theorem kind_slice {P t ti d i e} (ty : TyFacts P t ti d i) (hk : ti.kind = .slice e) : P.underlying t = some (.slice e) := by
  have h := ty.hk
  rw [hk] at h
  rw [ty.hu]
  cases d <;> simp [kindOk] at h
  rw [h]
theorem kind_array {P t ti d i n e} (ty : TyFacts P t ti d i) (hk : ti.kind = .array n e) : P.underlying t = some (.array n e) := by
  have h := ty.hk
  rw [hk] at h
  rw [ty.hu]
  cases d <;> simp [kindOk] at h
  rw [h.1, h.2.1]
theorem kind_array_le {P t ti d i n e} (ty : TyFacts P t ti d i) (hk : ti.kind = .array n e) : n ≤ LIM := by
  have h := ty.hk
  rw [hk] at h
  cases d <;> simp [kindOk] at h
  rw [← h.1]; exact h.2.2
theorem kind_str {P t ti d i} (ty : TyFacts P t ti d i) (hk : ti.kind = .str) : P.underlying t = some .string := by
  have h := ty.hk
  rw [hk] at h
  rw [ty.hu]
  cases d <;> simp [kindOk] at h
  rfl
theorem kind_int {P t ti d i k} (ty : TyFacts P t ti d i) (hk : ti.kind = .int k) : P.underlying t = some (.int k) := by
  have h := ty.hk
  rw [hk] at h
  rw [ty.hu]
  cases d <;> simp [kindOk] at h
  rw [h]
theorem kind_map {P t ti d i k v} (ty : TyFacts P t ti d i) (hk : ti.kind = .map k v) : P.underlying t = some (.map k v) := by
  have h := ty.hk
  rw [hk] at h
  rw [ty.hu]
  cases d <;> simp [kindOk] at h
  rw [h.1, h.2]

theorem field_at {l : Array Field} {fs : List (Nat × TypeId)} (h : l.toList.map (fun f => (f.offset, f.type)) = fs) {j : Nat} {o : Nat} {t : TypeId} (hj : fs[j]? = some (o, t)) :
    ∃ f, l[j]? = some f ∧ f.offset = o ∧ f.type = t := by
  rw [← h, List.getElem?_map] at hj
  obtain ⟨f, hf, e⟩ := Option.map_eq_some_iff.1 hj
  injection e with e1 e2
  exact ⟨f, by simpa using hf, e1, e2⟩

theorem run_fieldAt_plain {P : Program} {s : TypeId} {l : Array Field} (hu : P.underlying s = some (.struct l)) {j : Nat} {f : Field} (hf : l[j]? = some f) {n : Nat} (hs : ∀ w, (sizeOf f.type).run P w = .ok n w) (hn : n ≠ 0) (b o : Nat) (w : World) :
    (Instr.fieldAt s (.pointer (some ⟨b, o, none⟩)) j).run P w = .ok (.pointer (some ⟨b, o + f.offset, none⟩)) w := by
  simp [Instr.fieldAt, run_underlying hu, hf, Instr.sureAddr, fieldPlace, hs, hn, Addr.add_mid]

theorem rptr_drop {K : Know} {cs : List PV} {b off : Nat} {f : Nat → Value} (hK : ∀ i : Nat, i < cs.length → K ⟨b, off + i, none⟩ = some (f i)) (h1 : ∀ i : Nat, (f i).oneCell' = true)
    (hr : ∀ (i : Nat) (p : PV), cs[i]? = some p → TRel K p (f i)) (n : Nat) : TRel K (.rptr (cs.drop n)) (.pointer (some ⟨b, off + n, none⟩)) :=
  .rptr _ b (off + n) (fun i => f (n + i)) (fun i hi => by
    rw [List.length_drop] at hi
    rw [Nat.add_assoc]
    exact hK _ (by omega)) (fun i => h1 _) (fun i p hp => by
    rw [List.getElem?_drop] at hp
    exact hr _ p hp)

theorem optr_shift {K ι st id tot off} {a : Value} (h : VRel K ι st (.optr id tot off) a) (b' o' : Nat) (n : Nat) (ha : a = .pointer (some ⟨b', o', none⟩)) : VRel K ι st (.optr id tot (off + n)) (.pointer (some ⟨b', o' + n, none⟩)) := by
  cases h with
  | tree _ _ q => cases q
  | optr _ _ _ a cs hst hle heq =>
    injection ha with ha
    injection ha with ha
    subst ha
    refine .optr _ _ _ _ cs hst hle (fun q => ?_)
    obtain ⟨b, s, e1, e2⟩ := heq q
    injection e2 with q1 q2 _
    exact ⟨b, s, e1, by rw [q1, q2]⟩

/-- Of a pointer that is no longer current nothing is known but that it is one. -/
theorem VRel.optrV {K ι st id tot off} {a : Value} (h : VRel K ι st (.optr id tot off) a) : ∃ ad, a = .pointer (some ad) := by
  cases h with
  | tree _ _ q => cases q
  | optr _ _ _ a cs hst hle heq => exact ⟨a, rfl⟩

theorem add_any (a : Addr) (n : Nat) (b o : Nat) (h : a = ⟨b, o, none⟩) : a.add n = ⟨b, o + n, none⟩ := by rw [h]; exact Addr.add_mid b o n

theorem optr_add {K ι st id tot off} {ad : Addr} (h : VRel K ι st (.optr id tot off) (.pointer (some ad))) (n : Nat) : VRel K ι st (.optr id tot (off + n)) (.pointer (some (ad.add n))) := by
  cases h with
  | tree _ _ q => cases q
  | optr _ _ _ a cs hst hle heq =>
    refine .optr _ _ _ _ cs hst hle (fun q => ?_)
    obtain ⟨b, s, e1, e2⟩ := heq q
    exact ⟨b, s, e1, add_any ad n b off e2⟩

theorem run_fieldAt_any {P : Program} {s : TypeId} {l : Array Field} (hu : P.underlying s = some (.struct l)) {j : Nat} {f : Field} (hf : l[j]? = some f) {n : Nat} (hs : ∀ w, (sizeOf f.type).run P w = .ok n w) (hn : n ≠ 0) (a : Addr) (w : World) :
    (Instr.fieldAt s (.pointer (some a)) j).run P w = .ok (.pointer (some (a.add f.offset))) w := by
  simp [Instr.fieldAt, run_underlying hu, hf, Instr.sureAddr, fieldPlace, hs, hn]

theorem gives_fieldAddr {E : Env} (hE : EnvOk E) {K ι st w} (h : Rel E.G K ι st w) {s ft : TypeId} {ts tf : TI} {fs} (hT : E.T s = some ts) (hk : ts.kind = .strct fs) {j foff : Nat} (hj : fs[j]? = some (foff, ft))
    (hTf : E.T ft = some tf) (hn : tf.size ≠ 0) {p q : PV} {a : Value} (hp : VRel K ι st p a)
    (ho : (∃ cs, p = .rptr cs ∧ q = .rptr (cs.drop foff)) ∨ ∃ id tot off, p = .optr id tot off ∧ q = .optr id tot (off + foff)) : Gives E.G K ι st w ((Instr.fieldAt s a j).run E.P w) q st := by
  obtain ⟨d, i, ty⟩ := hE.ty hT
  obtain ⟨d', i', tyf⟩ := hE.ty hTf
  obtain ⟨l, hu, hl⟩ := kind_strct ty hk
  obtain ⟨f, hf, rfl, rfl⟩ := field_at hl hj
  rcases ho with ⟨cs, rfl, rfl⟩ | ⟨id, tot, off, rfl, rfl⟩
  · obtain ⟨b, off, g, rfl, hK, h1, hr⟩ := hp.rptrV
    rw [run_fieldAt_plain hu hf (fun w => tyf.sizeOf w) hn b off w]
    exact Gives.pure h (.tree _ _ (rptr_drop hK h1 hr _))
  · obtain ⟨ad, rfl⟩ := hp.optrV
    rw [run_fieldAt_any hu hf (fun w => tyf.sizeOf w) hn ad w]
    exact Gives.pure h (optr_add hp _)

theorem run_part {E : Env} (hE : EnvOk E) {K ι st} {t : TypeId} {te : TI} (hT : E.T t = some te) {cs : List PV} {vs : Array Value} (hl : cs.length = vs.size)
    (h1 : ∀ (i : Nat) (v : Value), vs[i]? = some v → v.oneCell' = true) (hr : ∀ (i : Nat) (p : PV) (v : Value), cs[i]? = some p → vs[i]? = some v → VRel K ι st p v) {off : Nat} {v : PV} (hv : partF te cs off = some v) (w : World) :
    ∃ rv, (part t vs off).run E.P w = .ok rv w ∧ VRel K ι st v rv := by
  obtain ⟨d, i, ty⟩ := hE.ty hT
  unfold partF at hv
  by_cases ha : te.agg = true
  · rw [if_pos ha] at hv
    split at hv
    · rename_i hfit
      injection hv with hv
      subst hv
      refine ⟨.agg (vs.extract off (off + te.size)), by simp [part, ty.isAgg w, ha, ty.sizeOf w], .agg _ _ (by simp; omega) (fun j v hj => ?_) (fun j p v hp hj => ?_)⟩
      · rw [Array.getElem?_extract] at hj
        split at hj
        · exact h1 _ _ hj
        · cases hj
      · rw [Array.getElem?_extract] at hj
        split at hj
        · rename_i hlt
          have hlt' : j < te.size := by omega
          rw [drop_take_get _ _ _ _ hlt'] at hp
          exact hr _ _ _ hp hj
        · cases hj
    · cases hv
  · have ha' : te.agg = false := by simpa using ha
    rw [if_neg ha] at hv
    have hlt : off < cs.length := (List.getElem?_eq_some_iff.1 hv).1
    have e1 : vs[off]? = some (vs[off]'(by omega)) := Array.getElem?_eq_getElem _
    refine ⟨_, ?_, hr off _ _ hv e1⟩
    simp [part, ty.isAgg w, ha', e1]

theorem gives_field {E : Env} (hE : EnvOk E) {K ι st w} (h : Rel E.G K ι st w) {s ft : TypeId} {ts tf : TI} {fs} (hT : E.T s = some ts) (hk : ts.kind = .strct fs) {j foff : Nat} (hj : fs[j]? = some (foff, ft))
    (hTf : E.T ft = some tf) {cs : List PV} {a : Value} (hp : VRel K ι st (.agg cs) a) {v : PV} (hv : partF tf cs foff = some v) : Gives E.G K ι st w ((Instr.field s a j).run E.P w) v st := by
  obtain ⟨d, i, ty⟩ := hE.ty hT
  obtain ⟨l, hu, hl⟩ := kind_strct ty hk
  obtain ⟨f, hf, rfl, rfl⟩ := field_at hl hj
  obtain ⟨vs, rfl, l1, o1, r1⟩ := hp.aggV
  obtain ⟨rv, e1, e2⟩ := run_part hE hTf l1 o1 r1 hv w
  have : (Instr.field s (.agg vs) j).run E.P w = .ok rv w := by
    simp [Instr.field, run_underlying hu, hf, asAgg, e1]
  rw [this]
  exact Gives.pure h e2

theorem gives_indexAddr {E : Env} (hE : EnvOk E) {K ι st w} (h : Rel E.G K ι st w) {t : TypeId} {ti : TI} (hT : E.T t = some ti) {x y q : PV} {a b : Value} (ha : VRel K ι st x a) (hb : VRel K ι st y b) {j : Nat} (hj : idxN y = some j)
    (ho : (∃ e k es tok c, ti.kind = .slice e ∧ (∃ te, E.T e = some te ∧ te.size = k) ∧ x = .sl k es tok ∧ es[j]? = some c ∧ q = .rptr c) ∨
      (∃ e te id tot off len k, ti.kind = .slice e ∧ E.T e = some te ∧ te.size = k ∧ x = .osl id tot off len k ∧ j < len ∧ q = .optr id tot (off + j * k)) ∨
      (∃ n e te cs, ti.kind = .array n e ∧ E.T e = some te ∧ x = .rptr cs ∧ j < n ∧ q = .rptr (cs.drop (j * te.size))) ∨
      ∃ n e te id tot off, ti.kind = .array n e ∧ E.T e = some te ∧ x = .optr id tot off ∧ j < n ∧ q = .optr id tot (off + j * te.size)) :
    Gives E.G K ι st w ((Instr.indexAt t a b).run E.P w) q st := by
  obtain ⟨kk, rfl, rfl⟩ := idx_int hj hb
  obtain ⟨d, i, ty⟩ := hE.ty hT
  rcases ho with ⟨e, k, es, tok, c, hk, ⟨te, hTe, hs⟩, rfl, hc, rfl⟩ | ⟨e, te, id, tot, off, len, k, hk, hTe, hs, rfl, hlt, rfl⟩ | ⟨n, e, te, cs, hk, hTe, rfl, hlt, rfl⟩ | ⟨n, e, te, id, tot, off, hk, hTe, rfl, hlt, rfl⟩
  · obtain ⟨d', i', tye⟩ := hE.ty hTe
    have hu := kind_slice ty hk
    have hjl : j < es.length := (List.getElem?_eq_some_iff.1 hc).1
    have hne : es ≠ [] := fun e => by rw [e] at hjl; simp at hjl
    cases ha.slTree with
    | sl _ _ _ A cc b off f hkk hA hK hv h1 hcc hm hn ht =>
      have hA' := hA hne
      subst hA'
      have hcl := hkk j c hc
      have : (Instr.indexAt t (.slice (some ⟨b, off, none⟩) es.length cc) (.int kk (j : Int))).run E.P w = .ok (.pointer (some ⟨b, off + j * k, none⟩)) w := by
        simp [Instr.indexAt, asIntOf, run_underlying hu, hjl, tye.sizeOf, hs, Addr.add_mid]
      rw [this]
      exact Gives.pure h (.tree _ _ (.rptr c b (off + j * k) (f j) (fun i hi => by rw [Nat.add_assoc]; exact hK j i hjl (by omega)) (fun i => h1 j i) (fun i p hp => hv j i c p hc hp)))
  · obtain ⟨d', i', tye⟩ := hE.ty hTe
    have hu := kind_slice ty hk
    cases ha with
    | tree _ _ q => cases q
    | osl _ _ _ _ _ A c cs hst hle hlc hn heq =>
      obtain ⟨ad, rfl⟩ : ∃ ad, A = some ad := by
        cases A with
        | none => have := hn.1 rfl; omega
        | some ad => exact ⟨ad, rfl⟩
      have : (Instr.indexAt t (.slice (some ad) len c) (.int kk (j : Int))).run E.P w = .ok (.pointer (some (ad.add (j * k)))) w := by
        simp [Instr.indexAt, asIntOf, run_underlying hu, hlt, tye.sizeOf, hs]
      rw [this]
      refine Gives.pure h (.optr _ _ _ _ cs hst hle (fun q => ?_))
      obtain ⟨b, s, e1, e2, _⟩ := heq q
      have := e2 (by omega)
      injection this with this
      exact ⟨b, s, e1, add_any ad _ b off this⟩
  · obtain ⟨d', i', tye⟩ := hE.ty hTe
    have hu := kind_array ty hk
    obtain ⟨b, off, g, rfl, hK, h1, hr⟩ := ha.rptrV
    have : (Instr.indexAt t (.pointer (some ⟨b, off, none⟩)) (.int kk (j : Int))).run E.P w = .ok (.pointer (some ⟨b, off + j * te.size, none⟩)) w := by
      simp [Instr.indexAt, Instr.sureAddr, asIntOf, run_underlying hu, hlt, tye.sizeOf, Addr.add_mid]
    rw [this]
    exact Gives.pure h (.tree _ _ (rptr_drop hK h1 hr _))
  · obtain ⟨d', i', tye⟩ := hE.ty hTe
    have hu := kind_array ty hk
    obtain ⟨ad, rfl⟩ := ha.optrV
    have : (Instr.indexAt t (.pointer (some ad)) (.int kk (j : Int))).run E.P w = .ok (.pointer (some (ad.add (j * te.size)))) w := by
      simp [Instr.indexAt, Instr.sureAddr, asIntOf, run_underlying hu, hlt, tye.sizeOf]
    rw [this]
    exact Gives.pure h (optr_add ha _)

theorem gives_index {E : Env} (hE : EnvOk E) {K ι st w} (h : Rel E.G K ι st w) {t : TypeId} {ti : TI} (hT : E.T t = some ti) {x y q : PV} {a b : Value} (ha : VRel K ι st x a) (hb : VRel K ι st y b) {j : Nat} (hj : idxN y = some j)
    (ho : (∃ s c, ti.kind = .str ∧ x = .str s ∧ s[j]? = some c ∧ q = .int .u8 c.toNat) ∨
      (∃ n e te cs, ti.kind = .array n e ∧ E.T e = some te ∧ x = .agg cs ∧ j < n ∧ partF te cs (j * te.size) = some q)) :
    Gives E.G K ι st w ((Instr.index t a b).run E.P w) q st := by
  obtain ⟨kk, rfl, rfl⟩ := idx_int hj hb
  obtain ⟨d, i, ty⟩ := hE.ty hT
  rcases ho with ⟨s, c, hk, rfl, hc, rfl⟩ | ⟨n, e, te, cs, hk, hTe, rfl, hlt, hv⟩
  · have hu := kind_str ty hk
    rw [ha.strV]
    have hc' : (bytesV s)[j]? = some c := by
      obtain ⟨hlt, e⟩ := List.getElem?_eq_some_iff.1 hc
      have hs : (bytesV s).size = s.length := by simp [bytesV, ByteArray.size]
      rw [getElem?_pos (bytesV s) j (by rw [hs]; exact hlt)]
      congr 1
    have : (Instr.index t (.string (bytesV s)) (.int kk (j : Int))).run E.P w = .ok (.int .u8 c.toNat) w := by
      simp [Instr.index, asIntOf, run_underlying hu, hc']
    rw [this]
    exact Gives.pure h (.tree _ _ (.int _ _))
  · obtain ⟨d', i', tye⟩ := hE.ty hTe
    have hu := kind_array ty hk
    obtain ⟨vs, rfl, l1, o1, r1⟩ := ha.aggV
    obtain ⟨rv, e1, e2⟩ := run_part hE hTe l1 o1 r1 hv w
    have : (Instr.index t (.agg vs) (.int kk (j : Int))).run E.P w = .ok rv w := by
      simp [Instr.index, asIntOf, run_underlying hu, hlt, tye.sizeOf, e1]
    rw [this]
    exact Gives.pure h e2

end Go.Pv
