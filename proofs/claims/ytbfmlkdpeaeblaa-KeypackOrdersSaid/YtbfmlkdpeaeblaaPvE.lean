/-
  The pure machine, part E: that the operations on plain values are the model's own (1): numbers, memory cells.
-/
import Derived.Test.YtbfmlkdpeaeblaaPvD
set_option linter.all false
set_option linter.unusedSimpArgs false
set_option linter.unusedVariables false
namespace Go.Pv

theorem uncase {α : Type} {P : Program} {w : World} {x : Sem α} {r : Result α} (h : x.run P w = r) : x.run P w = r := h

def cellConst : PV → Value → Bool
  | .int k n, .int k' n' => decide (k = k') && n == n'
  | .bool b, .bool b' => b == b'
  | .str [], .string s => s.data.size == 0
  | .sl _ [] .full, .slice none 0 0 => true
  | .nilp, .pointer none => true
  | .nilmap, .map none => true
  | .nilfn, .nilFunc => true
  | .nilif, .nilIface => true
  | _, _ => false
theorem TRel.nilSl (K : Know) (k : Nat) (t : Tok) (ht : t = .ro ∨ t = .full) : TRel K (.sl k [] t) (.slice none 0 0) :=
  .sl k [] t none 0 0 0 (fun _ _ => .bool false) (by simp) (fun h => absurd rfl h) (by simp) (by simp) (fun _ _ => rfl) (Nat.le_refl _) (by simp) (fun _ => rfl) (by rcases ht with h | h <;> simp [h])
theorem cellConst_rel (K : Know) {p : PV} {v : Value} (h : cellConst p v = true) : TRel K p v ∧ v.oneCell' = true := by
  unfold cellConst at h
  split at h <;> simp_all
  · exact ⟨.int _ _, rfl⟩
  · exact ⟨.bool _, rfl⟩
  · exact ⟨.str [], rfl⟩
  · exact ⟨TRel.nilSl K _ _ (.inr rfl), rfl⟩
  · exact ⟨.nilp, rfl⟩
  · exact ⟨.nilmap, rfl⟩
  · exact ⟨.nilfn, rfl⟩
  · exact ⟨.nilif, rfl⟩

def kindOk : TypeDesc → TK → Bool
  | .int k, .int k' => decide (k = k')
  | .bool, .bool => true
  | .string, .str => true
  | .slice e, .slice e' => e == e'
  | .struct fs, .strct l => fs.toList.map (fun f => (f.offset, f.type)) == l
  | .array n e, .array n' e' => n == n' && (e == e' && decide (n ≤ LIM))
  | .pointer e, .ptr e' => e == e'
  | .map k v, .map k' v' => k == k' && v == v'
  | .func _ _ _, .fn => true
  | .interface _, .iface => true
  | _, _ => false
def zerosOk (ps : List PV) (z : Value) : Bool := z.cells.size == ps.length && (ps.zip z.cells.toList).all fun q => cellConst q.1 q.2
/-- A type is as it is told. -/
def TI.okB (P : Program) (t : TypeId) (ti : TI) : Bool :=
  match P.underlying t, P.info? t with
  | some d, some i => kindOk d ti.kind && (i.size == ti.size && (decide (i.bytes ≤ 4096) && ((match i.zero with | some z => zerosOk ti.zero z && ti.zero.length == ti.size && (ti.agg == (match z with | .agg _ => true | _ => false)) | none => false) && (ti.agg || ti.size == 1))))
  | _, _ => false

structure EnvOk (E : Env) : Prop where
  types : ∀ t ti, E.T t = some ti → ti.okB E.P t = true
  mixed : E.P.follows .mixedOrders = true
  eqs : ∀ t, E.eqt t = true → ∀ (a b : List PV) (va vb : Array Value) (r : Bool) (w : World), cellsEq a b = some r →
    (∀ i : Nat, i < a.length → ∃ p v, a[i]? = some p ∧ va[i]? = some v ∧ TRel (fun _ => none) p v) → (∀ i : Nat, i < b.length → ∃ p v, b[i]? = some p ∧ vb[i]? = some v ∧ TRel (fun _ => none) p v) →
    a.length = va.size → b.length = vb.size →
    (Op.equalIn Op.maxDepth t (.agg va) (.agg vb)).run E.P w = .ok r w ∧ E.P.eqGuardType E.P.depth t = false

structure TyFacts (P : Program) (t : TypeId) (ti : TI) (d : TypeDesc) (i : TypeInfo) : Prop where
  hu : P.underlying t = some d
  hi : P.info? t = some i
  hk : kindOk d ti.kind = true
  hs : i.size = ti.size
  hb : i.bytes ≤ 4096
  hz : ∃ z, i.zero = some z ∧ z.cells.size = ti.size ∧ ti.zero.length = ti.size ∧ (∀ (K : Know) (j : Nat) (p : PV), ti.zero[j]? = some p → ∃ v, z.cells[j]? = some v ∧ TRel K p v ∧ v.oneCell' = true) ∧ (ti.agg = true → ∃ cs, z = .agg cs) ∧ (ti.agg = false → z.cells = #[z])
  h1 : ti.agg = false → ti.size = 1

theorem EnvOk.ty {E : Env} (h : EnvOk E) {t : TypeId} {ti : TI} (e : E.T t = some ti) : ∃ d i, TyFacts E.P t ti d i := by
  have hb := h.types t ti e
  unfold TI.okB at hb
  split at hb
  · rename_i d i hu hi
    simp only [Bool.and_eq_true, decide_eq_true_eq, beq_iff_eq] at hb
    obtain ⟨a1, a2, a3, a4, a5⟩ := hb
    refine ⟨d, i, hu, hi, a1, a2, a3, ?_, fun hag => ?_⟩
    · split at a4
      · rename_i z hz
        simp only [Bool.and_eq_true, beq_iff_eq] at a4
        obtain ⟨⟨b1, b2⟩, b3⟩ := a4
        unfold zerosOk at b1
        simp only [Bool.and_eq_true, beq_iff_eq, List.all_eq_true] at b1
        obtain ⟨c1, c2⟩ := b1
        refine ⟨z, hz, by omega, b2, fun K j p hp => ?_, fun ha => ?_, fun ha => ?_⟩
        · have hj : j < ti.zero.length := (List.getElem?_eq_some_iff.1 hp).1
          have hv : z.cells.toList[j]? = some (z.cells.toList[j]'(by simpa using (by omega : j < z.cells.size))) := List.getElem?_eq_getElem _
          have hm : (p, z.cells.toList[j]'(by simpa using (by omega : j < z.cells.size))) ∈ ti.zero.zip z.cells.toList :=
            List.mem_of_getElem? (i := j) (by rw [List.getElem?_zip_eq_some]; exact ⟨hp, hv⟩)
          have hr := cellConst_rel K (c2 _ hm)
          exact ⟨_, by simp, hr⟩
        · rw [ha] at b3
          clear c1 c2 hz a2 a5 hu
          revert b3
          cases z <;> simp
        · rw [ha] at b3
          clear c1 c2 hz a2 a5 hu
          revert b3
          cases z <;> simp [Value.cells]
      · cases a4
    · simpa [hag] using a5
  · cases hb

theorem TyFacts.sizeOf {P t ti d i} (h : TyFacts P t ti d i) (w : World) : (Go.sizeOf t).run P w = .ok ti.size w := by
  simp only [Go.sizeOf, typeInfo, Sem.run_bind, run_program, Result.andThen_ok, h.hi, Sem.run_pure, h.hs]
theorem TyFacts.underl {P t ti d i} (h : TyFacts P t ti d i) (w : World) : (Go.underlying t).run P w = .ok d w := by
  simp only [Go.underlying, Sem.run_bind, run_program, Result.andThen_ok, h.hu, Sem.run_pure]
theorem TyFacts.isAgg {P t ti d i} (h : TyFacts P t ti d i) (w : World) : (Go.isAgg t).run P w = .ok ti.agg w := by
  have hk := h.hk
  simp only [Go.isAgg, Sem.run_bind, h.underl w, Result.andThen_ok]
  unfold TI.agg
  unfold kindOk at hk
  split at hk <;> simp_all [Sem.run_pure]
theorem TyFacts.zeroV {P t ti d i} (h : TyFacts P t ti d i) {z : Value} (hz : i.zero = some z) (w : World) : (Go.zeroValue t).run P w = .ok z w := by
  simp only [Go.zeroValue, typeInfo, Sem.run_bind, run_program, Result.andThen_ok, h.hi, Sem.run_pure, hz]

/-- An operation gives this plain value, and this store. -/
def Gives (G : Nat → PV) (K : Know) (ι : Nat → Value) (st : Store) (w : World) (r : Result Value) (v : PV) (st' : Store) : Prop :=
  ∃ K' ι' w' rv, r = .ok rv w' ∧ Stp G K ι st w K' ι' st' w' ∧ VRel K' ι' st' v rv
theorem Gives.pure {G K ι st w} (h : Rel G K ι st w) {v : PV} {rv : Value} (hv : VRel K ι st v rv) : Gives G K ι st w (.ok rv w) v st := ⟨K, ι, w, rv, rfl, .refl h, hv⟩

section inv
variable {K : Know} {ι : Nat → Value} {st : Store} {v : Value}
theorem VRel.intV {k : IntKind} {n : Int} (h : VRel K ι st (.int k n) v) : v = .int k n := by cases h with | tree _ _ h => cases h; rfl
theorem VRel.boolV {b : Bool} (h : VRel K ι st (.bool b) v) : v = .bool b := by cases h with | tree _ _ h => cases h; rfl
theorem VRel.strV {s : List UInt8} (h : VRel K ι st (.str s) v) : v = .string (bytesV s) := by cases h with | tree _ _ h => cases h; rfl
theorem VRel.aggV {cs : List PV} (h : VRel K ι st (.agg cs) v) : ∃ vs, v = .agg vs ∧ cs.length = vs.size ∧ (∀ (i : Nat) (v : Value), vs[i]? = some v → v.oneCell' = true) ∧
    ∀ (i : Nat) (p : PV) (v : Value), cs[i]? = some p → vs[i]? = some v → VRel K ι st p v := by
  cases h with
  | tree _ _ h => cases h with | agg _ vs hl h1 h => exact ⟨vs, rfl, hl, h1, fun i p v a b => .tree _ _ (h i p v a b)⟩
  | agg _ vs hl h1 h => exact ⟨vs, rfl, hl, h1, h⟩
theorem VRel.tupV {cs : List PV} (h : VRel K ι st (.tup cs) v) : ∃ vs, v = .tuple vs ∧ cs.length = vs.size ∧
    ∀ (i : Nat) (p : PV) (v : Value), cs[i]? = some p → vs[i]? = some v → VRel K ι st p v := by
  cases h with
  | tree _ _ h => cases h with | tup _ vs hl h => exact ⟨vs, rfl, hl, fun i p v a b => .tree _ _ (h i p v a b)⟩
  | tup _ vs hl h => exact ⟨vs, rfl, hl, h⟩
theorem VRel.rptrV {cs : List PV} (h : VRel K ι st (.rptr cs) v) : ∃ (b off : Nat) (f : Nat → Value), v = .pointer (some ⟨b, off, none⟩) ∧ (∀ i : Nat, i < cs.length → K ⟨b, off + i, none⟩ = some (f i)) ∧
    (∀ i : Nat, (f i).oneCell' = true) ∧ ∀ (i : Nat) (p : PV), cs[i]? = some p → TRel K p (f i) := by
  cases h with
  | tree _ _ h => cases h with | rptr _ b off f hK h1 h => exact ⟨b, off, f, rfl, hK, h1, h⟩
/-- Every value but a struct, a tuple and what is not known is one cell. -/
theorem VRel.one {p : PV} (hs : scal p = true) (h : VRel K ι st p v) : v.oneCell' = true ∧ v.cells = #[v] := by
  cases h with
  | tree _ _ h => cases h <;> simp_all [scal, Value.oneCell', Value.cells]
  | _ => simp_all [scal, Value.oneCell', Value.cells]
end inv

theorem evalT_const (E : Env) (t : TypeId) (fr : Fr) (v : Value) : ∃ k, evalT E t fr (.const v) = .sl k [] .full ∧ v = .slice none 0 0 ∨ evalT E t fr (.const v) = ofConst v := by
  unfold evalT
  split
  · rename_i h
    injection h with h
    subst h
    split
    · split
      · exact ⟨_, .inl ⟨rfl, rfl⟩⟩
      · exact ⟨0, .inr rfl⟩
    · exact ⟨0, .inr rfl⟩
  · exact ⟨0, .inr rfl⟩
theorem ofConst_rel (K : Know) (v : Value) : TRel K (ofConst v) v := by
  unfold ofConst
  split
  · exact .bool _
  · exact .int _ _
  · rename_i s
    have : s = bytesV s.data.toList := by cases s; rfl
    exact this ▸ .str _
  · exact TRel.nilSl K _ _ (.inr rfl)
  · exact .nilp
  · exact .nilmap
  · exact .nilfn
  · exact .nilif
  · exact .bad _

/-- The frame's slots. -/
def FrRel (K : Know) (ι : Nat → Value) (st : Store) (fr : Fr) (tm : Array Value) : Prop := ∀ t v, tm[t]? = some v → VRel K ι st (fr t) v
theorem FrRel.mono {K ι st K' ι' st' fr tm} (x : Ext K ι st K' ι' st') (h : FrRel K ι st fr tm) : FrRel K' ι' st' fr tm := fun t v e => (h t v e).mono x

def opdIn (N : Nat) : Operand → Bool | .tmp t => decide (t < N) | _ => true
theorem evalO_rel {E : Env} {K ι st w fr} {a : Act} (h : Rel E.G K ι st w) (hf : FrRel K ι st fr a.tmps) (x : Operand) (hx : opdIn a.tmps.size x = true) : VRel K ι st (evalO E fr x) (a.eval x) := by
  cases x with
  | tmp t =>
    simp only [opdIn, decide_eq_true_eq] at hx
    have : a.tmps[t]? = some a.tmps[t] := Array.getElem?_eq_getElem hx
    simp only [evalO, Act.eval, Array.getD_eq_getD_getElem?, this, Option.getD_some]
    exact hf t _ this
  | const v => exact .tree _ _ (ofConst_rel K v)
  | global g => exact .tree _ _ (h.glob g)
  | func f => exact .tree _ _ (.fn f)
theorem evalT_rel {E : Env} {K ι st w fr} {a : Act} (h : Rel E.G K ι st w) (hf : FrRel K ι st fr a.tmps) (t : TypeId) (x : Operand) (hx : opdIn a.tmps.size x = true) : VRel K ι st (evalT E t fr x) (a.eval x) := by
  cases x with
  | const v =>
    obtain ⟨k, ⟨e, rfl⟩ | e⟩ := evalT_const E t fr v
    · rw [e]; exact .tree _ _ (TRel.nilSl K _ _ (.inr rfl))
    · rw [e]; exact .tree _ _ (ofConst_rel K v)
  | tmp t' => exact evalO_rel h hf (.tmp t') hx
  | global g => exact evalO_rel h hf (.global g) hx
  | func f => exact evalO_rel h hf (.func f) hx

/-! ### Numbers, strings, comparisons -/
/-- A plain number, bool or string as the model has it. -/
def toV : PV → Value | .int k n => .int k n | .bool b => .bool b | .str s => .string (bytesV s) | _ => .nilFunc
def flat0 : PV → Bool | .int _ _ | .bool _ | .str _ => true | _ => false
theorem toV_rel (K : Know) {p : PV} (h : flat0 p = true) : TRel K p (toV p) := by
  cases p <;> simp [flat0] at h
  · exact .int _ _
  · exact .bool _
  · exact .str _
theorem toList_bytesV (s : List UInt8) : (bytesV s).toList = s := by rw [ByteArray.toList_eq]; rfl

theorem intF_run {P : Program} {op : BinOp} {k : IntKind} {a b : Int} {p : PV} (h : intF op k a b = some p) (t : TypeId) (w : World) (hs : op ≠ .shl ∧ op ≠ .shr) :
    (binOp op t (.int k a) (.int k b)).run P w = .ok (toV p) w ∧ flat0 p = true := by
  unfold intF at h
  cases op <;> simp only [Option.some.injEq, reduceCtorEq] at h hs
  all_goals first
    | (subst h; exact ⟨by simp [binOp, Op.intArith, Op.intBits, Op.intCmp, Sem.run_pure, toV], rfl⟩)
    | (split at h
       · cases h
       · rename_i hb
         simp only [Option.some.injEq] at h
         subst h
         exact ⟨by simp [binOp, Op.intDiv, hb, Sem.run_pure, toV], rfl⟩)
    | (exact absurd rfl hs.1)
    | (exact absurd rfl hs.2)
theorem shiftF_run {P : Program} {op : BinOp} {k k' : IntKind} {a b : Int} {p : PV} (h : shiftF op k a b = some p) (t : TypeId) (w : World) :
    (binOp op t (.int k a) (.int k' b)).run P w = .ok (toV p) w ∧ flat0 p = true := by
  unfold shiftF at h
  split at h
  · cases h
  · rename_i hb
    cases op <;> simp only [Option.some.injEq, reduceCtorEq] at h
    all_goals (subst h; exact ⟨by simp [binOp, Op.shift, hb, Sem.run_pure, toV], rfl⟩)
theorem strF_run {P : Program} {op : BinOp} {a b : List UInt8} {p : PV} (h : strF op a b = some p) (t : TypeId) (w : World) :
    (binOp op t (.string (bytesV a)) (.string (bytesV b))).run P w = .ok (toV p) w ∧ flat0 p = true := by
  have hx : ∀ x : List UInt8, (bytesV x).size = x.length := fun x => by simp [bytesV, ByteArray.size]
  unfold strF at h
  cases op <;> simp only [Option.some.injEq, reduceCtorEq] at h
  case add =>
    split at h
    · rename_i hl
      simp only [Option.some.injEq] at h
      subst h
      refine ⟨?_, rfl⟩
      have hn : ¬ ((((bytesV a).size + (bytesV b).size : Nat) : Int) > IntKind.i64.max) := by
        rw [hx, hx]
        have : IntKind.i64.max = 9223372036854775807 := by decide
        rw [this]
        unfold LIM at hl
        omega
      have hc : bytesV a ++ bytesV b = bytesV (a ++ b) := by
        show ByteArray.append _ _ = _
        simp [bytesV, ByteArray.append]
      simp only [binOp, Op.stringOp, if_neg hn, Sem.run_pure, toV, hc]
    · cases h
  all_goals (subst h; exact ⟨by simp [binOp, Op.stringOp, Sem.run_pure, toV, toList_bytesV], rfl⟩)

theorem eqGuard_plain {P : Program} (op : BinOp) (t : TypeId) (x y : Operand) (a b : Value) (w : World) (ha : ∀ cs, a ≠ .agg cs) (hi : a ≠ .nilIface) : (eqGuard op t x y a b).run P w = .ok () w := by
  have hm : ∀ (c : Sem Unit) (p : Bool), (∀ w, c.run P w = .ok () w) → ((if p = true then (pure () : Sem Unit) else c)).run P w = .ok () w := by
    intro c p hc
    split
    · rfl
    · exact hc w
  refine hm _ _ (fun w => ?_)
  split
  · exact absurd rfl hi
  · exact absurd rfl (ha _)
  · rfl

theorem cellEq_flat {p q : PV} {r : Bool} (h : cellEq p q = some r) : flat0 p = true ∧ flat0 q = true := by
  unfold cellEq at h
  split at h <;> simp_all [flat0]
theorem cellsEq_flat : ∀ {a b : List PV} {r : Bool}, cellsEq a b = some r → (∀ p ∈ a, flat0 p = true) ∧ (∀ p ∈ b, flat0 p = true)
  | [], [], _, _ => ⟨by simp, by simp⟩
  | [], _ :: _, _, h => by simp [cellsEq] at h
  | _ :: _, [], _, h => by simp [cellsEq] at h
  | p :: ps, q :: qs, r, h => by
    simp only [cellsEq] at h
    split at h
    · rename_i x y hx hy
      obtain ⟨a1, a2⟩ := cellEq_flat hx
      obtain ⟨b1, b2⟩ := cellsEq_flat hy
      exact ⟨fun z hz => (List.mem_cons.1 hz).elim (fun e => e ▸ a1) (b1 z), fun z hz => (List.mem_cons.1 hz).elim (fun e => e ▸ a2) (b2 z)⟩
    · cases h
theorem VRel.flat {K ι st p v} (h : VRel K ι st p v) (hf : flat0 p = true) (K' : Know) : TRel K' p v := by
  cases p <;> simp [flat0] at hf
  · rw [h.intV]; exact .int _ _
  · rw [h.boolV]; exact .bool _
  · rw [h.strV]; exact .str _

theorem eq_ptr_nil {P : Program} (w : World) (d : Nat) (t e : TypeId) (p : Option Addr) (h : P.underlying t = some (.pointer e)) : (Op.equalIn (d + 1) t (.pointer p) (.pointer none)).run P w = .ok p.isNone w := by
  cases p <;> simp [Op.equalIn, run_underlying h]
theorem eq_nil_ptr {P : Program} (w : World) (d : Nat) (t e : TypeId) (p : Option Addr) (h : P.underlying t = some (.pointer e)) : (Op.equalIn (d + 1) t (.pointer none) (.pointer p)).run P w = .ok p.isNone w := by
  cases p <;> simp [Op.equalIn, run_underlying h]
theorem under_ptr {P : Program} {t e ti1 ti2 d i} (ty : TyFacts P t ⟨.ptr e, ti1, ti2⟩ d i) : P.underlying t = some (.pointer e) := by
  have hk := ty.hk
  rw [ty.hu]
  cases d <;> simp [kindOk] at hk
  rw [hk]

theorem eqF_run {E : Env} (hE : EnvOk E) {t : TypeId} {x y : PV} {r : Bool} (h : eqF E t x y = some r) {K ι st} {a b : Value} (ha : VRel K ι st x a) (hb : VRel K ι st y b) (w : World) :
    (Op.equal t a b).run E.P w = .ok r w ∧ (∀ op ox oy, (eqGuard op t ox oy a b).run E.P w = .ok () w) ∧
    (binOp .eql t a b).run E.P w = .ok (.bool r) w ∧ (binOp .neq t a b).run E.P w = .ok (.bool (!r)) w := by
  suffices hs : (Op.equal t a b).run E.P w = .ok r w ∧ (∀ op ox oy, (eqGuard op t ox oy a b).run E.P w = .ok () w) ∧ binOp .eql t a b = (do pure (.bool (← Op.equal t a b))) ∧ binOp .neq t a b = (do pure (.bool (!(← Op.equal t a b)))) by
    obtain ⟨h1, h2, h3, h4⟩ := hs
    refine ⟨h1, h2, ?_, ?_⟩
    · rw [h3]; simp [h1]
    · rw [h4]; simp [h1]
  unfold eqF at h
  split at h
  · rename_i p q
    rw [ha.boolV, hb.boolV]
    split at h
    · rename_i ti hT
      obtain ⟨d, i, ty⟩ := hE.ty hT
      have hk := ty.hk
      injection h with h
      subst h
      have hu : E.P.underlying t = some .bool := by
        rw [ty.hu]
        cases d <;> simp_all [kindOk]
      refine ⟨run_equalIn_bool' w 9999 t p q hu, fun op ox oy => eqGuard_plain op t ox oy _ _ w (by simp) (by simp), rfl, rfl⟩
    · cases h
  · rename_i cs ds
    split at h
    · rename_i he
      obtain ⟨va, rfl, l1, o1, r1⟩ := ha.aggV
      obtain ⟨vb, rfl, l2, o2, r2⟩ := hb.aggV
      obtain ⟨f1, f2⟩ := cellsEq_flat h
      have mk : ∀ (ps : List PV) (vs : Array Value), ps.length = vs.size → (∀ p ∈ ps, flat0 p = true) → (∀ (i : Nat) (p : PV) (v : Value), ps[i]? = some p → vs[i]? = some v → VRel K ι st p v) →
          ∀ i : Nat, i < ps.length → ∃ p v, ps[i]? = some p ∧ vs[i]? = some v ∧ TRel (fun _ => none) p v := by
        intro ps vs hl hf hr i hi
        have e1 : ps[i]? = some ps[i] := List.getElem?_eq_getElem hi
        have e2 : vs[i]? = some (vs[i]'(by omega)) := Array.getElem?_eq_getElem _
        exact ⟨_, _, e1, e2, (hr i _ _ e1 e2).flat (hf _ (List.getElem_mem hi)) _⟩
      obtain ⟨e1, e2⟩ := hE.eqs t he cs ds va vb r w h (mk _ _ l1 f1 r1) (mk _ _ l2 f2 r2) l1 l2
      refine ⟨e1, fun op ox oy => run_eqGuard_agg w op t ox oy va vb e2, rfl, rfl⟩
    · cases h
  · have e1 : a = .pointer none := by cases ha with | tree _ _ h => cases h; rfl
    have e2 : b = .pointer none := by cases hb with | tree _ _ h => cases h; rfl
    subst e1 e2
    split at h
    · rename_i e ti1 ti2 hT
      obtain ⟨d, i, ty⟩ := hE.ty hT
      have hk := ty.hk
      injection h with h
      subst h
      refine ⟨?_, fun op ox oy => eqGuard_plain op t ox oy _ _ w (by simp) (by simp), rfl, rfl⟩
      · exact eq_ptr_nil w 9999 t e none (under_ptr ty)
    · cases h
  · obtain ⟨a', rfl⟩ : ∃ a', a = .pointer (some a') := by
      cases ha with
      | tree _ _ h => cases h
      | optr _ _ _ a cs => exact ⟨a, rfl⟩
    have e2 : b = .pointer none := by cases hb with | tree _ _ h => cases h; rfl
    subst e2
    split at h
    · rename_i e ti1 ti2 hT
      obtain ⟨d, i, ty⟩ := hE.ty hT
      have hk := ty.hk
      injection h with h
      subst h
      refine ⟨?_, fun op ox oy => eqGuard_plain op t ox oy _ _ w (by simp) (by simp), rfl, rfl⟩
      · exact eq_ptr_nil w 9999 t e (some a') (under_ptr ty)
    · cases h
  · obtain ⟨a', rfl⟩ : ∃ a', b = .pointer (some a') := by
      cases hb with
      | tree _ _ h => cases h
      | optr _ _ _ a cs => exact ⟨a, rfl⟩
    have e2 : a = .pointer none := by cases ha with | tree _ _ h => cases h; rfl
    subst e2
    split at h
    · rename_i e ti1 ti2 hT
      obtain ⟨d, i, ty⟩ := hE.ty hT
      have hk := ty.hk
      injection h with h
      subst h
      refine ⟨?_, fun op ox oy => eqGuard_plain op t ox oy _ _ w (by simp) (by simp), rfl, rfl⟩
      · exact eq_nil_ptr w 9999 t e (some a') (under_ptr ty)
    · cases h
  · cases h

theorem binF_run {E : Env} (hE : EnvOk E) {op : BinOp} {t : TypeId} {x y p : PV} (h : binF E op t x y = some p) {K ι st} {a b : Value} (ha : VRel K ι st x a) (hb : VRel K ι st y b) (w : World) (ox oy : Operand) :
    (do eqGuard op t ox oy a b; binOp op t a b : Sem Value).run E.P w = .ok (toV p) w ∧ flat0 p = true := by
  unfold binF at h
  split at h
  · rw [ha.intV, hb.intV]
    rw [Sem.run_bind, eqGuard_plain op t ox oy _ _ w (by simp) (by simp), Result.andThen_ok]
    split at h
    · exact shiftF_run h t w
    · exact shiftF_run h t w
    · rename_i n1 n2
      split at h
      · rename_i hk
        subst hk
        exact intF_run h t w ⟨n1, n2⟩
      · cases h
  · rw [ha.strV, hb.strV]
    rw [Sem.run_bind, eqGuard_plain op t ox oy _ _ w (by simp) (by simp), Result.andThen_ok]
    exact strF_run h t w
  · split at h
    · obtain ⟨r, hr, rfl⟩ := Option.map_eq_some_iff.1 h
      obtain ⟨e1, e2, e3⟩ := eqF_run hE hr ha hb w
      refine ⟨?_, rfl⟩
      rw [Sem.run_bind, e2, Result.andThen_ok, e3.1]
      rfl
    · obtain ⟨r, hr, rfl⟩ := Option.map_eq_some_iff.1 h
      obtain ⟨e1, e2, e3⟩ := eqF_run hE hr ha hb w
      refine ⟨?_, rfl⟩
      rw [Sem.run_bind, e2, Result.andThen_ok, e3.2]
      rfl
    · cases h

theorem unF_run {P : Program} {op : UnOp} {x p : PV} (h : unF op x = some p) {K ι st} {a : Value} (ha : VRel K ι st x a) (w : World) : (Op.unary op a).run P w = .ok (toV p) w ∧ flat0 p = true := by
  unfold unF at h
  split at h
  · rw [ha.boolV]; injection h with h; subst h; exact ⟨by simp [Op.unary, Sem.run_pure, toV], rfl⟩
  · rw [ha.intV]; injection h with h; subst h; exact ⟨by simp [Op.unary, Op.intArith, Sem.run_pure, toV], rfl⟩
  · cases h

end Go.Pv
