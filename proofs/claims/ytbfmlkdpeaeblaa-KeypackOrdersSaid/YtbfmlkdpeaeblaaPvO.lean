/-
  The pure machine, part O: that every operation on plain values is the model's own.
-/
import Derived.Test.YtbfmlkdpeaeblaaPvN
import Derived.Laws.BytesString
import Derived.Laws.Cells
set_option linter.all false
set_option linter.unusedSimpArgs false
set_option linter.unusedVariables false
namespace Go.Pv

theorem foldl_push_app : ∀ (ns : List Int) (s : ByteArray), (ns.foldl (fun r n => r.push (UInt8.ofNat n.toNat)) s).data.toList = s.data.toList ++ ns.map fun n => UInt8.ofNat n.toNat
  | [], s => by simp
  | n :: ns, s => by
    rw [List.foldl_cons, foldl_push_app ns]
    simp [ByteArray.push]
theorem foldl_push_bytesV (ns : List Int) : ns.foldl (fun r n => r.push (UInt8.ofNat n.toNat)) ByteArray.empty = bytesV (ns.map fun n => UInt8.ofNat n.toNat) := by
  have := foldl_push_app ns ByteArray.empty
  generalize ns.foldl (fun r n => r.push (UInt8.ofNat n.toNat)) ByteArray.empty = x at this ⊢
  obtain ⟨⟨l⟩⟩ := x
  simp at this
  simp [bytesV, this]

theorem byteEs_spec : ∀ (es : List (List PV)) (s : List UInt8), byteEs es = some s → ∃ ns : List Int, es = ns.map (fun n => [PV.int .u8 n]) ∧ s = ns.map fun n => UInt8.ofNat n.toNat
  | [], s, h => ⟨[], rfl, by simp [byteEs] at h; simp [h]⟩
  | e :: es, s, h => by
    unfold byteEs at h
    split at h
    · rename_i heq; cases heq
    · rename_i n es' heq
      obtain ⟨rfl, rfl⟩ := List.cons.inj heq
      obtain ⟨r, hr, rfl⟩ := Option.map_eq_some_iff.1 h
      obtain ⟨ns, rfl, rfl⟩ := byteEs_spec _ _ hr
      exact ⟨n :: ns, rfl, rfl⟩
    · cases h

theorem gives_bytesStr {E : Env} (hE : EnvOk E) {K ι st w} (h : Rel E.G K ι st w) {src dst e : TypeId} {ts td te : TI} (hTs : E.T src = some ts) (hks : ts.kind = .slice e) (hTd : E.T dst = some td) (hkd : td.kind = .str)
    (hTe : E.T e = some te) (hke : te.kind = .int .u8) {k : Nat} {es : List (List PV)} {tok : Tok} {a : Value} (ha : VRel K ι st (.sl k es tok) a) {s : List UInt8} (hs : byteEs es = some s) :
    Gives E.G K ι st w ((convert src dst a).run E.P w) (.str s) st := by
  obtain ⟨d, i, ty⟩ := hE.ty hTs
  obtain ⟨d', i', ty'⟩ := hE.ty hTd
  obtain ⟨d'', i'', ty''⟩ := hE.ty hTe
  obtain ⟨A, c, b, off, f, rfl, hk, hA, hK, hv, h1, hc, hm, hn, ht⟩ := ha.slTree.slCells
  rw [run_convert_bytes_string w src dst e _ _ _ (kind_slice ty hks) (kind_int ty'' hke) (kind_str ty' hkd)]
  obtain ⟨ns, rfl, rfl⟩ := byteEs_spec es s hs
  cases A with
  | none =>
    have : ns = [] := by
      cases ns with
      | nil => rfl
      | cons n ns => exact absurd (hA (by simp)) (by simp)
    subst this
    refine ⟨K, ι, w, .string (bytesV []), ?_, .refl h, .tree _ _ (.str _)⟩
    simp [Conv.bytesToString, Sem.run_pure, bytesV]
    rfl
  | some ad =>
    refine ⟨K, ι, w, .string (bytesV (ns.map fun n => UInt8.ofNat n.toNat)), ?_, .refl h, .tree _ _ (.str _)⟩
    have hl : (loadCells ad ns.length).run E.P w = .ok (ns.map (Value.int .u8)).toArray w := by
      have := run_loadCells_list (P := E.P) w ad (ns.map (Value.int .u8)) (fun j v hj => ?_)
      · simpa using this
      · have hjl : j < ns.length := by simpa using (List.getElem?_eq_some_iff.1 hj).1
        have hne : ns.map (fun n => [PV.int .u8 n]) ≠ [] := by intro q; simp at q; subst q; simp at hjl
        have := hA hne
        injection this with this
        subst this
        rw [List.getElem?_map] at hj
        obtain ⟨n, hn1, rfl⟩ := Option.map_eq_some_iff.1 hj
        have hk1 : k = 1 := by
          have := hk j [PV.int .u8 n] (by simp [hn1])
          simpa using this.symm
        subst hk1
        have q := hK j (by simpa using hjl)
        have r := hv j 0 [PV.int .u8 n] (.int .u8 n) (by simp [hn1]) rfl
        have e1 : f j 0 = .int .u8 n := by generalize f j 0 = z at r; cases r; rfl
        simp only [Nat.div_one, Nat.mod_one, e1] at q
        have := h.know ⟨b, off + j, none⟩ _ q
        by_cases h0 : j = 0
        · subst h0; simpa [Addr.add] using this
        · simpa [Addr.add, h0] using this
    simp only [List.length_map]
    rw [run_bytesToString w ad ns.length c ns hl, foldl_push_bytesV]

theorem opIn1 {N : Nat} {x : Operand} {l : List Operand} (h : (x :: l).toArray.all (opdIn N) = true) : opdIn N x = true ∧ l.toArray.all (opdIn N) = true := by
  simpa using h

theorem zip_rel {K ι st} {a : Act} (f : TypeId → Operand → PV) (hfx : ∀ t x, opdIn a.tmps.size x = true → VRel K ι st (f t x) (a.eval x)) :
    ∀ (xs : List Operand) (ts : List TypeId), xs.length = ts.length → (∀ x ∈ xs, opdIn a.tmps.size x = true) → ∀ (j : Nat) (p : PV) (v : Value),
      ((xs.zip ts).map fun q => f q.2 q.1)[j]? = some p → (xs.map a.eval)[j]? = some v → VRel K ι st p v := by
  intro xs ts hl hx j p v hp hv
  rw [List.getElem?_map] at hp hv
  obtain ⟨q, hq, rfl⟩ := Option.map_eq_some_iff.1 hp
  obtain ⟨x, hx', rfl⟩ := Option.map_eq_some_iff.1 hv
  rw [List.getElem?_zip_eq_some] at hq
  rw [hx'] at hq
  obtain ⟨q1, q2⟩ := hq
  injection q1 with q1
  rw [← q1]
  exact hfx _ _ (hx _ (List.mem_of_getElem? hx'))

theorem opF_buildSlice {E : Env} (hE : EnvOk E) {K ι st w fr} {a : Act} (h : Rel E.G K ι st w) {dst ty pos after guard} (t : TypeId) (len : Nat) (parts : Array (Nat × Operand))
    (oT : ∀ t' x, x ∈ (Op.buildSlice t len parts).operands → VRel K ι st (evalT E t' fr x) (a.eval x)) {v : PV} {st' : Store}
    (ho : opF E ty fr st (.buildSlice t len parts) = some (v, st')) : Does E.G K ι st w ((execOp a.eval ⟨dst, .buildSlice t len parts, ty, pos, after, guard⟩).run E.P w) v st' := by
  simp only [opF] at ho
  split at ho
  · rename_i e _ _ hT
    split at ho
    · rename_i te hTe
      split at ho
      · rename_i hc
        obtain ⟨c1, c2, c3, c4, c5⟩ := hc
        split at ho
        · rename_i hrows
          simp only [Option.some.injEq, Prod.mk.injEq] at ho
          obtain ⟨rfl, rfl⟩ := ho
          have hlen : parts.size = len := by simpa using congrArg List.length c1
          rw [List.all_eq_true] at c5 hrows
          have := gives_buildSlice hE h hT rfl hTe c4 c3 (parts.toList.map fun q => evalT E e fr q.2) (parts.toList.map fun q => a.eval q.2) (by simp) (by simp; omega)
            (fun j p v hp hv => by
              rw [List.getElem?_map] at hp hv
              obtain ⟨x, hx, rfl⟩ := Option.map_eq_some_iff.1 hp
              rw [hx] at hv
              simp only [Option.map_some, Option.some.injEq] at hv
              subst hv
              refine oT e x.2 ?_
              simp only [Op.operands, List.mem_toArray, List.mem_map]
              exact ⟨x, List.mem_of_getElem? hx, rfl⟩)
            (fun p hp => by
              obtain ⟨x, hx, rfl⟩ := List.mem_map.1 hp
              simpa using c5 x hx)
            (fun p hp => by
              obtain ⟨x, hx, rfl⟩ := List.mem_map.1 hp
              exact hrows _ (List.mem_map.2 ⟨x, hx, rfl⟩))
          have e0 : execOp a.eval ⟨dst, .buildSlice t len parts, ty, pos, after, guard⟩ = (do Pure.pure (Next.value (← Instr.buildSlice t len (parts.map fun (i, x) => (i, a.eval x)))) : Sem Next) := rfl
          have e2 : (parts.map fun (i, x) => (i, a.eval x)) = parts.map fun q => (q.1, a.eval q.2) := rfl
          rw [e0, e2]
          refine Gives.does ?_
          have e1 : (parts.map fun q => (q.1, a.eval q.2)) = (((parts.toList.map fun q => a.eval q.2).zipIdx 0).map fun q => (q.2, q.1)).toArray := by
            apply Array.toList_inj.1
            apply List.ext_getElem?
            intro j
            simp only [Array.toList_map, List.getElem?_map, List.getElem?_zipIdx, Nat.zero_add]
            cases hj : parts.toList[j]? with
            | none => simp
            | some x =>
              have := congrArg (·[j]?) c1
              simp only [List.getElem?_map, hj, Option.map_some] at this
              have hjl : j < len := by
                have := (List.getElem?_eq_some_iff.1 hj).1
                simp at this; omega
              rw [List.getElem?_range hjl] at this
              simp at this
              simp [this]
          rw [e1]
          simp only [List.length_map, Array.length_toList, hlen] at this
          have e3 : ((parts.toList.map fun q => evalT E e fr q.2).map fun p => (cellsOf p).map tokRo) = parts.toList.map fun q => (cellsOf (evalT E e fr q.2)).map tokRo := by rw [List.map_map]; rfl
          rw [e3] at this
          exact this
        · cases ho
      · cases ho
    · cases ho
  · cases ho

theorem opF_sound {E : Env} (hE : EnvOk E) {K ι st w fr} {a : Act} (h : Rel E.G K ι st w) (hf : FrRel K ι st fr a.tmps) {o : Oper} (hin : opIn a.tmps.size o.op = true) {v : PV} {st' : Store}
    (ho : opF E o.type fr st o.op = some (v, st')) : Does E.G K ι st w ((execOp a.eval o).run E.P w) v st' := by
  obtain ⟨dst, op, ty, pos, after, guard⟩ := o
  have oO : ∀ x, x ∈ op.operands → VRel K ι st (evalO E fr x) (a.eval x) := fun x hx => evalO_rel h hf x (opIn_mem hin hx)
  have oT : ∀ t x, x ∈ op.operands → VRel K ι st (evalT E t fr x) (a.eval x) := fun t x hx => evalT_rel h hf t x (opIn_mem hin hx)
  have oN : ∀ x, x ∈ op.operands → opdIn a.tmps.size x = true := fun x hx => opIn_mem hin hx
  have oT' : ∀ t x, opdIn a.tmps.size x = true → VRel K ι st (evalT E t fr x) (a.eval x) := fun t x hx => evalT_rel h hf t x hx
  cases op <;> simp only [opF] at ho <;> try (cases ho; done)
  case move x =>
    simp only [Option.some.injEq, Prod.mk.injEq] at ho
    obtain ⟨rfl, rfl⟩ := ho
    exact does_pure h (oT _ x (by simp [Op.operands]))
  case assign x =>
    simp only [Option.some.injEq, Prod.mk.injEq] at ho
    obtain ⟨rfl, rfl⟩ := ho
    exact does_pure h (oT _ x (by simp [Op.operands]))
  case pick c x y =>
    have hc := oO c (by simp [Op.operands])
    have hx := oO x (by simp [Op.operands])
    have hy := oO y (by simp [Op.operands])
    have go : ∀ t, evalO E fr c = .bool t → Does E.G K ι st w ((execOp a.eval ⟨dst, .pick c x y, ty, pos, after, guard⟩).run E.P w) (if t then evalO E fr x else evalO E fr y) st := by
      intro t e
      rw [e] at hc
      have : (execOp a.eval ⟨dst, .pick c x y, ty, pos, after, guard⟩).run E.P w = .ok (.value (if t then a.eval x else a.eval y)) w := by
        simp [execOp, hc.boolV, asBool, Sem.run_bind, Sem.run_pure]
      rw [this]
      refine ⟨K, ι, w, _, _, rfl, .inl rfl, .refl h, ?_⟩
      cases t <;> assumption
    split at ho
    · rename_i t x' y' e1 e2 e3
      simp only [Option.some.injEq, Prod.mk.injEq] at ho
      obtain ⟨rfl, rfl⟩ := ho
      have := go t e1
      rw [e2, e3] at this
      cases t <;> exact this
    · rename_i t e1 _
      simp only [Option.some.injEq, Prod.mk.injEq] at ho
      obtain ⟨rfl, rfl⟩ := ho
      exact go t e1
    · cases ho
  case alloc e =>
    split at ho
    · rename_i te hT
      simp only [Option.some.injEq, Prod.mk.injEq] at ho
      obtain ⟨rfl, rfl⟩ := ho
      exact (gives_alloc hE h hT).does
    · cases ho
  case box e x =>
    split at ho
    · rename_i te hT
      split at ho
      · rename_i hc
        simp only [Option.some.injEq, Prod.mk.injEq] at ho
        obtain ⟨rfl, rfl⟩ := ho
        rw [← hc.2]
        exact (gives_box h (oT _ x (by simp [Op.operands])) (isAgg_spec hc.1)).does
      · cases ho
    · cases ho
  case load t x =>
    have hx := oO x (by simp [Op.operands])
    split at ho
    · rename_i te cs hT e
      rw [e] at hx
      exact (gives_load hE h hT hx ho).does
    · rename_i te id tot off hT e
      rw [e] at hx
      exact (gives_load hE h hT hx ho).does
    · cases ho
  case store t x y =>
    have hx := oO x (by simp [Op.operands])
    have hy := oT t y (by simp [Op.operands])
    split at ho
    · rename_i te id tot off hT e
      split at ho
      · rename_i cs hst
        split at ho
        · rename_i hc
          simp only [Option.some.injEq, Prod.mk.injEq] at ho
          obtain ⟨rfl, rfl⟩ := ho
          rw [e] at hx
          obtain ⟨w', e1, e2⟩ := gives_store hE h hT hx hy hst hc.1 hc.2.1 hc.2.2.1 (isAgg_spec hc.2.2.2)
          exact does_unit e1 e2
        · cases ho
      · cases ho
    · cases ho
  case binOp op t x y _ =>
    obtain ⟨p, hp, q⟩ := Option.map_eq_some_iff.1 ho
    simp only [Prod.mk.injEq] at q
    obtain ⟨rfl, rfl⟩ := q
    obtain ⟨e1, e2⟩ := binF_run hE hp (oO x (by simp [Op.operands])) (oO y (by simp [Op.operands])) w x y
    refine Gives.does (s := do eqGuard op t x y (a.eval x) (a.eval y); binOp op t (a.eval x) (a.eval y)) ?_
    rw [e1]
    exact toV_gives h e2
  case unOp op t x =>
    obtain ⟨p, hp, q⟩ := Option.map_eq_some_iff.1 ho
    simp only [Prod.mk.injEq] at q
    obtain ⟨rfl, rfl⟩ := q
    obtain ⟨e1, e2⟩ := unF_run (P := E.P) hp (oO x (by simp [Op.operands])) w
    refine Gives.does (s := Op.unary op (a.eval x)) ?_
    rw [e1]
    exact toV_gives h e2
  case nilCheck x =>
    have hx := oO x (by simp [Op.operands])
    split at ho
    · rename_i id tot off e
      simp only [Option.some.injEq, Prod.mk.injEq] at ho
      obtain ⟨rfl, rfl⟩ := ho
      rw [e] at hx
      obtain ⟨ad, e1⟩ := hx.optrV
      have : (execOp a.eval ⟨dst, .nilCheck x, ty, pos, after, guard⟩).run E.P w = .ok (.value (a.eval x)) w := by simp [execOp, e1, Sem.run_pure]
      rw [this]
      exact ⟨K, ι, w, _, _, rfl, .inl rfl, .refl h, hx⟩
    · rename_i cs e
      simp only [Option.some.injEq, Prod.mk.injEq] at ho
      obtain ⟨rfl, rfl⟩ := ho
      rw [e] at hx
      obtain ⟨b, off, f, e1, _⟩ := hx.rptrV
      have : (execOp a.eval ⟨dst, .nilCheck x, ty, pos, after, guard⟩).run E.P w = .ok (.value (a.eval x)) w := by simp [execOp, e1, Sem.run_pure]
      rw [this]
      exact ⟨K, ι, w, _, _, rfl, .inl rfl, .refl h, hx⟩
    · rename_i f caps e
      simp only [Option.some.injEq, Prod.mk.injEq] at ho
      obtain ⟨rfl, rfl⟩ := ho
      rw [e] at hx
      obtain ⟨vs, e1⟩ : ∃ vs, a.eval x = .func (.func f) #[] vs := by
        generalize a.eval x = z at hx ⊢
        cases hx with
        | tree _ _ q => cases q; exact ⟨_, rfl⟩
        | fn _ _ vs => exact ⟨vs, rfl⟩
      have : (execOp a.eval ⟨dst, .nilCheck x, ty, pos, after, guard⟩).run E.P w = .ok (.value (a.eval x)) w := by simp [execOp, e1, Sem.run_pure]
      rw [this]
      exact ⟨K, ι, w, _, _, rfl, .inl rfl, .refl h, hx⟩
    · rename_i l e
      simp only [Option.some.injEq, Prod.mk.injEq] at ho
      obtain ⟨rfl, rfl⟩ := ho
      rw [e] at hx
      obtain ⟨b, e1⟩ : ∃ b, a.eval x = .func (.yield b) #[] #[] := by
        generalize a.eval x = z at hx ⊢
        cases hx with
        | tree _ _ q => cases q
        | yld _ b => exact ⟨b, rfl⟩
      have : (execOp a.eval ⟨dst, .nilCheck x, ty, pos, after, guard⟩).run E.P w = .ok (.value (a.eval x)) w := by simp [execOp, e1, Sem.run_pure]
      rw [this]
      exact ⟨K, ι, w, _, _, rfl, .inl rfl, .refl h, hx⟩
    · cases ho
  case convert src dst x =>
    obtain ⟨p, hp, q⟩ := Option.map_eq_some_iff.1 ho
    simp only [Prod.mk.injEq] at q
    obtain ⟨rfl, rfl⟩ := q
    have hx := oO x (by simp [Op.operands])
    refine Gives.does (s := convert src dst (a.eval x)) ?_
    unfold convF at hp
    split at hp
    · rename_i k _ _ _ n hs hd e
      cases hp
      rw [e] at hx
      exact gives_conv hE h hx (.inl ⟨_, _, _, _, _, hs, hd, rfl, rfl, rfl⟩)
    · rename_i s hs hd e
      cases hp
      rw [e] at hx
      exact gives_conv hE h hx (.inr ⟨_, _, _, hs, hd, rfl, rfl, rfl, rfl⟩)
    · rename_i e _ _ _ _ _ es _ hs hd e'
      split at hp
      · rename_i hTe
        obtain ⟨s, hs', rfl⟩ := Option.map_eq_some_iff.1 hp
        rw [e'] at hx
        exact gives_bytesStr hE h hs rfl hd rfl hTe rfl hx hs'
      · cases hp
    · cases hp
  case makeFunc f first caps =>
    cases f <;> simp only at ho <;> try (cases ho; done)
    rename_i f
    split at ho
    · rename_i he
      simp only [Option.some.injEq, Prod.mk.injEq] at ho
      obtain ⟨rfl, rfl⟩ := ho
      have he' : first = #[] := by simpa using he
      subst he'
      have : (execOp a.eval ⟨dst, .makeFunc (.func f) #[] caps, ty, pos, after, guard⟩).run E.P w = .ok (.value (.func (.func f) #[] (caps.map a.eval))) w := by
        simp [execOp, Instr.makeFunc, Sem.run_pure]
      rw [this]
      refine ⟨K, ι, w, _, _, rfl, .inl rfl, .refl h, .fn f _ _ (by simp) (fun i p v hp hv => ?_)⟩
      rw [List.getElem?_map] at hp
      rw [Array.getElem?_map] at hv
      obtain ⟨x, hx, rfl⟩ := Option.map_eq_some_iff.1 hp
      obtain ⟨y, hy, rfl⟩ := Option.map_eq_some_iff.1 hv
      have : x = y := by simpa [hy] using hx.symm
      subst this
      exact oO x (by simp [Op.operands, Array.mem_of_getElem? hy])
    · cases ho
  case makeMap t r =>
    cases r with
    | some _ => cases ho
    | none =>
      simp only [Option.some.injEq, Prod.mk.injEq] at ho
      obtain ⟨rfl, rfl⟩ := ho
      exact (gives_makeMap h t).does
  case makeSlice t l c =>
    have hl := oO l (by simp [Op.operands])
    have hc := oO c (by simp [Op.operands])
    split at ho
    · rename_i e _ _ n m hT e1 e2
      split at ho
      · rename_i te hTe
        split at ho
        · rename_i hcond
          obtain ⟨q1, q2, rfl, q3⟩ := hcond
          simp only [Option.some.injEq, Prod.mk.injEq] at ho
          obtain ⟨rfl, rfl⟩ := ho
          rw [e1] at hl
          rw [e2] at hc
          refine Gives.does (s := Instr.makeSlice t (a.eval l) (a.eval c)) ?_
          rw [hl.intV, hc.intV]
          obtain ⟨n, rfl⟩ := Int.eq_ofNat_of_zero_le q1
          exact gives_makeSlice hE h hT rfl hTe n (by omega) q3
        · cases ho
      · cases ho
    · cases ho
  case slice t x lo hi mx =>
    have hx := oO x (by simp [Op.operands])
    obtain ⟨a1, a2⟩ := opt_rel h hf lo (fun y e => oN y (by subst e; simp [Op.operands]))
    obtain ⟨b1, b2⟩ := opt_rel h hf hi (fun y e => oN y (by subst e; simp [Op.operands]))
    obtain ⟨c1, c2⟩ := opt_rel h hf mx (fun y e => oN y (by subst e; simp [Op.operands]))
    refine Gives.does (s := Instr.sliceAt t (a.eval x) (lo.map a.eval) (hi.map a.eval) (mx.map a.eval)) ?_
    split at ho
    · rename_i ti hT
      split at ho
      · rename_i s hk e
        rw [e] at hx
        split at ho
        · rename_i l hh f hs
          split at ho
          · rename_i hmx
            simp only [Option.some.injEq, Prod.mk.injEq] at ho
            obtain ⟨rfl, rfl⟩ := ho
            exact gives_slice hE h hT hx a1 a2 b1 b2 c1 c2 (.inl ⟨s, l, hh, f, hk, rfl, by cases mx <;> simp_all, hs, rfl⟩)
          · cases ho
        · cases ho
      · rename_i el k es tok hk e
        rw [e] at hx
        split at ho
        · rename_i te l hh f hTe hs
          split at ho
          · cases ho
          · rename_i hkk
            simp only [Option.some.injEq, Prod.mk.injEq] at ho
            obtain ⟨rfl, rfl⟩ := ho
            refine gives_slice hE h hT hx a1 a2 b1 b2 c1 c2 (.inr (.inl ⟨el, te, k, es, tok, l, hh, f, hk, hTe, by simpa using hkk, rfl, hs, ?_⟩))
            cases tok <;> simp
        · cases ho
      · rename_i el id tot off len k hk e
        rw [e] at hx
        split at ho
        · rename_i te l hh f hTe hs
          split at ho
          · rename_i hkk
            simp only [Option.some.injEq, Prod.mk.injEq] at ho
            obtain ⟨rfl, rfl⟩ := ho
            exact gives_slice hE h hT hx a1 a2 b1 b2 c1 c2 (.inr (.inr (.inl ⟨el, te, id, tot, off, len, k, l, hh, f, hk, hTe, hkk, rfl, hs, rfl⟩)))
          · cases ho
        · cases ho
      · rename_i n el id tot off hk e
        rw [e] at hx
        split at ho
        · rename_i te cs l hh f hTe hst hs
          split at ho
          · rename_i hkk
            simp only [Option.some.injEq, Prod.mk.injEq] at ho
            obtain ⟨rfl, rfl⟩ := ho
            exact gives_slice hE h hT hx a1 a2 b1 b2 c1 c2 (.inr (.inr (.inr ⟨n, el, te, id, tot, off, cs, l, hh, f, hk, hTe, rfl, hst, hs, hkk.1, hkk.2, rfl⟩)))
          · cases ho
        · cases ho
      · cases ho
    · cases ho
  case fieldAddr s x f =>
    have hx := oO x (by simp [Op.operands])
    split at ho
    · rename_i fs _ _ hT
      split at ho
      · rename_i foff ft hf'
        split at ho
        · rename_i tf hTf
          split at ho
          · cases ho
          · rename_i hn
            split at ho
            · rename_i cs e
              simp only [Option.some.injEq, Prod.mk.injEq] at ho
              obtain ⟨rfl, rfl⟩ := ho
              rw [e] at hx
              exact (gives_fieldAddr hE h hT rfl hf' hTf hn hx (.inl ⟨cs, rfl, rfl⟩)).does
            · rename_i id tot off e
              simp only [Option.some.injEq, Prod.mk.injEq] at ho
              obtain ⟨rfl, rfl⟩ := ho
              rw [e] at hx
              exact (gives_fieldAddr hE h hT rfl hf' hTf hn hx (.inr ⟨id, tot, off, rfl, rfl⟩)).does
            · cases ho
        · cases ho
      · cases ho
    · cases ho
  case field t x f =>
    have hx := oO x (by simp [Op.operands])
    split at ho
    · rename_i fs _ _ hT
      split at ho
      · rename_i foff ft cs hf' e
        split at ho
        · rename_i tf hTf
          obtain ⟨p, hp, q⟩ := Option.map_eq_some_iff.1 ho
          simp only [Prod.mk.injEq] at q
          obtain ⟨rfl, rfl⟩ := q
          rw [e] at hx
          exact (gives_field hE h hT rfl hf' hTf hx hp).does
        · cases ho
      · cases ho
    · cases ho
  case indexAddr t x i =>
    have hx := oO x (by simp [Op.operands])
    have hi := oO i (by simp [Op.operands])
    split at ho
    · rename_i ti j hT hj
      split at ho
      · rename_i el k es tok hk e
        rw [e] at hx
        split at ho
        · rename_i te c hTe hc
          split at ho
          · rename_i hkk
            simp only [Option.some.injEq, Prod.mk.injEq] at ho
            obtain ⟨rfl, rfl⟩ := ho
            exact (gives_indexAddr hE h hT hx hi hj (.inl ⟨el, k, es, tok, c, hk, ⟨te, hTe, hkk⟩, rfl, hc, rfl⟩)).does
          · cases ho
        · cases ho
      · rename_i el id tot off len k hk e
        rw [e] at hx
        split at ho
        · rename_i te hTe
          split at ho
          · rename_i hkk
            simp only [Option.some.injEq, Prod.mk.injEq] at ho
            obtain ⟨rfl, rfl⟩ := ho
            exact (gives_indexAddr hE h hT hx hi hj (.inr (.inl ⟨el, te, id, tot, off, len, k, hk, hTe, hkk.2, rfl, hkk.1, rfl⟩))).does
          · cases ho
        · cases ho
      · rename_i n el cs hk e
        rw [e] at hx
        split at ho
        · rename_i te hTe
          split at ho
          · rename_i hkk
            simp only [Option.some.injEq, Prod.mk.injEq] at ho
            obtain ⟨rfl, rfl⟩ := ho
            exact (gives_indexAddr hE h hT hx hi hj (.inr (.inr (.inl ⟨n, el, te, cs, hk, hTe, rfl, hkk, rfl⟩)))).does
          · cases ho
        · cases ho
      · rename_i n el id tot off hk e
        rw [e] at hx
        split at ho
        · rename_i te hTe
          split at ho
          · rename_i hkk
            simp only [Option.some.injEq, Prod.mk.injEq] at ho
            obtain ⟨rfl, rfl⟩ := ho
            exact (gives_indexAddr hE h hT hx hi hj (.inr (.inr (.inr ⟨n, el, te, id, tot, off, hk, hTe, rfl, hkk, rfl⟩)))).does
          · cases ho
        · cases ho
      · cases ho
    · cases ho
  case index t x i =>
    have hx := oO x (by simp [Op.operands])
    have hi := oO i (by simp [Op.operands])
    split at ho
    · rename_i ti j hT hj
      split at ho
      · rename_i s hk e
        rw [e] at hx
        split at ho
        · rename_i b hb
          simp only [Option.some.injEq, Prod.mk.injEq] at ho
          obtain ⟨rfl, rfl⟩ := ho
          exact (gives_index hE h hT hx hi hj (.inl ⟨s, b, hk, rfl, hb, rfl⟩)).does
        · cases ho
      · rename_i n el cs hk e
        rw [e] at hx
        split at ho
        · rename_i te hTe
          split at ho
          · rename_i hkk
            obtain ⟨p, hp, q⟩ := Option.map_eq_some_iff.1 ho
            simp only [Prod.mk.injEq] at q
            obtain ⟨rfl, rfl⟩ := q
            exact (gives_index hE h hT hx hi hj (.inr ⟨n, el, te, cs, hk, hTe, rfl, hkk, hp⟩)).does
          · cases ho
        · cases ho
      · cases ho
    · cases ho
  case lookup t m k ok =>
    have hm := oO m (by simp [Op.operands])
    have hk := oO k (by simp [Op.operands])
    split at ho
    · rename_i tk tv _ _ hT
      split at ho
      · rename_i ik iv hTk hTv
        split at ho
        · rename_i hkk
          split at ho
          · rename_i es hes
            have hes' : evalO E fr m = .nilmap ∧ es = [] ∨ ∃ id, evalO E fr m = .map id ∧ st[id]? = some (.map es) := by
              unfold mapEs at hes
              split at hes
              · rename_i e; simp at hes; exact .inl ⟨e, hes⟩
              · rename_i id e
                split at hes
                · rename_i es' hst; simp at hes; subst hes; exact .inr ⟨id, e, hst⟩
                · cases hes
              · cases hes
            split at ho
            · rename_i i u hfind
              simp only [Option.some.injEq, Prod.mk.injEq] at ho
              obtain ⟨rfl, rfl⟩ := ho
              exact (gives_lookup hE h hT rfl hTk hTv hk hm hkk hes' hfind ok).does
            · rename_i hfind
              simp only [Option.some.injEq, Prod.mk.injEq] at ho
              obtain ⟨rfl, rfl⟩ := ho
              exact (gives_lookup hE h hT rfl hTk hTv hk hm hkk hes' hfind ok).does
            · cases ho
          · cases ho
        · cases ho
      · cases ho
    · cases ho
  case mapUpdate t m k x =>
    have hm := oO m (by simp [Op.operands])
    have hk := oO k (by simp [Op.operands])
    split at ho
    · rename_i tk tv _ _ hT
      have hx := oT tv x (by simp [Op.operands])
      split at ho
      · rename_i ik hTk
        split at ho
        · rename_i hkk
          split at ho
          · rename_i id e
            rw [e] at hm
            split at ho
            · rename_i es hst
              split at ho
              · rename_i i u hfind
                simp only [Option.some.injEq, Prod.mk.injEq] at ho
                obtain ⟨rfl, rfl⟩ := ho
                obtain ⟨w', e1, e2⟩ := gives_mapUpdate hE h hT rfl hTk hk hm hx hkk hst hfind
                exact does_unit e1 e2
              · rename_i hfind
                simp only [Option.some.injEq, Prod.mk.injEq] at ho
                obtain ⟨rfl, rfl⟩ := ho
                obtain ⟨w', e1, e2⟩ := gives_mapUpdate hE h hT rfl hTk hk hm hx hkk hst hfind
                exact does_unit e1 e2
              · cases ho
            · cases ho
          · cases ho
        · cases ho
      · cases ho
    · cases ho
  case extract t i =>
    have ht := oO t (by simp [Op.operands])
    split at ho
    · rename_i vs e
      rw [e] at ht
      obtain ⟨p, hp, q⟩ := Option.map_eq_some_iff.1 ho
      simp only [Prod.mk.injEq] at q
      obtain ⟨rfl, rfl⟩ := q
      exact (gives_extract h ht hp).does
    · cases ho
  case call c =>
    obtain ⟨callee, args, argTypes⟩ := c
    cases callee <;> simp only at ho <;> try (cases ho; done)
    rename_i b
    split at ho
    · rename_i hsz
      have hl : ((args.toList.zip argTypes.toList).map fun q => evalT E q.2 fr q.1).length = (args.toList.map a.eval).length := by simp [hsz]
      have := callB_sound hE h hl (zip_rel (evalT E · fr ·) oT' args.toList argTypes.toList (by simpa using hsz) (fun x hx => oN x (by simp [Op.operands, Call.operands]; simpa using hx))) ho ty (args.map fun | .const _ => true | _ => false)
      have e : (execOp a.eval ⟨dst, .call ⟨.builtin b, args, argTypes⟩, ty, pos, after, guard⟩).run E.P w = (builtin b argTypes.toList.toArray ty (args.map fun | .const _ => true | _ => false) (args.toList.map a.eval).toArray).run E.P w := by
        have q : (args.toList.map a.eval).toArray = args.map a.eval := by apply Array.toList_inj.1; simp
        rw [q]
        simp [execOp, resolve, invoke, Sem.run_bind, Sem.run_pure]
        rfl
      rw [e]
      exact this
    · cases ho
  case build t parts =>
    have hparts : ∀ (j : Nat) (p : Nat × PV) (v : Nat × Value), (parts.toList.map fun q => (q.1, evalO E fr q.2))[j]? = some p → (parts.map fun q => (q.1, a.eval q.2))[j]? = some v → p.1 = v.1 ∧ VRel K ι st p.2 v.2 := by
      intro j p v hp hv
      rw [List.getElem?_map] at hp
      rw [Array.getElem?_map] at hv
      obtain ⟨x, hx, rfl⟩ := Option.map_eq_some_iff.1 hp
      obtain ⟨y, hy, rfl⟩ := Option.map_eq_some_iff.1 hv
      have : x = y := by simpa [hy] using hx.symm
      subst this
      refine ⟨rfl, oO x.2 ?_⟩
      simp only [Op.operands, List.mem_toArray, List.mem_map]
      exact ⟨x, by simpa using Array.mem_of_getElem? hy, rfl⟩
    split at ho
    · rename_i fs _ z hT
      split at ho
      · cases ho
      · rename_i hall
        obtain ⟨p, hp, q⟩ := Option.map_eq_some_iff.1 ho
        simp only [Prod.mk.injEq] at q
        obtain ⟨rfl, rfl⟩ := q
        exact (gives_build hE h hT _ _ (by simp) hparts (.inl ⟨fs, rfl, fun f hfm => List.all_eq_true.1 (by cases hb : fs.all fun f => (E.T f.2).isSome <;> simp_all) f hfm, hp⟩)).does
    · rename_i n e _ z hT
      split at ho
      · rename_i te hTe
        obtain ⟨p, hp, q⟩ := Option.map_eq_some_iff.1 ho
        simp only [Prod.mk.injEq] at q
        obtain ⟨rfl, rfl⟩ := q
        exact (gives_build hE h hT _ _ (by simp) hparts (.inr ⟨n, e, te, rfl, hTe, hp⟩)).does
      · cases ho
    · cases ho
  case buildSlice t len parts => exact opF_buildSlice hE h t len parts oT ho
end Go.Pv
