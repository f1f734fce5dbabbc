/-
  Collation tables (34): the lengths of full decompositions: the count of a number.
-/
import Derived.Test.YtgbaaobgnpjhcaaGreatDoorCtZg
set_option linter.all false
set_option linter.unusedSimpArgs false
set_option linter.unusedVariables false
section
namespace Go.Pv.Ct
open Go.Pv Go.Proofs
set_option maxRecDepth 20000

abbrev Sizes := Int → Option Int
def sumS (v : Sizes → Int → Option (Int × Sizes)) : Sizes → Int → List Int → Option (Int × Sizes)
  | M, n, [] => some (n, M)
  | M, n, x :: xs => match v M x with
    | none => none
    | some (k, M') => sumS v M' (if 65 < n + k then 65 else n + k) xs
def putO (M : Sizes) (c v : Int) : Sizes := fun x => if x = c then some v else M x
def max1 (n : Int) : Int := if 1 > n then 1 else n
def countStep (l : List Mp) (compat : Bool) (v : Sizes → Int → Option (Int × Sizes)) (M : Sizes) (c : Int) : Option (Int × Sizes) :=
  match onceF l compat c with
  | none => some (1, M)
  | some to => match M c with
    | some n => some (n, M)
    | none => match sumS v M 0 to with
      | none => none
      | some (n, M') => some (max1 n, putO M' c (max1 n))
def countF (l : List Mp) (compat : Bool) : Nat → Sizes → Int → Option (Int × Sizes)
  | 0 => countStep l compat fun _ _ => none
  | k + 1 => countStep l compat (countF l compat k)
def Bd (M : Sizes) : Prop := ∀ c n, M c = some n → 1 ≤ n ∧ n ≤ 65
def BdOk (v : Sizes → Int → Option (Int × Sizes)) : Prop := ∀ M c k M', v M c = some (k, M') → Bd M → (1 ≤ k ∧ k ≤ 65) ∧ Bd M'
theorem sum_bd {v : Sizes → Int → Option (Int × Sizes)} (hv : BdOk v) : ∀ (xs : List Int) (M : Sizes) (n k : Int) (M' : Sizes), sumS v M n xs = some (k, M') → Bd M → 0 ≤ n ∧ n ≤ 65 → (0 ≤ k ∧ k ≤ 65) ∧ Bd M'
  | [], M, n, k, M', h, hb, hn => by
    simp only [sumS, Option.some.injEq, Prod.mk.injEq] at h
    obtain ⟨rfl, rfl⟩ := h
    exact ⟨hn, hb⟩
  | x :: xs, M, n, k, M', h, hb, hn => by
    rw [sumS] at h
    cases hx : v M x with
    | none => rw [hx] at h; cases h
    | some q =>
      obtain ⟨k1, M1⟩ := q
      rw [hx] at h
      obtain ⟨b1, b2⟩ := hv M x k1 M1 hx hb
      exact sum_bd hv xs M1 _ k M' h b2 (by split <;> omega)
theorem step_bd {l : List Mp} {compat : Bool} {v : Sizes → Int → Option (Int × Sizes)} (hv : BdOk v) : BdOk (countStep l compat v) := by
  intro M c k M' h hb
  unfold countStep at h
  split at h
  · simp only [Option.some.injEq, Prod.mk.injEq] at h
    obtain ⟨rfl, rfl⟩ := h
    exact ⟨by omega, hb⟩
  · rename_i to _
    split at h
    · rename_i n hn
      simp only [Option.some.injEq, Prod.mk.injEq] at h
      obtain ⟨rfl, rfl⟩ := h
      exact ⟨hb c _ hn, hb⟩
    · split at h
      · cases h
      · rename_i n M1 hs
        simp only [Option.some.injEq, Prod.mk.injEq] at h
        obtain ⟨rfl, rfl⟩ := h
        obtain ⟨a1, a2⟩ := sum_bd hv to M 0 n M1 hs hb (by omega)
        have hm : 1 ≤ max1 n ∧ max1 n ≤ 65 := by unfold max1; split <;> omega
        refine ⟨hm, fun x y hxy => ?_⟩
        unfold putO at hxy
        split at hxy
        · injection hxy with hxy; subst hxy; exact hm
        · exact a2 x y hxy
theorem count_bd {l : List Mp} {compat : Bool} : ∀ k, BdOk (countF l compat k)
  | 0 => step_bd (fun _ _ _ _ h => by cases h)
  | k + 1 => step_bd (count_bd k)

/-! ### The walk -/
def getO (S : List (Int × Int)) (c : Int) : Option Int := (S.find? (fun p => p.1 == c)).map (·.2)
theorem look_o (S : List (Int × Int)) (c : Int) : (findF (.int .i64 c) (smap S) 0 = some none ∧ getO S c = none ∧ ∀ v, ∃ S', smap S ++ [(.int .i64 c, .int .i64 v)] = smap S' ∧ ∀ x, getO S' x = putO (getO S) c v x) ∨
    ∃ j n, findF (.int .i64 c) (smap S) 0 = some (some (j, .int .i64 n)) ∧ getO S c = some n ∧ ∀ v, ∃ S', (smap S).set j (.int .i64 c, .int .i64 v) = smap S' ∧ ∀ x, getO S' x = putO (getO S) c v x := by
  unfold smap
  rw [find_imap]
  cases hx : S.findIdx? (fun x => x.1 == c) with
  | none =>
    have hn := List.findIdx?_eq_none_iff.1 hx
    have hf : S.find? (fun p => p.1 == c) = none := by
      rw [List.find?_eq_none]; intro x h; simpa using hn x h
    refine .inl ⟨rfl, by rw [getO, hf]; rfl, fun v => ⟨S ++ [(c, v)], by simp [imap], fun x => ?_⟩⟩
    unfold getO putO
    rw [List.find?_append]
    by_cases e : x = c
    · subst e
      rw [hf]; simp
    · have e' : (c == x) = false := by simp [Ne.symm e]
      rw [if_neg e]
      show _ = (S.find? (fun p => p.1 == x)).map (·.2)
      cases hq : S.find? (fun p => p.1 == x) with
      | some q => rfl
      | none => simp [e']
  | some j =>
    obtain ⟨hj, h1, h2⟩ := List.findIdx?_eq_some_iff_getElem.1 hx
    have hf : S.find? (fun p => p.1 == c) = some S[j] := by
      rw [List.find?_eq_some_iff_getElem]
      exact ⟨h1, j, hj, rfl, fun i hi => by simpa using h2 i hi⟩
    have hjc : S[j].1 = c := by simpa using h1
    refine .inr ⟨0 + j, S[j].2, by rw [Option.map_some, List.getElem?_eq_getElem hj]; rfl, by rw [getO, hf]; rfl, fun v => ⟨S.set j (c, v), by rw [Nat.zero_add]; simp [imap, List.map_set], fun x => ?_⟩⟩
    unfold getO putO
    by_cases e : x = c
    · subst e
      rw [if_pos rfl]
      have : (S.set j (x, v)).find? (fun p => p.1 == x) = some (x, v) := by
        rw [List.find?_eq_some_iff_getElem]
        refine ⟨by simp, j, by simpa using hj, by simp, fun i hi => ?_⟩
        rw [List.getElem_set_ne (by omega)]
        simpa using h2 i hi
      rw [this]; rfl
    · rw [if_neg e]
      have key : ∀ (S : List (Int × Int)) (j : Nat) (hj : j < S.length), S[j].1 = c → (S.set j (c, v)).find? (fun p => p.1 == x) = S.find? (fun p => p.1 == x) := by
        intro S
        induction S with
        | nil => intro j hj; simp at hj
        | cons p S ih =>
          intro j hj hc
          cases j with
          | zero =>
            have hc : p.1 = c := hc
            have e1 : (c == x) = false := by simp [Ne.symm e]
            have e2 : (p.1 == x) = false := by rw [hc]; exact e1
            simp [e1, e2]
          | succ j =>
            rw [List.set_cons_succ, List.find?_cons, List.find?_cons, ih j (by simpa using hj) (by simpa using hc)]
      rw [key S j hj hjc]
structure CInv (s0 : Store) (i1 i3 i4 ms id m f : Nat) (l : List Mp) (compat : Bool) (st : Store) (M : Sizes) : Prop where
  d : st[i1]? = some (.cells [.optr id 3 0])
  s : st[i3]? = some (.cells [.map ms])
  v : st[i4]? = some (.cells [.fn 134 [.optr i1 1 0, .optr i3 1 0, .optr i4 1 0]])
  data : DataAt st id m f l compat
  ne : ms ≠ m
  sizes : ∃ S, st[ms]? = some (.map (smap S)) ∧ ∀ c, getO S c = M c
  keep : Keep ms s0 st
theorem CInv.grows {s0 : Store} {i1 i3 i4 ms id m f : Nat} {l : List Mp} {compat : Bool} {st st' : Store} {M : Sizes} (h : CInv s0 i1 i3 i4 ms id m f l compat st M) (g : Grows st st') : CInv s0 i1 i3 i4 ms id m f l compat st' M :=
  ⟨g.get h.d, g.get h.s, g.get h.v, ⟨g.get h.data.data, g.get h.data.maps⟩, h.ne, by obtain ⟨S, h1, h2⟩ := h.sizes; exact ⟨S, g.get h1, h2⟩, h.keep.trans (.grows g)⟩
theorem CInv.set {s0 : Store} {i1 i3 i4 ms id m f : Nat} {l : List Mp} {compat : Bool} {st : Store} {M M' : Sizes} (h : CInv s0 i1 i3 i4 ms id m f l compat st M) (S : List (Int × Int)) (hS : ∀ x, getO S x = M' x) :
    CInv s0 i1 i3 i4 ms id m f l compat (st.set ms (.map (smap S))) M' := by
  obtain ⟨S0, h1, _⟩ := h.sizes
  have ne : ∀ i cs, st[i]? = some (.cells cs) → ms ≠ i := fun i cs e q => by subst q; rw [h1] at e; cases e
  exact ⟨by rw [get_set_ne _ (ne _ _ h.d)]; exact h.d, by rw [get_set_ne _ (ne _ _ h.s)]; exact h.s, by rw [get_set_ne _ (ne _ _ h.v)]; exact h.v,
    ⟨by rw [get_set_ne _ (ne _ _ h.data.data)]; exact h.data.data, by rw [get_set_ne _ h.ne]; exact h.data.maps⟩, h.ne, ⟨S, get_set_eq (get_lt h1) _, hS⟩, h.keep.set _⟩
/-- A function value that counts as 'v' does. -/
def CntOk (E : Env) (f : FuncId) (caps : List PV) (v : Sizes → Int → Option (Int × Sizes)) (Inv : Store → Sizes → Prop) : Prop :=
  E.pl f = false ∧ ∀ (M : Sizes) (x k : Int) (M' : Sizes), v M x = some (k, M') → Bd M → ∀ st, Inv st M → SpecQ E f ([.int .i64 x] ++ caps) st fun r st' => r = .int .i64 k ∧ Inv st' M'
/-- The end of a count: the size is laid down, and read again. -/
theorem count_end (s0 : Store) (i1 i3 i4 ms id m f : Nat) (l : List Mp) (compat : Bool) (x n : Int) (M : Sizes) (st : Store) (hI : CInv s0 i1 i3 i4 ms id m f l compat st M) (fr : Fr) (f0 : fr 0 = .int .i64 x) (f2 : fr 2 = .optr i3 1 0) (f10 : fr 10 = .int .i64 n) :
    W EE 49 (part [true, true, true, true, true, true] (code Go.Proofs.Tryz.f134)) fr st (EndW EE [.tmp 5] fun r st' => r = .int .i64 (max1 n) ∧ CInv s0 i1 i3 i4 ms id m f l compat st' (putO M x (max1 n))) := by
  have e1 : part [true, true, true, true, true, true] (code Go.Proofs.Tryz.f134) = part [true, true, true, true, true, true] (code Go.Proofs.Tryz.f134) := rfl
  conv at e1 => rhs; simp only [part, code, Go.Proofs.Tryz.f134, Option.getD_some]
  rw [e1]
  clear e1
  obtain ⟨S, hS, hSM⟩ := hI.sizes
  have p3 := hI.s
  have hm : (if 1 > n then 1 else n) = max1 n := rfl
  have fin : ∀ S1, (∀ y, getO S1 y = putO M x (max1 n) y) → CInv s0 i1 i3 i4 ms id m f l compat (st.set ms (.map (smap S1))) (putO M x (max1 n)) ∧ ∃ j, findF (.int .i64 x) (smap S1) 0 = some (some (j, .int .i64 (max1 n))) := by
    intro S1 h1
    refine ⟨hI.set S1 h1, ?_⟩
    rcases look_o S1 x with ⟨_, e, _⟩ | ⟨j, k, hf, e, _⟩
    · rw [h1] at e; simp [putO] at e
    · rw [h1] at e
      simp only [putO, if_true, Option.some.injEq] at e
      exact ⟨j, by rw [hf, e]⟩
  rcases look_o S x with ⟨hf, hg0, hput⟩ | ⟨j, k, hf, hg0, hput⟩
  · obtain ⟨S1, e1, hS1⟩ := hput (max1 n)
    obtain ⟨hI1, j1, hf1⟩ := fin S1 (fun y => by rw [hS1]; simp only [putO, hSM])
    have q3 := hI1.s
    have qS := get_set_eq (get_lt hS) (.map (smap S1))
    simp only [W_region, W_seq, W_ret, OpsW_nil, OpsW_op, upd_some, upd_none, opF, evalT, evalO, ofConst, reduceCtorEq, Nat.reduceEqDiff, Nat.reduceAdd, Option.map_some, Option.some.injEq, List.getElem?_cons_zero, true_and, or_true, exists_eq_left', if_true, if_false, Bool.false_eq_true, List.length_cons, List.length_nil, callB, List.zip_cons_cons, List.zip_nil_right, List.map_cons, List.map_nil, List.size_toArray, partF, TI.agg, Nat.reduceLeDiff, List.take_zero, List.drop_zero, List.take_succ_cons, List.headD_cons, T3, T155, f0, f2, f10, p3, hS, hm, hf, keyK, mapEs, e1, q3, qS, hf1, valOf, resF, resAll, resOne, EndW]
    exact hI1
  · obtain ⟨S1, e1, hS1⟩ := hput (max1 n)
    obtain ⟨hI1, j1, hf1⟩ := fin S1 (fun y => by rw [hS1]; simp only [putO, hSM])
    have q3 := hI1.s
    have qS := get_set_eq (get_lt hS) (.map (smap S1))
    simp only [W_region, W_seq, W_ret, OpsW_nil, OpsW_op, upd_some, upd_none, opF, evalT, evalO, ofConst, reduceCtorEq, Nat.reduceEqDiff, Nat.reduceAdd, Option.map_some, Option.some.injEq, List.getElem?_cons_zero, true_and, or_true, exists_eq_left', if_true, if_false, Bool.false_eq_true, List.length_cons, List.length_nil, callB, List.zip_cons_cons, List.zip_nil_right, List.map_cons, List.map_nil, List.size_toArray, partF, TI.agg, isAgg, Nat.reduceLeDiff, List.take_zero, List.drop_zero, List.take_succ_cons, List.headD_cons, T3, T155, f0, f2, f10, p3, hS, hm, hf, keyK, mapEs, e1, q3, qS, hf1, valOf, resF, resAll, resOne, EndW]
    exact hI1
end Go.Pv.Ct
end
section
namespace Go.Pv.Ct
open Go.Pv Go.Proofs
set_option maxRecDepth 20000

set_option maxHeartbeats 8000000 in
theorem count_step (s0 : Store) (i1 i3 i4 ms id m f : Nat) (l : List Mp) (compat : Bool) (hto : ToShort l compat) (w : Sizes → Int → Option (Int × Sizes)) (hbd : BdOk w)
    (hw : CntOk EE 134 [.optr i1 1 0, .optr i3 1 0, .optr i4 1 0] w (CInv s0 i1 i3 i4 ms id m f l compat)) :
    CntOk EE 134 [.optr i1 1 0, .optr i3 1 0, .optr i4 1 0] (countStep l compat w) (CInv s0 i1 i3 i4 ms id m f l compat) := by
  refine ⟨rfl, fun M x k M' hv hMb st hI => ?_⟩
  refine specQ_of_W ok ok134 (by simp) (by kernel_rfl) ?_
  unfold BodyW
  have e0 : code Go.Proofs.Tryz.f134 = code Go.Proofs.Tryz.f134 := rfl
  conv at e0 => rhs; simp only [code, Go.Proofs.Tryz.f134, Option.getD_some]
  rw [e0]
  clear e0
  have e1 : part [true, true, true, true, true, true] (code Go.Proofs.Tryz.f134) = part [true, true, true, true, true, true] (code Go.Proofs.Tryz.f134) := rfl
  conv at e1 => rhs; simp only [part, code, Go.Proofs.Tryz.f134, Option.getD_some]
  rw [← e1]
  clear e1
  obtain ⟨r1, st1, hs1, ⟨t, rfl⟩, hg1⟩ := once_spec hI.data x
  have p1 := hI.d
  simp only [W_region, W_seq, W_cond, W_block, OpsW_nil, OpsW_op, upd_some, opF, evalT, evalO, ofConst, argFr, unF, reduceCtorEq, Nat.reduceEqDiff, Nat.reduceAdd, Option.getD_some, Option.map_some, List.getElem?_cons_zero, List.getElem?_cons_succ, or_false, if_true, if_false, Bool.false_eq_true, List.length_cons, List.length_nil, callB, List.zip_cons_cons, List.zip_nil_right, List.map_cons, List.map_nil, List.size_toArray, partF, TI.agg, Nat.reduceLeDiff, List.take_zero, List.drop_zero, List.take_succ_cons, List.nil_append, List.cons_append, T3, T37, T80, T155, p1]
  refine OpsW_sp hs1 (by simp only [evalO] <;> rfl) rfl rfl (by simp only [upd_some, evalT, evalO, ofConst, argFr, Nat.reduceEqDiff, Option.getD_none, List.getElem?_cons_succ, List.getElem?_nil, if_true, if_false, List.zip_cons_cons, List.zip_nil_right, List.map_cons, List.map_nil, List.nil_append, List.cons_append, callArgs] <;> rfl) ?_
  have hIg := hI.grows hg1
  obtain ⟨S, hS, hSM⟩ := hIg.sizes
  have p3 := hIg.s
  have p4 := hIg.v
  unfold countStep at hv
  cases ho : onceF l compat x with
  | none =>
    rw [ho] at hv
    simp only [Option.some.injEq, Prod.mk.injEq] at hv
    obtain ⟨rfl, rfl⟩ := hv
    simp only [W_region, W_seq, W_ret, OpsW_nil, OpsW_op, upd_some, Br_W1, opF, evalT, evalO, ofConst, argFr, reduceCtorEq, Nat.reduceEqDiff, Option.getD_none, Option.map_some, Option.some.injEq, List.getElem?_cons_zero, List.getElem?_cons_succ, List.getElem?_nil, true_and, or_true, exists_eq_left', if_true, if_false, Bool.not_false, Option.isSome_none, resF, resAll, resOne]
    exact hIg
  | some to =>
    rw [ho] at hv
    simp only at hv
    rcases look_o S x with ⟨hf, hg0, hput⟩ | ⟨j, n0, hf, hg0, hput⟩
    case inr =>
      rw [hSM] at hg0
      rw [hg0] at hv
      simp only [Option.some.injEq, Prod.mk.injEq] at hv
      obtain ⟨rfl, rfl⟩ := hv
      simp only [W_skip, W_region, W_seq, W_ret, OpsW_nil, OpsW_op, upd_some, Br_W1, Br_W2, opF, evalT, evalO, argFr, reduceCtorEq, Nat.reduceEqDiff, Nat.reduceAdd, Option.getD_some, Option.getD_none, Option.map_some, Option.some.injEq, List.getElem?_cons_zero, List.getElem?_cons_succ, List.getElem?_nil, true_and, or_true, exists_eq_left', if_true, if_false, Bool.false_eq_true, Bool.not_true, List.length_cons, List.length_nil, TI.agg, Nat.reduceLeDiff, Option.isSome_some, List.take_zero, List.drop_zero, List.take_succ_cons, List.headD_cons, hS, p3, hf, keyK, mapEs, valOf, resF, resAll, resOne]
      exact hIg
    case inl =>
      rw [hSM] at hg0
      rw [hg0] at hv
      simp only at hv
      cases hsum : sumS w M 0 to with
      | none => rw [hsum] at hv; cases hv
      | some q =>
        obtain ⟨n, M1⟩ := q
        rw [hsum] at hv
        simp only [Option.some.injEq, Prod.mk.injEq] at hv
        obtain ⟨rfl, rfl⟩ := hv
        have htl := hto x to ho
        simp only [W_skip, OpsW_nil, OpsW_op, upd_some, Br_W2, opF, evalT, evalO, argFr, reduceCtorEq, Nat.reduceEqDiff, Nat.reduceAdd, Option.getD_some, Option.getD_none, Option.map_some, List.getElem?_cons_zero, List.getElem?_cons_succ, List.getElem?_nil, if_true, if_false, Bool.false_eq_true, Bool.not_true, List.length_cons, List.length_nil, TI.agg, Nat.reduceLeDiff, Option.isSome_some, List.take_zero, List.drop_zero, List.take_succ_cons, List.headD_cons, hS, p3, hf, keyK, mapEs, valOf, ints_length]
        refine W_loop (fun n' fr s => ∃ (i : Nat) (H : Sizes) (a : Int), fr 0 = .int .i64 x ∧ fr 2 = .optr i3 1 0 ∧ fr 3 = .optr i4 1 0 ∧ fr 10 = .int .i64 a ∧ fr 29 = .sl 1 (ints to) (tk t) ∧ fr 30 = .int .i64 to.length ∧ fr 31 = .int .i64 i ∧ CInv s0 i1 i3 i4 ms id m f l compat s H ∧ Bd H ∧ (0 ≤ a ∧ a ≤ 65) ∧ i ≤ to.length ∧ sumS w H a (to.drop i) = some (n, M1) ∧ n' = to.length - i) ?_ to.length _ _
          ⟨0, M, 0, by simp [upd, argFr], by simp [upd, argFr], by simp [upd, argFr], by simp [upd], by simp [upd], by simp [upd], by simp [upd], hIg, hMb, by omega, by omega, by simpa using hsum, by omega⟩
        rintro n' fr s ⟨i, H, a, f0, f2, f3, f10, f29, f30, f31, hJ, hHb, ha, hi, hc, rfl⟩
        by_cases ci : (i : Int) < (to.length : Int)
        · have ia : i < to.length := by omega
          have ga := ints_get to i ia
          have hwi : IntKind.i64.wrap ((i : Int) + 1) = ((i + 1 : Nat) : Int) := by rw [wrap_small (by omega) (by omega)]; rfl
          rw [List.drop_eq_getElem_cons ia, sumS] at hc
          cases hvi : w H to[i] with
          | none => rw [hvi] at hc; cases hc
          | some q =>
            obtain ⟨k1, H1⟩ := q
            rw [hvi] at hc
            simp only at hc
            obtain ⟨b1, b2⟩ := hbd H to[i] k1 H1 hvi hHb
            obtain ⟨r, st2, hs2, rfl, hJ1⟩ := hw.2 H to[i] k1 H1 hvi hHb s hJ
            have hwa : IntKind.i64.wrap (a + k1) = a + k1 := wrap_small (by omega) (by omega)
            have q4 := hJ.v
            simp only [W_skip, W_region, W_seq, W_cond, W_block, OpsW_nil, OpsW_op, upd_some, Br_W1, opF, evalT, evalO, ofConst, binF, intF, idxN_nat, reduceCtorEq, Nat.reduceEqDiff, Nat.reduceAdd, Option.map_some, List.getElem?_cons_zero, exists_and_left, and_assoc, if_true, if_false, decide_true, Bool.false_eq_true, List.length_cons, List.length_nil, partF, TI.agg, Nat.reduceLeDiff, List.take_zero, List.drop_zero, List.take_succ_cons, T3, T37, T113, f3, f10, f29, f30, f31, ci, ga, q4]
            refine OpsW_sp hs2 (by simp only [upd_some, evalO, Nat.reduceEqDiff, if_true, if_false] <;> rfl) rfl rfl (by simp only [upd_some, evalT, evalO, ofConst, Nat.reduceEqDiff, if_true, if_false, List.zip_cons_cons, List.zip_nil_right, List.map_cons, List.map_nil, List.nil_append, List.cons_append, callArgs] <;> rfl) ?_
            simp only [OpsW_nil, OpsW_op, upd_some, opF, evalT, evalO, ofConst, binF, intF, reduceCtorEq, Nat.reduceEqDiff, Nat.reduceAdd, Option.map_some, true_and, if_true, if_false, List.length_cons, List.length_nil, callB, List.zip_cons_cons, List.zip_nil_right, List.map_cons, List.map_nil, List.size_toArray, f0, f2, f3, f10, f29, f30, f31, hwa, hwi]
            exact ⟨to.length - (i + 1), by omega, i + 1, H1, _, rfl, rfl, hJ1, b2, by split <;> omega, by split <;> omega, by omega, hc, rfl⟩
        · have hnil : to.drop i = [] := List.drop_eq_nil_of_le (by omega)
          rw [hnil, sumS] at hc
          simp only [Option.some.injEq, Prod.mk.injEq] at hc
          obtain ⟨rfl, rfl⟩ := hc
          simp only [W_region, W_seq, W_cond, W_block, W_exit, OpsW_nil, OpsW_op, upd_some, Br_W2, opF, evalT, evalO, ofConst, binF, intF, reduceCtorEq, Nat.reduceEqDiff, Option.map_some, exists_and_left, and_assoc, if_true, if_false, decide_false, partF, TI.agg, List.drop_zero, T3, T37, T113, f30, f31, ci]
          exact count_end s0 i1 i3 i4 ms id m f l compat x a H s hJ _ f0 f2 f10
theorem count_ok (s0 : Store) (i1 i3 i4 ms id m f : Nat) (l : List Mp) (compat : Bool) (hto : ToShort l compat) : ∀ k, CntOk EE 134 [.optr i1 1 0, .optr i3 1 0, .optr i4 1 0] (countF l compat k) (CInv s0 i1 i3 i4 ms id m f l compat)
  | 0 => count_step s0 i1 i3 i4 ms id m f l compat hto _ (fun _ _ _ _ h => by cases h) ⟨rfl, fun _ _ _ _ h => by cases h⟩
  | k + 1 => count_step s0 i1 i3 i4 ms id m f l compat hto _ (count_bd k) (count_ok s0 i1 i3 i4 ms id m f l compat hto k)

/-! ### The plain law -/
/-- The length of a full decomposition, at most so deep; never more than 65. -/
def sumL (g : Int → Int) : Int → List Int → Int
  | n, [] => n
  | n, x :: xs => sumL g (if 65 < n + g x then 65 else n + g x) xs
def lenF (l : List Mp) (compat : Bool) : Nat → Int → Int
  | 0, _ => 1
  | k + 1, c => match onceF l compat c with
    | none => 1
    | some to => max1 (sumL (lenF l compat k) 0 to)
/-- The length, however deep one looks. -/
def Len (l : List Mp) (compat : Bool) (c n : Int) : Prop := ∃ K, ∀ k, K ≤ k → lenF l compat k c = n
variable {l : List Mp} {compat : Bool}
theorem Len.uniq {c n n' : Int} (h : Len l compat c n) (h' : Len l compat c n') : n = n' := by
  obtain ⟨K, hK⟩ := h
  obtain ⟨K', hK'⟩ := h'
  rw [← hK (max K K') (by omega), hK' (max K K') (by omega)]
theorem Len.leaf {c : Int} (h : onceF l compat c = none) : Len l compat c 1 := ⟨0, fun k _ => by
  cases k with
  | zero => rfl
  | succ k => rw [lenF, h]⟩
def LenOk (l : List Mp) (compat : Bool) (M : Sizes) : Prop := ∀ c n, M c = some n → Len l compat c n
def CSem (l : List Mp) (compat : Bool) (v : Sizes → Int → Option (Int × Sizes)) : Prop := ∀ M c k M', v M c = some (k, M') → LenOk l compat M → Len l compat c k ∧ LenOk l compat M'
theorem sum_sem {v : Sizes → Int → Option (Int × Sizes)} (hv : CSem l compat v) : ∀ (xs : List Int) (M : Sizes) (n k : Int) (M' : Sizes), sumS v M n xs = some (k, M') → LenOk l compat M → (∃ K, ∀ j, K ≤ j → sumL (lenF l compat j) n xs = k) ∧ LenOk l compat M'
  | [], M, n, k, M', h, hb => by
    simp only [sumS, Option.some.injEq, Prod.mk.injEq] at h
    obtain ⟨rfl, rfl⟩ := h
    exact ⟨⟨0, fun _ _ => rfl⟩, hb⟩
  | x :: xs, M, n, k, M', h, hb => by
    rw [sumS] at h
    cases hx : v M x with
    | none => rw [hx] at h; cases h
    | some q =>
      obtain ⟨k1, M1⟩ := q
      rw [hx] at h
      obtain ⟨⟨K1, b1⟩, b2⟩ := hv M x k1 M1 hx hb
      obtain ⟨⟨K2, c1⟩, c2⟩ := sum_sem hv xs M1 _ k M' h b2
      exact ⟨⟨max K1 K2, fun j hj => by rw [sumL, b1 j (by omega)]; exact c1 j (by omega)⟩, c2⟩
theorem cstep_sem {v : Sizes → Int → Option (Int × Sizes)} (hv : CSem l compat v) : CSem l compat (countStep l compat v) := by
  intro M c k M' h hb
  unfold countStep at h
  cases ho : onceF l compat c with
  | none =>
    rw [ho] at h
    simp only [Option.some.injEq, Prod.mk.injEq] at h
    obtain ⟨rfl, rfl⟩ := h
    exact ⟨.leaf ho, hb⟩
  | some to =>
    rw [ho] at h
    simp only at h
    cases hm : M c with
    | some n =>
      rw [hm] at h
      simp only [Option.some.injEq, Prod.mk.injEq] at h
      obtain ⟨rfl, rfl⟩ := h
      exact ⟨hb c _ hm, hb⟩
    | none =>
      rw [hm] at h
      simp only at h
      cases hs : sumS v M 0 to with
      | none => rw [hs] at h; cases h
      | some q =>
        obtain ⟨n, M1⟩ := q
        rw [hs] at h
        simp only [Option.some.injEq, Prod.mk.injEq] at h
        obtain ⟨rfl, rfl⟩ := h
        obtain ⟨⟨K, a1⟩, a2⟩ := sum_sem hv to M 0 n M1 hs hb
        have hl : Len l compat c (max1 n) := ⟨K + 1, fun j hj => by
          obtain ⟨j, rfl⟩ : ∃ i, j = i + 1 := ⟨j - 1, by omega⟩
          rw [lenF, ho]
          simp only
          rw [a1 j (by omega)]⟩
        refine ⟨hl, fun x y hxy => ?_⟩
        unfold putO at hxy
        split at hxy
        · rename_i e
          injection hxy with hxy; subst hxy e; exact hl
        · exact a2 x y hxy
theorem count_sem : ∀ k, CSem l compat (countF l compat k)
  | 0 => cstep_sem (fun _ _ _ _ h => by cases h)
  | k + 1 => cstep_sem (count_sem k)
theorem sum_some {v : Sizes → Int → Option (Int × Sizes)} : ∀ (xs : List Int), (∀ x ∈ xs, ∀ M, ∃ q, v M x = some q) → ∀ M n, ∃ q, sumS v M n xs = some q
  | [], _, M, n => ⟨_, rfl⟩
  | x :: xs, h, M, n => by
    obtain ⟨⟨k, M1⟩, hq⟩ := h x (by simp) M
    rw [sumS, hq]
    exact sum_some xs (fun y hy => h y (by simp [hy])) M1 _
theorem count_some {rank : Int → Nat} (hr : ∀ c to x, onceF l compat c = some to → x ∈ to → onceF l compat x ≠ none → rank x < rank c) : ∀ k M c, onceF l compat c = none ∨ rank c < k → ∃ q, countF l compat k M c = some q := by
  have gen : ∀ (k : Nat) (v : Sizes → Int → Option (Int × Sizes)), (∀ M c, onceF l compat c = none ∨ rank c + 1 < k → ∃ q, v M c = some q) → ∀ M c, onceF l compat c = none ∨ rank c < k → (k = 0 ∨ ∀ M c, onceF l compat c = none → ∃ q, v M c = some q) → ∃ q, countStep l compat v M c = some q := by
    intro k v hv M c hc h0
    unfold countStep
    cases ho : onceF l compat c with
    | none => exact ⟨_, rfl⟩
    | some to =>
      simp only
      cases hm : M c with
      | some n => exact ⟨_, rfl⟩
      | none =>
        simp only
        have hck : rank c < k := hc.resolve_left (by rw [ho]; simp)
        obtain ⟨⟨n, M1⟩, hq⟩ := sum_some (v := v) to (fun x hx M => by
          by_cases hn : onceF l compat x = none
          · exact hv M x (.inl hn)
          · have := hr c to x ho hx hn
            exact hv M x (.inr (by omega))) M 0
        rw [hq]
        exact ⟨_, rfl⟩
  intro k
  induction k with
  | zero =>
    intro M c hc
    have hn : onceF l compat c = none := hc.resolve_right (by omega)
    unfold countF countStep
    rw [hn]
    exact ⟨_, rfl⟩
  | succ k ih =>
    intro M c hc
    exact gen (k + 1) (countF l compat k) (fun M c h => ih M c (h.imp id (by omega))) M c hc (.inr (fun M c h => ih M c (.inl h)))
/-- Is some full decomposition too long? -/
def LongP (l : List Mp) (compat : Bool) : Prop := ∃ m ∈ l, ∃ n, Len l compat m.from' n ∧ n > 64
noncomputable def longB (l : List Mp) (compat : Bool) : Bool := @decide (LongP l compat) (Classical.propDecidable _)
theorem long_true (h : LongP l compat) : longB l compat = true := (@decide_eq_true_iff _ (Classical.propDecidable _)).2 h
theorem long_false (h : ¬ LongP l compat) : longB l compat = false := (@decide_eq_false_iff_not _ (Classical.propDecidable _)).2 h
set_option maxHeartbeats 8000000 in
theorem long_spec {st : Store} {id m f : Nat} {l : List Mp} {compat : Bool} (h : DataAt st id m f l compat) (hto : ToShort l compat) (hac : Acyc l compat) :
    Spec EE 98 [.optr id 3 0] st (.bool (longB l compat)) st := by
  refine spec_forget ok ok98 (by simp) bool_tree ?_
  unfold BodyW
  have e0 : code Go.Proofs.Tryz.f98 = code Go.Proofs.Tryz.f98 := rfl
  conv at e0 => rhs; simp only [code, Go.Proofs.Tryz.f98, Option.getD_some]
  rw [e0]
  clear e0
  obtain ⟨rank, hr⟩ := hac
  have g0 : ∀ x : List Ob, (st ++ x)[id]? = some (.cells [.map m, .bool compat, .map f]) := fun x => by rw [List.getElem?_append_left (get_lt h.data)]; exact h.data
  have gm : ∀ x : List Ob, (st ++ x)[m]? = some (.map (imap Mp.from' mpV l)) := fun x => by rw [List.getElem?_append_left (get_lt h.maps)]; exact h.maps
  have ltm := get_lt h.maps
  have ltd := get_lt h.data
  simp only [W_region, W_seq, W_block, W_ret, OpsW_nil, OpsW_op, upd_some, upd_none, opF, evalT, evalO, ofConst, argFr, reduceCtorEq, Nat.reduceEqDiff, Nat.reduceAdd, Option.getD_some, Option.getD_none, Option.map_some, List.getElem?_cons_zero, List.getElem?_cons_succ, List.getElem?_nil, Nat.succ_ne_zero, and_self, true_and, and_true, or_true, or_false, if_true, if_false, Bool.false_eq_true, List.length_cons, List.length_nil, List.map_cons, List.map_nil, partF, TI.agg, scal, isAgg, cellsOf, Bool.or_false, Nat.reduceLeDiff, splice, List.take_zero, List.drop_zero, List.drop_succ_cons, List.take_succ_cons, List.nil_append, List.cons_append, List.set_cons_zero, List.set_cons_succ, T80, T105, T108, T113, T155, List.append_assoc, List.length_append, get_at, get_at0, set_at, set_at0, g0, gm, Array.isEmpty_empty, imap_len]
  refine W_loop (fun n fr s => ∃ (M : Sizes) (seen : List Nat), fr 4 = .optr (st.length + 3) 1 0 ∧ fr 12 = .it (st.length + 4) ∧ CInv s st.length (st.length + 2) (st.length + 3) (st.length + 1) id m f l compat s M ∧ s[st.length + 4]? = some (.iter (some m) l.length seen) ∧ (∀ (i : Nat) (o : Ob), st[i]? = some o → s[i]? = some o) ∧
      Bd M ∧ LenOk l compat M ∧ (∀ j ∈ seen, ∀ hj : j < l.length, ∃ n, Len l compat l[j].from' n ∧ n ≤ 64) ∧ n = (List.range l.length).countP fun j => !seen.contains j) ?_ ((List.range l.length).countP fun j => !([] : List Nat).contains j) _ _
    ⟨fun _ => none, [], by simp [upd], by simp [upd], ?_, by rw [get_at]; rfl, fun i o e => by rw [List.getElem?_append_left (get_lt e)]; exact e, fun c n hc => (by cases hc), fun c n hc => (by cases hc), by simp, rfl⟩
  case refine_2 =>
    exact ⟨by rw [get_at0]; rfl, by rw [get_at]; rfl, by rw [get_at]; rfl, ⟨g0 _, gm _⟩, by omega, ⟨[], by rw [get_at]; rfl, fun c => rfl⟩, .refl _ _⟩
  rintro n fr s ⟨M, seen, f4, f12, hI, hit, hold, hbd, hlen, hsn, rfl⟩
  have hmp := hI.data.maps
  have hlt4 := get_lt hit
  simp only [W_skip, W_region, W_seq, W_cond, W_block, W_exit, OpsW_nil, OpsW_op, upd_some, Br_W1, Br_W2, opF, evalT, evalO, Nat.reduceEqDiff, Option.map_some, List.getElem?_cons_zero, true_and, exists_and_left, if_true, if_false, partF, TI.agg, List.drop_zero, T113, OpsW_next, NextW, f12, hit, hmp, imap_len]
  refine ⟨fun hall => ?_, fun j kp vp hj hkv => ?_⟩
  · have hno : ¬ LongP l compat := by
      rintro ⟨mm, hmm, n, h1, h2⟩
      obtain ⟨j, hj, rfl⟩ := List.getElem_of_mem hmm
      obtain ⟨n', h3, h4⟩ := hsn j (hall j hj) hj
      have := h1.uniq h3
      omega
    simp only [upd_some, Nat.reduceEqDiff, Option.map_some, Option.some.injEq, exists_eq_left', if_true, if_false, resF, resAll, resOne]
    exact ⟨by rw [long_false hno], hold⟩
  · obtain ⟨hjl, rfl, rfl⟩ := imap_at hkv
    have ne4 : ∀ i, i < st.length + 4 → st.length + 4 ≠ i := fun i hi => by omega
    have hsi : ∀ o, (s.set (st.length + 4) o)[st.length + 4]? = some o := fun o => get_set_eq hlt4 o
    have hI1 : ∀ o, CInv (s.set (st.length + 4) o) st.length (st.length + 2) (st.length + 3) (st.length + 1) id m f l compat (s.set (st.length + 4) o) M := fun o =>
      ⟨by rw [get_set_ne _ (ne4 _ (by omega))]; exact hI.d, by rw [get_set_ne _ (ne4 _ (by omega))]; exact hI.s, by rw [get_set_ne _ (ne4 _ (by omega))]; exact hI.v,
        ⟨by rw [get_set_ne _ (ne4 _ (by omega))]; exact hI.data.data, by rw [get_set_ne _ (ne4 _ (by omega))]; exact hI.data.maps⟩, hI.ne,
        (by obtain ⟨S, h1, h2⟩ := hI.sizes; exact ⟨S, by rw [get_set_ne _ (ne4 _ (by omega))]; exact h1, h2⟩), .refl _ _⟩
    have hold1 : ∀ o, ∀ (i : Nat) (o' : Ob), st[i]? = some o' → (s.set (st.length + 4) o)[i]? = some o' := fun o i o' e => by
      have := get_lt e
      rw [get_set_ne _ (by omega)]; exact hold i o' e
    have hgl : (seen ++ [j]).getLast? = some j := by simp
    obtain ⟨⟨k, M1⟩, hv⟩ := count_some hr (rank l[j].from' + 1) M l[j].from' (.inr (by omega))
    obtain ⟨b1, b2⟩ := count_bd _ M l[j].from' k M1 hv hbd
    obtain ⟨s1, s2⟩ := count_sem _ M l[j].from' k M1 hv hlen
    have hIo := hI1 (.iter (some m) l.length (seen ++ [j]))
    have hv4 := hIo.v
    have hm4 := hIo.data.maps
    obtain ⟨r, st2, hs2, rfl, hI2⟩ := (count_ok (s.set (st.length + 4) (.iter (some m) l.length (seen ++ [j]))) st.length (st.length + 2) (st.length + 3) (st.length + 1) id m f l compat hto _).2 M l[j].from' k M1 hv hbd _ hIo
    simp only [Nat.reduceAdd, Option.map_some, List.getElem?_cons_zero, if_true, if_false, Bool.false_eq_true, List.length_cons, List.length_nil, Nat.reduceLeDiff, List.take_zero, List.drop_zero, List.take_succ_cons, f4, hsi, hm4, imap_len, hgl, hkv, hv4]
    refine OpsW_sp hs2 (by simp only [upd_some, evalO, Nat.reduceEqDiff, if_true, if_false] <;> rfl) rfl rfl (by simp only [upd_some, evalT, evalO, ofConst, Nat.reduceEqDiff, if_true, if_false, List.zip_cons_cons, List.zip_nil_right, List.map_cons, List.map_nil, List.nil_append, List.cons_append, callArgs] <;> rfl) ?_
    have old2 : ∀ (i : Nat) (o : Ob), st[i]? = some o → st2[i]? = some o := fun i o e => hI2.keep.2 i o (by have := get_lt e; omega) (hold1 _ i o e)
    by_cases hk : k > 64
    · simp only [W_region, W_seq, W_ret, OpsW_nil, OpsW_op, upd_some, Br_W1, opF, evalT, evalO, ofConst, binF, intF, reduceCtorEq, Nat.reduceEqDiff, Option.map_some, Option.some.injEq, true_and, or_true, exists_eq_left', if_true, if_false, decide_true, hk, resF, resAll, resOne]
      exact ⟨by rw [long_true ⟨l[j], List.getElem_mem hjl, k, s1, hk⟩], old2⟩
    · simp only [W_skip, OpsW_nil, OpsW_op, upd_some, Br_W2, opF, evalO, ofConst, binF, intF, Nat.reduceEqDiff, Option.map_some, true_and, if_true, if_false, decide_false, f4, f12, hk]
      refine ⟨_, ?_, M1, ⟨hI2.d, hI2.s, hI2.v, hI2.data, hI2.ne, hI2.sizes, .refl _ _⟩, seen ++ [j], hI2.keep.2 _ _ (by omega) (hsi _), old2, b2, s2, fun i hi hil => ?_, rfl⟩
      · refine countP_lt (c := j) (fun x _ hx => ?_) (List.mem_range.2 hjl) ?_ ?_
        · simp at hx ⊢; exact hx.1
        · simp
        · simpa using hj
      · rcases List.mem_append.1 hi with q | q
        · exact hsn i q hil
        · have : i = j := by simpa using q
          subst this
          exact ⟨k, s1, by omega⟩
end Go.Pv.Ct
end
section
namespace Go.Pv.Ct
open Go.Pv Go.Proofs
set_option maxRecDepth 20000

theorem len_plain (x : Nat) (hx : x ≤ 4294967296) : Plain EE 166 [.int .u64 x] (.int .i64 (Lib.bitLen x)) := by
  refine ⟨ok166.enters, fun K w vs h ha => ?_⟩
  obtain ⟨hs, hv⟩ := ha
  obtain ⟨v0, rfl⟩ : ∃ v, vs = #[v] := ⟨vs[0]'(by simp at hs; omega), by
    apply Array.ext
    · simpa using hs.symm
    · intro i h1 h2
      have : i = 0 := by simp at h2; omega
      subst this; rfl⟩
  have e0 := (VRel.tree (ι := fun _ => undef) (st := []) _ _ (hv 0 _ v0 rfl rfl)).intV
  subst e0
  refine (Any.bits_Len Tryz.bitsLen (x : Int) w (by omega) (by omega)).mono fun e w' q => ?_
  obtain ⟨rfl, rfl⟩ := q
  exact ⟨K, _, rfl, .refl h, .int _ _⟩
theorem ins0_spec (st0 : Store) : SpecQ EE 175 [.sl 2 [] .full, .int .i64 0, .int .i64 (0 : Nat), .fn 152 []] st0 fun r st' => r = .tup [] ∧ st' = st0 := by
  refine specQ_of_W ok ok175 (by simp) (by kernel_rfl) ?_
  unfold BodyW
  have e0 : code Go.Proofs.Tryz.f175 = code Go.Proofs.Tryz.f175 := rfl
  conv at e0 => rhs; simp only [code, Go.Proofs.Tryz.f175, Option.getD_some]
  rw [e0]
  clear e0
  have hw1 : IntKind.i64.wrap 1 = 1 := by decide
  have hc : ¬ (1 : Int) < ((0 : Nat) : Int) := by decide
  simp only [W_region, W_seq, W_block, OpsW_nil, OpsW_op, upd_some, opF, evalT, evalO, ofConst, argFr, binF, intF, reduceCtorEq, Nat.reduceEqDiff, Option.getD_some, Option.getD_none, Option.map_some, List.getElem?_cons_zero, List.getElem?_cons_succ, List.getElem?_nil, true_and, or_false, if_true, if_false, Int.reduceAdd, hw1]
  refine W_loop (fun m fr st => fr 2 = .int .i64 (0 : Nat) ∧ fr 8 = .int .i64 1 ∧ st = st0) ?_ 0 _ _ ⟨by simp [upd, argFr], by simp [upd], rfl⟩
  rintro m fr st ⟨f2, f8, rfl⟩
  simp only [W_region, W_seq, W_cond, W_block, W_exit, OpsW_nil, OpsW_op, upd_some, Br_W2, opF, evalT, evalO, ofConst, binF, intF, Nat.reduceEqDiff, Option.map_some, Option.some.injEq, true_and, and_true, exists_eq_left', if_true, if_false, decide_false, f2, f8, hc, resF, resAll]
set_option maxHeartbeats 4000000 in
theorem pdq_spec (p : PV) (n : Nat) (hn : n ≤ 12) (lim : Int) (st0 : Store) (Q : Store → Prop) (h : SpecQ EE 175 [p, .int .i64 0, .int .i64 n, .fn 152 []] st0 fun r st' => r = .tup [] ∧ Q st') :
    SpecQ EE 165 [p, .int .i64 0, .int .i64 n, .int .i64 lim, .fn 152 []] st0 fun r st' => r = .tup [] ∧ Q st' := by
  obtain ⟨r, st1, hs, rfl, hq⟩ := h
  refine specQ_of_W ok ok165 (by simp) (by kernel_rfl) ?_
  unfold BodyW
  have e0 : code Go.Proofs.Tryz.f165 = code Go.Proofs.Tryz.f165 := rfl
  conv at e0 => rhs; simp only [code, Go.Proofs.Tryz.f165, Option.getD_some]
  rw [e0]
  clear e0
  have hw : IntKind.i64.wrap ((n : Int) - 0) = (n : Int) := by rw [Int.sub_zero, wrap_small (by omega) (by omega)]
  have hc : (n : Int) ≤ 12 := by omega
  simp only [W_region, W_seq, W_block, OpsW_nil, OpsW_op, opF, evalT, evalO, ofConst, reduceCtorEq, true_and, or_false]
  refine W_loop (fun m fr st => fr 0 = p ∧ fr 1 = .int .i64 0 ∧ fr 2 = .int .i64 n ∧ fr 4 = .fn 152 [] ∧ st = st0) ?_ 0 _ _ ⟨by simp [upd, argFr], by simp [upd, argFr], by simp [upd, argFr], by simp [upd, argFr], rfl⟩
  rintro m fr st ⟨f0, f1, f2, f4, rfl⟩
  simp only [W_region, W_seq, W_cond, W_block, W_ret, OpsW_nil, OpsW_op, OpsW_guard, upd_some, Br_W1, opF, evalT, evalO, ofConst, binF, intF, unF, reduceCtorEq, Nat.reduceEqDiff, Option.map_some, Option.bind_some, List.getElem?_toArray, List.getElem?_cons_zero, List.getElem?_cons_succ, true_and, or_true, if_true, if_false, decide_true, W_regionD, xrE, f0, f1, f2, f4, hw, hc]
  refine OpsW_sp hs (by simp only [evalO] <;> rfl) rfl rfl (by simp only [upd_some, evalT, evalO, ofConst, Nat.reduceEqDiff, if_true, if_false, List.zip_cons_cons, List.zip_nil_right, List.map_cons, List.map_nil, List.nil_append, List.cons_append, callArgs] <;> rfl) ?_
  simp only [OpsW_nil, Option.map_some, Option.some.injEq, true_and, exists_eq_left', resF, resAll]
  exact hq
theorem sf_spec (l : List Rg) (id : Nat) (st0 : Store) (hl : l.length ≤ 12) (h : st0[id]? = some (.cells (flatC l))) :
    SpecQ EE 151 [.osl id (l.length * 2) 0 l.length 2, .fn 152 []] st0 fun r st' => r = .tup [] ∧ st'[id]? = some (.cells (flatC (sortR l))) ∧ Keep id st0 st' := by
  obtain ⟨r, st1, hs, rfl, hq⟩ := pdq_spec (.osl id (l.length * 2) 0 l.length 2) l.length hl (Lib.bitLen l.length) st0 _ (ins_spec l id st0 (by omega) h)
  refine specQ_of_W ok ok151 (by simp) (by kernel_rfl) ?_
  unfold BodyW
  have e0 : code Go.Proofs.Tryz.f151 = code Go.Proofs.Tryz.f151 := rfl
  conv at e0 => rhs; simp only [code, Go.Proofs.Tryz.f151, Option.getD_some]
  rw [e0]
  clear e0
  have hu : IntKind.u64.wrap ((l.length : Nat) : Int) = ((l.length : Nat) : Int) := u64_id (by omega) (by omega)
  simp only [W_region, W_seq, OpsW_nil, OpsW_op, upd_some, opF, evalT, evalO, ofConst, argFr, reduceCtorEq, Nat.reduceEqDiff, Nat.reduceAdd, Option.getD_some, Option.getD_none, Option.map_some, List.getElem?_cons_zero, List.getElem?_cons_succ, List.getElem?_nil, true_and, or_false, if_true, if_false, List.length_cons, List.length_nil, callB, List.zip_cons_cons, List.zip_nil_right, List.map_cons, List.map_nil, List.size_toArray, T3, T32, T161, convF, hu, List.length_nil]
  refine OpsW_pl (len_plain (l.length) (by omega)) rfl rfl (by simp only [upd_some, evalT, evalO, ofConst, argFr, Nat.reduceEqDiff, Option.getD_none, List.getElem?_cons_succ, List.getElem?_nil, if_true, if_false, List.zip_cons_cons, List.zip_nil_right, List.map_cons, List.map_nil, callArgs, strips, strip_int] <;> rfl) ?_
  simp only [OpsW_op, upd_some, opF, evalT, evalO, argFr, Nat.reduceEqDiff, Option.getD_some, List.getElem?_cons_zero, List.getElem?_cons_succ, if_false]
  refine OpsW_sp hs (by simp only [evalO] <;> rfl) rfl rfl (by simp only [upd_some, evalT, evalO, ofConst, argFr, Nat.reduceEqDiff, Option.getD_none, List.getElem?_cons_succ, List.getElem?_nil, if_true, if_false, List.zip_cons_cons, List.zip_nil_right, List.map_cons, List.map_nil, List.nil_append, List.cons_append, callArgs] <;> rfl) ?_
  simp only [OpsW_nil, Option.map_some, Option.some.injEq, true_and, exists_eq_left', resF, resAll]
  exact hq
theorem sf0_spec (st0 : Store) : SpecQ EE 151 [.sl 2 [] .full, .fn 152 []] st0 fun r st' => r = .tup [] ∧ st' = st0 := by
  obtain ⟨r, st1, hs, rfl, hq⟩ := pdq_spec (.sl 2 [] .full) 0 (by omega) (Lib.bitLen 0) st0 _ (ins0_spec st0)
  refine specQ_of_W ok ok151 (by simp) (by kernel_rfl) ?_
  unfold BodyW
  have e0 : code Go.Proofs.Tryz.f151 = code Go.Proofs.Tryz.f151 := rfl
  conv at e0 => rhs; simp only [code, Go.Proofs.Tryz.f151, Option.getD_some]
  rw [e0]
  clear e0
  have hu : IntKind.u64.wrap ((0 : Nat) : Int) = ((0 : Nat) : Int) := u64_id (by omega) (by omega)
  simp only [W_region, W_seq, OpsW_nil, OpsW_op, upd_some, opF, evalT, evalO, ofConst, argFr, reduceCtorEq, Nat.reduceEqDiff, Nat.reduceAdd, Option.getD_some, Option.getD_none, Option.map_some, List.getElem?_cons_zero, List.getElem?_cons_succ, List.getElem?_nil, true_and, or_false, if_true, if_false, List.length_cons, List.length_nil, callB, List.zip_cons_cons, List.zip_nil_right, List.map_cons, List.map_nil, List.size_toArray, T3, T32, T161, convF, hu, List.length_nil]
  refine OpsW_pl (len_plain (0) (by omega)) rfl rfl (by simp only [upd_some, evalT, evalO, ofConst, argFr, Nat.reduceEqDiff, Option.getD_none, List.getElem?_cons_succ, List.getElem?_nil, if_true, if_false, List.zip_cons_cons, List.zip_nil_right, List.map_cons, List.map_nil, callArgs, strips, strip_int] <;> rfl) ?_
  simp only [OpsW_op, upd_some, opF, evalT, evalO, argFr, Nat.reduceEqDiff, Option.getD_some, List.getElem?_cons_zero, List.getElem?_cons_succ, if_false]
  refine OpsW_sp hs (by simp only [evalO] <;> rfl) rfl rfl (by simp only [upd_some, evalT, evalO, ofConst, argFr, Nat.reduceEqDiff, Option.getD_none, List.getElem?_cons_succ, List.getElem?_nil, if_true, if_false, List.zip_cons_cons, List.zip_nil_right, List.map_cons, List.map_nil, List.nil_append, List.cons_append, callArgs] <;> rfl) ?_
  simp only [OpsW_nil, Option.map_some, Option.some.injEq, true_and, exists_eq_left', resF, resAll]
  exact hq

/-! ### Make -/
theorem rg_append_nil (st : Store) (r : Rg) : appendH EE st 119 (.sl 2 [] .full) [[.int .i64 r.lo, .int .i64 r.hi]] 2 = some (.osl st.length 2 0 1 2, st ++ [.cells (flatC [r])]) := by
  have hL : (1 : Nat) ≤ LIM := by decide
  simp [appendH, T119, hL, flatC, Rg.cells]
theorem rg_append_osl {st : Store} {id : Nat} {l : List Rg} (h : st[id]? = some (.cells (flatC l))) (h0 : 0 < l.length) (hl : l.length + 1 ≤ LIM) (r : Rg) :
    appendH EE st 119 (.osl id (l.length * 2) 0 l.length 2) [[.int .i64 r.lo, .int .i64 r.hi]] 2 = some (.osl id ((l ++ [r]).length * 2) 0 (l ++ [r]).length 2, st.set id (.cells (flatC (l ++ [r])))) := by
  have e : flatC (l ++ [r]) = flatC l ++ [.int .i64 r.lo, .int .i64 r.hi] := by rw [flatC_app]; rfl
  simp only [appendH, T119, h, flatC_len, h0, e]
  simp
  omega
def clampR (r : Rg) : Rg := ⟨if 0 > r.lo then 0 else r.lo, if 1114111 < r.hi then 1114111 else r.hi⟩
def inL (l : List Rg) : List Rg := (l.map clampR).filter fun r => decide (r.lo ≤ r.hi)
def stepM (out : List Rg) (r : Rg) : List Rg := match out.length with
  | 0 => [r]
  | n + 1 => if r.lo ≤ IntKind.i64.wrap ((out.getD n rg0).hi + 1) then out.set n ⟨(out.getD n rg0).lo, if r.hi > (out.getD n rg0).hi then r.hi else (out.getD n rg0).hi⟩ else out ++ [r]
def makeL (l : List Rg) : List Rg := (sortR (inL l)).foldl stepM []
theorem inL_succ {l : List Rg} {i : Nat} (h : i < l.length) : inL (l.take (i + 1)) = if (clampR l[i]).lo ≤ (clampR l[i]).hi then inL (l.take i) ++ [clampR l[i]] else inL (l.take i) := by
  unfold inL
  rw [List.take_succ_eq_append_getElem h, List.map_append, List.filter_append]
  by_cases c : (clampR l[i]).lo ≤ (clampR l[i]).hi
  · rw [if_pos c]; simp [c]
  · rw [if_neg c]; simp [c]
theorem inL_len (l : List Rg) : (inL l).length ≤ l.length := by
  unfold inL
  exact Nat.le_trans (List.length_filter_le _ _) (by simp)
theorem insK_len : ∀ (k i : Nat) (l : List Rg), (insK k i l).length = l.length
  | 0, _, _ => rfl
  | k + 1, i, l => by rw [insK, insK_len k, sink_len]
theorem sortR_len (l : List Rg) : (sortR l).length = l.length := insK_len _ _ _
theorem stepM_len (out : List Rg) (r : Rg) : (stepM out r).length ≤ out.length + 1 ∧ stepM out r ≠ [] := by
  unfold stepM
  split
  · rename_i h; simp
  · rename_i n h
    split
    · refine ⟨by simp, fun e => ?_⟩
      have := congrArg List.length e
      rw [List.length_set, h] at this
      simp at this
    · simp
theorem fold_len (l : List Rg) : ∀ out : List Rg, (l.foldl stepM out).length ≤ out.length + l.length := by
  induction l with
  | nil => intro out; simp
  | cons r l ih =>
    intro out
    have h1 := ih (stepM out r)
    have h2 := (stepM_len out r).1
    simp only [List.foldl_cons, List.length_cons]
    omega
theorem fold_take {l : List Rg} {i : Nat} (h : i < l.length) : (l.take (i + 1)).foldl stepM [] = stepM ((l.take i).foldl stepM []) l[i] := by
  rw [List.take_succ_eq_append_getElem h, List.foldl_append]; rfl
/-- A slice of ranges: nil, or all of an object's cells; not those of object 'no'. -/
def RgAt (st : Store) (l : List Rg) (p : PV) (no : Nat) : Prop := (l = [] ∧ p = .sl 2 [] .full) ∨ (0 < l.length ∧ ∃ id, p = .osl id (l.length * 2) 0 l.length 2 ∧ st[id]? = some (.cells (flatC l)) ∧ id ≠ no)
theorem allRows_flat (st : Store) (n : Nat) : ∀ (l pre : List Rg), allRows (pub st (n + 1)) (flatC (pre ++ l)) (pre.length * 2) 2 l.length = some (rgR l)
  | [], pre => rfl
  | r :: l, pre => by
    have h : pre.length < (pre ++ r :: l).length := by simp
    have e := flat_load h
    have g : (pre ++ r :: l)[pre.length] = r := by simp
    rw [g] at e
    have ih := allRows_flat st n l (pre ++ [r])
    rw [List.append_assoc] at ih
    simp only [List.length_append, List.length_cons, List.length_nil, List.cons_append, List.nil_append] at ih
    rw [List.length_cons, allRows, e, show pre.length * 2 + 2 = (pre.length + (0 + 1)) * 2 by omega, ih]
    simp only [allSome, pub_int]
    rfl
theorem pub_rg {st : Store} {l : List Rg} {p : PV} {no : Nat} (h : RgAt st l p no) (hl : l.length ≤ LIM) : pub st 2 p = some (.sl 2 (rgR l) (tk l.isEmpty)) := by
  rcases h with ⟨rfl, rfl⟩ | ⟨h0, id, rfl, hst, _⟩
  · rfl
  · have e := allRows_flat st 0 l []
    simp only [List.nil_append, List.length_nil, Nat.zero_mul] at e
    rw [pub, hst]
    simp only [flatC_len]
    rw [if_pos ⟨trivial, by omega, hl⟩, e]
    have : l.isEmpty = false := by cases l with | nil => simp at h0 | cons _ _ => rfl
    rw [this]; rfl
set_option maxHeartbeats 8000000 in
theorem make2 (S : List Rg) (hS : S.length ≤ 12) (id1 : Nat) (fr : Fr) (st : Store) (f2 : fr 2 = .optr 0 1 0) (f3 : fr 3 = .osl id1 (S.length * 2) 0 S.length 2) (s0 : st[0]? = some (.cells [.sl 2 [] .full])) (s1 : st[id1]? = some (.cells (flatC S))) (h1 : id1 ≠ 0) :
    W EE 79 (part [true, true, true, true] (code Go.Proofs.Tryz.f128)) fr st (EndW EE [.cell 2 34] fun p st1 => ∃ n, pub st1 n p = some (.agg [.sl 2 (rgR (S.foldl stepM [])) (tk (S.foldl stepM []).isEmpty)])) := by
  have e1 : part [true, true, true, true] (code Go.Proofs.Tryz.f128) = part [true, true, true, true] (code Go.Proofs.Tryz.f128) := rfl
  conv at e1 => rhs; simp only [part, code, Go.Proofs.Tryz.f128, Option.getD_some]
  rw [e1]
  clear e1
  have hL : LIM = 4294967296 := rfl
  simp only [W_region, W_seq, W_block, W_ret, OpsW_nil, OpsW_op, upd_some, upd_none, opF, evalT, evalO, ofConst, Nat.reduceEqDiff, Nat.reduceAdd, Option.map_some, Option.bind_some, List.getElem?_cons_zero, and_true, if_true, if_false, Bool.false_eq_true, Bool.not_true, List.length_cons, List.length_nil, callB, List.zip_cons_cons, List.zip_nil_right, List.map_cons, List.map_nil, List.size_toArray, scal, isAgg, cellsOf, List.all_cons, List.all_nil, Bool.and_self, Nat.reduceLeDiff, Option.isSome_some, splice, fillF, List.take_zero, List.nil_append, T32, T34, T119, f3]
  refine W_loop (fun m fr st => ∃ (i : Nat), fr 2 = .optr 0 1 0 ∧ fr 36 = .osl id1 (S.length * 2) 0 S.length 2 ∧ fr 37 = .int .i64 S.length ∧ fr 38 = .int .i64 i ∧ st[0]? = some (.cells [.sl 2 [] .full]) ∧ st[id1]? = some (.cells (flatC S)) ∧ i ≤ S.length ∧
      RgAt st ((S.take i).foldl stepM []) (fr 6) id1 ∧ (∀ id t o n k, fr 6 = .osl id t o n k → id ≠ 0) ∧ m = S.length - i) ?_ S.length _ _
    ⟨0, by simp [upd, f2], by simp [upd], by simp [upd], by simp [upd], s0, s1, by omega, .inl ⟨rfl, by simp [upd]⟩, by simp [upd], by omega⟩
  clear f2 f3 s0 s1
  rintro m fr st ⟨i, f2, f36, f37, f38, s0, s1, hi, hr, hz, rfl⟩
  by_cases ci : (i : Int) < (S.length : Int)
  · have ia : i < S.length := by omega
    have hw : IntKind.i64.wrap ((i : Int) + 1) = ((i + 1 : Nat) : Int) := by rw [wrap_small (by omega) (by omega)]; rfl
    have hx : idxN (.int .i64 ((i : Nat) : Int)) = some i := idxN_nat i
    have hb : i * 2 + 2 ≤ S.length * 2 := by omega
    have hld := flat_load ia
    have hft := fold_take ia
    have hol := fold_len (S.take i) []
    rw [List.length_take, List.length_nil] at hol
    generalize ho : (S.take i).foldl stepM [] = out at *
    rcases hr with ⟨rfl, f6⟩ | ⟨hlen, id2, f6, s2, hne⟩
    · have ha := rg_append_nil (st ++ [.cells [.int .i64 S[i].lo, .int .i64 S[i].hi]]) S[i]
      have hc : ¬ ((0 : Nat) : Int) > 0 := by decide
      have hst : stepM [] S[i] = [S[i]] := rfl
      rw [hst] at hft
      simp only [W_skip, W_region, W_seq, W_cond, W_block, OpsW_nil, OpsW_op, OpsW_guard, upd_some, upd_none, Br_W1, Br_W2, Br_O2, opF, evalT, evalO, ofConst, binF, intF, Nat.reduceEqDiff, Nat.reduceAdd, Option.map_some, Option.bind_some, List.getElem?_toArray, List.getElem?_cons_zero, List.getElem?_cons_succ, and_self, true_and, exists_and_left, if_true, if_false, decide_true, decide_false, Bool.false_eq_true, beq_self_eq_true, Bool.false_beq, Bool.not_true, ne_eq, List.length_cons, List.length_nil, callB, List.zip_cons_cons, List.zip_nil_right, List.map_cons, List.map_nil, List.size_toArray, partF, TI.agg, scal, isAgg, cellsOf, tokRo, cellOk, List.all_cons, List.all_nil, Bool.or_true, Bool.and_self, Nat.reduceLeDiff, Nat.zero_lt_succ, range1, splice, List.take_zero, List.drop_zero, List.drop_succ_cons, List.take_succ_cons, List.nil_append, List.cons_append, hmE, W_regionD, xrE, T32, T119, f2, f36, f37, f38, f6, ci, hx, ia, s1, flatC_len, Nat.zero_add, hb, hld, get_last, set_last, List.length_nil, hc, ha, hw]
      refine ⟨S.length - (i + 1), by omega, i + 1, rfl, get_app (get_app s0), get_app (get_app s1), by omega, ?_, ?_, rfl⟩
      · rw [hft]
        exact .inr ⟨by simp, _, rfl, get_last _ _, by have := get_lt s1; simp; omega⟩
      · rintro id t o n k e
        cases e
        simp
    · have hne0 := hz _ _ _ _ _ f6
      have hlt := get_lt s2
      obtain ⟨n, hn⟩ : ∃ n, out.length = n + 1 := ⟨out.length - 1, by omega⟩
      have hno : n < out.length := by omega
      have hg : out.getD n rg0 = out[n] := getD_at hno
      have hst : stepM out S[i] = if S[i].lo ≤ IntKind.i64.wrap (out[n].hi + 1) then out.set n ⟨out[n].lo, if S[i].hi > out[n].hi then S[i].hi else out[n].hi⟩ else out ++ [S[i]] := by
        unfold stepM; rw [hn]; simp only [hg]
      rw [hst] at hft
      have hc : ((n + 1 : Nat) : Int) > 0 := by omega
      have hw1 : IntKind.i64.wrap (((n + 1 : Nat) : Int) - 1) = ((n : Nat) : Int) := by rw [wrap_small (by omega) (by omega)]; omega
      have hxn : idxN (.int .i64 ((n : Nat) : Int)) = some n := idxN_nat n
      have hn1 : n < n + 1 := by omega
      have hhi := flat_hi hno
      have g1 : ∀ x : Ob, (st ++ [x])[id2]? = some (.cells (flatC out)) := fun x => get_app s2
      have g0 : ∀ x : Ob, (st ++ [x])[0]? = some (.cells [.sl 2 [] .full]) := fun x => get_app s0
      have gi : ∀ x : Ob, (st ++ [x])[id1]? = some (.cells (flatC S)) := fun x => get_app s1
      have gl : ∀ x : Ob, id2 < (st ++ [x]).length := fun x => by simp; omega
      by_cases c : S[i].lo ≤ IntKind.i64.wrap (out[n].hi + 1)
      · rw [if_pos c] at hft
        have hsh := flat_store_hi hno (if S[i].hi > out[n].hi then S[i].hi else out[n].hi)
        have hb2 : n * 2 + 1 + 1 ≤ (n + 1) * 2 := by omega
        simp only [W_skip, W_region, W_seq, W_cond, W_block, OpsW_nil, OpsW_op, OpsW_guard, upd_some, upd_none, Br_W1, Br_O1, opF, evalT, evalO, ofConst, binF, intF, Nat.reduceEqDiff, Nat.reduceAdd, Option.map_some, Option.bind_some, List.getElem?_toArray, List.getElem?_cons_zero, List.getElem?_cons_succ, Nat.succ_ne_zero, and_self, true_and, exists_and_left, if_true, if_false, decide_true, Bool.false_eq_true, beq_self_eq_true, ne_eq, List.length_cons, List.length_nil, callB, List.zip_cons_cons, List.zip_nil_right, List.map_cons, List.map_nil, List.size_toArray, partF, TI.agg, scal, isAgg, cellsOf, Bool.or_true, Bool.or_false, Nat.reduceLeDiff, splice, List.take_zero, List.drop_zero, List.drop_succ_cons, List.take_succ_cons, List.nil_append, List.cons_append, W_regionD, xrE, T3, T32, T119, f2, f36, f37, f38, f6, hn, ci, hx, ia, s1, flatC_len, Nat.zero_add, Nat.add_zero, hb, hld, get_last, set_last, hc, hw1, hxn, hn1, hhi, g1, c, hb2, hsh, hw]
        refine ⟨S.length - (i + 1), by omega, i + 1, rfl, ?_, ?_, by omega, ?_, ?_, rfl⟩
        · rw [get_set_ne _ hne0]; exact g0 _
        · rw [get_set_ne _ hne]; exact gi _
        · rw [hft]
          exact .inr ⟨by simp; omega, id2, by simp [hn], get_set_eq (gl _) _, hne⟩
        · intro id t o n k e
          cases e
          exact hne0
      · rw [if_neg c] at hft
        have ha := rg_append_osl (g1 (.cells [.int .i64 S[i].lo, .int .i64 S[i].hi])) hlen (by omega) S[i]
        rw [hn] at ha
        simp only [W_skip, W_region, W_seq, W_cond, W_block, OpsW_nil, OpsW_op, OpsW_guard, upd_some, upd_none, Br_W1, Br_W2, Br_O1, opF, evalT, evalO, ofConst, binF, intF, Nat.reduceEqDiff, Nat.reduceAdd, Option.map_some, Option.bind_some, List.getElem?_toArray, List.getElem?_cons_zero, List.getElem?_cons_succ, Nat.succ_ne_zero, and_self, true_and, exists_and_left, if_true, if_false, decide_true, decide_false, Bool.false_eq_true, beq_self_eq_true, ne_eq, List.length_cons, List.length_nil, callB, List.zip_cons_cons, List.zip_nil_right, List.map_cons, List.map_nil, List.size_toArray, partF, TI.agg, scal, isAgg, cellsOf, tokRo, cellOk, List.all_cons, List.all_nil, Bool.or_true, Bool.and_self, Nat.reduceLeDiff, Nat.zero_lt_succ, range1, splice, List.take_zero, List.drop_zero, List.drop_succ_cons, List.take_succ_cons, List.nil_append, List.cons_append, hmE, W_regionD, xrE, T3, T32, T119, f2, f36, f37, f38, f6, hn, ci, hx, ia, s1, flatC_len, Nat.zero_add, Nat.add_zero, hb, hld, get_last, set_last, hc, hw1, hxn, hn1, hhi, g1, c, ha, hw]
        refine ⟨S.length - (i + 1), by omega, i + 1, rfl, ?_, ?_, by omega, ?_, ?_, rfl⟩
        · rw [get_set_ne _ hne0]; exact g0 _
        · rw [get_set_ne _ hne]; exact gi _
        · rw [hft]
          exact .inr ⟨by simp, id2, rfl, get_set_eq (gl _) _, hne⟩
        · intro id t o n k e
          cases e
          exact hne0
  · have hil : S.take i = S := List.take_of_length_le (by omega)
    rw [hil] at hr
    have hlen := fold_len S []
    simp only [List.length_nil, Nat.zero_add] at hlen
    have hl0 := get_lt s0
    generalize hp : fr 6 = p at *
    have hsc : (scal p || isAgg p) = true ∧ (cellsOf p) = [p] := by
      rcases hr with ⟨_, rfl⟩ | ⟨_, id, rfl, _⟩ <;> exact ⟨rfl, rfl⟩
    have hev : evalT EE 32 fr (.tmp 6) = p := by simp [evalT, evalO, hp]
    have hr2 : RgAt (st.set 0 (.cells [p])) (S.foldl stepM []) p id1 := by
      rcases hr with ⟨e1, rfl⟩ | ⟨e1, id, rfl, e3, e4⟩
      · exact .inl ⟨e1, rfl⟩
      · exact .inr ⟨e1, id, rfl, by rw [get_set_ne _ (Ne.symm (hz _ _ _ _ _ rfl))]; exact e3, e4⟩
    have hpub := pub_rg hr2 (by omega)
    have g0 : (st.set 0 (.cells [p]))[0]? = some (.cells [p]) := get_set_eq hl0 _
    rcases hr with ⟨e1, rfl⟩ | ⟨e1, id, rfl, e3, e4⟩
    · simp only [W_region, W_seq, W_cond, W_block, W_exit, OpsW_nil, OpsW_op, OpsW_guard, upd_some, upd_none, Br_W2, opF, evalT, evalO, ofConst, binF, intF, reduceCtorEq, Nat.reduceEqDiff, Nat.reduceAdd, Option.map_some, Option.bind_some, Option.some.injEq, List.getElem?_toArray, List.getElem?_cons_zero, List.getElem?_cons_succ, and_self, true_and, or_true, or_false, exists_eq_left', exists_and_left, if_true, if_false, decide_false, ne_eq, List.length_cons, List.length_nil, callB, List.zip_cons_cons, List.zip_nil_right, List.map_cons, List.map_nil, List.size_toArray, partF, TI.agg, scal, isAgg, cellsOf, Bool.or_true, Bool.or_false, Nat.reduceLeDiff, splice, List.take_zero, List.drop_zero, List.drop_succ_cons, List.take_succ_cons, List.nil_append, List.cons_append, W_regionD, xrE, T32, T34, T119, f2, f37, f38, hp, ci, s0, g0, resF, resAll, resOne, EndW]
      exact ⟨3, by rw [pub_aggc]; simp only [allSome, hpub]; rfl⟩
    · simp only [W_region, W_seq, W_cond, W_block, W_exit, OpsW_nil, OpsW_op, OpsW_guard, upd_some, upd_none, Br_W2, opF, evalT, evalO, ofConst, binF, intF, reduceCtorEq, Nat.reduceEqDiff, Nat.reduceAdd, Option.map_some, Option.bind_some, Option.some.injEq, List.getElem?_toArray, List.getElem?_cons_zero, List.getElem?_cons_succ, and_self, true_and, or_true, or_false, exists_eq_left', exists_and_left, if_true, if_false, decide_false, ne_eq, List.length_cons, List.length_nil, callB, List.zip_cons_cons, List.zip_nil_right, List.map_cons, List.map_nil, List.size_toArray, partF, TI.agg, scal, isAgg, cellsOf, Bool.or_true, Bool.or_false, Nat.reduceLeDiff, splice, List.take_zero, List.drop_zero, List.drop_succ_cons, List.take_succ_cons, List.nil_append, List.cons_append, W_regionD, xrE, T32, T34, T119, f2, f37, f38, hp, ci, s0, g0, resF, resAll, resOne, EndW]
      exact ⟨3, by rw [pub_aggc]; simp only [allSome, hpub]; rfl⟩
end Go.Pv.Ct
end
section
namespace Go.Pv.Ct
open Go.Pv Go.Proofs
set_option maxRecDepth 20000

set_option maxHeartbeats 4000000 in
theorem make20 (fr : Fr) (st : Store) (f2 : fr 2 = .optr 0 1 0) (f3 : fr 3 = .sl 2 [] .full) (s0 : st[0]? = some (.cells [.sl 2 [] .full])) :
    W EE 79 (part [true, true, true, true] (code Go.Proofs.Tryz.f128)) fr st (EndW EE [.cell 2 34] fun p st1 => ∃ n, pub st1 n p = some (.agg [.sl 2 [] .full])) := by
  have e1 : part [true, true, true, true] (code Go.Proofs.Tryz.f128) = part [true, true, true, true] (code Go.Proofs.Tryz.f128) := rfl
  conv at e1 => rhs; simp only [part, code, Go.Proofs.Tryz.f128, Option.getD_some]
  rw [e1]
  clear e1
  simp only [W_region, W_seq, W_block, W_ret, OpsW_nil, OpsW_op, upd_some, upd_none, opF, evalT, evalO, ofConst, Nat.reduceEqDiff, Nat.reduceAdd, Option.map_some, Option.bind_some, List.getElem?_cons_zero, and_true, if_true, if_false, Bool.false_eq_true, Bool.not_true, List.length_cons, List.length_nil, callB, List.zip_cons_cons, List.zip_nil_right, List.map_cons, List.map_nil, List.size_toArray, scal, isAgg, cellsOf, List.all_cons, List.all_nil, Bool.and_self, Nat.reduceLeDiff, Option.isSome_some, splice, fillF, List.take_zero, List.nil_append, T32, T34, T119, f3]
  refine W_loop (fun m fr st => fr 2 = .optr 0 1 0 ∧ fr 6 = .sl 2 [] .full ∧ fr 37 = .int .i64 (0 : Nat) ∧ fr 38 = .int .i64 0 ∧ st[0]? = some (.cells [.sl 2 [] .full])) ?_ 0 _ _
    ⟨by simp [upd, f2], by simp [upd], by simp [upd], by simp [upd], s0⟩
  clear f2 f3 s0
  rintro m fr st ⟨f2, f6, f37, f38, s0⟩
  have hc : ¬ (0 : Int) < ((0 : Nat) : Int) := by decide
  have g0 : (st.set 0 (.cells [.sl 2 [] .full]))[0]? = some (.cells [.sl 2 [] .full]) := get_set_eq (get_lt s0) _
  simp only [W_region, W_seq, W_cond, W_block, W_exit, OpsW_nil, OpsW_op, OpsW_guard, upd_some, upd_none, Br_W2, opF, evalT, evalO, ofConst, binF, intF, reduceCtorEq, Nat.reduceEqDiff, Nat.reduceAdd, Option.map_some, Option.bind_some, Option.some.injEq, List.getElem?_toArray, List.getElem?_cons_zero, List.getElem?_cons_succ, and_self, true_and, or_true, or_false, exists_eq_left', if_true, if_false, decide_false, List.length_cons, List.length_nil, callB, List.zip_cons_cons, List.zip_nil_right, List.map_cons, List.map_nil, List.size_toArray, partF, TI.agg, scal, isAgg, cellsOf, Bool.or_true, Bool.or_false, Nat.reduceLeDiff, splice, List.take_zero, List.drop_zero, List.drop_succ_cons, List.take_succ_cons, List.nil_append, List.cons_append, W_regionD, xrE, T32, T34, T119, f2, f6, f37, f38, hc, s0, g0, resF, resAll, resOne, EndW]
  exact ⟨3, rfl⟩
set_option maxHeartbeats 4000000 in
theorem make1 (I : List Rg) (hI : I.length ≤ 12) (fr : Fr) (st : Store) (f2 : fr 2 = .optr 0 1 0) (f3 : RgAt st I (fr 3) 0) (s0 : st[0]? = some (.cells [.sl 2 [] .full])) :
    W EE 79 (part [true, true, true] (code Go.Proofs.Tryz.f128)) fr st (EndW EE [.cell 2 34] fun p st1 => ∃ n, pub st1 n p = some (.agg [.sl 2 (rgR ((sortR I).foldl stepM [])) (tk ((sortR I).foldl stepM []).isEmpty)])) := by
  have e1 : part [true, true, true] (code Go.Proofs.Tryz.f128) = part [true, true, true] (code Go.Proofs.Tryz.f128) := rfl
  conv at e1 => rhs; simp only [part, code, Go.Proofs.Tryz.f128, Option.getD_some]
  rw [e1]
  clear e1
  have e1 : part [true, true, true, true] (code Go.Proofs.Tryz.f128) = part [true, true, true, true] (code Go.Proofs.Tryz.f128) := rfl
  conv at e1 => rhs; simp only [part, code, Go.Proofs.Tryz.f128, Option.getD_some]
  rw [← e1]
  clear e1
  rcases f3 with ⟨rfl, f3⟩ | ⟨h0, id, f3, s1, hne⟩
  · obtain ⟨r, st1, hs, rfl, rfl⟩ := sf0_spec st
    simp only [W_region, W_seq, OpsW_op, opF, evalT, evalO, f3]
    refine OpsW_sp hs (by simp only [evalO] <;> rfl) rfl rfl (by simp only [upd_some, evalT, evalO, ofConst, if_true, List.zip_cons_cons, List.zip_nil_right, List.map_cons, List.map_nil, List.nil_append, List.cons_append, callArgs] <;> rfl) ?_
    simp only [OpsW_nil]
    exact make20 _ _ (by simp [upd, f2]) (by simp [upd, f3]) s0
  · obtain ⟨r, st1, hs, rfl, s2, hk⟩ := sf_spec I id st hI s1
    simp only [W_region, W_seq, OpsW_op, opF, evalT, evalO, f3]
    refine OpsW_sp hs (by simp only [evalO] <;> rfl) rfl rfl (by simp only [upd_some, evalT, evalO, ofConst, if_true, List.zip_cons_cons, List.zip_nil_right, List.map_cons, List.map_nil, List.nil_append, List.cons_append, callArgs] <;> rfl) ?_
    simp only [OpsW_nil]
    exact make2 (sortR I) (by rw [sortR_len]; exact hI) id _ _ (by simp [upd, f2]) (by simp [upd, f3, sortR_len]) (hk.2 0 _ (Ne.symm hne) s0) s2 hne
set_option maxHeartbeats 8000000 in
theorem make_plain (l : List Rg) (t : Tok) (hl : l.length ≤ 12) : Plain EE 128 [.sl 2 (rgR l) t] (.agg [.sl 2 (rgR (makeL l)) (tk (makeL l).isEmpty)]) := by
  refine plain_of_W ok ok128 (by simp) ?_
  unfold BodyW
  have e0 : code Go.Proofs.Tryz.f128 = code Go.Proofs.Tryz.f128 := rfl
  conv at e0 => rhs; simp only [code, Go.Proofs.Tryz.f128, Option.getD_some]
  rw [e0]
  clear e0
  have e1 : part [true, true, true] (code Go.Proofs.Tryz.f128) = part [true, true, true] (code Go.Proofs.Tryz.f128) := rfl
  conv at e1 => rhs; simp only [part, code, Go.Proofs.Tryz.f128, Option.getD_some]
  rw [← e1]
  clear e1
  have hL : LIM = 4294967296 := rfl
  simp only [W_region, W_seq, W_block, OpsW_nil, OpsW_op, upd_some, opF, evalT, evalO, ofConst, argFr, reduceCtorEq, Nat.reduceAdd, Option.getD_some, List.getElem?_cons_zero, or_false, if_true, if_false, List.length_cons, List.length_nil, callB, List.zip_cons_cons, List.zip_nil_right, List.map_cons, List.map_nil, List.size_toArray, List.nil_append, T32, T34, T119, rgR_length]
  refine W_loop (fun m fr st => ∃ (i : Nat), fr 2 = .optr 0 1 0 ∧ fr 10 = .sl 2 (rgR l) t ∧ fr 11 = .int .i64 l.length ∧ fr 12 = .int .i64 i ∧ st[0]? = some (.cells [.sl 2 [] .full]) ∧ i ≤ l.length ∧ RgAt st (inL (l.take i)) (fr 3) 0 ∧ m = l.length - i) ?_ l.length _ _
    ⟨0, by simp [upd], by simp [upd], by simp [upd], by simp [upd], rfl, by omega, .inl ⟨rfl, by simp [upd]⟩, by omega⟩
  rintro m fr st ⟨i, f2, f10, f11, f12, s0, hi, hr, rfl⟩
  by_cases ci : (i : Int) < (l.length : Int)
  · have ia : i < l.length := by omega
    have ga := rgR_get l i ia
    have hw : IntKind.i64.wrap ((i : Int) + 1) = ((i + 1 : Nat) : Int) := by rw [wrap_small (by omega) (by omega)]; rfl
    have hs := inL_succ ia
    have c1 : (if 0 > l[i].lo then 0 else l[i].lo) = (clampR l[i]).lo := rfl
    have c2 : (if 1114111 < l[i].hi then 1114111 else l[i].hi) = (clampR l[i]).hi := rfl
    have hlt0 := get_lt s0
    have hil := inL_len (l.take i)
    rw [List.length_take] at hil
    by_cases c : (clampR l[i]).lo ≤ (clampR l[i]).hi
    · rw [if_pos c] at hs
      rcases hr with ⟨e, f3⟩ | ⟨h0, id, f3, s1, hne⟩
      · have ha := rg_append_nil (st ++ [.cells [.int .i64 (clampR l[i]).lo, .int .i64 (clampR l[i]).hi]]) (clampR l[i])
        simp only [W_skip, W_region, W_seq, W_cond, W_block, OpsW_nil, OpsW_op, upd_some, upd_none, Br_W1, opF, evalT, evalO, ofConst, binF, intF, idxN_nat, Nat.reduceEqDiff, Nat.reduceAdd, Option.map_some, List.getElem?_cons_zero, List.getElem?_cons_succ, Nat.succ_ne_zero, and_self, true_and, exists_and_left, if_true, if_false, decide_true, Bool.false_eq_true, beq_self_eq_true, List.length_cons, List.length_nil, callB, List.zip_cons_cons, List.zip_nil_right, List.map_cons, List.map_nil, List.size_toArray, partF, TI.agg, scal, isAgg, cellsOf, tokRo, cellOk, List.all_cons, List.all_nil, Bool.or_true, Bool.or_false, Bool.and_self, Nat.reduceLeDiff, Nat.zero_lt_succ, range1, splice, List.take_zero, List.drop_zero, List.drop_succ_cons, List.take_succ_cons, List.nil_append, List.cons_append, hmE, T3, T32, T119, f2, f3, f10, f11, f12, ci, ga, get_last, set_last, c1, c2, c, ha, hw]
        refine ⟨l.length - (i + 1), by omega, i + 1, rfl, get_app (get_app s0), by omega, ?_, rfl⟩
        rw [hs, e]
        exact .inr ⟨by simp, _, rfl, get_last _ _, by simp⟩
      · have g1 : (st ++ [Ob.cells [.int .i64 (clampR l[i]).lo, .int .i64 (clampR l[i]).hi]])[id]? = some (.cells (flatC (inL (l.take i)))) := get_app s1
        have ha := rg_append_osl g1 h0 (by omega) (clampR l[i])
        simp only [W_skip, W_region, W_seq, W_cond, W_block, OpsW_nil, OpsW_op, upd_some, upd_none, Br_W1, opF, evalT, evalO, ofConst, binF, intF, idxN_nat, Nat.reduceEqDiff, Nat.reduceAdd, Option.map_some, List.getElem?_cons_zero, List.getElem?_cons_succ, Nat.succ_ne_zero, and_self, true_and, exists_and_left, if_true, if_false, decide_true, Bool.false_eq_true, beq_self_eq_true, List.length_cons, List.length_nil, callB, List.zip_cons_cons, List.zip_nil_right, List.map_cons, List.map_nil, List.size_toArray, partF, TI.agg, scal, isAgg, cellsOf, tokRo, cellOk, List.all_cons, List.all_nil, Bool.or_true, Bool.or_false, Bool.and_self, Nat.reduceLeDiff, Nat.zero_lt_succ, range1, splice, List.take_zero, List.drop_zero, List.drop_succ_cons, List.take_succ_cons, List.nil_append, List.cons_append, hmE, T3, T32, T119, f2, f3, f10, f11, f12, ci, ga, get_last, set_last, c1, c2, c, ha, hw]
        refine ⟨l.length - (i + 1), by omega, i + 1, rfl, ?_, by omega, ?_, rfl⟩
        · rw [get_set_ne _ hne]; exact get_app s0
        · rw [hs]
          exact .inr ⟨by simp, id, rfl, get_set_eq (by have := get_lt s1; simp; omega) _, hne⟩
    · rw [if_neg c] at hs
      simp only [W_skip, W_region, W_seq, W_cond, W_block, OpsW_nil, OpsW_op, upd_some, upd_none, Br_W1, Br_W2, opF, evalT, evalO, ofConst, binF, intF, idxN_nat, Nat.reduceEqDiff, Nat.reduceAdd, Option.map_some, List.getElem?_cons_zero, List.getElem?_cons_succ, Nat.succ_ne_zero, and_self, true_and, exists_and_left, if_true, if_false, decide_true, decide_false, Bool.false_eq_true, List.length_cons, List.length_nil, callB, List.zip_cons_cons, List.zip_nil_right, List.map_cons, List.map_nil, List.size_toArray, partF, TI.agg, scal, isAgg, cellsOf, Bool.or_true, Bool.or_false, Nat.reduceLeDiff, splice, List.take_zero, List.drop_zero, List.drop_succ_cons, List.take_succ_cons, List.nil_append, List.cons_append, hmE, T3, T32, T119, f2, f10, f11, f12, ci, ga, get_last, set_last, c1, c2, c, hw]
      refine ⟨l.length - (i + 1), by omega, i + 1, rfl, get_app s0, by omega, ?_, rfl⟩
      rw [hs]
      rcases hr with ⟨e, f3⟩ | ⟨h0, id, f3, s1, hne⟩
      · exact .inl ⟨e, f3⟩
      · exact .inr ⟨h0, id, f3, get_app s1, hne⟩
  · have hil : l.take i = l := List.take_of_length_le (by omega)
    rw [hil] at hr
    have hi12 := inL_len l
    simp only [W_region, W_seq, W_cond, W_block, W_exit, OpsW_nil, OpsW_op, upd_some, upd_none, Br_W2, opF, evalT, evalO, ofConst, binF, intF, Nat.reduceEqDiff, Nat.reduceAdd, Option.map_some, List.getElem?_cons_zero, List.getElem?_cons_succ, Nat.succ_ne_zero, true_and, exists_and_left, if_true, if_false, decide_false, Bool.false_eq_true, List.length_cons, List.length_nil, callB, List.zip_cons_cons, List.zip_nil_right, List.map_cons, List.map_nil, List.size_toArray, partF, TI.agg, scal, isAgg, cellsOf, Nat.reduceLeDiff, splice, List.take_zero, List.drop_zero, List.nil_append, hmE, T3, T32, T119, f11, f12, ci]
    exact make1 (inL l) (by omega) _ _ (by simp [upd, f2]) (by simpa [upd] using hr) s0

theorem makeL_len (l : List Rg) : (makeL l).length ≤ l.length := by
  unfold makeL
  have h1 := fold_len (sortR (inL l)) []
  have h2 := inL_len l
  rw [sortR_len] at h1
  simp only [List.length_nil] at h1
  omega
def eqRg (a b : Rg) : Bool := a.lo == b.lo && a.hi == b.hi
def sameR : List Rg → List Rg → Bool
  | [], [] => true
  | x :: a, y :: b => eqRg x y && sameR a b
  | _, _ => false
theorem eqRg_iff {a b : Rg} : eqRg a b = true ↔ a = b := by
  cases a; cases b; simp [eqRg]
theorem sameR_iff : ∀ {a b}, sameR a b = true ↔ a = b
  | [], [] => by simp [sameR]
  | [], _ :: _ => by simp [sameR]
  | _ :: _, [] => by simp [sameR]
  | x :: a, y :: b => by simp [sameR, eqRg_iff, sameR_iff (a := a) (b := b)]
theorem sameR_len : ∀ {a b : List Rg}, a.length ≠ b.length → sameR a b = false
  | [], [], h => absurd rfl h
  | [], _ :: _, _ => rfl
  | _ :: _, [], _ => rfl
  | x :: a, y :: b, h => by
    simp only [sameR, sameR_len (a := a) (b := b) (by simpa using h), Bool.and_false]
theorem sameR_drop {a b : List Rg} {i : Nat} (ha : i < a.length) (hb : i < b.length) : sameR (a.drop i) (b.drop i) = (eqRg a[i] b[i] && sameR (a.drop (i + 1)) (b.drop (i + 1))) := by
  rw [List.drop_eq_getElem_cons ha, List.drop_eq_getElem_cons hb, sameR]
theorem rg_eqF (a b : Rg) : eqF EE 119 (.agg [.int .i64 a.lo, .int .i64 a.hi]) (.agg [.int .i64 b.lo, .int .i64 b.hi]) = some (eqRg a b) := by
  have h : EE.eqt 119 = true := by kernel_rfl
  have hr : List.range' 0 2 = [0, 1] := rfl
  simp [eqF, h, aggEq, flatTys, T119, hr, fitAll, cellFit, T3, cellsEq, cellEq, eqRg]
def validS (l : List Rg) : Bool := sameR (makeL l) l
set_option maxHeartbeats 4000000 in
theorem validS_plain (l : List Rg) (b : Bool) (hl : l.length ≤ 12) : Plain EE 95 [.agg [.sl 2 (rgR l) (tk b)]] (.bool (validS l)) := by
  refine plain_of_W ok ok95 (by simp) ?_
  unfold BodyW
  have e0 : code Go.Proofs.Tryz.f95 = code Go.Proofs.Tryz.f95 := rfl
  conv at e0 => rhs; simp only [code, Go.Proofs.Tryz.f95, Option.getD_some]
  rw [e0]
  clear e0
  have hm := makeL_len l
  simp only [W_region, W_seq, W_cond, W_block, W_ret, OpsW_nil, OpsW_op, upd_some, opF, evalT, evalO, ofConst, argFr, binF, intF, reduceCtorEq, Nat.reduceEqDiff, Nat.reduceAdd, Option.getD_some, Option.getD_none, Option.map_some, List.getElem?_cons_zero, List.getElem?_cons_succ, List.getElem?_nil, Nat.succ_ne_zero, and_self, true_and, or_true, or_false, if_true, if_false, Bool.false_eq_true, List.length_cons, List.length_nil, callB, List.zip_cons_cons, List.zip_nil_right, List.map_cons, List.map_nil, List.size_toArray, partF, TI.agg, scal, isAgg, cellsOf, Bool.or_true, Nat.reduceLeDiff, List.take_zero, List.drop_zero, List.take_succ_cons, List.nil_append, T32, T34]
  refine OpsW_pl (make_plain l _ hl) rfl rfl (by simp only [upd_some, evalT, evalO, ofConst, argFr, Nat.reduceEqDiff, Option.getD_none, Option.some.injEq, List.getElem?_cons_succ, List.getElem?_nil, if_true, if_false, List.zip_cons_cons, List.zip_nil_right, List.map_cons, List.map_nil, callArgs, strips, strip_sl, stripT_tk] <;> rfl) ?_
  generalize hM : makeL l = M at *
  have hv : validS l = sameR M l := by rw [validS, hM]
  by_cases c1 : (M.length : Int) = (l.length : Int)
  · have c1' : ((M.length : Int) != (l.length : Int)) = false := by simp [c1]
    have hab : M.length = l.length := by omega
    simp only [W_skip, OpsW_nil, OpsW_op, upd_some, Br_W2, opF, evalT, evalO, argFr, Nat.reduceEqDiff, Nat.reduceAdd, Option.getD_none, Option.map_some, List.getElem?_cons_zero, List.getElem?_cons_succ, List.getElem?_nil, if_true, if_false, Bool.false_eq_true, List.length_cons, List.length_nil, partF, TI.agg, Nat.reduceLeDiff, List.take_zero, List.drop_zero, List.take_succ_cons, T32, T34, rgR_length, c1']
    refine W_loop (fun n fr st => ∃ (i : Nat), fr 1 = .optr 0 1 0 ∧ st[0]? = some (.cells [.sl 2 (rgR l) (tk b)]) ∧ fr 16 = .sl 2 (rgR M) (tk M.isEmpty) ∧ fr 17 = .int .i64 M.length ∧ fr 18 = .int .i64 i ∧ i ≤ M.length ∧ sameR M l = sameR (M.drop i) (l.drop i) ∧ n = M.length - i) ?_ M.length _ _
      ⟨0, by simp [upd], rfl, by simp [upd], by simp [upd], by simp [upd], by omega, by simp, by omega⟩
    rintro n fr st ⟨i, f1, s0, f16, f17, f18, hi, hc, rfl⟩
    have g0 : ∀ x : Ob, (st ++ [x])[0]? = some (.cells [.sl 2 (rgR l) (tk b)]) := fun x => get_app s0
    by_cases ci : (i : Int) < (M.length : Int)
    · have ia : i < M.length := by omega
      have ib : i < l.length := by omega
      have ga := rgR_get M i ia
      have gb := rgR_get l i ib
      have hw : IntKind.i64.wrap ((i : Int) + 1) = ((i + 1 : Nat) : Int) := by rw [wrap_small (by omega) (by omega)]; rfl
      have hq := rg_eqF M[i] l[i]
      rw [sameR_drop ia ib] at hc
      rcases Bool.eq_false_or_eq_true (eqRg M[i] l[i]) with e | e
      · simp only [W_skip, W_region, W_seq, W_cond, W_block, OpsW_nil, OpsW_op, upd_some, upd_none, Br_W1, Br_W2, opF, evalT, evalO, ofConst, binF, intF, idxN_nat, Nat.reduceEqDiff, Nat.reduceAdd, Option.map_some, List.getElem?_cons_zero, Nat.succ_ne_zero, and_self, true_and, exists_and_left, if_true, if_false, decide_true, Bool.false_eq_true, Bool.not_true, List.length_cons, List.length_nil, partF, TI.agg, scal, isAgg, cellsOf, Bool.or_true, Nat.reduceLeDiff, splice, List.take_zero, List.drop_zero, List.drop_succ_cons, List.take_succ_cons, List.nil_append, List.cons_append, W_regionD, xrE, T32, T34, T119, f1, f16, f17, f18, ci, ga, gb, get_last, set_last, g0, hq, e, hw]
        exact ⟨M.length - (i + 1), by omega, i + 1, rfl, by omega, by rw [hc, e]; rfl, rfl⟩
      · simp only [W_skip, W_region, W_seq, W_cond, W_block, W_ret, OpsW_nil, OpsW_op, upd_some, upd_none, Br_W1, opF, evalT, evalO, ofConst, binF, intF, idxN_nat, reduceCtorEq, Nat.reduceEqDiff, Nat.reduceAdd, Option.map_some, Option.some.injEq, List.getElem?_cons_zero, Nat.succ_ne_zero, and_self, true_and, or_true, exists_eq_left', exists_and_left, if_true, if_false, decide_true, Bool.false_eq_true, Bool.not_false, List.length_cons, List.length_nil, partF, TI.agg, scal, isAgg, cellsOf, Bool.or_true, Nat.reduceLeDiff, splice, List.take_zero, List.drop_zero, List.drop_succ_cons, List.take_succ_cons, List.nil_append, List.cons_append, W_regionD, xrE, T32, T34, T119, f1, f16, f17, f18, ci, ga, gb, get_last, set_last, g0, hq, e, resF, resAll, resOne]
        exact ⟨1, by rw [pub_bool, hv, hc, e]; rfl⟩
    · have h1 : M.drop i = [] := List.drop_eq_nil_of_le (by omega)
      have h2 : l.drop i = [] := List.drop_eq_nil_of_le (by omega)
      simp only [W_region, W_seq, W_cond, W_block, W_exit, OpsW_nil, OpsW_op, upd_some, upd_none, Br_W2, opF, evalT, evalO, ofConst, binF, intF, Nat.reduceEqDiff, Nat.reduceAdd, Option.map_some, Option.some.injEq, List.getElem?_cons_zero, Nat.succ_ne_zero, true_and, exists_eq_left', exists_and_left, if_true, if_false, decide_false, partF, TI.agg, scal, isAgg, cellsOf, Nat.reduceLeDiff, splice, List.take_zero, List.drop_zero, List.nil_append, W_regionD, xrE, T32, T34, T119, f17, f18, ci, resF, resAll, resOne]
      exact ⟨1, by rw [pub_bool, hv, hc, h1, h2]; rfl⟩
  · have c1' : ((M.length : Int) != (l.length : Int)) = true := by simp [c1]
    simp only [W_region, W_seq, W_ret, OpsW_nil, OpsW_op, upd_some, Br_W1, opF, evalT, evalO, ofConst, argFr, reduceCtorEq, Nat.reduceEqDiff, Nat.reduceAdd, Option.getD_none, Option.map_some, Option.some.injEq, List.getElem?_cons_zero, List.getElem?_cons_succ, List.getElem?_nil, true_and, or_true, exists_eq_left', if_true, if_false, Bool.false_eq_true, List.length_cons, List.length_nil, partF, TI.agg, Nat.reduceLeDiff, List.take_zero, List.drop_zero, List.take_succ_cons, T32, T34, rgR_length, c1', resF, resAll, resOne]
    exact ⟨1, by rw [pub_bool, hv, sameR_len (by omega)]⟩
end Go.Pv.Ct
end
section
namespace Go.Pv.Ct
open Go.Pv Go.Proofs
set_option maxRecDepth 20000

set_option maxHeartbeats 4000000 in
theorem ixM_spec (l : List Mp) (t : Tok) (f : FuncId) (caps : List PV) (bs : List Bool) (st0 : Store) (hp : PredOk EE f caps (l.map fun e => PV.agg e.cells) bs st0) (hl : l.length < 9223372036854775808) :
    SpecQ EE 153 [.sl 3 (mpR l) t, .fn f caps] st0 fun r st' => r = .int .i64 (firstOf 0 bs) ∧ Grows st0 st' := by
  obtain ⟨hpl, hbl, hpr⟩ := hp
  refine specQ_of_W ok ok153 (by simp) (by kernel_rfl) ?_
  unfold BodyW
  have e0 : code Go.Proofs.Tryz.f153 = code Go.Proofs.Tryz.f153 := rfl
  conv at e0 => rhs; simp only [code, Go.Proofs.Tryz.f153, Option.getD_some]
  rw [e0]
  clear e0
  simp only [W_region, W_seq, W_block, W_ret, OpsW_nil, OpsW_op, upd_some, opF, evalT, evalO, ofConst, argFr, reduceCtorEq, Nat.reduceAdd, Option.getD_some, List.getElem?_cons_zero, true_and, or_true, or_false, if_true, if_false, List.length_cons, List.length_nil, callB, List.zip_cons_cons, List.zip_nil_right, List.map_cons, List.map_nil, List.size_toArray, T31, mpR_length]
  refine W_loop (fun n fr st => ∃ (i : Nat), fr 0 = .sl 3 (mpR l) t ∧ fr 1 = .fn f caps ∧ fr 7 = .int .i64 l.length ∧ fr 8 = .int .i64 i ∧ Grows st0 st ∧ i ≤ l.length ∧ firstOf 0 bs = firstOf i (bs.drop i) ∧ n = l.length - i) ?_ l.length _ _
    ⟨0, by simp [upd, argFr], by simp [upd, argFr], by simp [upd], by simp [upd], .refl _, by omega, by simp, by omega⟩
  rintro n fr st ⟨i, f0, f1, f7, f8, hg, hi, hc, rfl⟩
  have hvl : (l.map fun e => PV.agg e.cells).length = l.length := by simp
  by_cases ci : (i : Int) < (l.length : Int)
  · have ia : i < l.length := by omega
    have ga := mpR_get l i ia
    have hw : IntKind.i64.wrap ((i : Int) + 1) = ((i + 1 : Nat) : Int) := by rw [wrap_small (by omega) (by omega)]; rfl
    have hb : bs[i]? = some (bs[i]'(by omega)) := List.getElem?_eq_getElem _
    obtain ⟨r, st1, hs, rfl, hg1⟩ := hpr i (PV.agg l[i].cells) _ (by simp [ia]) hb st hg
    have hd := firstOf_drop (bs := bs) (i := i) (by omega)
    simp only [W_skip, W_region, W_seq, W_cond, W_block, OpsW_nil, OpsW_op, upd_some, Br_W1, opF, evalT, evalO, ofConst, binF, intF, idxN_nat, reduceCtorEq, Nat.reduceEqDiff, Nat.reduceAdd, Option.map_some, List.getElem?_cons_zero, exists_and_left, if_true, if_false, decide_true, List.length_cons, List.length_nil, partF, TI.agg, Nat.reduceLeDiff, List.take_zero, List.drop_zero, List.take_succ_cons, T31, T110, f0, f1, f7, f8, ci, ga]
    refine OpsW_sp hs (by simp only [upd_some, evalO, Nat.reduceEqDiff, if_true, if_false] <;> rfl) hpl rfl (by simp only [upd_some, evalT, evalO, ofConst, Nat.reduceEqDiff, if_true, if_false, List.zip_cons_cons, List.zip_nil_right, List.map_cons, List.map_nil, List.nil_append, List.cons_append, callArgs] <;> rfl) ?_
    rcases Bool.eq_false_or_eq_true (bs[i]'(by omega)) with e | e
    · simp only [W_region, W_seq, W_ret, OpsW_nil, OpsW_op, upd_some, Br_W1, opF, evalT, evalO, reduceCtorEq, Nat.reduceEqDiff, Option.map_some, Option.some.injEq, true_and, or_true, exists_eq_left', if_true, if_false, e, resF, resAll, resOne]
      exact ⟨by rw [hc, hd, e]; rfl, hg.trans hg1⟩
    · simp only [W_skip, OpsW_nil, upd_some, Br_W2, reduceCtorEq, Nat.reduceEqDiff, Option.map_some, true_and, if_true, if_false, f0, f1, f7, f8, e, hw]
      exact ⟨l.length - (i + 1), by omega, i + 1, rfl, hg.trans hg1, by omega, by rw [hc, hd, e]; rfl, rfl⟩
  · have hnil : bs.drop i = [] := List.drop_eq_nil_of_le (by omega)
    simp only [W_region, W_seq, W_cond, W_block, W_exit, OpsW_nil, OpsW_op, upd_some, Br_W2, opF, evalT, evalO, ofConst, binF, intF, reduceCtorEq, Nat.reduceEqDiff, Option.map_some, Option.some.injEq, exists_eq_left', exists_and_left, if_true, if_false, decide_false, partF, TI.agg, List.drop_zero, T31, T110, f7, f8, ci, resF, resAll, resOne]
    exact ⟨by rw [hc, hnil]; rfl, hg⟩
set_option maxHeartbeats 4000000 in
theorem cfM_spec (l : List Mp) (t : Tok) (f : FuncId) (caps : List PV) (bs : List Bool) (st0 : Store) (hp : PredOk EE f caps (l.map fun e => PV.agg e.cells) bs st0) (hl : l.length < 9223372036854775808) :
    SpecQ EE 129 [.sl 3 (mpR l) t, .fn f caps] st0 fun r st' => r = .bool (bs.any id) ∧ Grows st0 st' := by
  refine specQ_of_W ok ok129 (by simp) (by kernel_rfl) ?_
  unfold BodyW
  have e0 : code Go.Proofs.Tryz.f129 = code Go.Proofs.Tryz.f129 := rfl
  conv at e0 => rhs; simp only [code, Go.Proofs.Tryz.f129, Option.getD_some]
  rw [e0]
  clear e0
  obtain ⟨r, st1, hs, rfl, hg⟩ := ixM_spec l t f caps bs st0 hp hl
  simp only [W_region, W_seq, W_ret, OpsW_nil, OpsW_op, upd_some, opF, evalT, evalO, ofConst, argFr, reduceCtorEq, Nat.reduceEqDiff, Option.getD_some, List.getElem?_cons_zero, List.getElem?_cons_succ, true_and, or_true, if_false]
  refine OpsW_sp hs (by simp only [evalO] <;> rfl) rfl rfl (by simp only [upd_some, evalT, evalO, ofConst, argFr, Nat.reduceEqDiff, Option.getD_none, List.getElem?_cons_succ, List.getElem?_nil, if_true, if_false, List.zip_cons_cons, List.zip_nil_right, List.map_cons, List.map_nil, List.nil_append, List.cons_append, callArgs] <;> rfl) ?_
  simp only [OpsW_nil, OpsW_op, upd_some, opF, evalT, evalO, ofConst, argFr, binF, intF, Nat.reduceEqDiff, Option.getD_none, Option.map_some, Option.some.injEq, List.getElem?_cons_succ, List.getElem?_nil, exists_eq_left', if_true, if_false, resF, resAll, resOne]
  exact ⟨by rw [firstOf_ge], hg⟩

def k1B (m : Mp) : Bool := m.tag == [] && (!(m.to.length == 1) && !(m.to.length == 2))
def k2B (cls : List Span) (m : Mp) : Bool := !(kindL m.from' == 0) || (!(m.tag == []) && !(classL cls m.from' == 0))
theorem ne_len (n k : Nat) : ((n : Int) != (k : Int)) = !(n == k) := by
  by_cases h : n = k
  · subst h; simp
  · have h1 : (n == k) = false := by simp [h]
    have h2 : ((n : Int) != (k : Int)) = true := by simp; omega
    rw [h1, h2]; rfl
theorem k1_spec (m : Mp) (st : Store) : SpecQ EE 130 [.agg m.cells] st fun r st' => r = .bool (k1B m) ∧ Grows st st' := by
  refine specQ_of_W ok ok130 (by simp) (by kernel_rfl) ?_
  unfold BodyW
  have e0 : code Go.Proofs.Tryz.f130 = code Go.Proofs.Tryz.f130 := rfl
  conv at e0 => rhs; simp only [code, Go.Proofs.Tryz.f130, Option.getD_some]
  rw [e0]
  clear e0
  have h1 : ((m.to.length : Int) != 1) = !(m.to.length == 1) := ne_len m.to.length 1
  have h2 : ((m.to.length : Int) != 2) = !(m.to.length == 2) := ne_len m.to.length 2
  unfold k1B
  cases e : (m.tag == []) with
  | false =>
    simp only [W_region, W_seq, W_ret, OpsW_nil, OpsW_op, OpsW_guard, upd_some, Br_O2, opF, evalT, evalO, ofConst, argFr, binF, intF, reduceCtorEq, Nat.reduceEqDiff, Nat.reduceAdd, Option.getD_some, Option.getD_none, Option.map_some, Option.bind_some, Option.some.injEq, List.getElem?_toArray, List.getElem?_cons_zero, List.getElem?_cons_succ, List.getElem?_nil, Nat.succ_ne_zero, and_self, true_and, or_true, exists_eq_left', if_true, if_false, Bool.false_eq_true, Bool.false_beq, Bool.not_true, List.length_cons, List.length_nil, partF, TI.agg, scal, isAgg, cellsOf, Bool.or_true, Nat.reduceLeDiff, List.take_zero, List.drop_zero, List.drop_succ_cons, List.take_succ_cons, T9, T110, Mp.cells, get_last, strF, e, resF, resAll, resOne]
    first | exact ⟨by simp, ⟨_, rfl⟩⟩ | exact ⟨_, rfl⟩
  | true =>
    cases e1 : (m.to.length == 1) with
    | true =>
      rw [e1] at h1
      simp only [W_region, W_seq, W_ret, OpsW_nil, OpsW_op, OpsW_guard, upd_some, Br_O1, Br_O2, opF, evalT, evalO, ofConst, argFr, binF, intF, reduceCtorEq, Nat.reduceEqDiff, Nat.reduceAdd, Option.getD_some, Option.getD_none, Option.map_some, Option.bind_some, Option.some.injEq, List.getElem?_toArray, List.getElem?_cons_zero, List.getElem?_cons_succ, List.getElem?_nil, Nat.succ_ne_zero, and_self, true_and, or_true, exists_eq_left', if_true, if_false, Bool.false_eq_true, beq_self_eq_true, Bool.false_beq, Bool.not_true, List.length_cons, List.length_nil, callB, List.zip_cons_cons, List.zip_nil_right, List.map_cons, List.map_nil, List.size_toArray, partF, TI.agg, scal, isAgg, cellsOf, Bool.true_and, Bool.or_true, Nat.reduceLeDiff, List.take_zero, List.drop_zero, List.drop_succ_cons, List.take_succ_cons, T9, T37, T110, Mp.cells, get_last, strF, e, ints_length, h1, resF, resAll, resOne]
      first | exact ⟨by simp, ⟨_, rfl⟩⟩ | exact ⟨_, rfl⟩
    | false =>
      rw [e1] at h1
      simp only [W_region, W_seq, W_ret, OpsW_nil, OpsW_op, OpsW_guard, upd_some, Br_O1, opF, evalT, evalO, ofConst, argFr, binF, intF, reduceCtorEq, Nat.reduceEqDiff, Nat.reduceAdd, Option.getD_some, Option.getD_none, Option.map_some, Option.bind_some, Option.some.injEq, List.getElem?_toArray, List.getElem?_cons_zero, List.getElem?_cons_succ, List.getElem?_nil, Nat.succ_ne_zero, and_self, true_and, or_true, exists_eq_left', if_true, if_false, Bool.false_eq_true, beq_self_eq_true, Bool.not_false, List.length_cons, List.length_nil, callB, List.zip_cons_cons, List.zip_nil_right, List.map_cons, List.map_nil, List.size_toArray, partF, TI.agg, scal, isAgg, cellsOf, Bool.true_and, Bool.or_true, Nat.reduceLeDiff, List.take_zero, List.drop_zero, List.drop_succ_cons, List.take_succ_cons, T9, T37, T110, Mp.cells, get_last, strF, e, ints_length, h1, h2, resF, resAll, resOne]
      first | exact ⟨by simp, ⟨_, rfl⟩⟩ | exact ⟨_, rfl⟩
theorem k1_ok (l : List Mp) (st0 : Store) : PredOk EE 130 [] (l.map fun e => PV.agg e.cells) (l.map k1B) st0 := by
  refine ⟨rfl, by simp, fun i v b hv hb st hg => ?_⟩
  rw [List.getElem?_map] at hv hb
  obtain ⟨n, hn, rfl⟩ := Option.map_eq_some_iff.1 hv
  rw [hn] at hb
  cases hb
  exact k1_spec n st
theorem k2_spec (n : Nrm) (hl : n.cls.length < 4611686018427387904) (m : Mp) (id : Nat) (st : Store) (h : st[id]? = some (.cells n.cells)) : SpecQ EE 131 [.agg m.cells, .optr id 3 0] st fun r st' => r = .bool (k2B n.cls m) ∧ Grows st st' := by
  refine specQ_of_W ok ok131 (by simp) (by kernel_rfl) ?_
  unfold BodyW
  have e0 : code Go.Proofs.Tryz.f131 = code Go.Proofs.Tryz.f131 := rfl
  conv at e0 => rhs; simp only [code, Go.Proofs.Tryz.f131, Option.getD_some]
  rw [e0]
  clear e0
  have h1 : ∀ x, (st ++ [x])[id]? = some (.cells n.cells) := fun x => get_app h
  unfold k2B
  simp only [W_region, W_seq, W_ret, OpsW_nil, OpsW_op, upd_some, opF, evalT, evalO, ofConst, argFr, reduceCtorEq, Nat.reduceEqDiff, Nat.reduceAdd, Option.getD_some, Option.getD_none, Option.map_some, List.getElem?_cons_zero, List.getElem?_cons_succ, List.getElem?_nil, Nat.succ_ne_zero, and_self, true_and, or_true, if_true, if_false, Bool.false_eq_true, List.length_cons, List.length_nil, partF, TI.agg, scal, isAgg, cellsOf, Bool.or_true, Nat.reduceLeDiff, List.take_zero, List.drop_zero, List.take_succ_cons, T3, T110, Mp.cells, get_last]
  refine OpsW_pl (kind_plain m.from') rfl rfl (by simp only [upd_some, evalT, evalO, ofConst, argFr, Nat.reduceEqDiff, Option.getD_none, List.getElem?_cons_succ, List.getElem?_nil, if_true, if_false, List.zip_cons_cons, List.zip_nil_right, List.map_cons, List.map_nil, callArgs, strips, strip_int] <;> rfl) ?_
  cases e : (kindL m.from' == 0) with
  | false =>
    have e' : (kindL m.from' != 0) = true := by simp [bne, e]
    simp only [OpsW_nil, OpsW_op, OpsW_guard, upd_some, Br_O2, opF, evalT, evalO, ofConst, argFr, binF, intF, Nat.reduceEqDiff, Option.getD_none, Option.map_some, Option.bind_some, Option.some.injEq, List.getElem?_toArray, List.getElem?_cons_zero, List.getElem?_cons_succ, List.getElem?_nil, true_and, exists_eq_left', if_true, if_false, Bool.true_beq, Bool.not_false, Bool.true_or, e', resF, resAll, resOne]
    first | exact ⟨by simp, ⟨_, rfl⟩⟩ | exact ⟨_, rfl⟩
  | true =>
    have e' : (kindL m.from' != 0) = false := by simp [bne, e]
    cases e1 : (m.tag == []) with
    | true =>
      simp only [OpsW_nil, OpsW_op, OpsW_guard, upd_some, Br_O1, Br_O2, opF, evalT, evalO, ofConst, argFr, binF, intF, Nat.reduceEqDiff, Nat.reduceAdd, Option.getD_none, Option.map_some, Option.bind_some, Option.some.injEq, List.getElem?_toArray, List.getElem?_cons_zero, List.getElem?_cons_succ, List.getElem?_nil, Nat.succ_ne_zero, exists_eq_left', if_true, if_false, Bool.false_eq_true, beq_self_eq_true, Bool.false_beq, Bool.not_true, List.length_cons, List.length_nil, partF, TI.agg, Nat.reduceLeDiff, List.take_zero, List.drop_zero, List.drop_succ_cons, List.take_succ_cons, T9, T110, e', get_last, strF, e1, resF, resAll, resOne]
      first | exact ⟨by simp, ⟨_, rfl⟩⟩ | exact ⟨_, rfl⟩
    | false =>
      simp only [OpsW_op, OpsW_guard, upd_some, Br_O1, opF, evalT, evalO, ofConst, argFr, binF, intF, Nat.reduceEqDiff, Nat.reduceAdd, Option.getD_some, Option.getD_none, Option.map_some, Option.bind_some, List.getElem?_toArray, List.getElem?_cons_zero, List.getElem?_cons_succ, List.getElem?_nil, Nat.succ_ne_zero, if_true, if_false, Bool.false_eq_true, beq_self_eq_true, Bool.not_true, Bool.not_false, List.length_cons, List.length_nil, partF, TI.agg, Bool.true_and, Nat.reduceLeDiff, List.take_zero, List.drop_zero, List.drop_succ_cons, List.take_succ_cons, T3, T9, T30, T36, T110, e', get_last, strF, e1, h1, Nrm.cells]
      refine OpsW_pl (starter_plain n.cls (tk n.a) (stripT_tk _) m.from' hl) rfl rfl (by simp only [upd_some, evalT, evalO, ofConst, argFr, Nat.reduceEqDiff, Option.getD_none, List.getElem?_cons_succ, List.getElem?_nil, if_true, if_false, List.zip_cons_cons, List.zip_nil_right, List.map_cons, List.map_nil, callArgs, strips, strip_sl, strip_int, stripT_tk] <;> rfl) ?_
      simp only [OpsW_nil, OpsW_op, OpsW_guard, upd_some, Br_O1, opF, evalT, evalO, ofConst, argFr, unF, Nat.reduceEqDiff, Option.getD_none, Option.map_some, Option.bind_some, Option.some.injEq, List.getElem?_toArray, List.getElem?_cons_zero, List.getElem?_cons_succ, List.getElem?_nil, exists_eq_left', if_true, if_false, Bool.false_eq_true, beq_self_eq_true, resF, resAll, resOne]
      first | exact ⟨by simp, ⟨_, rfl⟩⟩ | exact ⟨_, rfl⟩
theorem k2_ok (n : Nrm) (hl : n.cls.length < 4611686018427387904) (id : Nat) (l : List Mp) (st0 : Store) (h : st0[id]? = some (.cells n.cells)) : PredOk EE 131 [.optr id 3 0] (l.map fun e => PV.agg e.cells) (l.map (k2B n.cls)) st0 := by
  refine ⟨rfl, by simp, fun i v b hv hb st hg => ?_⟩
  rw [List.getElem?_map] at hv hb
  obtain ⟨m, hn, rfl⟩ := Option.map_eq_some_iff.1 hv
  rw [hn] at hb
  cases hb
  exact k2_spec n hl m id st (hg.get h)
/-- Do two neighbours have one From? -/
def adjB : List Mp → Bool
  | a :: b :: l => a.from' == b.from' || adjB (b :: l)
  | _ => false
theorem adjB_drop {l : List Mp} {i : Nat} (h : i + 1 < l.length) : adjB (l.drop i) = (l[i].from' == l[i + 1].from' || adjB (l.drop (i + 1))) := by
  rw [List.drop_eq_getElem_cons (by omega : i < l.length), List.drop_eq_getElem_cons h, adjB]
def kindsErr (n : Nrm) : Int := if adjB n.dec then 5 else if n.dec.any k1B then 8 else if n.dec.any (k2B n.cls) then 11 else 0
theorem any_id_map {α : Type} (p : α → Bool) (l : List α) : (l.map p).any id = l.any p := by simp [List.any_map]
set_option maxHeartbeats 8000000 in
theorem kinds_plain (n : Nrm) (hc : n.cls.length < 4611686018427387904) (hl : n.dec.length < 9223372036854775808) : Plain EE 96 [.agg n.cells] (.int .i64 (kindsErr n)) := by
  refine plain_of_W ok ok96 (by simp) ?_
  unfold BodyW
  have e0 : code Go.Proofs.Tryz.f96 = code Go.Proofs.Tryz.f96 := rfl
  conv at e0 => rhs; simp only [code, Go.Proofs.Tryz.f96, Option.getD_some]
  rw [e0]
  clear e0
  simp only [W_region, W_seq, W_cond, W_block, W_ret, OpsW_nil, OpsW_op, upd_some, opF, evalT, evalO, ofConst, argFr, reduceCtorEq, Nat.reduceEqDiff, Nat.reduceAdd, Option.getD_some, Option.getD_none, Option.map_some, List.getElem?_cons_zero, List.getElem?_cons_succ, List.getElem?_nil, Nat.succ_ne_zero, and_self, true_and, or_true, or_false, if_true, if_false, Bool.false_eq_true, List.length_cons, List.length_nil, List.map_cons, List.map_nil, partF, TI.agg, scal, isAgg, cellsOf, Bool.or_true, Nat.reduceLeDiff, List.take_zero, List.drop_zero, List.drop_succ_cons, List.take_succ_cons, List.nil_append, T31, T36, Nrm.cells]
  refine W_loop (fun m fr st => ∃ (i : Nat), fr 1 = .optr 0 3 0 ∧ fr 3 = .sl 3 (mpR n.dec) (tk n.b) ∧ fr 4 = .int .i64 ((i + 1 : Nat) : Int) ∧ st = [.cells n.cells] ∧ i ≤ n.dec.length ∧ adjB n.dec = adjB (n.dec.drop i) ∧ m = n.dec.length - i) ?_ n.dec.length _ _
    ⟨0, by simp [upd], by simp [upd], by simp [upd], rfl, by omega, by simp, by omega⟩
  rintro m fr st ⟨i, f1, f3, f4, rfl, hi, ha, rfl⟩
  by_cases ci : ((i + 1 : Nat) : Int) < (n.dec.length : Int)
  · have ia : i + 1 < n.dec.length := by omega
    have ga := mpR_get n.dec i (by omega)
    have gb := mpR_get n.dec (i + 1) ia
    have hw : IntKind.i64.wrap (((i + 1 : Nat) : Int) + 1) = ((i + 1 + 1 : Nat) : Int) := by rw [wrap_small (by omega) (by omega)]; rfl
    have hw1 : IntKind.i64.wrap (((i + 1 : Nat) : Int) - 1) = ((i : Nat) : Int) := by rw [wrap_small (by omega) (by omega)]; omega
    have hx : idxN (.int .i64 ((i : Nat) : Int)) = some i := idxN_nat i
    have hy : idxN (.int .i64 ((i + 1 : Nat) : Int)) = some (i + 1) := idxN_nat (i + 1)
    rw [adjB_drop ia] at ha
    cases e : (n.dec[i].from' == n.dec[i + 1].from') with
    | true =>
      rw [e] at ha
      simp only [W_skip, W_region, W_seq, W_cond, W_block, W_ret, OpsW_nil, OpsW_op, upd_some, Br_W1, opF, evalT, evalO, ofConst, binF, intF, reduceCtorEq, Nat.reduceEqDiff, Nat.reduceAdd, Option.map_some, Option.some.injEq, List.getElem?_cons_zero, Nat.succ_ne_zero, true_and, or_true, exists_eq_left', exists_and_left, if_true, if_false, decide_true, Bool.false_eq_true, List.length_cons, List.length_nil, callB, List.zip_cons_cons, List.zip_nil_right, List.map_cons, List.map_nil, List.size_toArray, partF, TI.agg, Nat.reduceLeDiff, List.take_zero, List.drop_zero, List.take_succ_cons, W_regionD, xrE, T3, T31, T110, f3, f4, mpR_length, ci, hw1, hx, hy, ga, gb, e, resF, resAll, resOne]
      exact ⟨1, by rw [pub_int, kindsErr, ha]; rfl⟩
    | false =>
      rw [e] at ha
      simp only [W_skip, W_region, W_seq, W_cond, W_block, OpsW_nil, OpsW_op, upd_some, Br_W1, Br_W2, opF, evalT, evalO, ofConst, binF, intF, Nat.reduceEqDiff, Nat.reduceAdd, Option.map_some, List.getElem?_cons_zero, Nat.succ_ne_zero, true_and, exists_and_left, if_true, if_false, decide_true, Bool.false_eq_true, List.length_cons, List.length_nil, callB, List.zip_cons_cons, List.zip_nil_right, List.map_cons, List.map_nil, List.size_toArray, partF, TI.agg, Nat.reduceLeDiff, List.take_zero, List.drop_zero, List.take_succ_cons, W_regionD, xrE, T3, T31, T110, f1, f3, f4, mpR_length, ci, hw1, hx, hy, ga, gb, e, hw]
      exact ⟨n.dec.length - (i + 1), by omega, i + 1, rfl, by omega, by rw [ha]; rfl, rfl⟩
  · have had : adjB n.dec = false := by
      rw [ha]
      rcases Nat.lt_or_ge i n.dec.length with q | q
      · rw [List.drop_eq_getElem_cons q, List.drop_eq_nil_of_le (by omega)]; rfl
      · rw [List.drop_eq_nil_of_le q]; rfl
    simp only [W_region, W_seq, W_cond, W_block, W_exit, OpsW_nil, OpsW_op, upd_some, Br_W2, opF, evalT, evalO, ofConst, binF, intF, Nat.reduceEqDiff, Nat.reduceAdd, Option.map_some, List.getElem?_cons_zero, Nat.succ_ne_zero, exists_and_left, if_true, if_false, decide_false, List.length_cons, List.length_nil, callB, List.zip_cons_cons, List.zip_nil_right, List.map_cons, List.map_nil, List.size_toArray, partF, TI.agg, List.drop_zero, W_regionD, xrE, T3, T31, T110, f3, f4, mpR_length, ci]
    obtain ⟨r1, st1, hs1, rfl, hg1⟩ := cfM_spec n.dec (tk n.b) 130 [] _ [.cells n.cells] (k1_ok _ _) hl
    refine OpsW_sp hs1 (by simp only [evalO] <;> rfl) rfl rfl (by simp only [upd_some, evalT, evalO, ofConst, Nat.reduceEqDiff, if_true, if_false, List.zip_cons_cons, List.zip_nil_right, List.map_cons, List.map_nil, List.nil_append, List.cons_append, callArgs] <;> rfl) ?_
    rw [any_id_map]
    cases e1 : n.dec.any k1B with
    | true =>
      simp only [W_region, W_seq, W_ret, OpsW_nil, OpsW_op, upd_some, Br_W1, opF, evalT, evalO, ofConst, reduceCtorEq, Nat.reduceEqDiff, Option.map_some, Option.some.injEq, true_and, or_true, exists_eq_left', if_true, if_false, resF, resAll, resOne]
      exact ⟨1, by rw [pub_int, kindsErr, had, e1]; rfl⟩
    | false =>
      simp only [W_skip, OpsW_nil, upd_some, Br_W2, Nat.reduceEqDiff, if_true, if_false, f1, f3, Array.isEmpty_empty]
      obtain ⟨r2, st2, hs2, rfl, hg2⟩ := cfM_spec n.dec (tk n.b) 131 [.optr 0 3 0] _ st1 (k2_ok n hc 0 n.dec st1 (hg1.get rfl)) hl
      refine OpsW_sp hs2 (by simp only [evalO] <;> rfl) rfl rfl (by simp only [upd_some, evalT, evalO, ofConst, Nat.reduceEqDiff, if_true, if_false, List.zip_cons_cons, List.zip_nil_right, List.map_cons, List.map_nil, List.nil_append, List.cons_append, callArgs] <;> rfl) ?_
      rw [any_id_map]
      cases e2 : n.dec.any (k2B n.cls) with
      | true =>
        simp only [W_region, W_seq, W_ret, OpsW_nil, OpsW_op, upd_some, Br_W1, opF, evalT, evalO, ofConst, reduceCtorEq, Nat.reduceEqDiff, Option.map_some, Option.some.injEq, true_and, or_true, exists_eq_left', if_true, if_false, resF, resAll, resOne]
        exact ⟨1, by rw [pub_int, kindsErr, had, e1, e2]; rfl⟩
      | false =>
        simp only [W_skip, OpsW_nil, upd_some, Br_W2, Nat.reduceEqDiff, Option.map_some, Option.some.injEq, exists_eq_left', if_true, if_false, resF, resAll, resOne]
        exact ⟨1, by rw [pub_int, kindsErr, had, e1, e2]; rfl⟩
end Go.Pv.Ct
end
section
namespace Go.Pv.Ct
open Go.Pv Go.Proofs
set_option maxRecDepth 20000

variable {l : List Mp} {compat : Bool}
theorem sweep (hn : ¬ HasCyc l compat) : ∀ (ms : List Mp) (G : Marks), GoodM l compat G → (∀ g, G g ≠ 1) → ∃ G', GoodM l compat G' ∧ (∀ g, G' g ≠ 1) ∧ (∀ g, G g = 2 → G' g = 2) ∧ ∀ m ∈ ms, onceF l compat m.from' = none ∨ G' m.from' = 2
  | [], G, hg, h1 => ⟨G, hg, h1, fun _ h => h, fun m hm => by simp at hm⟩
  | m :: ms, G, hg, h1 => by
    obtain ⟨b, G1, hv, _⟩ := visit_ends (l := l) (compat := compat) (left' l G) G m.from' (Nat.le_refl _)
    obtain ⟨s1, s2⟩ := visit_sem (left' l G) G m.from' b G1 hv hg (fun g h => absurd h (h1 g))
    cases b with
    | true => exact absurd (s1 rfl) hn
    | false =>
      obtain ⟨t1, t2, t3, t4⟩ := s2 rfl
      obtain ⟨G2, a1, a2, a3, a4⟩ := sweep hn ms G1 t1 (fun g h => h1 g ((t2 g).1 h))
      refine ⟨G2, a1, a2, fun g h => a3 g (t3 g h), fun x hx => ?_⟩
      rcases List.mem_cons.1 hx with e | e
      · subst e
        rcases t4 with q | q
        · exact .inl q
        · exact .inr (a3 _ q)
      · exact a4 x e
theorem acyc_iff (hk : ∀ m ∈ l, kindL m.from' = 0) (hn : ¬ HasCyc l compat) : Acyc l compat := by
  obtain ⟨G, a1, _, _, a4⟩ := sweep hn l (fun _ => 0) ⟨fun _ => 0, fun c h => by simp at h⟩ (by simp)
  exact acyc_of hk a1 a4
theorem cyc_iff (hk : ∀ m ∈ l, kindL m.from' = 0) (h : cycB l compat = false) : Acyc l compat :=
  acyc_iff hk ((@decide_eq_false_iff_not _ (Classical.propDecidable _)).1 h)
theorem once_le {c : Int} {to : List Int} (h : onceF l false c = some to) : onceF l true c = some to := by
  unfold onceF at h ⊢
  split at h
  · rename_i hd; rw [if_pos hd]; exact h
  · rename_i hd
    rw [if_neg hd]
    split at h
    · cases h
    · rename_i m hm
      split at h
      · simp only [Bool.or_true, if_true]; exact h
      · cases h
theorem acyc_le (h : Acyc l true) : Acyc l false := by
  obtain ⟨rank, hr⟩ := h
  refine ⟨rank, fun c to x ho hx hn => hr c to x (once_le ho) hx (fun e => ?_)⟩
  cases hq : onceF l false x with
  | none => exact hn hq
  | some to' => rw [once_le hq] at e; cases e
theorem short_of (h : ∀ m ∈ l, m.to.length < 9223372036854775808) : ToShort l compat := by
  intro c to ho
  unfold onceF at ho
  split at ho
  · injection ho with ho
    subst ho
    unfold decH
    repeat' split
    all_goals simp
  · split at ho
    · cases ho
    · rename_i m hm
      split at ho
      · injection ho with ho
        subst ho
        exact h m (List.mem_of_find?_eq_some hm)
      · cases ho
/-- Mappings in order, each with its own number. -/
theorem froms_ne {l : List Mp} (hs : mSorted l = true) (ha : adjB l = false) : FromsNe l := by
  have h1 : ∀ i, (h : i + 1 < l.length) → ¬ mordL l[i + 1] l[i] < 0 := (@decide_eq_true_iff _ (Classical.propDecidable _)).1 hs
  have h2 : ∀ i, (h : i + 1 < l.length) → l[i].from' ≠ l[i + 1].from' ∧ adjB (l.drop (i + 1)) = false := by
    intro i
    induction i with
    | zero =>
      intro h
      have := adjB_drop (l := l) (i := 0) h
      rw [List.drop_zero, ha] at this
      have := this.symm
      rw [Bool.or_eq_false_iff] at this
      exact ⟨by simpa using this.1, this.2⟩
    | succ i ih =>
      intro h
      have hd := (ih (by omega)).2
      rw [adjB_drop h, Bool.or_eq_false_iff] at hd
      exact ⟨by simpa using hd.1, hd.2⟩
  have key : l.Pairwise fun a b => a.from' < b.from' := by
    refine pairwise_of_adj (R := fun a b : Mp => a.from' < b.from') (fun a b c h1 h2 => Int.lt_trans h1 h2) (fun i h => ?_)
    have a1 := h1 i h
    have a2 := (h2 i h).1
    unfold mordL at a1
    by_cases q : l[i + 1].from' < l[i].from'
    · exfalso
      apply a1
      have : order l[i + 1].from' l[i].from' = -1 := by rw [order, if_pos q]
      rw [this]
      simp [orL]
    · omega
  exact key.imp (fun h => by omega)
theorem kind_zero {n : Nrm} (h : n.dec.any (k2B n.cls) = false) : ∀ m ∈ n.dec, kindL m.from' = 0 := by
  intro m hm
  have := List.any_eq_false.1 h m hm
  simp only [k2B, Bool.not_eq_true, Bool.or_eq_false_iff] at this
  simpa using this.1
theorem strip_set' (l : List Rg) (b : Bool) : strip1 (.agg [.sl 2 (rgR l) (tk b)]) = some (.agg [.sl 2 (rgR l) (tk b)]) := by
  cases b <;> simp [strip1, share, tk, tokRo, cellOk]
structure NFits (n : Nrm) : Prop where
  cls : n.cls.length < 4611686018427387904
  dec : n.dec.length < 9223372036854775808
  to : ∀ m ∈ n.dec, m.to.length < 9223372036854775808
  exc : n.exc.length ≤ 12
/-- The error of the data of normalization. -/
noncomputable def normErr (n : Nrm) : Int :=
  if ordErr n.cls ≠ 0 then ordErr n.cls else if MapErr n.dec ≠ 0 then MapErr n.dec else if !validS n.exc then 11 else if kindsErr n ≠ 0 then kindsErr n else
  if cycB n.dec true then 12 else if longB n.dec true || longB n.dec false then 13 else 0
/-- What holds once the kinds are checked. -/
structure Kinds (n : Nrm) : Prop where
  froms : FromsNe n.dec
  kind : ∀ m ∈ n.dec, kindL m.from' = 0
theorem kinds_of {n : Nrm} (hm : MapErr n.dec = 0) (hk : kindsErr n = 0) : Kinds n := by
  have hs : mSorted n.dec = true := by
    unfold MapErr at hm
    split at hm
    · split at hm
      · assumption
      · cases hm
    · rename_i h; exact absurd hm h
  unfold kindsErr at hk
  split at hk
  · cases hk
  · rename_i h1
    split at hk
    · cases hk
    · split at hk
      · cases hk
      · rename_i h3
        exact ⟨froms_ne hs (by simpa using h1), kind_zero (by simpa using h3)⟩
set_option maxHeartbeats 8000000 in
theorem norm_plain (n : Nrm) (hf : NFits n) : Plain EE 72 [.agg n.cells] (.int .i64 (normErr n)) := by
  refine plain_of_W ok ok72 (by simp) ?_
  unfold BodyW
  have e0 : code Go.Proofs.Tryz.f72 = code Go.Proofs.Tryz.f72 := rfl
  conv at e0 => rhs; simp only [code, Go.Proofs.Tryz.f72, Option.getD_some]
  rw [e0]
  clear e0
  simp only [W_region, W_seq, W_cond, W_block, W_ret, OpsW_nil, OpsW_op, upd_some, opF, evalT, evalO, ofConst, argFr, binF, intF, reduceCtorEq, Nat.reduceEqDiff, Nat.reduceAdd, Option.getD_some, Option.getD_none, Option.map_some, List.getElem?_cons_zero, List.getElem?_cons_succ, List.getElem?_nil, Nat.succ_ne_zero, and_self, true_and, or_true, or_false, if_true, if_false, Bool.false_eq_true, List.length_cons, List.length_nil, partF, TI.agg, scal, isAgg, cellsOf, Bool.or_true, Nat.reduceLeDiff, List.take_zero, List.drop_zero, List.take_succ_cons, List.nil_append, T30, T31, T34, T36, Nrm.cells]
  refine OpsW_pl (ordCheck_plain n.cls (tk n.a) (by have := hf.cls; omega)) rfl rfl (by simp only [upd_some, evalT, evalO, ofConst, argFr, Nat.reduceEqDiff, Option.getD_none, List.getElem?_cons_succ, List.getElem?_nil, if_true, if_false, List.zip_cons_cons, List.zip_nil_right, List.map_cons, List.map_nil, callArgs, strips, strip_sl, stripT_tk] <;> rfl) ?_
  by_cases c1 : ordErr n.cls = 0
  case neg =>
    have c1' : (ordErr n.cls != 0) = true := by simp [c1]
    simp only [W_region, W_seq, W_ret, OpsW_nil, OpsW_op, upd_some, Br_W1, opF, evalT, evalO, argFr, reduceCtorEq, Nat.reduceEqDiff, Option.getD_none, Option.map_some, Option.some.injEq, List.getElem?_cons_succ, List.getElem?_nil, true_and, or_true, exists_eq_left', if_true, if_false, c1', resF, resAll, resOne]
    exact ⟨1, by rw [pub_int, normErr, if_pos c1]⟩
  have c1' : (ordErr n.cls != 0) = false := by simp [c1]
  simp only [W_skip, OpsW_nil, OpsW_op, upd_some, Br_W2, opF, evalT, evalO, argFr, Nat.reduceEqDiff, Nat.reduceAdd, Option.getD_none, Option.map_some, List.getElem?_cons_zero, List.getElem?_cons_succ, List.getElem?_nil, if_true, if_false, Bool.false_eq_true, List.length_cons, List.length_nil, Nat.reduceLeDiff, List.take_zero, List.drop_zero, List.drop_succ_cons, List.take_succ_cons, c1']
  refine OpsW_pl (Mck_plain n.dec (tk n.b) (stripT_tk _) hf.dec hf.to) rfl rfl (by simp only [upd_some, evalT, evalO, ofConst, argFr, Nat.reduceEqDiff, Option.getD_none, List.getElem?_cons_succ, List.getElem?_nil, if_true, if_false, List.zip_cons_cons, List.zip_nil_right, List.map_cons, List.map_nil, callArgs, strips, strip_sl, stripT_tk] <;> rfl) ?_
  by_cases c2 : MapErr n.dec = 0
  case neg =>
    have c2' : (MapErr n.dec != 0) = true := by simp [c2]
    simp only [W_region, W_seq, W_ret, OpsW_nil, OpsW_op, upd_some, Br_W1, opF, evalT, evalO, argFr, reduceCtorEq, Nat.reduceEqDiff, Option.getD_none, Option.map_some, Option.some.injEq, List.getElem?_cons_succ, List.getElem?_nil, true_and, or_true, exists_eq_left', if_true, if_false, c2', resF, resAll, resOne]
    exact ⟨1, by rw [pub_int, normErr, if_neg (by simp [c1]), if_pos c2]⟩
  have c2' : (MapErr n.dec != 0) = false := by simp [c2]
  simp only [W_skip, OpsW_nil, OpsW_op, upd_some, Br_W2, opF, evalT, evalO, argFr, Nat.reduceEqDiff, Nat.reduceAdd, Option.getD_none, Option.map_some, List.getElem?_cons_zero, List.getElem?_cons_succ, List.getElem?_nil, if_true, if_false, List.length_cons, List.length_nil, Nat.reduceLeDiff, List.take_zero, List.drop_zero, List.drop_succ_cons, List.take_succ_cons, c2']
  refine OpsW_pl (validS_plain n.exc n.c hf.exc) rfl rfl (by simp only [upd_some, evalT, evalO, ofConst, argFr, Nat.reduceEqDiff, Option.getD_none, List.getElem?_cons_succ, List.getElem?_nil, if_true, if_false, List.zip_cons_cons, List.zip_nil_right, List.map_cons, List.map_nil, callArgs, strips, strip_set'] <;> rfl) ?_
  cases c3 : validS n.exc with
  | false =>
    simp only [W_region, W_seq, W_ret, OpsW_nil, OpsW_op, upd_some, Br_W1, opF, evalT, evalO, ofConst, argFr, unF, reduceCtorEq, Nat.reduceEqDiff, Option.getD_none, Option.map_some, Option.some.injEq, List.getElem?_cons_succ, List.getElem?_nil, true_and, or_true, exists_eq_left', if_true, if_false, Bool.not_false, resF, resAll, resOne]
    exact ⟨1, by rw [pub_int, normErr, if_neg (by simp [c1]), if_neg (by simp [c2]), c3]; rfl⟩
  | true =>
    simp only [W_skip, OpsW_nil, OpsW_op, upd_some, Br_W2, opF, evalO, argFr, unF, Nat.reduceEqDiff, Nat.reduceAdd, Option.getD_none, Option.map_some, List.getElem?_cons_zero, List.getElem?_cons_succ, List.getElem?_nil, if_true, if_false, Bool.not_true, List.length_cons, List.length_nil, Nat.reduceLeDiff, List.take_zero, List.drop_zero, List.take_succ_cons]
    refine OpsW_pl (kinds_plain n hf.cls hf.dec) rfl rfl (by simp only [upd_some, evalT, evalO, ofConst, argFr, Nat.reduceEqDiff, Option.getD_none, Option.some.injEq, List.getElem?_cons_succ, List.getElem?_nil, if_true, if_false, List.zip_cons_cons, List.zip_nil_right, List.map_cons, List.map_nil, callArgs, strips, strip_nrm'] <;> rfl) ?_
    by_cases c4 : kindsErr n = 0
    case neg =>
      have c4' : (kindsErr n != 0) = true := by simp [c4]
      simp only [W_region, W_seq, W_ret, OpsW_nil, OpsW_op, upd_some, Br_W1, opF, evalT, evalO, argFr, reduceCtorEq, Nat.reduceEqDiff, Option.getD_none, Option.map_some, Option.some.injEq, List.getElem?_cons_succ, List.getElem?_nil, true_and, or_true, exists_eq_left', if_true, if_false, c4', resF, resAll, resOne]
      exact ⟨1, by rw [pub_int, normErr, if_neg (by simp [c1]), if_neg (by simp [c2]), c3]; simp [c4]⟩
    have c4' : (kindsErr n != 0) = false := by simp [c4]
    have he : normErr n = if cycB n.dec true then 12 else if longB n.dec true || longB n.dec false then 13 else 0 := by
      rw [normErr, if_neg (by simp [c1]), if_neg (by simp [c2]), c3]; simp [c4]
    obtain ⟨kf, kk⟩ := kinds_of c2 c4
    simp only [W_skip, OpsW_nil, OpsW_op, upd_some, Br_W2, opF, evalT, evalO, argFr, Nat.reduceEqDiff, Nat.reduceAdd, Option.getD_none, Option.map_some, List.getElem?_cons_zero, List.getElem?_cons_succ, List.getElem?_nil, if_true, if_false, Bool.false_eq_true, List.length_cons, List.length_nil, Nat.reduceLeDiff, List.take_zero, List.drop_zero, List.drop_succ_cons, List.take_succ_cons, c4']
    obtain ⟨r, st1, hs1, id, mm, f, rfl, hd, _, _, _, _, hg⟩ := loadD_spec n.dec (tk n.b) true hf.dec kf [.cells [.sl 3 (spR n.cls) (tk n.a), .sl 3 (mpR n.dec) (tk n.b), .sl 2 (rgR n.exc) (tk n.c)]]
    refine OpsW_sp hs1 (by simp only [evalO] <;> rfl) rfl rfl (by simp only [upd_some, evalT, evalO, ofConst, argFr, Nat.reduceEqDiff, Option.getD_none, List.getElem?_cons_succ, List.getElem?_nil, if_true, if_false, List.zip_cons_cons, List.zip_nil_right, List.map_cons, List.map_nil, List.nil_append, List.cons_append, callArgs] <;> rfl) ?_
    simp only [OpsW_nil, OpsW_op, upd_some, opF, evalT, evalO, argFr, Nat.reduceEqDiff, Option.getD_none, List.getElem?_cons_succ, List.getElem?_nil, if_true, if_false]
    refine OpsW_sp (cyc_spec hd (short_of hf.to) kk) (by simp only [evalO] <;> rfl) rfl rfl (by simp only [upd_some, evalT, evalO, ofConst, argFr, Nat.reduceEqDiff, Option.getD_none, List.getElem?_cons_succ, List.getElem?_nil, if_true, if_false, List.zip_cons_cons, List.zip_nil_right, List.map_cons, List.map_nil, List.nil_append, List.cons_append, callArgs] <;> rfl) ?_
    cases c5 : cycB n.dec true with
    | true =>
      simp only [W_region, W_seq, W_ret, OpsW_nil, OpsW_op, upd_some, Br_W1, opF, evalT, evalO, ofConst, argFr, reduceCtorEq, Nat.reduceEqDiff, Option.getD_none, Option.map_some, Option.some.injEq, List.getElem?_cons_succ, List.getElem?_nil, true_and, or_true, exists_eq_left', if_true, if_false, resF, resAll, resOne]
      exact ⟨1, by rw [pub_int, he, c5]; rfl⟩
    | false =>
      have hac := cyc_iff kk c5
      simp only [W_region, W_seq, W_cond, OpsW_nil, OpsW_op, upd_some, Br_W2, opF, evalT, evalO, argFr, Nat.reduceEqDiff, Option.getD_none, List.getElem?_cons_succ, List.getElem?_nil, if_true, if_false]
      refine OpsW_sp (long_spec hd (short_of hf.to) hac) (by simp only [evalO] <;> rfl) rfl rfl (by simp only [upd_some, evalT, evalO, ofConst, argFr, Nat.reduceEqDiff, Option.getD_none, List.getElem?_cons_succ, List.getElem?_nil, if_true, if_false, List.zip_cons_cons, List.zip_nil_right, List.map_cons, List.map_nil, List.nil_append, List.cons_append, callArgs] <;> rfl) ?_
      cases c6 : longB n.dec true with
      | true =>
        simp only [W_region, W_seq, W_ret, OpsW_nil, OpsW_op, OpsW_guard, upd_some, Br_W1, Br_O2, opF, evalT, evalO, ofConst, argFr, reduceCtorEq, Nat.reduceEqDiff, Option.getD_none, Option.map_some, Option.bind_some, Option.some.injEq, List.getElem?_toArray, List.getElem?_cons_zero, List.getElem?_cons_succ, List.getElem?_nil, true_and, or_true, exists_eq_left', if_true, if_false, Bool.true_beq, resF, resAll, resOne]
        exact ⟨1, by rw [pub_int, he, c5, c6]; rfl⟩
      | false =>
        have g0 := hg.get (i := 0) (by rfl)
        simp only [OpsW_op, OpsW_guard, upd_some, Br_O1, opF, evalT, evalO, argFr, Nat.reduceEqDiff, Nat.reduceAdd, Option.getD_none, Option.map_some, Option.bind_some, List.getElem?_toArray, List.getElem?_cons_zero, List.getElem?_cons_succ, List.getElem?_nil, Nat.succ_ne_zero, if_true, if_false, Bool.false_eq_true, beq_self_eq_true, List.length_cons, List.length_nil, partF, TI.agg, Nat.reduceLeDiff, List.take_zero, List.drop_zero, List.drop_succ_cons, List.take_succ_cons, T31, T36, g0]
        obtain ⟨r, st2, hs2, id2, mm2, f2, rfl, hd2, _, _, _, _, hg2⟩ := loadD_spec n.dec (tk n.b) false hf.dec kf st1
        refine OpsW_sp hs2 (by simp only [evalO] <;> rfl) rfl rfl (by simp only [upd_some, evalT, evalO, ofConst, argFr, Nat.reduceEqDiff, Option.getD_none, List.getElem?_cons_succ, List.getElem?_nil, if_true, if_false, List.zip_cons_cons, List.zip_nil_right, List.map_cons, List.map_nil, List.nil_append, List.cons_append, callArgs] <;> rfl) ?_
        simp only [OpsW_guard, upd_some, Br_O1, argFr, Nat.reduceEqDiff, Option.getD_none, Option.bind_some, List.getElem?_toArray, List.getElem?_cons_zero, List.getElem?_cons_succ, List.getElem?_nil, if_true, if_false, beq_self_eq_true]
        refine OpsW_sp (long_spec hd2 (short_of hf.to) (acyc_le hac)) (by simp only [evalO] <;> rfl) rfl rfl (by simp only [upd_some, evalT, evalO, ofConst, argFr, Nat.reduceEqDiff, Option.getD_none, List.getElem?_cons_succ, List.getElem?_nil, if_true, if_false, List.zip_cons_cons, List.zip_nil_right, List.map_cons, List.map_nil, List.nil_append, List.cons_append, callArgs] <;> rfl) ?_
        cases c7 : longB n.dec false with
        | true =>
          simp only [W_region, W_seq, W_ret, OpsW_nil, OpsW_op, upd_some, Br_W1, opF, evalT, evalO, ofConst, argFr, reduceCtorEq, Nat.reduceEqDiff, Option.getD_none, Option.map_some, Option.some.injEq, List.getElem?_cons_succ, List.getElem?_nil, true_and, or_true, exists_eq_left', if_true, if_false, Bool.false_eq_true, resF, resAll, resOne]
          exact ⟨1, by rw [pub_int, he, c5, c6, c7]; rfl⟩
        | false =>
          simp only [W_skip, OpsW_nil, OpsW_op, upd_some, Br_W2, opF, evalT, evalO, ofConst, argFr, Nat.reduceEqDiff, Option.getD_none, Option.map_some, Option.some.injEq, List.getElem?_cons_succ, List.getElem?_nil, exists_eq_left', if_true, if_false, Bool.false_eq_true, resF, resAll, resOne]
          exact ⟨1, by rw [pub_int, he, c5, c6, c7]; rfl⟩
end Go.Pv.Ct
end
section
namespace Go.Pv.Ct
open Go.Pv
set_option maxRecDepth 20000

theorem key_beq (a b : List Int) : (keyL a == keyL b) = (a == b) := by
  by_cases h : a = b
  · subst h; simp
  · have h1 : (a == b) = false := by simp [h]
    have h2 : (keyL a == keyL b) = false := by simp; exact fun e => h (keyL_inj _ _ e)
    rw [h1, h2]
def fndP (d : Coll) (codes : List Int) : PV := match fndC d codes with | some x => entP x | none => .sl 4 [] .full
theorem fndP_sl (d : Coll) (codes : List Int) : ∃ b, fndP d codes = .sl 4 (elR (fndR d codes).1) (tk b) := by
  unfold fndP fndR
  cases fndC d codes with
  | none => exact ⟨true, rfl⟩
  | some x => exact ⟨x.b, rfl⟩
theorem fndR_snd (d : Coll) (codes : List Int) : (fndR d codes).2 = (fndC d codes).isSome := by
  unfold fndR
  cases fndC d codes <;> rfl
theorem find_tab (d : Coll) (codes : List Int) : match fndC d codes with
    | none => findF (.str (keyL codes)) (kmap entKey entP d.ents) 0 = some none
    | some x => ∃ j, findF (.str (keyL codes)) (kmap entKey entP d.ents) 0 = some (some (j, entP x)) := by
  have hp : (fun x : Entry => entKey x == keyL codes) = fun x => x.codes == codes := by funext x; exact key_beq _ _
  rw [find_kmap, hp]
  cases hx : d.ents.findIdx? (fun x => x.codes == codes) with
  | none =>
    have : fndC d codes = none := by
      unfold fndC
      rw [List.find?_eq_none]
      intro x hx'
      have := List.findIdx?_eq_none_iff.1 hx x hx'
      simpa using this
    rw [this]; rfl
  | some j =>
    obtain ⟨hj, h1, h2⟩ := List.findIdx?_eq_some_iff_getElem.1 hx
    have : fndC d codes = some d.ents[j] := by
      unfold fndC
      rw [List.find?_eq_some_iff_getElem]
      exact ⟨h1, j, hj, rfl, fun i hi => by simpa using h2 i hi⟩
    rw [this]
    exact ⟨0 + j, by rw [Option.map_some, List.getElem?_eq_getElem hj]; rfl⟩

/-- Codes that have a key. -/
def Keyed (codes : List Int) : Prop := codes.length ≤ 1099511627776 ∧ ∀ n ∈ codes, -9223372036854775808 ≤ n ∧ n ≤ 9223372036854775807
set_option maxHeartbeats 4000000 in
theorem tfind_spec {st : Store} {id m : Nat} {d : Coll} {cls : List Span × Bool} (h : Tab st id m d cls) (codes : List Int) (t : Tok) (hk : Keyed codes) :
    SpecQ EE 48 [.optr id 7 0, .sl 1 (ints codes) t] st fun r st' => r = .tup [fndP d codes, .bool (fndR d codes).2] ∧ st' = st := by
  refine specQ_of_W ok ok48 (by simp) (by kernel_rfl) ?_
  unfold BodyW
  have e0 : code Go.Proofs.Tryz.f48 = code Go.Proofs.Tryz.f48 := rfl
  conv at e0 => rhs; simp only [code, Go.Proofs.Tryz.f48, Option.getD_some]
  rw [e0]
  clear e0
  have h1 := h.tab
  have h2 := h.ents
  simp only [W_region, W_seq, W_ret, OpsW_nil, OpsW_op, upd_some, opF, evalT, evalO, ofConst, argFr, reduceCtorEq, Nat.reduceEqDiff, Nat.reduceAdd, Option.getD_some, Option.map_some, List.getElem?_cons_zero, List.getElem?_cons_succ, Nat.succ_ne_zero, true_and, or_true, if_true, if_false, Bool.false_eq_true, List.length_cons, List.length_nil, partF, TI.agg, Nat.reduceLeDiff, List.take_zero, List.drop_zero, List.drop_succ_cons, List.take_succ_cons, W_regionD, xrE, T41, T68, T99, T101, h1]
  refine OpsW_pl (key_plain codes _ hk.1 hk.2) rfl rfl (by simp only [upd_some, evalT, evalO, ofConst, argFr, Nat.reduceEqDiff, Option.getD_none, Option.some.injEq, List.getElem?_cons_succ, List.getElem?_nil, if_true, if_false, List.zip_cons_cons, List.zip_nil_right, List.map_cons, List.map_nil, callArgs, strips, strip_sl] <;> rfl) ?_
  have hf := find_tab d codes
  unfold fndP fndR
  cases hx : fndC d codes with
  | none =>
    rw [hx] at hf
    simp only at hf
    simp only [OpsW_nil, OpsW_op, upd_some, opF, evalT, evalO, argFr, Nat.reduceEqDiff, Option.getD_none, Option.map_some, Option.some.injEq, List.getElem?_cons_zero, List.getElem?_cons_succ, List.getElem?_nil, and_self, exists_eq_left', if_true, if_false, Bool.false_eq_true, TI.agg, List.headD_cons, T9, T41, T99, h2, hf, keyK, mapEs, valOf, resF, resAll, resOne]
  | some x =>
    rw [hx] at hf
    obtain ⟨j, hf⟩ := hf
    simp only [OpsW_nil, OpsW_op, upd_some, opF, evalT, evalO, argFr, Nat.reduceEqDiff, Option.getD_none, Option.map_some, Option.some.injEq, List.getElem?_cons_zero, List.getElem?_cons_succ, List.getElem?_nil, and_self, exists_eq_left', if_true, if_false, T9, T41, T99, h2, hf, keyK, mapEs, resF, resAll, resOne]
set_option maxHeartbeats 4000000 in
theorem timpl_spec {st : Store} {id m : Nat} {d : Coll} {cls : List Span × Bool} (h : Tab st id m d cls) (z : Int) (hb : 1 ≤ d.base ∧ d.base ≤ 65502) :
    SpecQ EE 49 [.optr id 7 0, .int .i64 z] st fun r st' => r = implP (implL d z) ∧ st' = st := by
  refine specQ_of_W ok ok49 (by simp) (by kernel_rfl) ?_
  unfold BodyW
  have e0 : code Go.Proofs.Tryz.f49 = code Go.Proofs.Tryz.f49 := rfl
  conv at e0 => rhs; simp only [code, Go.Proofs.Tryz.f49, Option.getD_some]
  rw [e0]
  clear e0
  have h1 := h.tab
  simp only [W_region, W_seq, W_cond, W_ret, OpsW_nil, OpsW_op, upd_some, opF, evalT, evalO, ofConst, argFr, binF, intF, reduceCtorEq, Nat.reduceEqDiff, Nat.reduceAdd, Option.getD_some, Option.map_some, Option.bind_some, List.getElem?_cons_zero, List.getElem?_cons_succ, Nat.succ_ne_zero, true_and, and_true, or_true, if_true, if_false, Bool.false_eq_true, Bool.not_true, List.length_cons, List.length_nil, List.map_cons, List.map_nil, partF, TI.agg, scal, isAgg, cellsOf, List.all_cons, List.all_nil, Bool.and_true, Bool.and_self, Nat.reduceLeDiff, Nat.zero_lt_succ, range2, Option.isSome_some, splice, fillF, List.take_zero, List.drop_zero, List.nil_append, W_regionD, xrE, T3, T4, T25, T41, T68, T101]
  refine OpsW_pl (valid_plain z) rfl rfl (by simp only [upd_some, evalT, evalO, ofConst, argFr, Nat.reduceEqDiff, Option.getD_none, List.getElem?_cons_succ, List.getElem?_nil, if_true, if_false, List.zip_cons_cons, List.zip_nil_right, List.map_cons, List.map_nil, callArgs, strips, strip_int] <;> rfl) ?_
  rcases Bool.eq_false_or_eq_true (validC z) with e | e
  · obtain ⟨a1, a2, a3⟩ := impl_arith e hb
    simp only [W_skip, OpsW_nil, OpsW_op, upd_some, Br_W2, opF, evalO, argFr, unF, reduceCtorEq, Nat.reduceEqDiff, Nat.reduceAdd, Option.getD_some, Option.getD_none, Option.map_some, Option.some.injEq, List.getElem?_cons_zero, List.getElem?_cons_succ, List.getElem?_nil, and_self, and_true, exists_eq_left', if_true, if_false, Bool.false_eq_true, beq_self_eq_true, Bool.not_true, List.length_cons, List.length_nil, List.map_cons, List.map_nil, tokRo, cellOk, List.all_cons, List.all_nil, Bool.or_true, Bool.or_false, Bool.and_self, Nat.reduceLeDiff, List.take_zero, List.drop_zero, List.drop_succ_cons, List.take_succ_cons, List.nil_append, List.cons_append, Int.reduceEq, e, h1, a1, a2, a3, resF, resAll, resOne]
    rw [implL, if_pos e]; rfl
  · simp only [W_region, W_seq, W_ret, OpsW_nil, OpsW_op, upd_some, Br_W1, opF, evalT, evalO, argFr, unF, reduceCtorEq, Nat.reduceEqDiff, Option.getD_none, Option.map_some, Option.some.injEq, List.getElem?_cons_succ, List.getElem?_nil, true_and, and_true, or_true, exists_eq_left', if_true, if_false, Bool.not_false, T41, T68, e, resF, resAll, resOne]
    rw [implL, e]; rfl

/-- No data at all is valid. -/
theorem norm0_plain : Plain EE 72 [.agg nrm0.cells] (.int .i64 0) := plain_run ok tblOk ctOk 3000 (by kernel_rfl)
set_option maxHeartbeats 4000000 in
theorem Find_plain (c : Coll) (codes : List Int) (t : Tok) (hf : Fits c) (he : ElsOk c) (hk : Keyed codes) :
    Plain EE 21 [.agg c.cells, .sl 1 (ints codes) t] (.tup [elP (fndR (dataC c) codes).1, .bool (fndR (dataC c) codes).2]) := by
  refine plain_of_W ok ok21 (by simp) ?_
  unfold BodyW
  have e0 : code Go.Proofs.Tryz.f21 = code Go.Proofs.Tryz.f21 := rfl
  conv at e0 => rhs; simp only [code, Go.Proofs.Tryz.f21, Option.getD_some]
  rw [e0]
  clear e0
  simp only [W_region, W_seq, W_ret, OpsW_nil, OpsW_op, upd_some, opF, evalT, evalO, ofConst, argFr, reduceCtorEq, Nat.reduceEqDiff, Nat.reduceAdd, Option.getD_some, Option.getD_none, Option.map_some, List.getElem?_cons_zero, List.getElem?_cons_succ, List.getElem?_nil, and_self, true_and, or_true, if_true, if_false, Bool.false_eq_true, Bool.not_true, List.length_cons, List.length_nil, List.map_nil, partF, TI.agg, scal, isAgg, cellsOf, List.all_cons, List.all_nil, Bool.or_true, Bool.and_self, Nat.reduceLeDiff, Option.isSome_some, fillF, List.take_zero, List.drop_zero, List.take_succ_cons, List.nil_append, T25, T30, T31, T34, T36, T41, T68, Coll.cells]
  obtain ⟨r, st1, hs, id, m, rfl, htab, hg⟩ := load_spec nrm0 c 0 norm0_plain hf [.cells c.cells]
  refine OpsW_sp hs (by simp only [evalO] <;> rfl) rfl rfl (by simp only [upd_some, evalT, evalO, ofConst, argFr, Nat.reduceEqDiff, Option.getD_none, List.getElem?_cons_succ, List.getElem?_nil, if_true, if_false, List.zip_cons_cons, List.zip_nil_right, List.map_cons, List.map_nil, List.nil_append, List.cons_append, callArgs] <;> rfl) ?_
  simp only [OpsW_op, upd_some, opF, evalT, evalO, argFr, Nat.reduceEqDiff, Option.getD_some, List.getElem?_cons_zero, List.getElem?_cons_succ, if_false]
  obtain ⟨r, st2, hs2, rfl, rfl⟩ := tfind_spec htab codes t hk
  refine OpsW_sp hs2 (by simp only [evalO] <;> rfl) rfl rfl (by simp only [upd_some, evalT, evalO, ofConst, argFr, Nat.reduceEqDiff, Option.getD_none, List.getElem?_cons_succ, List.getElem?_nil, if_true, if_false, List.zip_cons_cons, List.zip_nil_right, List.map_cons, List.map_nil, List.nil_append, List.cons_append, callArgs] <;> rfl) ?_
  obtain ⟨b, hb⟩ := fndP_sl (dataC c) codes
  rw [hb]
  simp only [OpsW_nil, OpsW_op, upd_some, opF, evalT, evalO, argFr, Nat.reduceEqDiff, Option.getD_none, Option.map_some, List.getElem?_cons_zero, List.getElem?_cons_succ, List.getElem?_nil, if_true, if_false]
  refine OpsW_pl (clone_plain (fndR (dataC c) codes).1 (tk b) (fnd_len (data_els he) codes)) rfl rfl (by simp only [upd_some, evalT, evalO, ofConst, argFr, Nat.reduceEqDiff, Option.getD_none, List.getElem?_cons_succ, List.getElem?_nil, if_true, if_false, List.zip_cons_cons, List.zip_nil_right, List.map_cons, List.map_nil, callArgs, strips, strip_sl, stripT_tk] <;> rfl) ?_
  simp only [OpsW_nil, OpsW_op, upd_some, opF, evalT, evalO, argFr, Nat.reduceEqDiff, Option.getD_none, Option.map_some, Option.some.injEq, List.getElem?_cons_succ, List.getElem?_nil, exists_eq_left', if_true, if_false, resF, resAll, resOne]
  exact ⟨2, by rw [pub_tupc]; simp only [allSome, elP, pub_sl, pub_bool, stripT_tk] <;> rfl⟩
theorem Implicit_plain (c : Coll) (z : Int) (hf : Fits c) : Plain EE 23 [.agg c.cells, .int .i64 z] (implP (implL (dataC c) z)) := by
  refine plain_of_W ok ok23 (by simp) ?_
  unfold BodyW
  have e0 : code Go.Proofs.Tryz.f23 = code Go.Proofs.Tryz.f23 := rfl
  conv at e0 => rhs; simp only [code, Go.Proofs.Tryz.f23, Option.getD_some]
  rw [e0]
  clear e0
  simp only [W_region, W_seq, W_ret, OpsW_nil, OpsW_op, upd_some, opF, evalT, evalO, ofConst, argFr, reduceCtorEq, Nat.reduceEqDiff, Nat.reduceAdd, Option.getD_some, Option.getD_none, Option.map_some, List.getElem?_cons_zero, List.getElem?_cons_succ, List.getElem?_nil, and_self, true_and, or_true, if_true, if_false, Bool.false_eq_true, Bool.not_true, List.length_cons, List.length_nil, List.map_nil, partF, TI.agg, scal, isAgg, cellsOf, List.all_cons, List.all_nil, Bool.or_true, Bool.and_self, Nat.reduceLeDiff, Option.isSome_some, fillF, List.take_zero, List.drop_zero, List.take_succ_cons, List.nil_append, T25, T30, T31, T34, T36, T41, T68, Coll.cells]
  obtain ⟨r, st1, hs, id, m, rfl, htab, hg⟩ := load_spec nrm0 c 0 norm0_plain hf [.cells c.cells]
  refine OpsW_sp hs (by simp only [evalO] <;> rfl) rfl rfl (by simp only [upd_some, evalT, evalO, ofConst, argFr, Nat.reduceEqDiff, Option.getD_none, List.getElem?_cons_succ, List.getElem?_nil, if_true, if_false, List.zip_cons_cons, List.zip_nil_right, List.map_cons, List.map_nil, List.nil_append, List.cons_append, callArgs] <;> rfl) ?_
  simp only [OpsW_op, upd_some, opF, evalT, evalO, argFr, Nat.reduceEqDiff, Option.getD_some, List.getElem?_cons_zero, List.getElem?_cons_succ, if_false]
  obtain ⟨r, st2, hs2, rfl, rfl⟩ := timpl_spec htab z (data_num c)
  refine OpsW_sp hs2 (by simp only [evalO] <;> rfl) rfl rfl (by simp only [upd_some, evalT, evalO, ofConst, argFr, Nat.reduceEqDiff, Option.getD_none, List.getElem?_cons_succ, List.getElem?_nil, if_true, if_false, List.zip_cons_cons, List.zip_nil_right, List.map_cons, List.map_nil, List.nil_append, List.cons_append, callArgs] <;> rfl) ?_
  simp only [OpsW_nil, OpsW_op, upd_some, opF, evalT, evalO, argFr, Nat.reduceEqDiff, Option.getD_none, Option.map_some, Option.some.injEq, List.getElem?_cons_succ, List.getElem?_nil, exists_eq_left', if_true, if_false, resF, resAll, resOne]
  exact ⟨1, by rw [implP, pub_sl]; rfl⟩

theorem small_els {c : Coll} (h : smallC c = true) : ElsOk c := by
  intro x hx
  unfold smallC at h
  simp only [Bool.and_eq_true] at h
  have := List.all_eq_true.1 h.2 x hx
  simp only [Bool.and_eq_true, decide_eq_true_eq] at this
  have : LIM = 4294967296 := rfl
  omega
set_option maxHeartbeats 8000000 in
theorem finds_plain (c : Coll) (codes : List Int) (t : Tok) (z : Int) (hf : Fits c) (hc : ∀ n ∈ codes, -9223372036854775808 ≤ n ∧ n ≤ 9223372036854775807) :
    Plain EE 5 [.agg c.cells, .sl 1 (ints codes) t, .int .i64 z] (.bool true) := by
  refine plain_of_W ok ok5 (by simp) ?_
  unfold BodyW
  have e0 : code Go.Proofs.Tryz.f5 = code Go.Proofs.Tryz.f5 := rfl
  conv at e0 => rhs; simp only [code, Go.Proofs.Tryz.f5, Option.getD_some]
  rw [e0]
  clear e0
  simp only [W_region, W_seq, W_cond, W_ret, OpsW_nil, OpsW_op, upd_some, opF, evalT, evalO, ofConst, argFr, reduceCtorEq, Nat.reduceEqDiff, Nat.reduceAdd, Option.getD_some, Option.getD_none, Option.map_some, List.getElem?_cons_zero, List.getElem?_cons_succ, List.getElem?_nil, and_self, true_and, or_true, if_true, if_false, List.length_cons, List.length_nil, partF, TI.agg, scal, isAgg, cellsOf, Bool.or_true, Nat.reduceLeDiff, List.take_zero, List.drop_zero, List.take_succ_cons, List.nil_append, W_regionD, xrE, T25, Coll.cells]
  refine OpsW_pl (small_plain c hf.ents) rfl rfl (by simp only [upd_some, evalT, evalO, ofConst, argFr, Nat.reduceEqDiff, Option.getD_none, Option.some.injEq, List.getElem?_cons_succ, List.getElem?_nil, if_true, if_false, List.zip_cons_cons, List.zip_nil_right, List.map_cons, List.map_nil, callArgs, strips, strip_coll'] <;> rfl) ?_
  rcases Bool.eq_false_or_eq_true (smallC c) with b | b
  case inr =>
    simp only [W_region, W_seq, W_ret, OpsW_nil, OpsW_op, OpsW_guard, upd_some, Br_W1, Br_O2, opF, evalT, evalO, ofConst, argFr, unF, reduceCtorEq, Nat.reduceEqDiff, Option.getD_none, Option.map_some, Option.bind_some, List.getElem?_toArray, List.getElem?_cons_zero, List.getElem?_cons_succ, List.getElem?_nil, true_and, or_true, if_true, if_false, Bool.true_beq, Bool.not_false, b]
    refine OpsW_pl alive_plain rfl rfl rfl ?_
    simp only [OpsW_nil, OpsW_op, upd_some, opF, evalT, evalO, argFr, Nat.reduceEqDiff, Option.getD_none, Option.map_some, Option.some.injEq, List.getElem?_cons_succ, List.getElem?_nil, exists_eq_left', if_true, if_false, resF, resAll, resOne]
    exact ⟨1, by rw [pub_bool]⟩
  by_cases c1 : (codes.length : Int) > 12
  · simp only [W_region, W_seq, W_ret, OpsW_nil, OpsW_op, OpsW_guard, upd_some, Br_W1, Br_O1, opF, evalT, evalO, ofConst, argFr, binF, intF, unF, reduceCtorEq, Nat.reduceEqDiff, Nat.reduceAdd, Option.getD_some, Option.getD_none, Option.map_some, Option.bind_some, List.getElem?_toArray, List.getElem?_cons_zero, List.getElem?_cons_succ, List.getElem?_nil, true_and, or_true, if_true, if_false, decide_true, Bool.false_eq_true, beq_self_eq_true, Bool.not_true, List.length_cons, List.length_nil, callB, List.zip_cons_cons, List.zip_nil_right, List.map_cons, List.map_nil, List.size_toArray, T37, b, ints_length, c1]
    refine OpsW_pl alive_plain rfl rfl rfl ?_
    simp only [OpsW_nil, OpsW_op, upd_some, opF, evalT, evalO, argFr, Nat.reduceEqDiff, Option.getD_none, Option.map_some, Option.some.injEq, List.getElem?_cons_succ, List.getElem?_nil, exists_eq_left', if_true, if_false, resF, resAll, resOne]
    exact ⟨1, by rw [pub_bool]⟩
  have he := small_els b
  have hk : Keyed codes := ⟨by omega, hc⟩
  have hlen := fnd_len (data_els he) codes
  have hL : LIM = 4294967296 := rfl
  simp only [W_skip, OpsW_nil, OpsW_op, OpsW_guard, upd_some, Br_W2, Br_O1, opF, evalT, evalO, ofConst, argFr, binF, intF, unF, Nat.reduceEqDiff, Nat.reduceAdd, Option.getD_some, Option.getD_none, Option.map_some, Option.bind_some, List.getElem?_toArray, List.getElem?_cons_zero, List.getElem?_cons_succ, List.getElem?_nil, if_true, if_false, decide_false, Bool.false_eq_true, beq_self_eq_true, Bool.not_true, List.length_cons, List.length_nil, callB, List.zip_cons_cons, List.zip_nil_right, List.map_cons, List.map_nil, List.size_toArray, Nat.reduceLeDiff, List.take_zero, List.drop_zero, List.take_succ_cons, T37, b, ints_length, c1]
  refine OpsW_pl (Find_plain c codes _ hf he hk) rfl rfl (by simp only [upd_some, evalT, evalO, ofConst, argFr, Nat.reduceEqDiff, Option.getD_none, Option.some.injEq, List.getElem?_cons_succ, List.getElem?_nil, if_true, if_false, List.zip_cons_cons, List.zip_nil_right, List.map_cons, List.map_nil, callArgs, strips, strip_sl, strip_coll'] <;> rfl) ?_
  simp only [OpsW_nil, OpsW_op, upd_some, opF, evalT, evalO, argFr, Nat.reduceEqDiff, Nat.reduceAdd, Option.getD_some, Option.getD_none, Option.map_some, List.getElem?_cons_zero, List.getElem?_cons_succ, List.getElem?_nil, if_true, if_false, List.length_cons, List.length_nil, Nat.reduceLeDiff, List.take_zero, List.drop_zero, List.take_succ_cons]
  refine OpsW_pl (refFind_plain c codes _ hf he) rfl rfl (by simp only [upd_some, evalT, evalO, ofConst, argFr, Nat.reduceEqDiff, Option.getD_none, Option.some.injEq, List.getElem?_cons_succ, List.getElem?_nil, if_true, if_false, List.zip_cons_cons, List.zip_nil_right, List.map_cons, List.map_nil, callArgs, strips, strip_sl, strip_coll'] <;> rfl) ?_
  simp only [OpsW_nil, OpsW_op, upd_some, opF, evalT, evalO, argFr, Nat.reduceEqDiff, Option.getD_none, Option.map_some, List.getElem?_cons_zero, List.getElem?_cons_succ, List.getElem?_nil, if_true, if_false, elP]
  refine OpsW_pl (same_plain (fndR (dataC c) codes).1 (fndR (dataC c) codes).1 _ _ (by omega)) rfl rfl (by simp only [upd_some, evalT, evalO, ofConst, argFr, Nat.reduceEqDiff, Option.getD_none, Option.some.injEq, List.getElem?_cons_succ, List.getElem?_nil, if_true, if_false, List.zip_cons_cons, List.zip_nil_right, List.map_cons, List.map_nil, callArgs, strips, strip_sl, stripT_tk] <;> rfl) ?_
  simp only [OpsW_op, OpsW_guard, upd_some, Br_O1, opF, evalT, evalO, ofConst, argFr, binF, Nat.reduceEqDiff, Nat.reduceAdd, Option.getD_some, Option.getD_none, Option.map_some, Option.bind_some, List.getElem?_toArray, List.getElem?_cons_zero, List.getElem?_cons_succ, List.getElem?_nil, if_true, if_false, beq_self_eq_true, List.length_cons, List.length_nil, partF, TI.agg, Nat.reduceLeDiff, List.take_zero, List.drop_zero, List.take_succ_cons, T4, T25, sameB_refl, eqF]
  refine OpsW_pl (Implicit_plain c z hf) rfl rfl (by simp only [upd_some, evalT, evalO, ofConst, argFr, Nat.reduceEqDiff, Option.getD_none, Option.some.injEq, List.getElem?_cons_succ, List.getElem?_nil, if_true, if_false, List.zip_cons_cons, List.zip_nil_right, List.map_cons, List.map_nil, callArgs, strips, strip_int, strip_coll'] <;> rfl) ?_
  simp only [OpsW_op, OpsW_guard, upd_some, Br_O1, opF, evalT, evalO, argFr, Nat.reduceEqDiff, Nat.reduceAdd, Option.getD_some, Option.getD_none, Option.map_some, Option.bind_some, List.getElem?_toArray, List.getElem?_cons_zero, List.getElem?_cons_succ, List.getElem?_nil, if_true, if_false, beq_self_eq_true, List.length_cons, List.length_nil, partF, TI.agg, Nat.reduceLeDiff, List.take_zero, List.drop_zero, List.take_succ_cons, T25]
  refine OpsW_pl (refImplicit_plain c z hf) rfl rfl (by simp only [upd_some, evalT, evalO, ofConst, argFr, Nat.reduceEqDiff, Option.getD_none, Option.some.injEq, List.getElem?_cons_succ, List.getElem?_nil, if_true, if_false, List.zip_cons_cons, List.zip_nil_right, List.map_cons, List.map_nil, callArgs, strips, strip_int, strip_coll'] <;> rfl) ?_
  simp only [OpsW_guard, upd_some, Br_O1, argFr, Nat.reduceEqDiff, Option.getD_none, Option.bind_some, List.getElem?_toArray, List.getElem?_cons_zero, List.getElem?_cons_succ, List.getElem?_nil, if_true, if_false, beq_self_eq_true, implP]
  refine OpsW_pl (same_plain (implL (dataC c) z) (implL (dataC c) z) _ _ (by unfold implL; split <;> simp)) rfl rfl (by simp only [upd_some, evalT, evalO, ofConst, argFr, Nat.reduceEqDiff, Option.getD_none, Option.some.injEq, List.getElem?_cons_succ, List.getElem?_nil, if_true, if_false, List.zip_cons_cons, List.zip_nil_right, List.map_cons, List.map_nil, callArgs, strips, strip_sl, stripT] <;> rfl) ?_
  simp only [OpsW_op, OpsW_guard, upd_some, Br_O1, opF, evalT, evalO, ofConst, argFr, Nat.reduceEqDiff, Option.getD_none, Option.bind_some, List.getElem?_toArray, List.getElem?_cons_zero, List.getElem?_cons_succ, List.getElem?_nil, if_true, if_false, beq_self_eq_true, sameB_refl]
  refine OpsW_pl alive_plain rfl rfl rfl ?_
  simp only [OpsW_nil, OpsW_op, upd_some, opF, evalT, evalO, ofConst, argFr, Nat.reduceEqDiff, Option.getD_none, Option.map_some, Option.some.injEq, List.getElem?_cons_succ, List.getElem?_nil, exists_eq_left', if_true, if_false, resF, resAll, resOne]
  exact ⟨1, by rw [pub_bool]⟩
end Go.Pv.Ct
end
section
namespace Go.Pv.Ct
open Go.Pv Go.Proofs
set_option maxRecDepth 20000

theorem ints_take (a : List Int) (k : Nat) : List.take k (ints a) = ints (a.take k) := by simp [ints]
theorem ints_drop (a : List Int) (k : Nat) : List.drop k (ints a) = ints (a.drop k) := by simp [ints]
theorem ints_app (a b : List Int) : ints a ++ ints b = ints (a ++ b) := by simp [ints]
/-- The longest beginning, of at most so many, that is an entry. -/
def longK (d : Coll) (text : List Int) : Nat → Nat
  | 0 => 0
  | k + 1 => if (fndC d (text.take (k + 1))).isSome then k + 1 else longK d text k
def scanM (d : Coll) (cls : List Span) : List Int → List Int → Int → List Int → List Int × List Int
  | codes, left, _, [] => (codes, left)
  | codes, left, g, c :: rest =>
    if classL cls c = 0 then (codes, left ++ c :: rest)
    else if classL cls c > g ∧ (fndC d (codes ++ [c])).isSome = true then scanM d cls (codes ++ [c]) left g rest
    else scanM d cls codes (left ++ [c]) (if classL cls c > g then classL cls c else g) rest
def k0M (d : Coll) (text : List Int) : Nat := longK d text (min text.length 8)
/-- The matched part, what is left, and whether the part is an entry. -/
def matchM (d : Coll) (cls : List Span) (text : List Int) : (List Int × List Int) × Bool :=
  if k0M d text = 0 then ((text.take 1, text.drop 1), false)
  else (scanM d cls (text.take (k0M d text)) [] 0 (text.drop (k0M d text)), true)

theorem clip_plain (a : List Int) (t : Tok) : Plain EE 105 [.sl 1 (ints a) t] (.sl 1 (ints a) .full) := by
  refine plain_of_W ok ok105 (by simp) ?_
  unfold BodyW
  have e0 : code Go.Proofs.Tryz.f105 = code Go.Proofs.Tryz.f105 := rfl
  conv at e0 => rhs; simp only [code, Go.Proofs.Tryz.f105, Option.getD_some]
  rw [e0]
  clear e0
  have h1 : List.take a.length (ints a) = ints a := by rw [ints_take, List.take_length]
  simp only [W_region, W_seq, W_ret, OpsW_nil, OpsW_op, upd_some, opF, evalT, evalO, ofConst, argFr, idxN_nat, reduceCtorEq, Nat.reduceEqDiff, Nat.reduceAdd, Option.getD_some, Option.map_some, Option.map_none, Option.some.injEq, List.getElem?_cons_zero, and_self, true_and, and_true, or_true, exists_eq_left', if_true, if_false, decide_true, ne_eq, not_true_eq_false, List.length_cons, List.length_nil, callB, List.zip_cons_cons, List.zip_nil_right, List.map_cons, List.map_nil, List.size_toArray, Option.isSome_some, List.drop_zero, T3, T37, ints_length, sliceF, Nat.le_refl, Nat.zero_le, h1, resF, resAll, resOne]
  exact ⟨1, pub_sl _ _ _ _ _⟩
/-- A call of find, as it stands. -/
theorem tfind_S {st : Store} {id m : Nat} {d : Coll} {cls : List Span × Bool} (h : Tab st id m d cls) (codes : List Int) (t : Tok) (hk : Keyed codes) :
    Spec EE 48 [.optr id 7 0, .sl 1 (ints codes) t] st (.tup [fndP d codes, .bool (fndC d codes).isSome]) st := by
  obtain ⟨r, st1, hs, rfl, rfl⟩ := tfind_spec h codes t hk
  rw [fndR_snd] at hs
  exact hs
/-- A number more, behind a list that is being made. -/
theorem out_push {st : Store} {o : List Int} {p : PV} (h : OutSt st o p) (x : Int) (hl : o.length + 1 ≤ LIM) {id m : Nat} {d : Coll} {cls : List Span × Bool} (hT : Tab st id m d cls) :
    ∃ t st', appendF EE st 3 p [[.int .i64 x]] 1 = some (.sl 1 (ints (o ++ [x])) t, st') ∧ OutSt st' (o ++ [x]) (.sl 1 (ints (o ++ [x])) t) ∧ Tab st' id m d cls := by
  have hx : ints [x] = [[.int .i64 x]] := rfl
  rcases h with ⟨rfl, rfl⟩ | ⟨i, rfl, hst⟩
  · refine ⟨.own st.length, st ++ [.tok 1 3 1], ?_, .inr ⟨st.length, rfl, by simp⟩, hT.grows ⟨_, rfl⟩⟩
    simp [appendF, T3, ints]
    have : LIM = 4294967296 := rfl
    omega
  · refine ⟨.own i, st.set i (.tok (o.length + 1) 3 1), ?_, .inr ⟨i, rfl, ?_⟩, ⟨?_, ?_⟩⟩
    · simp [appendF, T3, ints_length, hst, ← ints_app]
      exact ⟨hl, rfl⟩
    · rw [get_set_eq (get_lt hst)]; simp
    · rw [get_set_ne _ (fun e => by subst e; have := hT.tab; rw [hst] at this; cases this)]; exact hT.tab
    · rw [get_set_ne _ (fun e => by subst e; have := hT.ents; rw [hst] at this; cases this)]; exact hT.ents
/-- A number more, behind a list that is full. -/
theorem full_push (st : Store) (o : List Int) (x : Int) (hl : o.length + 1 ≤ LIM) {id m : Nat} {d : Coll} {cls : List Span × Bool} (hT : Tab st id m d cls) :
    appendF EE st 3 (.sl 1 (ints o) .full) [[.int .i64 x]] 1 = some (.sl 1 (ints (o ++ [x])) (.own st.length), st ++ [.tok (o.length + 1) 3 1]) ∧ Tab (st ++ [.tok (o.length + 1) 3 1]) id m d cls := by
  refine ⟨?_, hT.grows ⟨_, rfl⟩⟩
  simp [appendF, T3, ints_length, ← ints_app]
  exact ⟨hl, rfl⟩
end Go.Pv.Ct
end
section
namespace Go.Pv.Ct
open Go.Pv Go.Proofs
set_option maxRecDepth 20000

/-- What match answers. -/
def MatchQ (id m : Nat) (d : Coll) (cls : List Span × Bool) (codes left : List Int) (ok : Bool) (r : PV) (st : Store) : Prop :=
  (∃ bl, r = .tup [.sl 1 (ints codes) .full, .sl 1 (ints left) (tk bl), .bool ok]) ∧ Tab st id m d cls
set_option maxHeartbeats 4000000 in
theorem match_end (id m : Nat) (d : Coll) (cls : List Span × Bool) (text codes left : List Int) (b : Bool) (i : Nat) (hi : i ≤ text.length) (htl : text.length ≤ 1099511627776) (hlim : left.length + text.length ≤ LIM) (fr : Fr) (st : Store) (f1 : fr 1 = .sl 1 (ints text) (tk b)) (f10 : fr 10 = .sl 1 (ints codes) .full)
    (f11 : OutSt st left (fr 11)) (f13 : fr 13 = .int .i64 i) (hT : Tab st id m d cls) :
    W EE 114 (part [true, true, true, true, true, true, true, true, true] (code Go.Proofs.Tryz.f74)) fr st (EndW EE [.tmp 4, .tmp 5, .tmp 6] (MatchQ id m d cls codes (left ++ text.drop i) true)) := by
  have e1 : part [true, true, true, true, true, true, true, true, true] (code Go.Proofs.Tryz.f74) = part [true, true, true, true, true, true, true, true, true] (code Go.Proofs.Tryz.f74) := rfl
  conv at e1 => rhs; simp only [part, code, Go.Proofs.Tryz.f74, Option.getD_some]
  rw [e1]
  clear e1
  have hL : LIM = 4294967296 := rfl
  unfold MatchQ
  have hlen : List.take text.length (ints text) = ints text := by rw [ints_take, List.take_length]
  rcases f11 with ⟨rfl, f11⟩ | ⟨j, f11, hst⟩ <;> cases b
  · have f1 : fr 1 = .sl 1 (ints text) .ro := f1
    generalize hle : ([] : List Int) = left at *
    have f11 : fr 11 = .sl 1 (ints left) .full := by rw [f11, ← hle]; rfl
    have hcat := concat_plain [(left, true), (text.drop i, false)] .full (by simp) (by simp only [catL, List.flatMap_cons, List.flatMap_nil, List.append_nil, List.length_append, List.length_drop]; omega)
    have hrow : listR [(left, true), (text.drop i, false)] = [[.sl 1 (ints left) (tk true)], [.sl 1 (ints (text.drop i)) (tk false)]] := rfl
    rw [hrow] at hcat
    simp only [W_region, W_seq, W_ret, OpsW_op, upd_some, opF, evalT, evalO, ofConst, idxN_nat, Nat.reduceEqDiff, Nat.reduceAdd, Option.map_some, Option.map_none, and_self, if_true, if_false, Bool.false_eq_true, beq_self_eq_true, ne_eq, not_true_eq_false, List.length_cons, List.length_nil, List.map_cons, List.map_nil, scal, isAgg, cellsOf, tokRo, cellOk, List.all_cons, List.all_nil, Bool.or_false, Bool.and_self, Nat.reduceLeDiff, Nat.lt_add_one, range2, T3, T37, T158, f1, f10, f11, f13, ints_length, sliceF, hi, Nat.le_refl, ints_drop, hlen]
    refine OpsW_pl hcat rfl rfl (by simp only [upd_some, evalT, evalO, ofConst, Nat.reduceEqDiff, Option.some.injEq, if_true, if_false, List.zip_cons_cons, List.zip_nil_right, List.map_cons, List.map_nil, callArgs, strips, strip_sl, stripT] <;> rfl) ?_
    simp only [OpsW_nil, OpsW_op, upd_some, opF, evalT, evalO, ofConst, reduceCtorEq, Nat.reduceEqDiff, Option.map_some, Option.some.injEq, true_and, or_true, exists_eq_left', if_true, if_false, resF, resAll, resOne, EndW]
    exact ⟨⟨_, by simp only [catL, List.flatMap_cons, List.flatMap_nil, List.append_nil]; rfl⟩, hT⟩
  · have f1 : fr 1 = .sl 1 (ints text) .full := f1
    generalize hle : ([] : List Int) = left at *
    have f11 : fr 11 = .sl 1 (ints left) .full := by rw [f11, ← hle]; rfl
    have hcat := concat_plain [(left, true), (text.drop i, true)] .full (by simp) (by simp only [catL, List.flatMap_cons, List.flatMap_nil, List.append_nil, List.length_append, List.length_drop]; omega)
    have hrow : listR [(left, true), (text.drop i, true)] = [[.sl 1 (ints left) (tk true)], [.sl 1 (ints (text.drop i)) (tk true)]] := rfl
    rw [hrow] at hcat
    simp only [W_region, W_seq, W_ret, OpsW_op, upd_some, opF, evalT, evalO, ofConst, idxN_nat, Nat.reduceEqDiff, Nat.reduceAdd, Option.map_some, Option.map_none, and_self, true_and, if_true, if_false, Bool.false_eq_true, beq_self_eq_true, ne_eq, not_true_eq_false, List.length_cons, List.length_nil, List.map_cons, List.map_nil, scal, isAgg, cellsOf, tokRo, cellOk, List.all_cons, List.all_nil, Bool.and_true, Bool.true_and, Bool.or_false, Bool.and_self, Nat.reduceLeDiff, Nat.lt_add_one, range2, T3, T37, T158, f1, f10, f11, f13, ints_length, sliceF, hi, Nat.le_refl, ints_drop, hlen]
    refine OpsW_pl hcat rfl rfl (by simp only [upd_some, evalT, evalO, ofConst, Nat.reduceEqDiff, Option.some.injEq, if_true, if_false, List.zip_cons_cons, List.zip_nil_right, List.map_cons, List.map_nil, callArgs, strips, strip_sl, stripT] <;> rfl) ?_
    simp only [OpsW_nil, OpsW_op, upd_some, opF, evalT, evalO, ofConst, reduceCtorEq, Nat.reduceEqDiff, Option.map_some, Option.some.injEq, true_and, or_true, exists_eq_left', if_true, if_false, resF, resAll, resOne, EndW]
    exact ⟨⟨_, by simp only [catL, List.flatMap_cons, List.flatMap_nil, List.append_nil]; rfl⟩, hT⟩
  · have f1 : fr 1 = .sl 1 (ints text) .ro := f1
    have hcat := concat_plain [(left, false), (text.drop i, false)] .full (by simp) (by simp only [catL, List.flatMap_cons, List.flatMap_nil, List.append_nil, List.length_append, List.length_drop]; omega)
    have hrow : listR [(left, false), (text.drop i, false)] = [[.sl 1 (ints left) (tk false)], [.sl 1 (ints (text.drop i)) (tk false)]] := rfl
    rw [hrow] at hcat
    simp only [W_region, W_seq, W_ret, OpsW_op, upd_some, opF, evalT, evalO, ofConst, idxN_nat, Nat.reduceEqDiff, Nat.reduceAdd, Option.map_some, Option.map_none, and_self, if_true, if_false, Bool.false_eq_true, beq_self_eq_true, ne_eq, not_true_eq_false, List.length_cons, List.length_nil, List.map_cons, List.map_nil, scal, isAgg, cellsOf, tokRo, cellOk, List.all_cons, List.all_nil, Bool.or_false, Bool.and_self, Nat.reduceLeDiff, Nat.lt_add_one, range2, T3, T37, T158, f1, f10, f11, f13, ints_length, sliceF, hi, Nat.le_refl, ints_drop, hlen]
    refine OpsW_pl hcat rfl rfl (by simp only [upd_some, evalT, evalO, ofConst, Nat.reduceEqDiff, Option.some.injEq, if_true, if_false, List.zip_cons_cons, List.zip_nil_right, List.map_cons, List.map_nil, callArgs, strips, strip_sl, stripT] <;> rfl) ?_
    simp only [OpsW_nil, OpsW_op, upd_some, opF, evalT, evalO, ofConst, reduceCtorEq, Nat.reduceEqDiff, Option.map_some, Option.some.injEq, true_and, or_true, exists_eq_left', if_true, if_false, resF, resAll, resOne, EndW]
    exact ⟨⟨_, by simp only [catL, List.flatMap_cons, List.flatMap_nil, List.append_nil]; rfl⟩, hT⟩
  · have f1 : fr 1 = .sl 1 (ints text) .full := f1
    have hcat := concat_plain [(left, false), (text.drop i, true)] .full (by simp) (by simp only [catL, List.flatMap_cons, List.flatMap_nil, List.append_nil, List.length_append, List.length_drop]; omega)
    have hrow : listR [(left, false), (text.drop i, true)] = [[.sl 1 (ints left) (tk false)], [.sl 1 (ints (text.drop i)) (tk true)]] := rfl
    rw [hrow] at hcat
    simp only [W_region, W_seq, W_ret, OpsW_op, upd_some, opF, evalT, evalO, ofConst, idxN_nat, Nat.reduceEqDiff, Nat.reduceAdd, Option.map_some, Option.map_none, and_self, true_and, if_true, if_false, Bool.false_eq_true, beq_self_eq_true, ne_eq, not_true_eq_false, List.length_cons, List.length_nil, List.map_cons, List.map_nil, scal, isAgg, cellsOf, tokRo, cellOk, List.all_cons, List.all_nil, Bool.and_true, Bool.true_and, Bool.or_false, Bool.and_self, Nat.reduceLeDiff, Nat.lt_add_one, range2, T3, T37, T158, f1, f10, f11, f13, ints_length, sliceF, hi, Nat.le_refl, ints_drop, hlen]
    refine OpsW_pl hcat rfl rfl (by simp only [upd_some, evalT, evalO, ofConst, Nat.reduceEqDiff, Option.some.injEq, if_true, if_false, List.zip_cons_cons, List.zip_nil_right, List.map_cons, List.map_nil, callArgs, strips, strip_sl, stripT] <;> rfl) ?_
    simp only [OpsW_nil, OpsW_op, upd_some, opF, evalT, evalO, ofConst, reduceCtorEq, Nat.reduceEqDiff, Option.map_some, Option.some.injEq, true_and, or_true, exists_eq_left', if_true, if_false, resF, resAll, resOne, EndW]
    exact ⟨⟨_, by simp only [catL, List.flatMap_cons, List.flatMap_nil, List.append_nil]; rfl⟩, hT⟩
theorem OutSt.grows {st st' : Store} {o : List Int} {p : PV} (h : OutSt st o p) (g : Grows st st') : OutSt st' o p := by
  rcases h with h | ⟨i, h1, h2⟩
  · exact .inl h
  · exact .inr ⟨i, h1, g.get h2⟩
def In64L (l : List Int) : Prop := ∀ n ∈ l, -9223372036854775808 ≤ n ∧ n ≤ 9223372036854775807
theorem kmap_len {α : Type} (f : α → List UInt8) (g : α → PV) (l : List α) : (kmap f g l).length = l.length := by simp [kmap]
set_option maxHeartbeats 16000000 in
theorem match_tail (id m : Nat) (d : Coll) (cls : List Span × Bool) (hcl : cls.1.length < 4611686018427387904) (text : List Int) (b : Bool) (htl : text.length ≤ 1000000000) (h64 : In64L text) (hne : 0 < d.ents.length) (k : Nat) (hk0 : 0 < k) (hk : k ≤ text.length) (fr : Fr) (st : Store) (f0 : fr 0 = .optr id 7 0) (f1 : fr 1 = .sl 1 (ints text) (tk b))
    (f7 : fr 7 = .int .i64 k) (hT : Tab st id m d cls) :
    W EE 114 (part [true, true, true, true] (code Go.Proofs.Tryz.f74)) fr st (EndW EE [.tmp 4, .tmp 5, .tmp 6] (MatchQ id m d cls (scanM d cls.1 (text.take k) [] 0 (text.drop k)).1 (scanM d cls.1 (text.take k) [] 0 (text.drop k)).2 true)) := by
  have e1 : part [true, true, true, true] (code Go.Proofs.Tryz.f74) = part [true, true, true, true] (code Go.Proofs.Tryz.f74) := rfl
  conv at e1 => rhs; simp only [part, code, Go.Proofs.Tryz.f74, Option.getD_some]
  rw [e1]
  clear e1
  have e1 : part [true, true, true, true, true, true, true, true, true] (code Go.Proofs.Tryz.f74) = part [true, true, true, true, true, true, true, true, true] (code Go.Proofs.Tryz.f74) := rfl
  conv at e1 => rhs; simp only [part, code, Go.Proofs.Tryz.f74, Option.getD_some]
  rw [← e1]
  clear e1
  have hL : LIM = 4294967296 := rfl
  generalize hres : scanM d cls.1 (text.take k) [] 0 (text.drop k) = res
  have kl : k ≤ (ints text).length := by rw [ints_length]; exact hk
  simp only [W_region, W_seq, W_block, OpsW_nil, OpsW_op, upd_some, opF, evalT, evalO, ofConst, idxN_nat, Nat.reduceEqDiff, Option.map_some, Option.map_none, and_self, if_true, if_false, decide_true, ne_eq, not_true_eq_false, Option.isSome_some, List.drop_zero, T3, T37, f1, f7, sliceF, kl, Nat.le_refl, Nat.zero_le, ints_take]
  refine W_loop (fun n fr st => ∃ (i : Nat) (codes left : List Int) (g : Int), fr 0 = .optr id 7 0 ∧ fr 1 = .sl 1 (ints text) (tk b) ∧ fr 10 = .sl 1 (ints codes) .full ∧ OutSt st left (fr 11) ∧ fr 12 = .int .i64 g ∧ fr 13 = .int .i64 i ∧ Tab st id m d cls ∧ i ≤ text.length ∧ codes.length + left.length ≤ i ∧ In64L codes ∧
      scanM d cls.1 codes left g (text.drop i) = res ∧ n = text.length - i) ?_ (text.length - k) _ _
    ⟨k, text.take k, [], 0, by simp [upd, f0], by simp [upd, f1], by simp [upd], .inl ⟨rfl, by simp [upd]⟩, by simp [upd], by simp [upd], hT, hk, by simp; omega, fun n hn => h64 n (List.mem_of_mem_take hn), hres, rfl⟩
  clear f0 f1 f7 hT hres
  rintro n fr st ⟨i, codes, left, g, f0, f1, f10, hout, f12, f13, hT, hi, hcl2, hc64, hsc, rfl⟩
  by_cases ci : (i : Int) < (text.length : Int)
  · have ia : i < text.length := by omega
    have ga := ints_get text i ia
    have hw : IntKind.i64.wrap ((i : Int) + 1) = ((i + 1 : Nat) : Int) := by rw [wrap_small (by omega) (by omega)]; rfl
    have htab := hT.tab
    have hents := hT.ents
    rw [List.drop_eq_getElem_cons ia, scanM] at hsc
    simp only [W_region, W_seq, W_cond, W_block, OpsW_nil, OpsW_op, OpsW_guard, upd_some, Br_O1, opF, evalT, evalO, ofConst, binF, intF, idxN_nat, reduceCtorEq, Nat.reduceEqDiff, Nat.reduceAdd, Option.map_some, Option.bind_some, List.getElem?_toArray, List.getElem?_cons_zero, List.getElem?_cons_succ, Nat.succ_ne_zero, true_and, exists_and_left, if_true, if_false, decide_true, Bool.false_eq_true, beq_self_eq_true, List.length_cons, List.length_nil, callB, List.zip_cons_cons, List.zip_nil_right, List.map_cons, List.map_nil, List.size_toArray, partF, TI.agg, scal, isAgg, cellsOf, List.all_cons, List.all_nil, Bool.and_true, Nat.reduceLeDiff, Nat.lt_add_one, range1, List.take_zero, List.drop_zero, List.drop_succ_cons, List.take_succ_cons, hmE, Nat.reduceBEq, W_regionD, xrE, T3, T30, T37, T101, f0, f1, f13, ints_length, ci, ga, htab]
    refine OpsW_pl (starter_plain cls.1 (tk cls.2) (stripT_tk _) text[i] hcl) rfl rfl (by simp only [upd_some, evalT, evalO, ofConst, Nat.reduceEqDiff, if_true, if_false, List.zip_cons_cons, List.zip_nil_right, List.map_cons, List.map_nil, callArgs, strips, strip_sl, strip_int, stripT_tk] <;> rfl) ?_
    by_cases c0 : classL cls.1 text[i] = 0
    · have c0' : (classL cls.1 text[i] == 0) = true := by simp [c0]
      rw [if_pos c0] at hsc
      simp only [W_exit, OpsW_nil, OpsW_op, OpsW_guard, upd_some, Br_W2, Br_O1, opF, evalO, ofConst, unF, Nat.reduceEqDiff, Option.map_some, Option.bind_some, List.getElem?_toArray, List.getElem?_cons_zero, List.getElem?_cons_succ, if_true, if_false, beq_self_eq_true, Bool.not_true, c0']
      have e : left ++ text[i] :: text.drop (i + 1) = left ++ text.drop i := by rw [List.drop_eq_getElem_cons ia]
      rw [e] at hsc
      rw [← hsc]
      exact match_end id m d cls text codes left b i hi (by omega) (by omega) _ _ (by simp [upd, f1]) (by simp [upd, f10]) (by simpa [upd] using hout) (by simp [upd, f13]) hT
    · have c0' : (classL cls.1 text[i] == 0) = false := by simp [c0]
      rw [if_neg c0] at hsc
      simp only [W_skip, OpsW_nil, OpsW_op, OpsW_guard, upd_some, Br_W1, Br_O1, opF, evalO, ofConst, unF, idxN_nat, reduceCtorEq, Nat.reduceEqDiff, Nat.reduceAdd, Option.map_some, Option.bind_some, List.getElem?_toArray, List.getElem?_cons_zero, List.getElem?_cons_succ, if_true, if_false, Bool.false_eq_true, beq_self_eq_true, Bool.not_false, List.length_cons, List.length_nil, Nat.reduceLeDiff, List.take_zero, List.drop_zero, List.drop_succ_cons, List.take_succ_cons, T3, c0', f0, f1, f13, ga, htab]
      refine OpsW_pl (class_plain cls.1 (tk cls.2) (stripT_tk _) text[i] hcl) rfl rfl (by simp only [upd_some, evalT, evalO, ofConst, Nat.reduceEqDiff, if_true, if_false, List.zip_cons_cons, List.zip_nil_right, List.map_cons, List.map_nil, callArgs, strips, strip_sl, strip_int, stripT_tk] <;> rfl) ?_
      generalize hcc : classL cls.1 text[i] = cc at *
      have hmx : (if cc > g then cc else g) = (if cc > g then cc else g) := rfl
      by_cases cg : cc > g
      · obtain ⟨hfp, hTf⟩ := full_push st codes text[i] (by omega) hT
        have hl0 : ((kmap entKey entP d.ents).length : Int) > 0 := by rw [kmap_len]; omega
        have hm2 := hTf.ents
        have ht2 := hTf.tab
        simp only [W_region, W_seq, W_cond, OpsW_nil, OpsW_op, upd_some, Br_W1, opF, evalT, evalO, ofConst, binF, intF, idxN_nat, reduceCtorEq, Nat.reduceEqDiff, Nat.reduceAdd, Option.map_some, List.getElem?_cons_zero, List.getElem?_cons_succ, Nat.succ_ne_zero, and_self, if_true, if_false, decide_true, Bool.false_eq_true, beq_self_eq_true, List.length_cons, List.length_nil, callB, List.zip_cons_cons, List.zip_nil_right, List.map_cons, List.map_nil, List.size_toArray, partF, TI.agg, scal, isAgg, cellsOf, tokRo, cellOk, List.all_cons, List.all_nil, Bool.or_false, Bool.and_self, Nat.reduceLeDiff, Nat.lt_add_one, range1, List.take_zero, List.drop_zero, List.drop_succ_cons, List.take_succ_cons, hmE, Nat.reduceBEq, T3, T37, T99, T101, f0, f1, f10, f12, f13, ga, cg, hfp, ht2, hm2, hl0]
        refine OpsW_sp (tfind_S hTf (codes ++ [text[i]]) _ ⟨by simp; omega, fun n hn => ?_⟩) (by simp only [evalO] <;> rfl) rfl rfl (by simp only [upd_some, evalT, evalO, ofConst, Nat.reduceEqDiff, if_true, if_false, List.zip_cons_cons, List.zip_nil_right, List.map_cons, List.map_nil, List.nil_append, List.cons_append, callArgs] <;> rfl) ?_
        · rcases List.mem_append.1 hn with q | q
          · exact hc64 n q
          · rw [List.mem_singleton] at q; rw [q]; exact h64 _ (List.getElem_mem ia)
        cases hfd : (fndC d (codes ++ [text[i]])).isSome with
        | true =>
          rw [if_pos ⟨cg, hfd⟩] at hsc
          simp only [W_region, W_seq, W_exit, OpsW_nil, OpsW_op, upd_some, Br_W1, opF, evalT, evalO, Nat.reduceEqDiff, Option.map_some, List.getElem?_cons_zero, List.getElem?_cons_succ, if_true, if_false]
          refine OpsW_pl (clip_plain (codes ++ [text[i]]) _) rfl rfl (by simp only [upd_some, evalT, evalO, ofConst, Nat.reduceEqDiff, Option.some.injEq, if_true, if_false, List.zip_cons_cons, List.zip_nil_right, List.map_cons, List.map_nil, callArgs, strips, strip_sl, stripT] <;> rfl) ?_
          simp only [OpsW_nil, OpsW_op, upd_some, opF, evalT, evalO, reduceCtorEq, Nat.reduceEqDiff, Option.map_some, true_and, if_true, if_false, f0, f1, f10, f12, f13, hw]
          exact ⟨text.length - (i + 1), by omega, i + 1, codes ++ [text[i]], rfl, left, hout.grows ⟨_, rfl⟩, g, rfl, rfl, hTf, by omega, by simp; omega, fun n hn => by
            rcases List.mem_append.1 hn with q | q
            · exact hc64 n q
            · rw [List.mem_singleton] at q; rw [q]; exact h64 _ (List.getElem_mem ia), hsc, rfl⟩
        | false =>
          rw [if_neg (by rw [hfd]; simp), if_pos cg] at hsc
          have hout' : OutSt (st ++ [.tok (codes.length + 1) 3 1]) left (fr 11) := hout.grows ⟨_, rfl⟩
          obtain ⟨t2, st2, hap, hout2, hT2⟩ := out_push hout' text[i] (by omega) hTf
          rcases hout' with ⟨rfl, f11⟩ | ⟨j, f11, hst⟩
          · rw [f11] at hap
            simp only [W_skip, OpsW_nil, OpsW_op, upd_some, Br_W2, opF, evalT, evalO, idxN_nat, reduceCtorEq, Nat.reduceEqDiff, Nat.reduceAdd, Option.map_some, List.getElem?_cons_zero, List.getElem?_cons_succ, true_and, if_true, if_false, Bool.false_eq_true, beq_self_eq_true, List.length_cons, List.length_nil, List.map_cons, List.map_nil, tokRo, cellOk, List.all_cons, List.all_nil, Bool.or_false, Bool.and_self, Nat.reduceLeDiff, List.take_zero, List.take_succ_cons, List.nil_append, T3, f0, f1, f11, f12, f13, ga, hap, hw, cg]
            exact ⟨text.length - (i + 1), by omega, i + 1, codes, f10, _, hout2, _, rfl, rfl, hT2, by omega, by simp; omega, hc64, hsc, rfl⟩
          · rw [f11] at hap
            simp only [W_skip, OpsW_nil, OpsW_op, upd_some, Br_W2, opF, evalT, evalO, idxN_nat, reduceCtorEq, Nat.reduceEqDiff, Nat.reduceAdd, Option.map_some, List.getElem?_cons_zero, List.getElem?_cons_succ, true_and, if_true, if_false, Bool.false_eq_true, beq_self_eq_true, List.length_cons, List.length_nil, List.map_cons, List.map_nil, tokRo, cellOk, List.all_cons, List.all_nil, Bool.or_false, Bool.and_self, Nat.reduceLeDiff, List.take_zero, List.take_succ_cons, T3, f0, f1, f11, f12, f13, ga, hap, hw, cg]
            exact ⟨text.length - (i + 1), by omega, i + 1, codes, f10, _, hout2, _, rfl, rfl, hT2, by omega, by simp; omega, hc64, hsc, rfl⟩
      · rw [if_neg (by intro q; exact cg q.1), if_neg cg] at hsc
        obtain ⟨t2, st2, hap, hout2, hT2⟩ := out_push hout text[i] (by omega) hT
        rcases hout with ⟨rfl, f11⟩ | ⟨j, f11, hst⟩
        · rw [f11] at hap
          simp only [W_skip, OpsW_nil, OpsW_op, upd_some, Br_W2, opF, evalT, evalO, idxN_nat, reduceCtorEq, Nat.reduceEqDiff, Nat.reduceAdd, Option.map_some, List.getElem?_cons_zero, true_and, if_true, if_false, decide_false, Bool.false_eq_true, beq_self_eq_true, List.length_cons, List.length_nil, List.map_cons, List.map_nil, tokRo, cellOk, List.all_cons, List.all_nil, Bool.or_false, Bool.and_self, Nat.reduceLeDiff, List.take_zero, List.take_succ_cons, List.nil_append, T3, f0, f1, f11, f12, f13, ga, hap, hw, cg]
          exact ⟨text.length - (i + 1), by omega, i + 1, codes, f10, _, hout2, _, rfl, rfl, hT2, by omega, by simp; omega, hc64, hsc, rfl⟩
        · rw [f11] at hap
          simp only [W_skip, OpsW_nil, OpsW_op, upd_some, Br_W2, opF, evalT, evalO, idxN_nat, reduceCtorEq, Nat.reduceEqDiff, Nat.reduceAdd, Option.map_some, List.getElem?_cons_zero, true_and, if_true, if_false, decide_false, Bool.false_eq_true, beq_self_eq_true, List.length_cons, List.length_nil, List.map_cons, List.map_nil, tokRo, cellOk, List.all_cons, List.all_nil, Bool.or_false, Bool.and_self, Nat.reduceLeDiff, List.take_zero, List.take_succ_cons, T3, f0, f1, f11, f12, f13, ga, hap, hw, cg]
          exact ⟨text.length - (i + 1), by omega, i + 1, codes, f10, _, hout2, _, rfl, rfl, hT2, by omega, by simp; omega, hc64, hsc, rfl⟩
  · have hnil : text.drop i = [] := List.drop_eq_nil_of_le (by omega)
    rw [hnil, scanM] at hsc
    have := match_end id m d cls text codes left b i hi (by omega) (by omega)
    rw [hnil, List.append_nil] at this
    rw [← hsc]
    simp only [W_region, W_seq, W_cond, W_block, W_exit, OpsW_nil, OpsW_op, OpsW_guard, upd_some, Br_W2, Br_O2, opF, evalT, evalO, ofConst, binF, intF, reduceCtorEq, Nat.reduceEqDiff, Nat.reduceAdd, Option.map_some, Option.bind_some, List.getElem?_toArray, List.getElem?_cons_zero, List.getElem?_cons_succ, Nat.succ_ne_zero, true_and, exists_and_left, if_true, if_false, decide_false, Bool.false_eq_true, Bool.false_beq, Bool.not_true, List.length_cons, List.length_nil, callB, List.zip_cons_cons, List.zip_nil_right, List.map_cons, List.map_nil, List.size_toArray, partF, TI.agg, scal, isAgg, cellsOf, List.all_cons, List.all_nil, Bool.and_true, Nat.reduceLeDiff, Nat.lt_add_one, range1, List.drop_zero, hmE, Nat.reduceBEq, W_regionD, xrE, T3, T30, T37, T101, f1, f13, ints_length, ci]
    exact this _ _ (by simp [upd, f1]) (by simp [upd, f10]) (by simpa [upd] using hout) (by simp [upd, f13]) hT
theorem longK_le (d : Coll) (text : List Int) : ∀ k, longK d text k ≤ k
  | 0 => Nat.le_refl _
  | k + 1 => by
    unfold longK
    split
    · exact Nat.le_refl _
    · exact Nat.le_succ_of_le (longK_le d text k)
theorem longK_pos {d : Coll} {text : List Int} : ∀ {k : Nat}, longK d text k ≠ 0 → 0 < d.ents.length
  | 0, h => absurd rfl h
  | k + 1, h => by
    unfold longK at h
    split at h
    · rename_i hf
      cases he : d.ents with
      | nil => unfold fndC at hf; rw [he] at hf; cases hf
      | cons _ _ => simp
    · exact longK_pos h
set_option maxHeartbeats 16000000 in
theorem match_spec (id m : Nat) (d : Coll) (cls : List Span × Bool) (hcl : cls.1.length < 4611686018427387904) (text : List Int) (b : Bool) (htl : text.length ≤ 1000000000) (h64 : In64L text) (hne : text ≠ []) (st : Store) (hT : Tab st id m d cls) :
    SpecQ EE 74 [.optr id 7 0, .sl 1 (ints text) (tk b)] st fun r st' => ∃ t1 bl, r = .tup [.sl 1 (ints (matchM d cls.1 text).1.1) t1, .sl 1 (ints (matchM d cls.1 text).1.2) (tk bl), .bool (matchM d cls.1 text).2] ∧ Tab st' id m d cls := by
  refine specQ_of_W ok ok74 (by simp) (by kernel_rfl) ?_
  unfold BodyW
  have e0 : code Go.Proofs.Tryz.f74 = code Go.Proofs.Tryz.f74 := rfl
  conv at e0 => rhs; simp only [code, Go.Proofs.Tryz.f74, Option.getD_some]
  rw [e0]
  clear e0
  have e1 : part [true, true, true, true] (code Go.Proofs.Tryz.f74) = part [true, true, true, true] (code Go.Proofs.Tryz.f74) := rfl
  conv at e1 => rhs; simp only [part, code, Go.Proofs.Tryz.f74, Option.getD_some]
  rw [← e1]
  clear e1
  have hlp : 0 < text.length := List.length_pos_iff.2 hne
  have hmin : (if (8 : Int) < (text.length : Int) then 8 else (text.length : Int)) = ((min text.length 8 : Nat) : Int) := by split <;> omega
  simp only [W_region, W_seq, W_cond, W_block, OpsW_nil, OpsW_op, upd_some, opF, evalT, evalO, ofConst, argFr, binF, intF, reduceCtorEq, Nat.reduceEqDiff, Nat.reduceAdd, Option.getD_some, List.getElem?_cons_zero, List.getElem?_cons_succ, or_false, if_true, if_false, List.length_cons, List.length_nil, callB, List.zip_cons_cons, List.zip_nil_right, List.map_cons, List.map_nil, List.size_toArray, hmE, T3, T37, ints_length, hmin]
  refine W_loop (fun n fr s => ∃ k : Nat, fr 0 = .optr id 7 0 ∧ fr 1 = .sl 1 (ints text) (tk b) ∧ fr 7 = .int .i64 k ∧ s = st ∧ k ≤ text.length ∧ longK d text k = k0M d text ∧ n = k + 1) ?_ (min text.length 8 + 1) _ _
    ⟨min text.length 8, by simp [upd, argFr], by simp [upd, argFr], by simp [upd], rfl, by omega, rfl, rfl⟩
  rintro n fr s ⟨k, f0, f1, f7, rfl, hk, hlk, rfl⟩
  have after : ∀ (fr : Fr), fr 0 = .optr id 7 0 → fr 1 = .sl 1 (ints text) (tk b) → fr 7 = .int .i64 k → 0 < k → k = k0M d text → W EE 114 (part [true, true, true, true] (code Go.Proofs.Tryz.f74)) fr s (EndW EE [.tmp 4, .tmp 5, .tmp 6] (MatchQ id m d cls (matchM d cls.1 text).1.1 (matchM d cls.1 text).1.2 (matchM d cls.1 text).2)) := by
    intro fr f0 f1 f7 hk0 hkk
    have hpos : 0 < d.ents.length := longK_pos (k := k) (by rw [hlk, ← hkk]; omega)
    have e : matchM d cls.1 text = (scanM d cls.1 (text.take k) [] 0 (text.drop k), true) := by rw [matchM, ← hkk, if_neg (by omega)]
    rw [e]
    exact match_tail id m d cls hcl text b htl h64 hpos k hk0 hk fr s f0 f1 f7 hT
  by_cases ck : (k : Int) > 0
  · obtain ⟨j, rfl⟩ : ∃ j, k = j + 1 := ⟨k - 1, by omega⟩
    have kl : j + 1 ≤ text.length := hk
    have hwj : IntKind.i64.wrap (((j + 1 : Nat) : Int) - 1) = ((j : Nat) : Int) := by rw [wrap_small (by omega) (by omega)]; omega
    have hkey : Keyed (text.take (j + 1)) := ⟨by rw [List.length_take]; omega, fun n hn => h64 n (List.mem_of_mem_take hn)⟩
    simp only [W_skip, W_region, W_seq, W_cond, W_block, OpsW_nil, OpsW_op, upd_some, Br_W1, opF, evalT, evalO, ofConst, binF, intF, idxN_nat, reduceCtorEq, Nat.reduceEqDiff, Option.map_some, Option.map_none, and_self, exists_and_left, if_true, if_false, decide_true, Bool.false_eq_true, ne_eq, not_true_eq_false, List.drop_zero, T3, T37, f0, f1, f7, ck, sliceF, ints_length, kl, Nat.zero_le, ints_take]
    refine OpsW_sp (tfind_S hT (text.take (j + 1)) _ hkey) (by simp only [evalO] <;> rfl) rfl rfl (by simp only [upd_some, evalT, evalO, ofConst, Nat.reduceEqDiff, if_true, if_false, List.zip_cons_cons, List.zip_nil_right, List.map_cons, List.map_nil, List.nil_append, List.cons_append, callArgs] <;> rfl) ?_
    rw [longK] at hlk
    cases hfd : (fndC d (text.take (j + 1))).isSome with
    | true =>
      rw [if_pos hfd] at hlk
      have c0 : (((j + 1 : Nat) : Int) == 0) = false := by simp; omega
      simp only [W_skip, W_exit, OpsW_nil, OpsW_op, upd_some, Br_W1, Br_W2, opF, evalT, evalO, reduceCtorEq, Nat.reduceEqDiff, Option.map_some, List.getElem?_cons_zero, List.getElem?_cons_succ, true_and, if_true, if_false, f0, f1, f7, c0]
      refine W.mono _ _ _ (fun e fr' st' q => ?_) _ _ (after _ (by simp [upd, f0]) (by simp [upd, f1]) (by simp [upd, f7]) (by omega) hlk)
      obtain ⟨q0, v, q1, ⟨bl, q2⟩, q3⟩ := q
      rcases q0 with rfl | rfl
      · exact ⟨.inl rfl, v, q1, _, bl, q2, q3⟩
      · exact ⟨.inr rfl, v, q1, _, bl, q2, q3⟩
    | false =>
      rw [if_neg (by rw [hfd]; simp)] at hlk
      simp only [W_skip, OpsW_nil, OpsW_op, upd_some, Br_W2, opF, evalT, evalO, reduceCtorEq, Nat.reduceEqDiff, Option.map_some, List.getElem?_cons_zero, List.getElem?_cons_succ, true_and, if_true, if_false, f0, f1, f7, hwj]
      exact ⟨j + 1, by omega, j, rfl, by omega, hlk, rfl⟩
  · have hk0 : k = 0 := by omega
    subst hk0
    have hm : matchM d cls.1 text = ((text.take 1, text.drop 1), false) := by rw [matchM, ← hlk]; rfl
    have c0 : (((0 : Nat) : Int) == 0) = true := rfl
    have l1 : 1 ≤ text.length := hlp
    have hx1 : idxN (.int .i64 1) = some 1 := rfl
    have htk : List.take text.length (ints text) = ints text := by rw [ints_take, List.take_length]
    rw [hm]
    cases b with
    | false =>
      have f1 : fr 1 = .sl 1 (ints text) .ro := f1
      simp only [W_region, W_seq, W_cond, W_block, W_exit, W_ret, OpsW_nil, OpsW_op, upd_some, Br_W1, Br_W2, opF, evalT, evalO, ofConst, binF, intF, reduceCtorEq, Nat.reduceEqDiff, Nat.reduceAdd, Option.map_some, Option.map_none, Option.some.injEq, and_self, true_and, or_true, exists_eq_left', exists_and_left, if_true, if_false, decide_true, decide_false, Bool.false_eq_true, ne_eq, not_true_eq_false, Option.isSome_some, List.drop_zero, W_regionD, xrE, T3, T37, f1, f7, ck, c0, hx1, sliceF, ints_length, l1, Nat.le_refl, Nat.zero_le, ints_take, ints_drop, htk, resF, resAll, resOne]
      exact ⟨_, false, rfl, hT⟩
    | true =>
      have f1 : fr 1 = .sl 1 (ints text) .full := f1
      simp only [W_region, W_seq, W_cond, W_block, W_exit, W_ret, OpsW_nil, OpsW_op, upd_some, Br_W1, Br_W2, opF, evalT, evalO, ofConst, binF, intF, reduceCtorEq, Nat.reduceEqDiff, Nat.reduceAdd, Option.map_some, Option.map_none, Option.some.injEq, and_self, true_and, or_true, exists_eq_left', exists_and_left, if_true, if_false, decide_true, decide_false, Bool.false_eq_true, ne_eq, not_true_eq_false, Option.isSome_some, List.drop_zero, W_regionD, xrE, T3, T37, f1, f7, ck, c0, hx1, sliceF, ints_length, l1, Nat.le_refl, Nat.zero_le, ints_take, ints_drop, htk, resF, resAll, resOne]
      exact ⟨_, true, rfl, hT⟩
end Go.Pv.Ct
end
section
namespace Go.Pv.Ct
open Go.Pv Go.Proofs
set_option maxRecDepth 20000

theorem scan_in (d : Coll) (cls : List Span) : ∀ (rest codes left : List Int) (g : Int), (∀ n ∈ (scanM d cls codes left g rest).1, n ∈ codes ∨ n ∈ rest) ∧ (scanM d cls codes left g rest).1.length + (scanM d cls codes left g rest).2.length = codes.length + left.length + rest.length
  | [], codes, left, g => ⟨fun n hn => .inl hn, by simp [scanM]⟩
  | c :: rest, codes, left, g => by
    unfold scanM
    split
    · exact ⟨fun n hn => .inl hn, by simp; omega⟩
    · split
      · obtain ⟨h1, h2⟩ := scan_in d cls rest (codes ++ [c]) left g
        refine ⟨fun n hn => ?_, by rw [h2]; simp; omega⟩
        rcases h1 n hn with q | q
        · rcases List.mem_append.1 q with q | q
          · exact .inl q
          · rw [List.mem_singleton] at q; exact .inr (by simp [q])
        · exact .inr (by simp [q])
      · obtain ⟨h1, h2⟩ := scan_in d cls rest codes (left ++ [c]) (if classL cls c > g then classL cls c else g)
        refine ⟨fun n hn => ?_, by rw [h2]; simp; omega⟩
        rcases h1 n hn with q | q
        · exact .inl q
        · exact .inr (by simp [q])
theorem k0_le (d : Coll) (text : List Int) : k0M d text ≤ text.length := Nat.le_trans (longK_le d text _) (Nat.min_le_left _ _)
theorem match_in (d : Coll) (cls : List Span) (text : List Int) (hne : text ≠ []) : (∀ n ∈ (matchM d cls text).1.1, n ∈ text) ∧ (matchM d cls text).1.1.length + (matchM d cls text).1.2.length = text.length := by
  unfold matchM
  split
  · refine ⟨fun n hn => List.mem_of_mem_take hn, ?_⟩
    have : 0 < text.length := List.length_pos_iff.2 hne
    simp; omega
  · obtain ⟨h1, h2⟩ := scan_in d cls (text.drop (k0M d text)) (text.take (k0M d text)) [] 0
    refine ⟨fun n hn => ?_, ?_⟩
    · rcases h1 n hn with q | q
      · exact List.mem_of_mem_take q
      · exact List.mem_of_mem_drop q
    · have := k0_le d text
      simp only
      rw [h2]; simp; omega
/-- What a step is: how many, what is left, the elements, and whether the part is an entry. -/
structure StepR where
  k : Int
  left : List Int
  els : List Elem
  ok : Bool
def stepM1 (d : Coll) (cls : List Span) (text : List Int) : StepR :=
  ⟨if (matchM d cls text).2 then ((matchM d cls text).1.1.length : Int) else 1, (matchM d cls text).1.2, if (matchM d cls text).2 then (fndR d (matchM d cls text).1.1).1 else implL d (text.headD 0), (matchM d cls text).2⟩
set_option maxHeartbeats 8000000 in
theorem step_spec (id m : Nat) (d : Coll) (cls : List Span × Bool) (hb : 1 ≤ d.base ∧ d.base ≤ 65502) (hcl : cls.1.length < 4611686018427387904) (text : List Int) (b : Bool) (htl : text.length ≤ 1000000000) (h64 : In64L text) (hne : text ≠ []) (st : Store) (hT : Tab st id m d cls) :
    SpecQ EE 42 [.optr id 7 0, .sl 1 (ints text) (tk b)] st fun r st' => (∃ bl be, r = .tup [.int .i64 (stepM1 d cls.1 text).k, .sl 1 (ints (stepM1 d cls.1 text).left) (tk bl), .sl 4 (elR (stepM1 d cls.1 text).els) (tk be), .bool (stepM1 d cls.1 text).ok]) ∧ Tab st' id m d cls := by
  refine specQ_of_W ok ok42 (by simp) (by kernel_rfl) ?_
  unfold BodyW
  have e0 : code Go.Proofs.Tryz.f42 = code Go.Proofs.Tryz.f42 := rfl
  conv at e0 => rhs; simp only [code, Go.Proofs.Tryz.f42, Option.getD_some]
  rw [e0]
  clear e0
  obtain ⟨r1, st1, hs1, t1, bl, rfl, hT1⟩ := match_spec id m d cls hcl text b htl h64 hne st hT
  obtain ⟨mi1, mi2⟩ := match_in d cls.1 text hne
  simp only [W_region, W_seq, W_cond, W_ret, OpsW_nil, OpsW_op, upd_some, opF, evalT, evalO, ofConst, argFr, unF, reduceCtorEq, Nat.reduceEqDiff, Nat.reduceAdd, Option.getD_some, List.getElem?_cons_zero, List.getElem?_cons_succ, true_and, or_true, if_true, if_false, List.length_cons, List.length_nil, callB, List.zip_cons_cons, List.zip_nil_right, List.map_cons, List.map_nil, List.size_toArray, T3, T37, T41, T68]
  refine OpsW_sp hs1 (by simp only [evalO] <;> rfl) rfl rfl (by simp only [upd_some, evalT, evalO, ofConst, argFr, Nat.reduceEqDiff, Option.getD_none, List.getElem?_cons_succ, List.getElem?_nil, if_true, if_false, List.zip_cons_cons, List.zip_nil_right, List.map_cons, List.map_nil, List.nil_append, List.cons_append, callArgs] <;> rfl) ?_
  cases hok : (matchM d cls.1 text).2 with
  | false =>
    have hc : (matchM d cls.1 text).1.1 = text.take 1 := by
      unfold matchM at hok ⊢
      split
      · rfl
      · rename_i h; rw [if_neg h] at hok; cases hok
    obtain ⟨x, xs, rfl⟩ : ∃ x xs, text = x :: xs := by
      cases text with
      | nil => exact absurd rfl hne
      | cons x xs => exact ⟨x, xs, rfl⟩
    have hg : (ints (matchM d cls.1 (x :: xs)).1.1)[0]? = some [.int .i64 x] := by rw [hc]; rfl
    have hx0 : idxN (.int .i64 0) = some 0 := rfl
    obtain ⟨r2, st2, hs2, rfl, rfl⟩ := timpl_spec hT1 x hb
    simp only [W_region, W_seq, W_ret, OpsW_nil, OpsW_op, upd_some, Br_W1, opF, evalT, evalO, ofConst, argFr, reduceCtorEq, Nat.reduceEqDiff, Nat.reduceAdd, Option.getD_some, Option.getD_none, Option.map_some, List.getElem?_cons_zero, List.getElem?_cons_succ, List.getElem?_nil, true_and, or_true, if_true, if_false, Bool.false_eq_true, Bool.not_false, List.length_cons, List.length_nil, partF, TI.agg, Nat.reduceLeDiff, List.take_zero, List.drop_zero, List.take_succ_cons, T3, T37, hx0, hg]
    refine OpsW_sp hs2 (by simp only [evalO] <;> rfl) rfl rfl (by simp only [upd_some, evalT, evalO, ofConst, argFr, Nat.reduceEqDiff, Option.getD_none, List.getElem?_cons_succ, List.getElem?_nil, if_true, if_false, List.zip_cons_cons, List.zip_nil_right, List.map_cons, List.map_nil, List.nil_append, List.cons_append, callArgs] <;> rfl) ?_
    simp only [OpsW_nil, OpsW_op, upd_some, opF, evalT, evalO, ofConst, argFr, Nat.reduceEqDiff, Option.getD_none, Option.map_some, Option.some.injEq, List.getElem?_cons_succ, List.getElem?_nil, exists_eq_left', if_true, if_false, Bool.false_eq_true, List.headD_cons, stepM1, hok, implP, resF, resAll, resOne]
    exact ⟨⟨bl, true, rfl⟩, hT1⟩
  | true =>
    have hk : Keyed (matchM d cls.1 text).1.1 := ⟨by omega, fun n hn => h64 n (mi1 n hn)⟩
    obtain ⟨be, hbe⟩ := fndP_sl d (matchM d cls.1 text).1.1
    have hs2 := tfind_S hT1 (matchM d cls.1 text).1.1 t1 hk
    rw [hbe] at hs2
    simp only [W_skip, OpsW_nil, OpsW_op, upd_some, Br_W2, opF, evalT, evalO, argFr, reduceCtorEq, Nat.reduceEqDiff, Option.getD_some, Option.getD_none, Option.map_some, List.getElem?_cons_zero, List.getElem?_cons_succ, List.getElem?_nil, if_true, if_false, Bool.not_true]
    refine OpsW_sp hs2 (by simp only [evalO] <;> rfl) rfl rfl (by simp only [upd_some, evalT, evalO, ofConst, argFr, Nat.reduceEqDiff, Option.getD_none, List.getElem?_cons_succ, List.getElem?_nil, if_true, if_false, List.zip_cons_cons, List.zip_nil_right, List.map_cons, List.map_nil, List.nil_append, List.cons_append, callArgs] <;> rfl) ?_
    simp only [OpsW_nil, OpsW_op, upd_some, opF, evalT, evalO, argFr, Nat.reduceEqDiff, Option.getD_none, Option.map_some, Option.some.injEq, List.getElem?_cons_zero, List.getElem?_cons_succ, List.getElem?_nil, exists_eq_left', if_true, if_false, stepM1, hok, ints_length, resF, resAll, resOne]
    exact ⟨⟨bl, be, rfl⟩, hT1⟩
theorem append_ints0 (l : List Int) (hl : l.length ≤ LIM) (st : Store) : ∃ t st', appendF EE st 3 (.sl 1 [] .full) (ints l) 1 = some (.sl 1 (ints l) t, st') ∧ stripT t = tk l.isEmpty := by
  by_cases h : l = []
  · subst h
    exact ⟨.full, st, by simp [appendF, T3, ints], rfl⟩
  · refine ⟨.own st.length, st ++ [.tok l.length 3 1], ?_, ?_⟩
    · have : ¬ ints l = [] := by simpa [ints] using h
      simp [appendF, T3, ints_length, this, hl]
    · have : l.isEmpty = false := by simpa using h
      rw [this]; rfl
theorem cloneI_plain (l : List Int) (t : Tok) (hl : l.length ≤ LIM) : Plain EE 43 [.sl 1 (ints l) t] (.sl 1 (ints l) (tk l.isEmpty)) := by
  refine plain_of_W ok ok43 (by simp) ?_
  unfold BodyW
  have e0 : code Go.Proofs.Tryz.f43 = code Go.Proofs.Tryz.f43 := rfl
  conv at e0 => rhs; simp only [code, Go.Proofs.Tryz.f43, Option.getD_some]
  rw [e0]
  clear e0
  simp only [W_skip, W_region, W_seq, W_cond, W_ret, OpsW_nil, OpsW_op, upd_some, Br_W1, Br_W2, opF, evalT, evalO, ofConst, argFr, reduceCtorEq, Nat.reduceEqDiff, Nat.reduceAdd, Option.getD_some, List.getElem?_cons_zero, and_self, true_and, or_true, if_true, if_false, Bool.false_eq_true, ne_eq, List.length_cons, List.length_nil, callB, List.zip_cons_cons, List.zip_nil_right, List.map_cons, List.map_nil, List.size_toArray, scal, isAgg, cellsOf, List.all_nil, Nat.reduceLeDiff, Nat.lt_add_one, List.range_zero, hmE, Nat.reduceBEq, OpsW_eqnil, NilW_sl, T3, T37]
  obtain ⟨tt, st', ha, ht⟩ := append_ints0 l hl []
  refine ⟨by simp [isSlice, T37], fun he => ⟨?_, ?_⟩, fun he => ?_⟩
  · have hl0 : l = [] := by simpa [ints] using he
    subst hl0
    simp only [upd_some, argFr, Nat.reduceEqDiff, Option.getD_none, Option.map_some, Option.some.injEq, List.getElem?_cons_succ, List.getElem?_nil, exists_eq_left', if_true, if_false, resF, resAll, resOne]
    exact ⟨1, by rw [pub_sl]; rfl⟩
  · simp only [upd_some, argFr, Nat.reduceEqDiff, Option.getD_none, Option.map_some, Option.some.injEq, List.getElem?_cons_succ, List.getElem?_nil, exists_eq_left', if_true, if_false, ha, resF, resAll, resOne]
    exact ⟨1, by rw [pub_sl, ht]⟩
  · simp only [upd_some, argFr, Nat.reduceEqDiff, Option.getD_none, Option.map_some, Option.some.injEq, List.getElem?_cons_succ, List.getElem?_nil, exists_eq_left', if_true, if_false, ha, resF, resAll, resOne]
    exact ⟨1, by rw [pub_sl, ht]⟩
/-- The classes that count, for data of normalization. -/
noncomputable def clsN (n : Nrm) : List Span × Bool := clsOf n (normErr n)
noncomputable def StepL (n : Nrm) (c : Coll) (text : List Int) : StepR := if text = [] then ⟨0, [], [], false⟩ else stepM1 (dataC c) (clsN n).1 text
theorem clsN_len {n : Nrm} (h : NFits n) : (clsN n).1.length < 4611686018427387904 := by
  unfold clsN clsOf
  split
  · exact h.cls
  · simp
theorem els_len {c : Coll} (he : ElsOk c) (cls : List Span) (text : List Int) : (stepM1 (dataC c) cls text).els.length ≤ LIM := by
  unfold stepM1
  simp only
  split
  · exact fnd_len (data_els he) _
  · unfold implL
    have : LIM = 4294967296 := rfl
    split <;> simp <;> omega
set_option maxHeartbeats 8000000 in
theorem Step_plain (n : Nrm) (c : Coll) (text : List Int) (b : Bool) (hn : NFits n) (hf : Fits c) (he : ElsOk c) (htl : text.length ≤ 1000000000) (h64 : In64L text) :
    Plain EE 17 [.agg n.cells, .agg c.cells, .sl 1 (ints text) (tk b)] (.tup [.int .i64 (StepL n c text).k, .sl 1 (ints (StepL n c text).left) (tk (StepL n c text).left.isEmpty), elP (StepL n c text).els]) := by
  refine plain_of_W ok ok17 (by simp) ?_
  unfold BodyW
  have e0 : code Go.Proofs.Tryz.f17 = code Go.Proofs.Tryz.f17 := rfl
  conv at e0 => rhs; simp only [code, Go.Proofs.Tryz.f17, Option.getD_some]
  rw [e0]
  clear e0
  have hL : LIM = 4294967296 := rfl
  by_cases h0 : text = []
  · subst h0
    have c0 : (((0 : Nat) : Int) == 0) = true := rfl
    have hi : ints [] = [] := rfl
    have hs : StepL n c [] = ⟨0, [], [], false⟩ := by rw [StepL, if_pos rfl]
    simp only [W_region, W_seq, W_cond, W_ret, OpsW_nil, OpsW_op, upd_some, Br_W1, opF, evalT, evalO, ofConst, argFr, binF, intF, reduceCtorEq, Nat.reduceEqDiff, Nat.reduceAdd, Option.getD_some, Option.getD_none, Option.map_some, Option.some.injEq, List.getElem?_cons_zero, List.getElem?_cons_succ, List.getElem?_nil, true_and, or_true, exists_eq_left', if_true, if_false, List.length_cons, List.length_nil, callB, List.zip_cons_cons, List.zip_nil_right, List.map_cons, List.map_nil, List.size_toArray, partF, TI.agg, scal, isAgg, cellsOf, Bool.or_true, List.drop_zero, List.nil_append, T3, T25, T36, T37, T41, T68, hi, c0, resF, resAll, resOne]
    exact ⟨2, by rw [hs]; rfl⟩
  · have hl0 : 0 < text.length := List.length_pos_iff.2 h0
    have c0 : ((text.length : Int) == 0) = false := by simp; omega
    have hs : StepL n c text = stepM1 (dataC c) (clsN n).1 text := by rw [StepL, if_neg h0]
    simp only [W_skip, W_region, W_seq, W_cond, W_ret, OpsW_nil, OpsW_op, upd_some, Br_W2, opF, evalT, evalO, ofConst, argFr, binF, intF, reduceCtorEq, Nat.reduceEqDiff, Nat.reduceAdd, Option.getD_some, Option.getD_none, Option.map_some, List.getElem?_cons_zero, List.getElem?_cons_succ, List.getElem?_nil, and_self, true_and, or_true, if_true, if_false, List.length_cons, List.length_nil, callB, List.zip_cons_cons, List.zip_nil_right, List.map_cons, List.map_nil, List.size_toArray, partF, TI.agg, scal, isAgg, cellsOf, Bool.or_true, Nat.reduceLeDiff, List.take_zero, List.drop_zero, List.take_succ_cons, List.nil_append, List.cons_append, T3, T25, T36, T37, T41, T68, ints_length, c0, Nrm.cells, Coll.cells]
    obtain ⟨r, st1, hs1, id, m, rfl, htab, hg⟩ := load_spec n c (normErr n) (norm_plain n hn) hf [.cells n.cells, .cells c.cells]
    refine OpsW_sp hs1 (by simp only [evalO] <;> rfl) rfl rfl (by simp only [upd_some, evalT, evalO, ofConst, argFr, Nat.reduceEqDiff, Option.getD_none, List.getElem?_cons_succ, List.getElem?_nil, if_true, if_false, List.zip_cons_cons, List.zip_nil_right, List.map_cons, List.map_nil, List.nil_append, List.cons_append, callArgs] <;> rfl) ?_
    simp only [OpsW_op, upd_some, opF, evalT, evalO, argFr, Nat.reduceEqDiff, Option.getD_some, List.getElem?_cons_zero, List.getElem?_cons_succ, if_false]
    obtain ⟨r, st2, hs2, ⟨bl, be, rfl⟩, hT2⟩ := step_spec id m (dataC c) (clsN n) (data_num c) (clsN_len hn) text b htl h64 h0 st1 htab
    refine OpsW_sp hs2 (by simp only [evalO] <;> rfl) rfl rfl (by simp only [upd_some, evalT, evalO, ofConst, argFr, Nat.reduceEqDiff, Option.getD_none, List.getElem?_cons_succ, List.getElem?_nil, if_true, if_false, List.zip_cons_cons, List.zip_nil_right, List.map_cons, List.map_nil, List.nil_append, List.cons_append, callArgs] <;> rfl) ?_
    obtain ⟨_, mi2⟩ := match_in (dataC c) (clsN n).1 text h0
    have hll : (stepM1 (dataC c) (clsN n).1 text).left.length ≤ LIM := by show (matchM (dataC c) (clsN n).1 text).1.2.length ≤ LIM; omega
    simp only [OpsW_nil, OpsW_op, upd_some, opF, evalT, evalO, argFr, Nat.reduceEqDiff, Option.getD_none, Option.map_some, List.getElem?_cons_zero, List.getElem?_cons_succ, List.getElem?_nil, if_true, if_false]
    refine OpsW_pl (cloneI_plain (stepM1 (dataC c) (clsN n).1 text).left (tk bl) hll) rfl rfl (by simp only [upd_some, evalT, evalO, ofConst, argFr, Nat.reduceEqDiff, Option.getD_none, List.getElem?_cons_succ, List.getElem?_nil, if_true, if_false, List.zip_cons_cons, List.zip_nil_right, List.map_cons, List.map_nil, callArgs, strips, strip_sl, stripT_tk] <;> rfl) ?_
    simp only [OpsW_op, upd_some, opF, evalT, evalO, argFr, Nat.reduceEqDiff, Option.getD_none, List.getElem?_cons_succ, List.getElem?_nil, if_true, if_false]
    refine OpsW_pl (clone_plain (stepM1 (dataC c) (clsN n).1 text).els (tk be) (els_len he _ _)) rfl rfl (by simp only [upd_some, evalT, evalO, ofConst, argFr, Nat.reduceEqDiff, Option.getD_none, List.getElem?_cons_succ, List.getElem?_nil, if_true, if_false, List.zip_cons_cons, List.zip_nil_right, List.map_cons, List.map_nil, callArgs, strips, strip_sl, stripT_tk] <;> rfl) ?_
    simp only [OpsW_nil, OpsW_op, upd_some, opF, evalT, evalO, argFr, Nat.reduceEqDiff, Option.getD_none, Option.map_some, Option.some.injEq, List.getElem?_cons_succ, List.getElem?_nil, exists_eq_left', if_true, if_false, elP, resF, resAll, resOne]
    exact ⟨2, by rw [hs, pub_tupc]; simp only [allSome, pub_sl, pub_int, stripT_tk] <;> rfl⟩
end Go.Pv.Ct
end
