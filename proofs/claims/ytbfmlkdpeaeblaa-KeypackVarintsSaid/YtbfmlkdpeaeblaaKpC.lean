/-
  Keypack (3): Pack.
-/
import Derived.Test.YtbfmlkdpeaeblaaKpB
set_option linter.all false
set_option linter.unusedSimpArgs false
set_option linter.unusedVariables false
namespace Go.Pv.Kp
open Go.Pv

def findRF : Code → Option (Code × Code)
  | .rangeFunc _ _ a b => some (a, b)
  | .seq a b => (findRF a).orElse fun _ => findRF b
  | .block _ b => findRF b
  | _ => none
def rfA (c : Code) : Code := ((findRF c).map (·.1)).getD .skip
def rfB (c : Code) : Code := ((findRF c).map (·.2)).getD .skip

/-- What a run is packed to. -/
def emit (m : Int) (x : Nat × Int × Bool) : List Int :=
  List.replicate (x.1 / 8) (m + 7) ++ (if x.1 % 8 > 0 then (if x.2.2 = true ∨ x.2.1 < m then [m + (x.1 % 8 : Nat) - 1] else [m + 15 - (x.1 % 8 : Nat)]) else []) ++
    (if x.2.2 = true then [] else if x.2.1 < m then [x.2.1] else [x.2.1 + 14])

/-- What a round leaves alone. -/
def Keep1 (st st' : Store) : Prop := st.length ≤ st'.length ∧ ∀ (j : Nat) (o : Ob), j ≠ 1 → st[j]? = some o → (∀ n e k, o ≠ .tok n e k) → st'[j]? = some o
theorem Keep1.refl (st : Store) : Keep1 st st := ⟨Nat.le_refl _, fun _ _ _ h _ => h⟩
theorem Keep1.trans {a b c : Store} (h : Keep1 a b) (h' : Keep1 b c) : Keep1 a c := ⟨Nat.le_trans h.1 h'.1, fun j o n e q => h'.2 j o n (h.2 j o n e q) q⟩
theorem Keep1.of_calm {a b : Store} (h : Calm a b) : Keep1 a b := ⟨h.1, fun j o _ e q => h.2 j o e q⟩
theorem Keep1.cells {a b : Store} (h : Keep1 a b) {j : Nat} (hj : j ≠ 1) {cs : List PV} (e : a[j]? = some (.cells cs)) : b[j]? = some (.cells cs) := h.2 j _ hj e (by simp)

/-- A number is put at the list's end, which lies in box 1. -/
theorem put_out {st : Store} {o : List Int} {p : PV} (h : OutSt st o p) (h1 : st[1]? = some (.cells [p])) (x : Int) (hl : o.length + 1 ≤ LIM) :
    ∃ t st', appendF EE st 3 p [[.int .i64 x]] 1 = some (.sl 1 (ints (o ++ [x])) t, st') ∧ st'[1]? = some (.cells [p]) ∧ (st'.set 1 (.cells [.sl 1 (ints (o ++ [x])) t]))[1]? = some (.cells [.sl 1 (ints (o ++ [x])) t]) ∧
      OutSt (st'.set 1 (.cells [.sl 1 (ints (o ++ [x])) t])) (o ++ [x]) (.sl 1 (ints (o ++ [x])) t) ∧ Keep1 st (st'.set 1 (.cells [.sl 1 (ints (o ++ [x])) t])) := by
  obtain ⟨p', st', e, ho, hc⟩ := append_out h [x] (by simp) (by simpa using hl)
  have h1' := hc.2 1 _ h1 (by simp)
  obtain ⟨t, rfl⟩ := ho.sl
  refine ⟨t, st', e, h1', get_set_eq (get_lt h1') _, ho.calm (fun i n hi => ?_), ⟨by simpa using hc.1, fun j o' hj e q => ?_⟩⟩
  · have : 1 ≠ i := fun q => by subst q; rw [h1'] at hi; cases hi
    rw [get_set_ne _ this]; exact hi
  · rw [get_set_ne _ (Ne.symm hj)]; exact hc.2 j o' e q

theorem pack_body (m : Int) (hm : 1 ≤ m ∧ m ≤ 65535) (c : Nat) (nx : Int) (en : Bool) (hx : c ≤ 1000) (hx1 : 0 ≤ nx ∧ nx ≤ 65535) (xb : Nat) (hxb : xb ≠ 1) (fr : Fr) (st : Store) (o : List Int) (p : PV) (ho : OutSt st o p) (hol : o.length + 1000 ≤ LIM)
    (f5 : fr 5 = .optr 0 1 0) (f6 : fr 6 = .optr 1 1 0) (f7 : fr 7 = .optr xb 3 0) (s0 : st[0]? = some (.cells [.int .i64 m])) (s1 : st[1]? = some (.cells [p])) (sx : st[xb]? = some (.cells [.int .i64 (c : Int), .int .i64 nx, .bool en])) :
    W EE 75 (rfB (code Go.Proofs.Try.f10)) fr st fun e _ st2 => e = .normal ∧ ∃ p', st2[1]? = some (.cells [p']) ∧ OutSt st2 (o ++ emit m (c, nx, en)) p' ∧ Keep1 st st2 := by
  have e0 : rfB (code Go.Proofs.Try.f10) = rfB (code Go.Proofs.Try.f10) := rfl
  conv at e0 => rhs; simp only [rfB, findRF, code, Go.Proofs.Try.f10, Option.getD_some, Option.map_some, Option.orElse_none, Option.orElse_some, Option.orElse]
  rw [e0]
  have hq : ((c : Int).tdiv 8) = ((c / 8 : Nat) : Int) := rfl
  have hr : ((c : Int).tmod 8) = ((c % 8 : Nat) : Int) := rfl
  have hk : c / 8 ≤ 125 := by omega
  have hw : IntKind.i64.wrap ((c / 8 : Nat) : Int) = ((c / 8 : Nat) : Int) := wrap_small (by omega) (by omega)
  simp only [W_skip, W_region, W_seq, W_cond, W_block, W_exit, W_label, W_ret, W_range, OpsW_nil, OpsW_app, OpsW_app', OpsW_op, OpsW_guard, upd_some, upd_none, Br_W1, Br_W2, Br_O1, Br_O2, opF, evalT, evalO, ofConst, argFr, binF, intF, unF, idxN_nat, reduceIte, reduceCtorEq, Nat.reduceEqDiff, Nat.reduceAdd, Nat.reduceMul, Option.getD_some, Option.getD_none, Option.map_some, Option.map_none, Option.bind_some, Option.some.injEq, Prod.mk.injEq, List.getElem?_toArray, List.getElem?_cons_zero, List.getElem?_cons_succ, List.getElem?_nil, Nat.succ_ne_zero, and_self, true_and, and_true, true_or, or_true, false_or, or_false, exists_eq_left, exists_eq_left', exists_eq, exists_and_left, and_assoc, if_true, if_false, decide_true, decide_false, Bool.false_eq_true, beq_self_eq_true, Bool.true_beq, Bool.false_beq, Bool.not_true, Bool.not_false, ne_eq, not_true_eq_false, not_false_eq_true, List.length_cons, List.length_nil, decide_eq_true_eq, decide_eq_false_iff_not, callB, List.zip_cons_cons, List.zip_nil_right, List.zip_nil_left, List.map_cons, List.map_nil, List.size_toArray, partF, TI.agg, scal, isAgg, cellsOf, tokRo, cellOk, List.all_cons, List.all_nil, Bool.and_true, Bool.true_and, Bool.or_true, Bool.true_or, Bool.or_false, Bool.and_self, Nat.reduceLeDiff, Nat.reduceLT, Nat.lt_add_one, Nat.zero_lt_succ, range1, range2, range3, range4, Option.isSome_some, splice, fillF, List.take_zero, List.drop_zero, List.drop_succ_cons, List.take_succ_cons, List.nil_append, List.cons_append, Int.reduceEq, Int.reduceLT, Int.reduceAdd, Int.reduceSub, Int.reduceMul, T3, T4, T22, T41, f5, f6, f7, s0, s1, sx, hq, hw]
  refine W_loop (fun n fr' st' => ∃ (j : Nat) (p' : PV), fr' 5 = .optr 0 1 0 ∧ fr' 6 = .optr 1 1 0 ∧ fr' 7 = .optr xb 3 0 ∧ fr' 17 = .int .i64 (c / 8 : Nat) ∧ fr' 18 = .int .i64 j ∧ OutSt st' (o ++ List.replicate j (m + 7)) p' ∧
    st'[0]? = some (.cells [.int .i64 m]) ∧ st'[1]? = some (.cells [p']) ∧ st'[xb]? = some (.cells [.int .i64 (c : Int), .int .i64 nx, .bool en]) ∧ Keep1 st st' ∧ n = c / 8 - j ∧ j ≤ c / 8) ?_ (c / 8) _ _
    ⟨0, p, by simp [upd, f5], by simp [upd, f6], by simp [upd, f7], by simp [upd], by simp [upd], by simpa using ho, s0, s1, sx, Keep1.refl _, by simp, by simp⟩
  rintro n fr' st' ⟨j, p', g5, g6, g7, g17, g18, ho', t0, t1, tx, hkp, rfl, hj⟩
  by_cases cj : (j : Int) < ((c / 8 : Nat) : Int)
  · have hw2 : IntKind.i64.wrap (m + 8) = m + 8 := wrap_small (by omega) (by omega)
    have hw3 : IntKind.i64.wrap (m + 8 - 1) = m + 8 - 1 := wrap_small (by omega) (by omega)
    have hw4 : IntKind.i64.wrap ((j : Int) + 1) = ((j + 1 : Nat) : Int) := by rw [wrap_small (by omega) (by omega)]; rfl
    obtain ⟨p2, st2, a1, a2, a3, a4, a5⟩ := put_out ho' t1 (m + 8 - 1) (by simp; omega)
    simp only [W_skip, W_region, W_seq, W_cond, W_block, W_exit, W_label, W_ret, W_range, OpsW_nil, OpsW_app, OpsW_app', OpsW_op, OpsW_guard, upd_some, upd_none, Br_W1, Br_W2, Br_O1, Br_O2, opF, evalT, evalO, ofConst, argFr, binF, intF, unF, idxN_nat, reduceIte, reduceCtorEq, Nat.reduceEqDiff, Nat.reduceAdd, Nat.reduceMul, Option.getD_some, Option.getD_none, Option.map_some, Option.map_none, Option.bind_some, Option.some.injEq, Prod.mk.injEq, List.getElem?_toArray, List.getElem?_cons_zero, List.getElem?_cons_succ, List.getElem?_nil, Nat.succ_ne_zero, and_self, true_and, and_true, true_or, or_true, false_or, or_false, exists_eq_left, exists_eq_left', exists_eq, exists_and_left, and_assoc, if_true, if_false, decide_true, decide_false, Bool.false_eq_true, beq_self_eq_true, Bool.true_beq, Bool.false_beq, Bool.not_true, Bool.not_false, ne_eq, not_true_eq_false, not_false_eq_true, List.length_cons, List.length_nil, decide_eq_true_eq, decide_eq_false_iff_not, callB, List.zip_cons_cons, List.zip_nil_right, List.zip_nil_left, List.map_cons, List.map_nil, List.size_toArray, partF, TI.agg, scal, isAgg, cellsOf, tokRo, cellOk, List.all_cons, List.all_nil, Bool.and_true, Bool.true_and, Bool.or_true, Bool.true_or, Bool.or_false, Bool.and_self, Nat.reduceLeDiff, Nat.reduceLT, Nat.lt_add_one, Nat.zero_lt_succ, range1, range2, range3, range4, Option.isSome_some, splice, fillF, List.take_zero, List.drop_zero, List.drop_succ_cons, List.take_succ_cons, List.nil_append, List.cons_append, Int.reduceEq, Int.reduceLT, Int.reduceAdd, Int.reduceSub, Int.reduceMul, T3, T4, T22, T41, g5, g6, g7, g17, g18, cj, t0, t1, tx, hw2, hw3, hw4, a1, a2]
    have e7 : o ++ List.replicate j (m + 7) ++ [m + 8 - 1] = o ++ List.replicate (j + 1) (m + 7) := by
      rw [List.replicate_succ', List.append_assoc, show m + 8 - 1 = m + 7 by omega]
    rw [e7] at a3 a4 a5 ⊢
    exact ⟨c / 8 - (j + 1), by omega, j + 1, rfl, _, a4, a5.cells (by omega) t0, a3, a5.cells hxb tx, hkp.trans a5, rfl, by omega⟩
  · have hj' : j = c / 8 := by omega
    subst hj'
    have hm8 : c % 8 < 8 := Nat.mod_lt _ (by omega)
    have hw5 : IntKind.i64.wrap (m + ((c % 8 : Nat) : Int)) = m + ((c % 8 : Nat) : Int) := wrap_small (by omega) (by omega)
    have hw6 : IntKind.i64.wrap (m + ((c % 8 : Nat) : Int) - 1) = m + ((c % 8 : Nat) : Int) - 1 := wrap_small (by omega) (by omega)
    have hw7 : IntKind.i64.wrap (m + 16) = m + 16 := wrap_small (by omega) (by omega)
    have hw8 : IntKind.i64.wrap (m + 16 - 1) = m + 16 - 1 := wrap_small (by omega) (by omega)
    have hw9 : IntKind.i64.wrap (m + 16 - 1 - ((c % 8 : Nat) : Int)) = m + 16 - 1 - ((c % 8 : Nat) : Int) := wrap_small (by omega) (by omega)
    have hwa : IntKind.i64.wrap (nx + 14) = nx + 14 := wrap_small (by omega) (by omega)
    have len1 : (o ++ List.replicate (c / 8) (m + 7)).length + 1 ≤ LIM := by simp; omega
    by_cases cr : ((c % 8 : Nat) : Int) > 0
    · have cr' : c % 8 > 0 := by omega
      cases en with
      | true =>
        obtain ⟨p2, st2, a1, a2, a3, a4, a5⟩ := put_out ho' t1 (m + ((c % 8 : Nat) : Int) - 1) len1
        have b0 := a5.cells (j := 0) (by omega) t0
        have bx := a5.cells hxb tx
        simp only [W_skip, W_region, W_seq, W_cond, W_block, W_exit, W_label, W_ret, W_range, OpsW_nil, OpsW_app, OpsW_app', OpsW_op, OpsW_guard, upd_some, upd_none, Br_W1, Br_W2, Br_O1, Br_O2, opF, evalT, evalO, ofConst, argFr, binF, intF, unF, idxN_nat, reduceIte, reduceCtorEq, Nat.reduceEqDiff, Nat.reduceAdd, Nat.reduceMul, Option.getD_some, Option.getD_none, Option.map_some, Option.map_none, Option.bind_some, Option.some.injEq, Prod.mk.injEq, List.getElem?_toArray, List.getElem?_cons_zero, List.getElem?_cons_succ, List.getElem?_nil, Nat.succ_ne_zero, and_self, true_and, and_true, true_or, or_true, false_or, or_false, exists_eq_left, exists_eq_left', exists_eq, exists_and_left, and_assoc, if_true, if_false, decide_true, decide_false, Bool.false_eq_true, beq_self_eq_true, Bool.true_beq, Bool.false_beq, Bool.not_true, Bool.not_false, ne_eq, not_true_eq_false, not_false_eq_true, List.length_cons, List.length_nil, decide_eq_true_eq, decide_eq_false_iff_not, callB, List.zip_cons_cons, List.zip_nil_right, List.zip_nil_left, List.map_cons, List.map_nil, List.size_toArray, partF, TI.agg, scal, isAgg, cellsOf, tokRo, cellOk, List.all_cons, List.all_nil, Bool.and_true, Bool.true_and, Bool.or_true, Bool.true_or, Bool.or_false, Bool.and_self, Nat.reduceLeDiff, Nat.reduceLT, Nat.lt_add_one, Nat.zero_lt_succ, range1, range2, range3, range4, Option.isSome_some, splice, fillF, List.take_zero, List.drop_zero, List.drop_succ_cons, List.take_succ_cons, List.nil_append, List.cons_append, Int.reduceEq, Int.reduceLT, Int.reduceAdd, Int.reduceSub, Int.reduceMul, T3, T4, T22, T41, g5, g6, g7, g17, g18, cj, t0, t1, tx, hr, cr, hw5, hw6, a1, a2, a3, b0, bx]
        refine ⟨_, rfl, ?_, hkp.trans a5⟩
        rw [show o ++ emit m (c, nx, true) = o ++ List.replicate (c / 8) (m + 7) ++ [m + ((c % 8 : Nat) : Int) - 1] by simp [emit, cr']]
        exact a4
      | false =>
        by_cases cn : nx < m
        · obtain ⟨p2, st2, a1, a2, a3, a4, a5⟩ := put_out ho' t1 (m + ((c % 8 : Nat) : Int) - 1) len1
          obtain ⟨p3, st3, d1, d2, d3, d4, d5⟩ := put_out a4 a3 nx (by simp; omega)
          have b0 := a5.cells (j := 0) (by omega) t0
          have bx := a5.cells hxb tx
          simp only [W_skip, W_region, W_seq, W_cond, W_block, W_exit, W_label, W_ret, W_range, OpsW_nil, OpsW_app, OpsW_app', OpsW_op, OpsW_guard, upd_some, upd_none, Br_W1, Br_W2, Br_O1, Br_O2, opF, evalT, evalO, ofConst, argFr, binF, intF, unF, idxN_nat, reduceIte, reduceCtorEq, Nat.reduceEqDiff, Nat.reduceAdd, Nat.reduceMul, Option.getD_some, Option.getD_none, Option.map_some, Option.map_none, Option.bind_some, Option.some.injEq, Prod.mk.injEq, List.getElem?_toArray, List.getElem?_cons_zero, List.getElem?_cons_succ, List.getElem?_nil, Nat.succ_ne_zero, and_self, true_and, and_true, true_or, or_true, false_or, or_false, exists_eq_left, exists_eq_left', exists_eq, exists_and_left, and_assoc, if_true, if_false, decide_true, decide_false, Bool.false_eq_true, beq_self_eq_true, Bool.true_beq, Bool.false_beq, Bool.not_true, Bool.not_false, ne_eq, not_true_eq_false, not_false_eq_true, List.length_cons, List.length_nil, decide_eq_true_eq, decide_eq_false_iff_not, callB, List.zip_cons_cons, List.zip_nil_right, List.zip_nil_left, List.map_cons, List.map_nil, List.size_toArray, partF, TI.agg, scal, isAgg, cellsOf, tokRo, cellOk, List.all_cons, List.all_nil, Bool.and_true, Bool.true_and, Bool.or_true, Bool.true_or, Bool.or_false, Bool.and_self, Nat.reduceLeDiff, Nat.reduceLT, Nat.lt_add_one, Nat.zero_lt_succ, range1, range2, range3, range4, Option.isSome_some, splice, fillF, List.take_zero, List.drop_zero, List.drop_succ_cons, List.take_succ_cons, List.nil_append, List.cons_append, Int.reduceEq, Int.reduceLT, Int.reduceAdd, Int.reduceSub, Int.reduceMul, T3, T4, T22, T41, g5, g6, g7, g17, g18, cj, t0, t1, tx, hr, cr, hw5, hw6, a1, a2, a3, b0, bx, cn, d1, d2, d3]
          refine ⟨_, rfl, ?_, (hkp.trans a5).trans d5⟩
          rw [show o ++ emit m (c, nx, false) = o ++ List.replicate (c / 8) (m + 7) ++ [m + ((c % 8 : Nat) : Int) - 1] ++ [nx] by simp [emit, cr', cn]]
          exact d4
        · obtain ⟨p2, st2, a1, a2, a3, a4, a5⟩ := put_out ho' t1 (m + 16 - 1 - ((c % 8 : Nat) : Int)) len1
          obtain ⟨p3, st3, d1, d2, d3, d4, d5⟩ := put_out a4 a3 (nx + 14) (by simp; omega)
          have b0 := a5.cells (j := 0) (by omega) t0
          have bx := a5.cells hxb tx
          simp only [W_skip, W_region, W_seq, W_cond, W_block, W_exit, W_label, W_ret, W_range, OpsW_nil, OpsW_app, OpsW_app', OpsW_op, OpsW_guard, upd_some, upd_none, Br_W1, Br_W2, Br_O1, Br_O2, opF, evalT, evalO, ofConst, argFr, binF, intF, unF, idxN_nat, reduceIte, reduceCtorEq, Nat.reduceEqDiff, Nat.reduceAdd, Nat.reduceMul, Option.getD_some, Option.getD_none, Option.map_some, Option.map_none, Option.bind_some, Option.some.injEq, Prod.mk.injEq, List.getElem?_toArray, List.getElem?_cons_zero, List.getElem?_cons_succ, List.getElem?_nil, Nat.succ_ne_zero, and_self, true_and, and_true, true_or, or_true, false_or, or_false, exists_eq_left, exists_eq_left', exists_eq, exists_and_left, and_assoc, if_true, if_false, decide_true, decide_false, Bool.false_eq_true, beq_self_eq_true, Bool.true_beq, Bool.false_beq, Bool.not_true, Bool.not_false, ne_eq, not_true_eq_false, not_false_eq_true, List.length_cons, List.length_nil, decide_eq_true_eq, decide_eq_false_iff_not, callB, List.zip_cons_cons, List.zip_nil_right, List.zip_nil_left, List.map_cons, List.map_nil, List.size_toArray, partF, TI.agg, scal, isAgg, cellsOf, tokRo, cellOk, List.all_cons, List.all_nil, Bool.and_true, Bool.true_and, Bool.or_true, Bool.true_or, Bool.or_false, Bool.and_self, Nat.reduceLeDiff, Nat.reduceLT, Nat.lt_add_one, Nat.zero_lt_succ, range1, range2, range3, range4, Option.isSome_some, splice, fillF, List.take_zero, List.drop_zero, List.drop_succ_cons, List.take_succ_cons, List.nil_append, List.cons_append, Int.reduceEq, Int.reduceLT, Int.reduceAdd, Int.reduceSub, Int.reduceMul, T3, T4, T22, T41, g5, g6, g7, g17, g18, cj, t0, t1, tx, hr, cr, hw7, hw8, hw9, hwa, a1, a2, a3, b0, bx, cn, d1, d2, d3]
          refine ⟨_, rfl, ?_, (hkp.trans a5).trans d5⟩
          rw [show o ++ emit m (c, nx, false) = o ++ List.replicate (c / 8) (m + 7) ++ [m + 16 - 1 - ((c % 8 : Nat) : Int)] ++ [nx + 14] by
            have : m + 16 - 1 = m + 15 := by omega
            simp [emit, cr', cn, this]]
          exact d4
    · have cr' : ¬ c % 8 > 0 := by omega
      cases en with
      | true =>
        simp only [W_skip, W_region, W_seq, W_cond, W_block, W_exit, W_label, W_ret, W_range, OpsW_nil, OpsW_app, OpsW_app', OpsW_op, OpsW_guard, upd_some, upd_none, Br_W1, Br_W2, Br_O1, Br_O2, opF, evalT, evalO, ofConst, argFr, binF, intF, unF, idxN_nat, reduceIte, reduceCtorEq, Nat.reduceEqDiff, Nat.reduceAdd, Nat.reduceMul, Option.getD_some, Option.getD_none, Option.map_some, Option.map_none, Option.bind_some, Option.some.injEq, Prod.mk.injEq, List.getElem?_toArray, List.getElem?_cons_zero, List.getElem?_cons_succ, List.getElem?_nil, Nat.succ_ne_zero, and_self, true_and, and_true, true_or, or_true, false_or, or_false, exists_eq_left, exists_eq_left', exists_eq, exists_and_left, and_assoc, if_true, if_false, decide_true, decide_false, Bool.false_eq_true, beq_self_eq_true, Bool.true_beq, Bool.false_beq, Bool.not_true, Bool.not_false, ne_eq, not_true_eq_false, not_false_eq_true, List.length_cons, List.length_nil, decide_eq_true_eq, decide_eq_false_iff_not, callB, List.zip_cons_cons, List.zip_nil_right, List.zip_nil_left, List.map_cons, List.map_nil, List.size_toArray, partF, TI.agg, scal, isAgg, cellsOf, tokRo, cellOk, List.all_cons, List.all_nil, Bool.and_true, Bool.true_and, Bool.or_true, Bool.true_or, Bool.or_false, Bool.and_self, Nat.reduceLeDiff, Nat.reduceLT, Nat.lt_add_one, Nat.zero_lt_succ, range1, range2, range3, range4, Option.isSome_some, splice, fillF, List.take_zero, List.drop_zero, List.drop_succ_cons, List.take_succ_cons, List.nil_append, List.cons_append, Int.reduceEq, Int.reduceLT, Int.reduceAdd, Int.reduceSub, Int.reduceMul, T3, T4, T22, T41, g5, g6, g7, g17, g18, cj, t0, t1, tx, hr, cr]
        refine ⟨_, rfl, ?_, hkp⟩
        rw [show o ++ emit m (c, nx, true) = o ++ List.replicate (c / 8) (m + 7) by simp [emit, cr']]
        exact ho'
      | false =>
        by_cases cn : nx < m
        · obtain ⟨p3, st3, d1, d2, d3, d4, d5⟩ := put_out ho' t1 nx (by simp; omega)
          simp only [W_skip, W_region, W_seq, W_cond, W_block, W_exit, W_label, W_ret, W_range, OpsW_nil, OpsW_app, OpsW_app', OpsW_op, OpsW_guard, upd_some, upd_none, Br_W1, Br_W2, Br_O1, Br_O2, opF, evalT, evalO, ofConst, argFr, binF, intF, unF, idxN_nat, reduceIte, reduceCtorEq, Nat.reduceEqDiff, Nat.reduceAdd, Nat.reduceMul, Option.getD_some, Option.getD_none, Option.map_some, Option.map_none, Option.bind_some, Option.some.injEq, Prod.mk.injEq, List.getElem?_toArray, List.getElem?_cons_zero, List.getElem?_cons_succ, List.getElem?_nil, Nat.succ_ne_zero, and_self, true_and, and_true, true_or, or_true, false_or, or_false, exists_eq_left, exists_eq_left', exists_eq, exists_and_left, and_assoc, if_true, if_false, decide_true, decide_false, Bool.false_eq_true, beq_self_eq_true, Bool.true_beq, Bool.false_beq, Bool.not_true, Bool.not_false, ne_eq, not_true_eq_false, not_false_eq_true, List.length_cons, List.length_nil, decide_eq_true_eq, decide_eq_false_iff_not, callB, List.zip_cons_cons, List.zip_nil_right, List.zip_nil_left, List.map_cons, List.map_nil, List.size_toArray, partF, TI.agg, scal, isAgg, cellsOf, tokRo, cellOk, List.all_cons, List.all_nil, Bool.and_true, Bool.true_and, Bool.or_true, Bool.true_or, Bool.or_false, Bool.and_self, Nat.reduceLeDiff, Nat.reduceLT, Nat.lt_add_one, Nat.zero_lt_succ, range1, range2, range3, range4, Option.isSome_some, splice, fillF, List.take_zero, List.drop_zero, List.drop_succ_cons, List.take_succ_cons, List.nil_append, List.cons_append, Int.reduceEq, Int.reduceLT, Int.reduceAdd, Int.reduceSub, Int.reduceMul, T3, T4, T22, T41, g5, g6, g7, g17, g18, cj, t0, t1, tx, hr, cr, cn, d1, d2, d3]
          refine ⟨_, rfl, ?_, hkp.trans d5⟩
          rw [show o ++ emit m (c, nx, false) = o ++ List.replicate (c / 8) (m + 7) ++ [nx] by simp [emit, cr', cn]]
          exact d4
        · obtain ⟨p3, st3, d1, d2, d3, d4, d5⟩ := put_out ho' t1 (nx + 14) (by simp; omega)
          simp only [W_skip, W_region, W_seq, W_cond, W_block, W_exit, W_label, W_ret, W_range, OpsW_nil, OpsW_app, OpsW_app', OpsW_op, OpsW_guard, upd_some, upd_none, Br_W1, Br_W2, Br_O1, Br_O2, opF, evalT, evalO, ofConst, argFr, binF, intF, unF, idxN_nat, reduceIte, reduceCtorEq, Nat.reduceEqDiff, Nat.reduceAdd, Nat.reduceMul, Option.getD_some, Option.getD_none, Option.map_some, Option.map_none, Option.bind_some, Option.some.injEq, Prod.mk.injEq, List.getElem?_toArray, List.getElem?_cons_zero, List.getElem?_cons_succ, List.getElem?_nil, Nat.succ_ne_zero, and_self, true_and, and_true, true_or, or_true, false_or, or_false, exists_eq_left, exists_eq_left', exists_eq, exists_and_left, and_assoc, if_true, if_false, decide_true, decide_false, Bool.false_eq_true, beq_self_eq_true, Bool.true_beq, Bool.false_beq, Bool.not_true, Bool.not_false, ne_eq, not_true_eq_false, not_false_eq_true, List.length_cons, List.length_nil, decide_eq_true_eq, decide_eq_false_iff_not, callB, List.zip_cons_cons, List.zip_nil_right, List.zip_nil_left, List.map_cons, List.map_nil, List.size_toArray, partF, TI.agg, scal, isAgg, cellsOf, tokRo, cellOk, List.all_cons, List.all_nil, Bool.and_true, Bool.true_and, Bool.or_true, Bool.true_or, Bool.or_false, Bool.and_self, Nat.reduceLeDiff, Nat.reduceLT, Nat.lt_add_one, Nat.zero_lt_succ, range1, range2, range3, range4, Option.isSome_some, splice, fillF, List.take_zero, List.drop_zero, List.drop_succ_cons, List.take_succ_cons, List.nil_append, List.cons_append, Int.reduceEq, Int.reduceLT, Int.reduceAdd, Int.reduceSub, Int.reduceMul, T3, T4, T22, T41, g5, g6, g7, g17, g18, cj, t0, t1, tx, hr, cr, cn, hwa, d1, d2, d3]
          refine ⟨_, rfl, ?_, hkp.trans d5⟩
          rw [show o ++ emit m (c, nx, false) = o ++ List.replicate (c / 8) (m + 7) ++ [nx + 14] by simp [emit, cr', cn]]
          exact d4
end Go.Pv.Kp
