/-
  Collation tables (11): the checks of collations.
-/
import Derived.Test.YtgbaaobgnpjhcaaGreatDoorCtJ
import Derived.Shelf.Strings.Builder1
import Derived.Shelf.LaysM
import Derived.Shelf.Strconv.Itoa3
import Derived.Ground.Names2Prog
import Derived.Shelf.Spec.SlicesGrow
import Derived.Test.YtgbaaobgnpjhcaaGreatDoorProg
import Derived.Test.YtgbaaobgnpjhcaaGreatDoorPvWb
set_option linter.all false
set_option linter.unusedSimpArgs false
set_option linter.unusedVariables false
section
namespace Go.Pv.Ct
open Go.Pv
set_option maxRecDepth 20000

theorem strip_coll' (c : Coll) : strip1 (.agg [.sl 2 (entR c.ents) (tk c.a), .sl 3 (grpR c.grps) (tk c.b), .int .i64 c.base, .int .i64 c.second, .int .i64 c.third]) = some (.agg [.sl 2 (entR c.ents) (tk c.a), .sl 3 (grpR c.grps) (tk c.b), .int .i64 c.base, .int .i64 c.second, .int .i64 c.third]) := strip_coll c
theorem strip_entry' (c : Entry) : strip1 (.agg [.sl 1 (ints c.codes) (tk c.a), .sl 4 (elR c.els) (tk c.b)]) = some (.agg [.sl 1 (ints c.codes) (tk c.a), .sl 4 (elR c.els) (tk c.b)]) := strip_entry c
def numBad (c : Coll) : Bool := decide (c.base < 1) || decide (c.base > 65502) || !wOk1 c.second || !wOk1 c.third
/-- The error of a collation. -/
def collErr (c : Coll) : Int := if numBad c then 1 else if grpErr c.base c.grps ≠ 0 then grpErr c.base c.grps else firstErr (errs c)
theorem errs_length (c : Coll) : (errs c).length = c.ents.length := by simp [errs]
theorem errs_drop (c : Coll) (i : Nat) (h : i < c.ents.length) : firstErr ((errs c).drop i) = if errAt c i = 0 then firstErr ((errs c).drop (i + 1)) else errAt c i := by
  rw [firstErr_drop (by rw [errs_length]; exact h)]
  simp [errs]

/-- Lengths that fit. -/
structure Fits (c : Coll) : Prop where
  ents : c.ents.length < 9223372036854775808
  grps : c.grps.length < 9223372036854775808
  names : ∀ g ∈ c.grps, g.name.length < 9223372036854775808
  codes : ∀ x ∈ c.ents, x.codes.length < 9223372036854775808
  els : ∀ x ∈ c.ents, x.els.length < 9223372036854775808

set_option maxHeartbeats 8000000 in
theorem refCheck_plain (c : Coll) (hf : Fits c) : Plain EE 14 [.agg c.cells] (.int .i64 (collErr c)) := by
  refine plain_of_W ok ok14 (by simp) ?_
  unfold BodyW
  have e0 : code Go.Proofs.Tryz.f14 = code Go.Proofs.Tryz.f14 := rfl
  conv at e0 => rhs; simp only [code, Go.Proofs.Tryz.f14, Option.getD_some]
  rw [e0]
  clear e0
  have one : numBad c = true → collErr c = 1 := fun h => by rw [collErr, if_pos h]
  by_cases c1 : c.base < 1
  · simp only [W_skip, W_region, W_seq, W_cond, W_block, W_exit, W_label, W_ret, W_range, OpsW_nil, OpsW_app, OpsW_app', OpsW_op, OpsW_guard, upd_some, upd_none, Br_W1, Br_W2, Br_O1, Br_O2, opF, evalT, evalO, ofConst, argFr, binF, intF, unF, idxN_nat, reduceIte, reduceCtorEq, Nat.reduceEqDiff, Nat.reduceAdd, Nat.reduceMul, Option.getD_some, Option.getD_none, Option.map_some, Option.map_none, Option.bind_some, Option.some.injEq, Prod.mk.injEq, List.getElem?_toArray, List.getElem?_cons_zero, List.getElem?_cons_succ, List.getElem?_nil, Nat.succ_ne_zero, and_self, true_and, and_true, true_or, or_true, false_or, or_false, exists_eq_left, exists_eq_left', exists_eq, exists_and_left, and_assoc, if_true, if_false, decide_true, decide_false, Bool.false_eq_true, beq_self_eq_true, Bool.true_beq, Bool.false_beq, Bool.not_true, Bool.not_false, ne_eq, not_true_eq_false, not_false_eq_true, List.length_cons, List.length_nil, decide_eq_true_eq, decide_eq_false_iff_not, callB, List.zip_cons_cons, List.zip_nil_right, List.zip_nil_left, List.map_cons, List.map_nil, List.size_toArray, partF, TI.agg, scal, isAgg, cellsOf, tokRo, cellOk, List.all_cons, List.all_nil, Bool.and_true, Bool.true_and, Bool.or_true, Bool.true_or, Bool.or_false, Bool.and_self, Nat.reduceLeDiff, Nat.reduceLT, Nat.lt_add_one, Nat.zero_lt_succ, range1, range2, range3, range4, Option.isSome_some, splice, fillF, List.take_zero, List.drop_zero, List.drop_succ_cons, List.take_succ_cons, List.nil_append, List.cons_append, Int.reduceEq, Int.reduceLT, Int.reduceAdd, Int.reduceSub, Int.reduceMul, W_regionD, xrE, OpsW_eqnil, OpsW_neqnil, NilW_sl, List.set_cons_zero, List.set_cons_succ, List.headD_cons, T3, T4, T9, T22, T23, T25, T27, T37, T41, T54, T68, T89, Coll.cells, c1, resF, resAll, resOne]
    exact ⟨1, by rw [pub_int, one (by simp [numBad, c1])]⟩
  by_cases c2 : c.base > 65502
  · simp only [W_skip, W_region, W_seq, W_cond, W_block, W_exit, W_label, W_ret, W_range, OpsW_nil, OpsW_app, OpsW_app', OpsW_op, OpsW_guard, upd_some, upd_none, Br_W1, Br_W2, Br_O1, Br_O2, opF, evalT, evalO, ofConst, argFr, binF, intF, unF, idxN_nat, reduceIte, reduceCtorEq, Nat.reduceEqDiff, Nat.reduceAdd, Nat.reduceMul, Option.getD_some, Option.getD_none, Option.map_some, Option.map_none, Option.bind_some, Option.some.injEq, Prod.mk.injEq, List.getElem?_toArray, List.getElem?_cons_zero, List.getElem?_cons_succ, List.getElem?_nil, Nat.succ_ne_zero, and_self, true_and, and_true, true_or, or_true, false_or, or_false, exists_eq_left, exists_eq_left', exists_eq, exists_and_left, and_assoc, if_true, if_false, decide_true, decide_false, Bool.false_eq_true, beq_self_eq_true, Bool.true_beq, Bool.false_beq, Bool.not_true, Bool.not_false, ne_eq, not_true_eq_false, not_false_eq_true, List.length_cons, List.length_nil, decide_eq_true_eq, decide_eq_false_iff_not, callB, List.zip_cons_cons, List.zip_nil_right, List.zip_nil_left, List.map_cons, List.map_nil, List.size_toArray, partF, TI.agg, scal, isAgg, cellsOf, tokRo, cellOk, List.all_cons, List.all_nil, Bool.and_true, Bool.true_and, Bool.or_true, Bool.true_or, Bool.or_false, Bool.and_self, Nat.reduceLeDiff, Nat.reduceLT, Nat.lt_add_one, Nat.zero_lt_succ, range1, range2, range3, range4, Option.isSome_some, splice, fillF, List.take_zero, List.drop_zero, List.drop_succ_cons, List.take_succ_cons, List.nil_append, List.cons_append, Int.reduceEq, Int.reduceLT, Int.reduceAdd, Int.reduceSub, Int.reduceMul, W_regionD, xrE, OpsW_eqnil, OpsW_neqnil, NilW_sl, List.set_cons_zero, List.set_cons_succ, List.headD_cons, T3, T4, T9, T22, T23, T25, T27, T37, T41, T54, T68, T89, Coll.cells, c1, c2, resF, resAll, resOne]
    exact ⟨1, by rw [pub_int, one (by simp [numBad, c2])]⟩
  simp only [W_skip, W_region, W_seq, W_cond, W_block, W_exit, W_label, W_ret, W_range, OpsW_nil, OpsW_app, OpsW_app', OpsW_op, OpsW_guard, upd_some, upd_none, Br_W1, Br_W2, Br_O1, Br_O2, opF, evalT, evalO, ofConst, argFr, binF, intF, unF, idxN_nat, reduceIte, reduceCtorEq, Nat.reduceEqDiff, Nat.reduceAdd, Nat.reduceMul, Option.getD_some, Option.getD_none, Option.map_some, Option.map_none, Option.bind_some, Option.some.injEq, Prod.mk.injEq, List.getElem?_toArray, List.getElem?_cons_zero, List.getElem?_cons_succ, List.getElem?_nil, Nat.succ_ne_zero, and_self, true_and, and_true, true_or, or_true, false_or, or_false, exists_eq_left, exists_eq_left', exists_eq, exists_and_left, and_assoc, if_true, if_false, decide_true, decide_false, Bool.false_eq_true, beq_self_eq_true, Bool.true_beq, Bool.false_beq, Bool.not_true, Bool.not_false, ne_eq, not_true_eq_false, not_false_eq_true, List.length_cons, List.length_nil, decide_eq_true_eq, decide_eq_false_iff_not, callB, List.zip_cons_cons, List.zip_nil_right, List.zip_nil_left, List.map_cons, List.map_nil, List.size_toArray, partF, TI.agg, scal, isAgg, cellsOf, tokRo, cellOk, List.all_cons, List.all_nil, Bool.and_true, Bool.true_and, Bool.or_true, Bool.true_or, Bool.or_false, Bool.and_self, Nat.reduceLeDiff, Nat.reduceLT, Nat.lt_add_one, Nat.zero_lt_succ, range1, range2, range3, range4, Option.isSome_some, splice, fillF, List.take_zero, List.drop_zero, List.drop_succ_cons, List.take_succ_cons, List.nil_append, List.cons_append, Int.reduceEq, Int.reduceLT, Int.reduceAdd, Int.reduceSub, Int.reduceMul, W_regionD, xrE, OpsW_eqnil, OpsW_neqnil, NilW_sl, List.set_cons_zero, List.set_cons_succ, List.headD_cons, T3, T4, T9, T22, T23, T25, T27, T37, T41, T54, T68, T89, Coll.cells, c1, c2]
  refine OpsW_pl (weight43_plain c.second) rfl rfl (by simp only [W_skip, W_region, W_seq, W_cond, W_block, W_exit, W_label, W_ret, W_range, OpsW_nil, OpsW_app, OpsW_app', OpsW_op, OpsW_guard, upd_some, upd_none, Br_W1, Br_W2, Br_O1, Br_O2, opF, evalT, evalO, ofConst, argFr, binF, intF, unF, idxN_nat, reduceIte, reduceCtorEq, Nat.reduceEqDiff, Nat.reduceAdd, Nat.reduceMul, Option.getD_some, Option.getD_none, Option.map_some, Option.map_none, Option.bind_some, Option.some.injEq, Prod.mk.injEq, List.getElem?_toArray, List.getElem?_cons_zero, List.getElem?_cons_succ, List.getElem?_nil, Nat.succ_ne_zero, and_self, true_and, and_true, true_or, or_true, false_or, or_false, exists_eq_left, exists_eq_left', exists_eq, exists_and_left, and_assoc, if_true, if_false, decide_true, decide_false, Bool.false_eq_true, beq_self_eq_true, Bool.true_beq, Bool.false_beq, Bool.not_true, Bool.not_false, ne_eq, not_true_eq_false, not_false_eq_true, List.length_cons, List.length_nil, decide_eq_true_eq, decide_eq_false_iff_not, callB, List.zip_cons_cons, List.zip_nil_right, List.zip_nil_left, List.map_cons, List.map_nil, List.size_toArray, partF, TI.agg, scal, isAgg, cellsOf, tokRo, cellOk, List.all_cons, List.all_nil, Bool.and_true, Bool.true_and, Bool.or_true, Bool.true_or, Bool.or_false, Bool.and_self, Nat.reduceLeDiff, Nat.reduceLT, Nat.lt_add_one, Nat.zero_lt_succ, range1, range2, range3, range4, Option.isSome_some, splice, fillF, List.take_zero, List.drop_zero, List.drop_succ_cons, List.take_succ_cons, List.nil_append, List.cons_append, Int.reduceEq, Int.reduceLT, Int.reduceAdd, Int.reduceSub, Int.reduceMul, W_regionD, xrE, OpsW_eqnil, OpsW_neqnil, NilW_sl, List.set_cons_zero, List.set_cons_succ, List.headD_cons, T3, T4, T9, T22, T23, T25, T27, T37, T41, T54, T68, T89, callArgs, strips, strip_sl, strip_int, strip_bool, strip_str] <;> rfl) ?_
  rcases Bool.eq_false_or_eq_true (wOk1 c.second) with b1 | b1
  case inr =>
    simp only [W_skip, W_region, W_seq, W_cond, W_block, W_exit, W_label, W_ret, W_range, OpsW_nil, OpsW_app, OpsW_app', OpsW_op, OpsW_guard, upd_some, upd_none, Br_W1, Br_W2, Br_O1, Br_O2, opF, evalT, evalO, ofConst, argFr, binF, intF, unF, idxN_nat, reduceIte, reduceCtorEq, Nat.reduceEqDiff, Nat.reduceAdd, Nat.reduceMul, Option.getD_some, Option.getD_none, Option.map_some, Option.map_none, Option.bind_some, Option.some.injEq, Prod.mk.injEq, List.getElem?_toArray, List.getElem?_cons_zero, List.getElem?_cons_succ, List.getElem?_nil, Nat.succ_ne_zero, and_self, true_and, and_true, true_or, or_true, false_or, or_false, exists_eq_left, exists_eq_left', exists_eq, exists_and_left, and_assoc, if_true, if_false, decide_true, decide_false, Bool.false_eq_true, beq_self_eq_true, Bool.true_beq, Bool.false_beq, Bool.not_true, Bool.not_false, ne_eq, not_true_eq_false, not_false_eq_true, List.length_cons, List.length_nil, decide_eq_true_eq, decide_eq_false_iff_not, callB, List.zip_cons_cons, List.zip_nil_right, List.zip_nil_left, List.map_cons, List.map_nil, List.size_toArray, partF, TI.agg, scal, isAgg, cellsOf, tokRo, cellOk, List.all_cons, List.all_nil, Bool.and_true, Bool.true_and, Bool.or_true, Bool.true_or, Bool.or_false, Bool.and_self, Nat.reduceLeDiff, Nat.reduceLT, Nat.lt_add_one, Nat.zero_lt_succ, range1, range2, range3, range4, Option.isSome_some, splice, fillF, List.take_zero, List.drop_zero, List.drop_succ_cons, List.take_succ_cons, List.nil_append, List.cons_append, Int.reduceEq, Int.reduceLT, Int.reduceAdd, Int.reduceSub, Int.reduceMul, W_regionD, xrE, OpsW_eqnil, OpsW_neqnil, NilW_sl, List.set_cons_zero, List.set_cons_succ, List.headD_cons, T3, T4, T9, T22, T23, T25, T27, T37, T41, T54, T68, T89, b1, resF, resAll, resOne]
    exact ⟨1, by rw [pub_int, one (by simp [numBad, b1])]⟩
  simp only [W_skip, W_region, W_seq, W_cond, W_block, W_exit, W_label, W_ret, W_range, OpsW_nil, OpsW_app, OpsW_app', OpsW_op, OpsW_guard, upd_some, upd_none, Br_W1, Br_W2, Br_O1, Br_O2, opF, evalT, evalO, ofConst, argFr, binF, intF, unF, idxN_nat, reduceIte, reduceCtorEq, Nat.reduceEqDiff, Nat.reduceAdd, Nat.reduceMul, Option.getD_some, Option.getD_none, Option.map_some, Option.map_none, Option.bind_some, Option.some.injEq, Prod.mk.injEq, List.getElem?_toArray, List.getElem?_cons_zero, List.getElem?_cons_succ, List.getElem?_nil, Nat.succ_ne_zero, and_self, true_and, and_true, true_or, or_true, false_or, or_false, exists_eq_left, exists_eq_left', exists_eq, exists_and_left, and_assoc, if_true, if_false, decide_true, decide_false, Bool.false_eq_true, beq_self_eq_true, Bool.true_beq, Bool.false_beq, Bool.not_true, Bool.not_false, ne_eq, not_true_eq_false, not_false_eq_true, List.length_cons, List.length_nil, decide_eq_true_eq, decide_eq_false_iff_not, callB, List.zip_cons_cons, List.zip_nil_right, List.zip_nil_left, List.map_cons, List.map_nil, List.size_toArray, partF, TI.agg, scal, isAgg, cellsOf, tokRo, cellOk, List.all_cons, List.all_nil, Bool.and_true, Bool.true_and, Bool.or_true, Bool.true_or, Bool.or_false, Bool.and_self, Nat.reduceLeDiff, Nat.reduceLT, Nat.lt_add_one, Nat.zero_lt_succ, range1, range2, range3, range4, Option.isSome_some, splice, fillF, List.take_zero, List.drop_zero, List.drop_succ_cons, List.take_succ_cons, List.nil_append, List.cons_append, Int.reduceEq, Int.reduceLT, Int.reduceAdd, Int.reduceSub, Int.reduceMul, W_regionD, xrE, OpsW_eqnil, OpsW_neqnil, NilW_sl, List.set_cons_zero, List.set_cons_succ, List.headD_cons, T3, T4, T9, T22, T23, T25, T27, T37, T41, T54, T68, T89, b1]
  refine OpsW_pl (weight43_plain c.third) rfl rfl (by simp only [W_skip, W_region, W_seq, W_cond, W_block, W_exit, W_label, W_ret, W_range, OpsW_nil, OpsW_app, OpsW_app', OpsW_op, OpsW_guard, upd_some, upd_none, Br_W1, Br_W2, Br_O1, Br_O2, opF, evalT, evalO, ofConst, argFr, binF, intF, unF, idxN_nat, reduceIte, reduceCtorEq, Nat.reduceEqDiff, Nat.reduceAdd, Nat.reduceMul, Option.getD_some, Option.getD_none, Option.map_some, Option.map_none, Option.bind_some, Option.some.injEq, Prod.mk.injEq, List.getElem?_toArray, List.getElem?_cons_zero, List.getElem?_cons_succ, List.getElem?_nil, Nat.succ_ne_zero, and_self, true_and, and_true, true_or, or_true, false_or, or_false, exists_eq_left, exists_eq_left', exists_eq, exists_and_left, and_assoc, if_true, if_false, decide_true, decide_false, Bool.false_eq_true, beq_self_eq_true, Bool.true_beq, Bool.false_beq, Bool.not_true, Bool.not_false, ne_eq, not_true_eq_false, not_false_eq_true, List.length_cons, List.length_nil, decide_eq_true_eq, decide_eq_false_iff_not, callB, List.zip_cons_cons, List.zip_nil_right, List.zip_nil_left, List.map_cons, List.map_nil, List.size_toArray, partF, TI.agg, scal, isAgg, cellsOf, tokRo, cellOk, List.all_cons, List.all_nil, Bool.and_true, Bool.true_and, Bool.or_true, Bool.true_or, Bool.or_false, Bool.and_self, Nat.reduceLeDiff, Nat.reduceLT, Nat.lt_add_one, Nat.zero_lt_succ, range1, range2, range3, range4, Option.isSome_some, splice, fillF, List.take_zero, List.drop_zero, List.drop_succ_cons, List.take_succ_cons, List.nil_append, List.cons_append, Int.reduceEq, Int.reduceLT, Int.reduceAdd, Int.reduceSub, Int.reduceMul, W_regionD, xrE, OpsW_eqnil, OpsW_neqnil, NilW_sl, List.set_cons_zero, List.set_cons_succ, List.headD_cons, T3, T4, T9, T22, T23, T25, T27, T37, T41, T54, T68, T89, callArgs, strips, strip_sl, strip_int, strip_bool, strip_str] <;> rfl) ?_
  rcases Bool.eq_false_or_eq_true (wOk1 c.third) with b2 | b2
  case inr =>
    simp only [W_skip, W_region, W_seq, W_cond, W_block, W_exit, W_label, W_ret, W_range, OpsW_nil, OpsW_app, OpsW_app', OpsW_op, OpsW_guard, upd_some, upd_none, Br_W1, Br_W2, Br_O1, Br_O2, opF, evalT, evalO, ofConst, argFr, binF, intF, unF, idxN_nat, reduceIte, reduceCtorEq, Nat.reduceEqDiff, Nat.reduceAdd, Nat.reduceMul, Option.getD_some, Option.getD_none, Option.map_some, Option.map_none, Option.bind_some, Option.some.injEq, Prod.mk.injEq, List.getElem?_toArray, List.getElem?_cons_zero, List.getElem?_cons_succ, List.getElem?_nil, Nat.succ_ne_zero, and_self, true_and, and_true, true_or, or_true, false_or, or_false, exists_eq_left, exists_eq_left', exists_eq, exists_and_left, and_assoc, if_true, if_false, decide_true, decide_false, Bool.false_eq_true, beq_self_eq_true, Bool.true_beq, Bool.false_beq, Bool.not_true, Bool.not_false, ne_eq, not_true_eq_false, not_false_eq_true, List.length_cons, List.length_nil, decide_eq_true_eq, decide_eq_false_iff_not, callB, List.zip_cons_cons, List.zip_nil_right, List.zip_nil_left, List.map_cons, List.map_nil, List.size_toArray, partF, TI.agg, scal, isAgg, cellsOf, tokRo, cellOk, List.all_cons, List.all_nil, Bool.and_true, Bool.true_and, Bool.or_true, Bool.true_or, Bool.or_false, Bool.and_self, Nat.reduceLeDiff, Nat.reduceLT, Nat.lt_add_one, Nat.zero_lt_succ, range1, range2, range3, range4, Option.isSome_some, splice, fillF, List.take_zero, List.drop_zero, List.drop_succ_cons, List.take_succ_cons, List.nil_append, List.cons_append, Int.reduceEq, Int.reduceLT, Int.reduceAdd, Int.reduceSub, Int.reduceMul, W_regionD, xrE, OpsW_eqnil, OpsW_neqnil, NilW_sl, List.set_cons_zero, List.set_cons_succ, List.headD_cons, T3, T4, T9, T22, T23, T25, T27, T37, T41, T54, T68, T89, b2, resF, resAll, resOne]
    exact ⟨1, by rw [pub_int, one (by simp [numBad, b2])]⟩
  have hn : collErr c = if grpErr c.base c.grps ≠ 0 then grpErr c.base c.grps else firstErr (errs c) := by
    rw [collErr, if_neg]
    simp [numBad, b1, b2]; omega
  simp only [W_skip, W_region, W_seq, W_cond, W_block, W_exit, W_label, W_ret, W_range, OpsW_nil, OpsW_app, OpsW_app', OpsW_op, OpsW_guard, upd_some, upd_none, Br_W1, Br_W2, Br_O1, Br_O2, opF, evalT, evalO, ofConst, argFr, binF, intF, unF, idxN_nat, reduceIte, reduceCtorEq, Nat.reduceEqDiff, Nat.reduceAdd, Nat.reduceMul, Option.getD_some, Option.getD_none, Option.map_some, Option.map_none, Option.bind_some, Option.some.injEq, Prod.mk.injEq, List.getElem?_toArray, List.getElem?_cons_zero, List.getElem?_cons_succ, List.getElem?_nil, Nat.succ_ne_zero, and_self, true_and, and_true, true_or, or_true, false_or, or_false, exists_eq_left, exists_eq_left', exists_eq, exists_and_left, and_assoc, if_true, if_false, decide_true, decide_false, Bool.false_eq_true, beq_self_eq_true, Bool.true_beq, Bool.false_beq, Bool.not_true, Bool.not_false, ne_eq, not_true_eq_false, not_false_eq_true, List.length_cons, List.length_nil, decide_eq_true_eq, decide_eq_false_iff_not, callB, List.zip_cons_cons, List.zip_nil_right, List.zip_nil_left, List.map_cons, List.map_nil, List.size_toArray, partF, TI.agg, scal, isAgg, cellsOf, tokRo, cellOk, List.all_cons, List.all_nil, Bool.and_true, Bool.true_and, Bool.or_true, Bool.true_or, Bool.or_false, Bool.and_self, Nat.reduceLeDiff, Nat.reduceLT, Nat.lt_add_one, Nat.zero_lt_succ, range1, range2, range3, range4, Option.isSome_some, splice, fillF, List.take_zero, List.drop_zero, List.drop_succ_cons, List.take_succ_cons, List.nil_append, List.cons_append, Int.reduceEq, Int.reduceLT, Int.reduceAdd, Int.reduceSub, Int.reduceMul, W_regionD, xrE, OpsW_eqnil, OpsW_neqnil, NilW_sl, List.set_cons_zero, List.set_cons_succ, List.headD_cons, T3, T4, T9, T22, T23, T25, T27, T37, T41, T54, T68, T89, b2]
  refine OpsW_pl (refGroups_plain c hf.grps hf.names) rfl rfl (by simp only [W_skip, W_region, W_seq, W_cond, W_block, W_exit, W_label, W_ret, W_range, OpsW_nil, OpsW_app, OpsW_app', OpsW_op, OpsW_guard, upd_some, upd_none, Br_W1, Br_W2, Br_O1, Br_O2, opF, evalT, evalO, ofConst, argFr, binF, intF, unF, idxN_nat, reduceIte, reduceCtorEq, Nat.reduceEqDiff, Nat.reduceAdd, Nat.reduceMul, Option.getD_some, Option.getD_none, Option.map_some, Option.map_none, Option.bind_some, Option.some.injEq, Prod.mk.injEq, List.getElem?_toArray, List.getElem?_cons_zero, List.getElem?_cons_succ, List.getElem?_nil, Nat.succ_ne_zero, and_self, true_and, and_true, true_or, or_true, false_or, or_false, exists_eq_left, exists_eq_left', exists_eq, exists_and_left, and_assoc, if_true, if_false, decide_true, decide_false, Bool.false_eq_true, beq_self_eq_true, Bool.true_beq, Bool.false_beq, Bool.not_true, Bool.not_false, ne_eq, not_true_eq_false, not_false_eq_true, List.length_cons, List.length_nil, decide_eq_true_eq, decide_eq_false_iff_not, callB, List.zip_cons_cons, List.zip_nil_right, List.zip_nil_left, List.map_cons, List.map_nil, List.size_toArray, partF, TI.agg, scal, isAgg, cellsOf, tokRo, cellOk, List.all_cons, List.all_nil, Bool.and_true, Bool.true_and, Bool.or_true, Bool.true_or, Bool.or_false, Bool.and_self, Nat.reduceLeDiff, Nat.reduceLT, Nat.lt_add_one, Nat.zero_lt_succ, range1, range2, range3, range4, Option.isSome_some, splice, fillF, List.take_zero, List.drop_zero, List.drop_succ_cons, List.take_succ_cons, List.nil_append, List.cons_append, Int.reduceEq, Int.reduceLT, Int.reduceAdd, Int.reduceSub, Int.reduceMul, W_regionD, xrE, OpsW_eqnil, OpsW_neqnil, NilW_sl, List.set_cons_zero, List.set_cons_succ, List.headD_cons, T3, T4, T9, T22, T23, T25, T27, T37, T41, T54, T68, T89, callArgs, strips, strip_sl, strip_int, strip_bool, strip_str, strip_coll'] <;> rfl) ?_
  by_cases g0 : grpErr c.base c.grps = 0
  case neg =>
    have g0' : (grpErr c.base c.grps != 0) = true := by simp [g0]
    simp only [W_skip, W_region, W_seq, W_cond, W_block, W_exit, W_label, W_ret, W_range, OpsW_nil, OpsW_app, OpsW_app', OpsW_op, OpsW_guard, upd_some, upd_none, Br_W1, Br_W2, Br_O1, Br_O2, opF, evalT, evalO, ofConst, argFr, binF, intF, unF, idxN_nat, reduceIte, reduceCtorEq, Nat.reduceEqDiff, Nat.reduceAdd, Nat.reduceMul, Option.getD_some, Option.getD_none, Option.map_some, Option.map_none, Option.bind_some, Option.some.injEq, Prod.mk.injEq, List.getElem?_toArray, List.getElem?_cons_zero, List.getElem?_cons_succ, List.getElem?_nil, Nat.succ_ne_zero, and_self, true_and, and_true, true_or, or_true, false_or, or_false, exists_eq_left, exists_eq_left', exists_eq, exists_and_left, and_assoc, if_true, if_false, decide_true, decide_false, Bool.false_eq_true, beq_self_eq_true, Bool.true_beq, Bool.false_beq, Bool.not_true, Bool.not_false, ne_eq, not_true_eq_false, not_false_eq_true, List.length_cons, List.length_nil, decide_eq_true_eq, decide_eq_false_iff_not, callB, List.zip_cons_cons, List.zip_nil_right, List.zip_nil_left, List.map_cons, List.map_nil, List.size_toArray, partF, TI.agg, scal, isAgg, cellsOf, tokRo, cellOk, List.all_cons, List.all_nil, Bool.and_true, Bool.true_and, Bool.or_true, Bool.true_or, Bool.or_false, Bool.and_self, Nat.reduceLeDiff, Nat.reduceLT, Nat.lt_add_one, Nat.zero_lt_succ, range1, range2, range3, range4, Option.isSome_some, splice, fillF, List.take_zero, List.drop_zero, List.drop_succ_cons, List.take_succ_cons, List.nil_append, List.cons_append, Int.reduceEq, Int.reduceLT, Int.reduceAdd, Int.reduceSub, Int.reduceMul, W_regionD, xrE, OpsW_eqnil, OpsW_neqnil, NilW_sl, List.set_cons_zero, List.set_cons_succ, List.headD_cons, T3, T4, T9, T22, T23, T25, T27, T37, T41, T54, T68, T89, g0', resF, resAll, resOne]
    exact ⟨1, by rw [pub_int, hn, if_pos g0]⟩
  have g0' : (grpErr c.base c.grps != 0) = false := by simp [g0]
  rw [g0] at hn
  simp only [ne_eq, not_true_eq_false, if_false] at hn
  simp only [W_skip, W_region, W_seq, W_cond, W_block, W_exit, W_label, W_ret, W_range, OpsW_nil, OpsW_app, OpsW_app', OpsW_op, OpsW_guard, upd_some, upd_none, Br_W1, Br_W2, Br_O1, Br_O2, opF, evalT, evalO, ofConst, argFr, binF, intF, unF, idxN_nat, reduceIte, reduceCtorEq, Nat.reduceEqDiff, Nat.reduceAdd, Nat.reduceMul, Option.getD_some, Option.getD_none, Option.map_some, Option.map_none, Option.bind_some, Option.some.injEq, Prod.mk.injEq, List.getElem?_toArray, List.getElem?_cons_zero, List.getElem?_cons_succ, List.getElem?_nil, Nat.succ_ne_zero, and_self, true_and, and_true, true_or, or_true, false_or, or_false, exists_eq_left, exists_eq_left', exists_eq, exists_and_left, and_assoc, if_true, if_false, decide_true, decide_false, Bool.false_eq_true, beq_self_eq_true, Bool.true_beq, Bool.false_beq, Bool.not_true, Bool.not_false, ne_eq, not_true_eq_false, not_false_eq_true, List.length_cons, List.length_nil, decide_eq_true_eq, decide_eq_false_iff_not, callB, List.zip_cons_cons, List.zip_nil_right, List.zip_nil_left, List.map_cons, List.map_nil, List.size_toArray, partF, TI.agg, scal, isAgg, cellsOf, tokRo, cellOk, List.all_cons, List.all_nil, Bool.and_true, Bool.true_and, Bool.or_true, Bool.true_or, Bool.or_false, Bool.and_self, Nat.reduceLeDiff, Nat.reduceLT, Nat.lt_add_one, Nat.zero_lt_succ, range1, range2, range3, range4, Option.isSome_some, splice, fillF, List.take_zero, List.drop_zero, List.drop_succ_cons, List.take_succ_cons, List.nil_append, List.cons_append, Int.reduceEq, Int.reduceLT, Int.reduceAdd, Int.reduceSub, Int.reduceMul, W_regionD, xrE, OpsW_eqnil, OpsW_neqnil, NilW_sl, List.set_cons_zero, List.set_cons_succ, List.headD_cons, T3, T4, T9, T22, T23, T25, T27, T37, T41, T54, T68, T89, g0']
  refine W_loop (fun n fr st => ∃ (i : Nat), fr 1 = .optr 0 5 0 ∧ fr 4 = .int .i64 i ∧ st[0]? = some (.cells c.cells) ∧ i ≤ c.ents.length ∧ firstErr (errs c) = firstErr ((errs c).drop i) ∧ n = c.ents.length - i) ?_ c.ents.length _ _
    ⟨0, by simp [upd], by simp [upd], rfl, by omega, by simp, by omega⟩
  rintro n fr st ⟨i, f1, f4, s0, hi, hc, rfl⟩
  have hle := hf.ents
  by_cases ci : (i : Int) < (c.ents.length : Int)
  · have ia : i < c.ents.length := by omega
    have hw : IntKind.i64.wrap ((i : Int) + 1) = ((i + 1 : Nat) : Int) := by rw [wrap_small (by omega) (by omega)]; rfl
    have hd := errs_drop c i ia
    simp only [W_skip, W_region, W_seq, W_cond, W_block, W_exit, W_label, W_ret, W_range, OpsW_nil, OpsW_app, OpsW_app', OpsW_op, OpsW_guard, upd_some, upd_none, Br_W1, Br_W2, Br_O1, Br_O2, opF, evalT, evalO, ofConst, argFr, binF, intF, unF, idxN_nat, reduceIte, reduceCtorEq, Nat.reduceEqDiff, Nat.reduceAdd, Nat.reduceMul, Option.getD_some, Option.getD_none, Option.map_some, Option.map_none, Option.bind_some, Option.some.injEq, Prod.mk.injEq, List.getElem?_toArray, List.getElem?_cons_zero, List.getElem?_cons_succ, List.getElem?_nil, Nat.succ_ne_zero, and_self, true_and, and_true, true_or, or_true, false_or, or_false, exists_eq_left, exists_eq_left', exists_eq, exists_and_left, and_assoc, if_true, if_false, decide_true, decide_false, Bool.false_eq_true, beq_self_eq_true, Bool.true_beq, Bool.false_beq, Bool.not_true, Bool.not_false, ne_eq, not_true_eq_false, not_false_eq_true, List.length_cons, List.length_nil, decide_eq_true_eq, decide_eq_false_iff_not, callB, List.zip_cons_cons, List.zip_nil_right, List.zip_nil_left, List.map_cons, List.map_nil, List.size_toArray, partF, TI.agg, scal, isAgg, cellsOf, tokRo, cellOk, List.all_cons, List.all_nil, Bool.and_true, Bool.true_and, Bool.or_true, Bool.true_or, Bool.or_false, Bool.and_self, Nat.reduceLeDiff, Nat.reduceLT, Nat.lt_add_one, Nat.zero_lt_succ, range1, range2, range3, range4, Option.isSome_some, splice, fillF, List.take_zero, List.drop_zero, List.drop_succ_cons, List.take_succ_cons, List.nil_append, List.cons_append, Int.reduceEq, Int.reduceLT, Int.reduceAdd, Int.reduceSub, Int.reduceMul, W_regionD, xrE, OpsW_eqnil, OpsW_neqnil, NilW_sl, List.set_cons_zero, List.set_cons_succ, List.headD_cons, T3, T4, T9, T22, T23, T25, T27, T37, T41, T54, T68, T89, f1, f4, s0, Coll.cells, entR_length, ci]
    refine OpsW_pl (refEntry_plain c i ia (by omega) hf.codes hf.els) rfl rfl (by simp only [W_skip, W_region, W_seq, W_cond, W_block, W_exit, W_label, W_ret, W_range, OpsW_nil, OpsW_app, OpsW_app', OpsW_op, OpsW_guard, upd_some, upd_none, Br_W1, Br_W2, Br_O1, Br_O2, opF, evalT, evalO, ofConst, argFr, binF, intF, unF, idxN_nat, reduceIte, reduceCtorEq, Nat.reduceEqDiff, Nat.reduceAdd, Nat.reduceMul, Option.getD_some, Option.getD_none, Option.map_some, Option.map_none, Option.bind_some, Option.some.injEq, Prod.mk.injEq, List.getElem?_toArray, List.getElem?_cons_zero, List.getElem?_cons_succ, List.getElem?_nil, Nat.succ_ne_zero, and_self, true_and, and_true, true_or, or_true, false_or, or_false, exists_eq_left, exists_eq_left', exists_eq, exists_and_left, and_assoc, if_true, if_false, decide_true, decide_false, Bool.false_eq_true, beq_self_eq_true, Bool.true_beq, Bool.false_beq, Bool.not_true, Bool.not_false, ne_eq, not_true_eq_false, not_false_eq_true, List.length_cons, List.length_nil, decide_eq_true_eq, decide_eq_false_iff_not, callB, List.zip_cons_cons, List.zip_nil_right, List.zip_nil_left, List.map_cons, List.map_nil, List.size_toArray, partF, TI.agg, scal, isAgg, cellsOf, tokRo, cellOk, List.all_cons, List.all_nil, Bool.and_true, Bool.true_and, Bool.or_true, Bool.true_or, Bool.or_false, Bool.and_self, Nat.reduceLeDiff, Nat.reduceLT, Nat.lt_add_one, Nat.zero_lt_succ, range1, range2, range3, range4, Option.isSome_some, splice, fillF, List.take_zero, List.drop_zero, List.drop_succ_cons, List.take_succ_cons, List.nil_append, List.cons_append, Int.reduceEq, Int.reduceLT, Int.reduceAdd, Int.reduceSub, Int.reduceMul, W_regionD, xrE, OpsW_eqnil, OpsW_neqnil, NilW_sl, List.set_cons_zero, List.set_cons_succ, List.headD_cons, T3, T4, T9, T22, T23, T25, T27, T37, T41, T54, T68, T89, callArgs, strips, strip_sl, strip_int, strip_bool, strip_str, strip_coll'] <;> rfl) ?_
    by_cases e0 : errAt c i = 0
    · have e0' : (errAt c i != 0) = false := by simp [e0]
      simp only [W_skip, W_region, W_seq, W_cond, W_block, W_exit, W_label, W_ret, W_range, OpsW_nil, OpsW_app, OpsW_app', OpsW_op, OpsW_guard, upd_some, upd_none, Br_W1, Br_W2, Br_O1, Br_O2, opF, evalT, evalO, ofConst, argFr, binF, intF, unF, idxN_nat, reduceIte, reduceCtorEq, Nat.reduceEqDiff, Nat.reduceAdd, Nat.reduceMul, Option.getD_some, Option.getD_none, Option.map_some, Option.map_none, Option.bind_some, Option.some.injEq, Prod.mk.injEq, List.getElem?_toArray, List.getElem?_cons_zero, List.getElem?_cons_succ, List.getElem?_nil, Nat.succ_ne_zero, and_self, true_and, and_true, true_or, or_true, false_or, or_false, exists_eq_left, exists_eq_left', exists_eq, exists_and_left, and_assoc, if_true, if_false, decide_true, decide_false, Bool.false_eq_true, beq_self_eq_true, Bool.true_beq, Bool.false_beq, Bool.not_true, Bool.not_false, ne_eq, not_true_eq_false, not_false_eq_true, List.length_cons, List.length_nil, decide_eq_true_eq, decide_eq_false_iff_not, callB, List.zip_cons_cons, List.zip_nil_right, List.zip_nil_left, List.map_cons, List.map_nil, List.size_toArray, partF, TI.agg, scal, isAgg, cellsOf, tokRo, cellOk, List.all_cons, List.all_nil, Bool.and_true, Bool.true_and, Bool.or_true, Bool.true_or, Bool.or_false, Bool.and_self, Nat.reduceLeDiff, Nat.reduceLT, Nat.lt_add_one, Nat.zero_lt_succ, range1, range2, range3, range4, Option.isSome_some, splice, fillF, List.take_zero, List.drop_zero, List.drop_succ_cons, List.take_succ_cons, List.nil_append, List.cons_append, Int.reduceEq, Int.reduceLT, Int.reduceAdd, Int.reduceSub, Int.reduceMul, W_regionD, xrE, OpsW_eqnil, OpsW_neqnil, NilW_sl, List.set_cons_zero, List.set_cons_succ, List.headD_cons, T3, T4, T9, T22, T23, T25, T27, T37, T41, T54, T68, T89, f1, f4, e0', hw]
      exact ⟨c.ents.length - (i + 1), by omega, i + 1, rfl, s0, by omega, by rw [hc, hd, if_pos e0], rfl⟩
    · have e0' : (errAt c i != 0) = true := by simp [e0]
      simp only [W_skip, W_region, W_seq, W_cond, W_block, W_exit, W_label, W_ret, W_range, OpsW_nil, OpsW_app, OpsW_app', OpsW_op, OpsW_guard, upd_some, upd_none, Br_W1, Br_W2, Br_O1, Br_O2, opF, evalT, evalO, ofConst, argFr, binF, intF, unF, idxN_nat, reduceIte, reduceCtorEq, Nat.reduceEqDiff, Nat.reduceAdd, Nat.reduceMul, Option.getD_some, Option.getD_none, Option.map_some, Option.map_none, Option.bind_some, Option.some.injEq, Prod.mk.injEq, List.getElem?_toArray, List.getElem?_cons_zero, List.getElem?_cons_succ, List.getElem?_nil, Nat.succ_ne_zero, and_self, true_and, and_true, true_or, or_true, false_or, or_false, exists_eq_left, exists_eq_left', exists_eq, exists_and_left, and_assoc, if_true, if_false, decide_true, decide_false, Bool.false_eq_true, beq_self_eq_true, Bool.true_beq, Bool.false_beq, Bool.not_true, Bool.not_false, ne_eq, not_true_eq_false, not_false_eq_true, List.length_cons, List.length_nil, decide_eq_true_eq, decide_eq_false_iff_not, callB, List.zip_cons_cons, List.zip_nil_right, List.zip_nil_left, List.map_cons, List.map_nil, List.size_toArray, partF, TI.agg, scal, isAgg, cellsOf, tokRo, cellOk, List.all_cons, List.all_nil, Bool.and_true, Bool.true_and, Bool.or_true, Bool.true_or, Bool.or_false, Bool.and_self, Nat.reduceLeDiff, Nat.reduceLT, Nat.lt_add_one, Nat.zero_lt_succ, range1, range2, range3, range4, Option.isSome_some, splice, fillF, List.take_zero, List.drop_zero, List.drop_succ_cons, List.take_succ_cons, List.nil_append, List.cons_append, Int.reduceEq, Int.reduceLT, Int.reduceAdd, Int.reduceSub, Int.reduceMul, W_regionD, xrE, OpsW_eqnil, OpsW_neqnil, NilW_sl, List.set_cons_zero, List.set_cons_succ, List.headD_cons, T3, T4, T9, T22, T23, T25, T27, T37, T41, T54, T68, T89, f1, f4, e0', resF, resAll, resOne]
      exact ⟨1, by rw [pub_int, hn, hc, hd, if_neg e0]⟩
  · have hnil : (errs c).drop i = [] := List.drop_eq_nil_of_le (by rw [errs_length]; omega)
    rw [hnil] at hc
    simp only [W_skip, W_region, W_seq, W_cond, W_block, W_exit, W_label, W_ret, W_range, OpsW_nil, OpsW_app, OpsW_app', OpsW_op, OpsW_guard, upd_some, upd_none, Br_W1, Br_W2, Br_O1, Br_O2, opF, evalT, evalO, ofConst, argFr, binF, intF, unF, idxN_nat, reduceIte, reduceCtorEq, Nat.reduceEqDiff, Nat.reduceAdd, Nat.reduceMul, Option.getD_some, Option.getD_none, Option.map_some, Option.map_none, Option.bind_some, Option.some.injEq, Prod.mk.injEq, List.getElem?_toArray, List.getElem?_cons_zero, List.getElem?_cons_succ, List.getElem?_nil, Nat.succ_ne_zero, and_self, true_and, and_true, true_or, or_true, false_or, or_false, exists_eq_left, exists_eq_left', exists_eq, exists_and_left, and_assoc, if_true, if_false, decide_true, decide_false, Bool.false_eq_true, beq_self_eq_true, Bool.true_beq, Bool.false_beq, Bool.not_true, Bool.not_false, ne_eq, not_true_eq_false, not_false_eq_true, List.length_cons, List.length_nil, decide_eq_true_eq, decide_eq_false_iff_not, callB, List.zip_cons_cons, List.zip_nil_right, List.zip_nil_left, List.map_cons, List.map_nil, List.size_toArray, partF, TI.agg, scal, isAgg, cellsOf, tokRo, cellOk, List.all_cons, List.all_nil, Bool.and_true, Bool.true_and, Bool.or_true, Bool.true_or, Bool.or_false, Bool.and_self, Nat.reduceLeDiff, Nat.reduceLT, Nat.lt_add_one, Nat.zero_lt_succ, range1, range2, range3, range4, Option.isSome_some, splice, fillF, List.take_zero, List.drop_zero, List.drop_succ_cons, List.take_succ_cons, List.nil_append, List.cons_append, Int.reduceEq, Int.reduceLT, Int.reduceAdd, Int.reduceSub, Int.reduceMul, W_regionD, xrE, OpsW_eqnil, OpsW_neqnil, NilW_sl, List.set_cons_zero, List.set_cons_succ, List.headD_cons, T3, T4, T9, T22, T23, T25, T27, T37, T41, T54, T68, T89, f1, f4, s0, Coll.cells, entR_length, ci, resF, resAll, resOne]
    exact ⟨1, by rw [pub_int, hn, hc]; rfl⟩

set_option maxHeartbeats 8000000 in
theorem check_plain (c : Coll) (hf : Fits c) : Plain EE 13 [.agg c.cells] (.int .i64 (collErr c)) := by
  refine plain_of_W ok ok13 (by simp) ?_
  unfold BodyW
  have e0 : code Go.Proofs.Tryz.f13 = code Go.Proofs.Tryz.f13 := rfl
  conv at e0 => rhs; simp only [code, Go.Proofs.Tryz.f13, Option.getD_some]
  rw [e0]
  clear e0
  have one : numBad c = true → collErr c = 1 := fun h => by rw [collErr, if_pos h]
  by_cases c1 : c.base < 1
  · simp only [W_skip, W_region, W_seq, W_cond, W_block, W_exit, W_label, W_ret, W_range, OpsW_nil, OpsW_app, OpsW_app', OpsW_op, OpsW_guard, upd_some, upd_none, Br_W1, Br_W2, Br_O1, Br_O2, opF, evalT, evalO, ofConst, argFr, binF, intF, unF, idxN_nat, reduceIte, reduceCtorEq, Nat.reduceEqDiff, Nat.reduceAdd, Nat.reduceMul, Option.getD_some, Option.getD_none, Option.map_some, Option.map_none, Option.bind_some, Option.some.injEq, Prod.mk.injEq, List.getElem?_toArray, List.getElem?_cons_zero, List.getElem?_cons_succ, List.getElem?_nil, Nat.succ_ne_zero, and_self, true_and, and_true, true_or, or_true, false_or, or_false, exists_eq_left, exists_eq_left', exists_eq, exists_and_left, and_assoc, if_true, if_false, decide_true, decide_false, Bool.false_eq_true, beq_self_eq_true, Bool.true_beq, Bool.false_beq, Bool.not_true, Bool.not_false, ne_eq, not_true_eq_false, not_false_eq_true, List.length_cons, List.length_nil, decide_eq_true_eq, decide_eq_false_iff_not, callB, List.zip_cons_cons, List.zip_nil_right, List.zip_nil_left, List.map_cons, List.map_nil, List.size_toArray, partF, TI.agg, scal, isAgg, cellsOf, tokRo, cellOk, List.all_cons, List.all_nil, Bool.and_true, Bool.true_and, Bool.or_true, Bool.true_or, Bool.or_false, Bool.and_self, Nat.reduceLeDiff, Nat.reduceLT, Nat.lt_add_one, Nat.zero_lt_succ, range1, range2, range3, range4, Option.isSome_some, splice, fillF, List.take_zero, List.drop_zero, List.drop_succ_cons, List.take_succ_cons, List.nil_append, List.cons_append, Int.reduceEq, Int.reduceLT, Int.reduceAdd, Int.reduceSub, Int.reduceMul, W_regionD, xrE, OpsW_eqnil, OpsW_neqnil, NilW_sl, List.set_cons_zero, List.set_cons_succ, List.headD_cons, T3, T4, T9, T22, T23, T25, T27, T37, T41, T54, T68, T89, Coll.cells, c1, resF, resAll, resOne]
    exact ⟨1, by rw [pub_int, one (by simp [numBad, c1])]⟩
  by_cases c2 : c.base > 65502
  · simp only [W_skip, W_region, W_seq, W_cond, W_block, W_exit, W_label, W_ret, W_range, OpsW_nil, OpsW_app, OpsW_app', OpsW_op, OpsW_guard, upd_some, upd_none, Br_W1, Br_W2, Br_O1, Br_O2, opF, evalT, evalO, ofConst, argFr, binF, intF, unF, idxN_nat, reduceIte, reduceCtorEq, Nat.reduceEqDiff, Nat.reduceAdd, Nat.reduceMul, Option.getD_some, Option.getD_none, Option.map_some, Option.map_none, Option.bind_some, Option.some.injEq, Prod.mk.injEq, List.getElem?_toArray, List.getElem?_cons_zero, List.getElem?_cons_succ, List.getElem?_nil, Nat.succ_ne_zero, and_self, true_and, and_true, true_or, or_true, false_or, or_false, exists_eq_left, exists_eq_left', exists_eq, exists_and_left, and_assoc, if_true, if_false, decide_true, decide_false, Bool.false_eq_true, beq_self_eq_true, Bool.true_beq, Bool.false_beq, Bool.not_true, Bool.not_false, ne_eq, not_true_eq_false, not_false_eq_true, List.length_cons, List.length_nil, decide_eq_true_eq, decide_eq_false_iff_not, callB, List.zip_cons_cons, List.zip_nil_right, List.zip_nil_left, List.map_cons, List.map_nil, List.size_toArray, partF, TI.agg, scal, isAgg, cellsOf, tokRo, cellOk, List.all_cons, List.all_nil, Bool.and_true, Bool.true_and, Bool.or_true, Bool.true_or, Bool.or_false, Bool.and_self, Nat.reduceLeDiff, Nat.reduceLT, Nat.lt_add_one, Nat.zero_lt_succ, range1, range2, range3, range4, Option.isSome_some, splice, fillF, List.take_zero, List.drop_zero, List.drop_succ_cons, List.take_succ_cons, List.nil_append, List.cons_append, Int.reduceEq, Int.reduceLT, Int.reduceAdd, Int.reduceSub, Int.reduceMul, W_regionD, xrE, OpsW_eqnil, OpsW_neqnil, NilW_sl, List.set_cons_zero, List.set_cons_succ, List.headD_cons, T3, T4, T9, T22, T23, T25, T27, T37, T41, T54, T68, T89, Coll.cells, c1, c2, resF, resAll, resOne]
    exact ⟨1, by rw [pub_int, one (by simp [numBad, c2])]⟩
  by_cases c3 : c.second < 1
  · simp only [W_skip, W_region, W_seq, W_cond, W_block, W_exit, W_label, W_ret, W_range, OpsW_nil, OpsW_app, OpsW_app', OpsW_op, OpsW_guard, upd_some, upd_none, Br_W1, Br_W2, Br_O1, Br_O2, opF, evalT, evalO, ofConst, argFr, binF, intF, unF, idxN_nat, reduceIte, reduceCtorEq, Nat.reduceEqDiff, Nat.reduceAdd, Nat.reduceMul, Option.getD_some, Option.getD_none, Option.map_some, Option.map_none, Option.bind_some, Option.some.injEq, Prod.mk.injEq, List.getElem?_toArray, List.getElem?_cons_zero, List.getElem?_cons_succ, List.getElem?_nil, Nat.succ_ne_zero, and_self, true_and, and_true, true_or, or_true, false_or, or_false, exists_eq_left, exists_eq_left', exists_eq, exists_and_left, and_assoc, if_true, if_false, decide_true, decide_false, Bool.false_eq_true, beq_self_eq_true, Bool.true_beq, Bool.false_beq, Bool.not_true, Bool.not_false, ne_eq, not_true_eq_false, not_false_eq_true, List.length_cons, List.length_nil, decide_eq_true_eq, decide_eq_false_iff_not, callB, List.zip_cons_cons, List.zip_nil_right, List.zip_nil_left, List.map_cons, List.map_nil, List.size_toArray, partF, TI.agg, scal, isAgg, cellsOf, tokRo, cellOk, List.all_cons, List.all_nil, Bool.and_true, Bool.true_and, Bool.or_true, Bool.true_or, Bool.or_false, Bool.and_self, Nat.reduceLeDiff, Nat.reduceLT, Nat.lt_add_one, Nat.zero_lt_succ, range1, range2, range3, range4, Option.isSome_some, splice, fillF, List.take_zero, List.drop_zero, List.drop_succ_cons, List.take_succ_cons, List.nil_append, List.cons_append, Int.reduceEq, Int.reduceLT, Int.reduceAdd, Int.reduceSub, Int.reduceMul, W_regionD, xrE, OpsW_eqnil, OpsW_neqnil, NilW_sl, List.set_cons_zero, List.set_cons_succ, List.headD_cons, T3, T4, T9, T22, T23, T25, T27, T37, T41, T54, T68, T89, Coll.cells, c1, c2, c3, resF, resAll, resOne]
    exact ⟨1, by rw [pub_int, one (by simp [numBad, wOk1, c3])]⟩
  by_cases c4 : c.second > 65535
  · simp only [W_skip, W_region, W_seq, W_cond, W_block, W_exit, W_label, W_ret, W_range, OpsW_nil, OpsW_app, OpsW_app', OpsW_op, OpsW_guard, upd_some, upd_none, Br_W1, Br_W2, Br_O1, Br_O2, opF, evalT, evalO, ofConst, argFr, binF, intF, unF, idxN_nat, reduceIte, reduceCtorEq, Nat.reduceEqDiff, Nat.reduceAdd, Nat.reduceMul, Option.getD_some, Option.getD_none, Option.map_some, Option.map_none, Option.bind_some, Option.some.injEq, Prod.mk.injEq, List.getElem?_toArray, List.getElem?_cons_zero, List.getElem?_cons_succ, List.getElem?_nil, Nat.succ_ne_zero, and_self, true_and, and_true, true_or, or_true, false_or, or_false, exists_eq_left, exists_eq_left', exists_eq, exists_and_left, and_assoc, if_true, if_false, decide_true, decide_false, Bool.false_eq_true, beq_self_eq_true, Bool.true_beq, Bool.false_beq, Bool.not_true, Bool.not_false, ne_eq, not_true_eq_false, not_false_eq_true, List.length_cons, List.length_nil, decide_eq_true_eq, decide_eq_false_iff_not, callB, List.zip_cons_cons, List.zip_nil_right, List.zip_nil_left, List.map_cons, List.map_nil, List.size_toArray, partF, TI.agg, scal, isAgg, cellsOf, tokRo, cellOk, List.all_cons, List.all_nil, Bool.and_true, Bool.true_and, Bool.or_true, Bool.true_or, Bool.or_false, Bool.and_self, Nat.reduceLeDiff, Nat.reduceLT, Nat.lt_add_one, Nat.zero_lt_succ, range1, range2, range3, range4, Option.isSome_some, splice, fillF, List.take_zero, List.drop_zero, List.drop_succ_cons, List.take_succ_cons, List.nil_append, List.cons_append, Int.reduceEq, Int.reduceLT, Int.reduceAdd, Int.reduceSub, Int.reduceMul, W_regionD, xrE, OpsW_eqnil, OpsW_neqnil, NilW_sl, List.set_cons_zero, List.set_cons_succ, List.headD_cons, T3, T4, T9, T22, T23, T25, T27, T37, T41, T54, T68, T89, Coll.cells, c1, c2, c3, c4, resF, resAll, resOne]
    exact ⟨1, by rw [pub_int, one (by simp [numBad, wOk1]; omega)]⟩
  by_cases c5 : c.third < 1
  · simp only [W_skip, W_region, W_seq, W_cond, W_block, W_exit, W_label, W_ret, W_range, OpsW_nil, OpsW_app, OpsW_app', OpsW_op, OpsW_guard, upd_some, upd_none, Br_W1, Br_W2, Br_O1, Br_O2, opF, evalT, evalO, ofConst, argFr, binF, intF, unF, idxN_nat, reduceIte, reduceCtorEq, Nat.reduceEqDiff, Nat.reduceAdd, Nat.reduceMul, Option.getD_some, Option.getD_none, Option.map_some, Option.map_none, Option.bind_some, Option.some.injEq, Prod.mk.injEq, List.getElem?_toArray, List.getElem?_cons_zero, List.getElem?_cons_succ, List.getElem?_nil, Nat.succ_ne_zero, and_self, true_and, and_true, true_or, or_true, false_or, or_false, exists_eq_left, exists_eq_left', exists_eq, exists_and_left, and_assoc, if_true, if_false, decide_true, decide_false, Bool.false_eq_true, beq_self_eq_true, Bool.true_beq, Bool.false_beq, Bool.not_true, Bool.not_false, ne_eq, not_true_eq_false, not_false_eq_true, List.length_cons, List.length_nil, decide_eq_true_eq, decide_eq_false_iff_not, callB, List.zip_cons_cons, List.zip_nil_right, List.zip_nil_left, List.map_cons, List.map_nil, List.size_toArray, partF, TI.agg, scal, isAgg, cellsOf, tokRo, cellOk, List.all_cons, List.all_nil, Bool.and_true, Bool.true_and, Bool.or_true, Bool.true_or, Bool.or_false, Bool.and_self, Nat.reduceLeDiff, Nat.reduceLT, Nat.lt_add_one, Nat.zero_lt_succ, range1, range2, range3, range4, Option.isSome_some, splice, fillF, List.take_zero, List.drop_zero, List.drop_succ_cons, List.take_succ_cons, List.nil_append, List.cons_append, Int.reduceEq, Int.reduceLT, Int.reduceAdd, Int.reduceSub, Int.reduceMul, W_regionD, xrE, OpsW_eqnil, OpsW_neqnil, NilW_sl, List.set_cons_zero, List.set_cons_succ, List.headD_cons, T3, T4, T9, T22, T23, T25, T27, T37, T41, T54, T68, T89, Coll.cells, c1, c2, c3, c4, c5, resF, resAll, resOne]
    exact ⟨1, by rw [pub_int, one (by simp [numBad, wOk1]; omega)]⟩
  by_cases c6 : c.third > 65535
  · simp only [W_skip, W_region, W_seq, W_cond, W_block, W_exit, W_label, W_ret, W_range, OpsW_nil, OpsW_app, OpsW_app', OpsW_op, OpsW_guard, upd_some, upd_none, Br_W1, Br_W2, Br_O1, Br_O2, opF, evalT, evalO, ofConst, argFr, binF, intF, unF, idxN_nat, reduceIte, reduceCtorEq, Nat.reduceEqDiff, Nat.reduceAdd, Nat.reduceMul, Option.getD_some, Option.getD_none, Option.map_some, Option.map_none, Option.bind_some, Option.some.injEq, Prod.mk.injEq, List.getElem?_toArray, List.getElem?_cons_zero, List.getElem?_cons_succ, List.getElem?_nil, Nat.succ_ne_zero, and_self, true_and, and_true, true_or, or_true, false_or, or_false, exists_eq_left, exists_eq_left', exists_eq, exists_and_left, and_assoc, if_true, if_false, decide_true, decide_false, Bool.false_eq_true, beq_self_eq_true, Bool.true_beq, Bool.false_beq, Bool.not_true, Bool.not_false, ne_eq, not_true_eq_false, not_false_eq_true, List.length_cons, List.length_nil, decide_eq_true_eq, decide_eq_false_iff_not, callB, List.zip_cons_cons, List.zip_nil_right, List.zip_nil_left, List.map_cons, List.map_nil, List.size_toArray, partF, TI.agg, scal, isAgg, cellsOf, tokRo, cellOk, List.all_cons, List.all_nil, Bool.and_true, Bool.true_and, Bool.or_true, Bool.true_or, Bool.or_false, Bool.and_self, Nat.reduceLeDiff, Nat.reduceLT, Nat.lt_add_one, Nat.zero_lt_succ, range1, range2, range3, range4, Option.isSome_some, splice, fillF, List.take_zero, List.drop_zero, List.drop_succ_cons, List.take_succ_cons, List.nil_append, List.cons_append, Int.reduceEq, Int.reduceLT, Int.reduceAdd, Int.reduceSub, Int.reduceMul, W_regionD, xrE, OpsW_eqnil, OpsW_neqnil, NilW_sl, List.set_cons_zero, List.set_cons_succ, List.headD_cons, T3, T4, T9, T22, T23, T25, T27, T37, T41, T54, T68, T89, Coll.cells, c1, c2, c3, c4, c5, c6, resF, resAll, resOne]
    exact ⟨1, by rw [pub_int, one (by simp [numBad, wOk1]; omega)]⟩
  have hn : collErr c = if grpErr c.base c.grps ≠ 0 then grpErr c.base c.grps else firstErr (errs c) := by
    rw [collErr, if_neg]
    simp [numBad, wOk1]; omega
  simp only [W_skip, W_region, W_seq, W_cond, W_block, W_exit, W_label, W_ret, W_range, OpsW_nil, OpsW_app, OpsW_app', OpsW_op, OpsW_guard, upd_some, upd_none, Br_W1, Br_W2, Br_O1, Br_O2, opF, evalT, evalO, ofConst, argFr, binF, intF, unF, idxN_nat, reduceIte, reduceCtorEq, Nat.reduceEqDiff, Nat.reduceAdd, Nat.reduceMul, Option.getD_some, Option.getD_none, Option.map_some, Option.map_none, Option.bind_some, Option.some.injEq, Prod.mk.injEq, List.getElem?_toArray, List.getElem?_cons_zero, List.getElem?_cons_succ, List.getElem?_nil, Nat.succ_ne_zero, and_self, true_and, and_true, true_or, or_true, false_or, or_false, exists_eq_left, exists_eq_left', exists_eq, exists_and_left, and_assoc, if_true, if_false, decide_true, decide_false, Bool.false_eq_true, beq_self_eq_true, Bool.true_beq, Bool.false_beq, Bool.not_true, Bool.not_false, ne_eq, not_true_eq_false, not_false_eq_true, List.length_cons, List.length_nil, decide_eq_true_eq, decide_eq_false_iff_not, callB, List.zip_cons_cons, List.zip_nil_right, List.zip_nil_left, List.map_cons, List.map_nil, List.size_toArray, partF, TI.agg, scal, isAgg, cellsOf, tokRo, cellOk, List.all_cons, List.all_nil, Bool.and_true, Bool.true_and, Bool.or_true, Bool.true_or, Bool.or_false, Bool.and_self, Nat.reduceLeDiff, Nat.reduceLT, Nat.lt_add_one, Nat.zero_lt_succ, range1, range2, range3, range4, Option.isSome_some, splice, fillF, List.take_zero, List.drop_zero, List.drop_succ_cons, List.take_succ_cons, List.nil_append, List.cons_append, Int.reduceEq, Int.reduceLT, Int.reduceAdd, Int.reduceSub, Int.reduceMul, W_regionD, xrE, OpsW_eqnil, OpsW_neqnil, NilW_sl, List.set_cons_zero, List.set_cons_succ, List.headD_cons, T3, T4, T9, T22, T23, T25, T27, T37, T41, T54, T68, T89, Coll.cells, c1, c2, c3, c4, c5, c6]
  refine OpsW_pl (ofGroups_plain c hf.grps hf.names) rfl rfl (by simp only [W_skip, W_region, W_seq, W_cond, W_block, W_exit, W_label, W_ret, W_range, OpsW_nil, OpsW_app, OpsW_app', OpsW_op, OpsW_guard, upd_some, upd_none, Br_W1, Br_W2, Br_O1, Br_O2, opF, evalT, evalO, ofConst, argFr, binF, intF, unF, idxN_nat, reduceIte, reduceCtorEq, Nat.reduceEqDiff, Nat.reduceAdd, Nat.reduceMul, Option.getD_some, Option.getD_none, Option.map_some, Option.map_none, Option.bind_some, Option.some.injEq, Prod.mk.injEq, List.getElem?_toArray, List.getElem?_cons_zero, List.getElem?_cons_succ, List.getElem?_nil, Nat.succ_ne_zero, and_self, true_and, and_true, true_or, or_true, false_or, or_false, exists_eq_left, exists_eq_left', exists_eq, exists_and_left, and_assoc, if_true, if_false, decide_true, decide_false, Bool.false_eq_true, beq_self_eq_true, Bool.true_beq, Bool.false_beq, Bool.not_true, Bool.not_false, ne_eq, not_true_eq_false, not_false_eq_true, List.length_cons, List.length_nil, decide_eq_true_eq, decide_eq_false_iff_not, callB, List.zip_cons_cons, List.zip_nil_right, List.zip_nil_left, List.map_cons, List.map_nil, List.size_toArray, partF, TI.agg, scal, isAgg, cellsOf, tokRo, cellOk, List.all_cons, List.all_nil, Bool.and_true, Bool.true_and, Bool.or_true, Bool.true_or, Bool.or_false, Bool.and_self, Nat.reduceLeDiff, Nat.reduceLT, Nat.lt_add_one, Nat.zero_lt_succ, range1, range2, range3, range4, Option.isSome_some, splice, fillF, List.take_zero, List.drop_zero, List.drop_succ_cons, List.take_succ_cons, List.nil_append, List.cons_append, Int.reduceEq, Int.reduceLT, Int.reduceAdd, Int.reduceSub, Int.reduceMul, W_regionD, xrE, OpsW_eqnil, OpsW_neqnil, NilW_sl, List.set_cons_zero, List.set_cons_succ, List.headD_cons, T3, T4, T9, T22, T23, T25, T27, T37, T41, T54, T68, T89, callArgs, strips, strip_sl, strip_int, strip_bool, strip_str, strip_coll'] <;> rfl) ?_
  by_cases g0 : grpErr c.base c.grps = 0
  case neg =>
    have g0' : (grpErr c.base c.grps != 0) = true := by simp [g0]
    simp only [W_skip, W_region, W_seq, W_cond, W_block, W_exit, W_label, W_ret, W_range, OpsW_nil, OpsW_app, OpsW_app', OpsW_op, OpsW_guard, upd_some, upd_none, Br_W1, Br_W2, Br_O1, Br_O2, opF, evalT, evalO, ofConst, argFr, binF, intF, unF, idxN_nat, reduceIte, reduceCtorEq, Nat.reduceEqDiff, Nat.reduceAdd, Nat.reduceMul, Option.getD_some, Option.getD_none, Option.map_some, Option.map_none, Option.bind_some, Option.some.injEq, Prod.mk.injEq, List.getElem?_toArray, List.getElem?_cons_zero, List.getElem?_cons_succ, List.getElem?_nil, Nat.succ_ne_zero, and_self, true_and, and_true, true_or, or_true, false_or, or_false, exists_eq_left, exists_eq_left', exists_eq, exists_and_left, and_assoc, if_true, if_false, decide_true, decide_false, Bool.false_eq_true, beq_self_eq_true, Bool.true_beq, Bool.false_beq, Bool.not_true, Bool.not_false, ne_eq, not_true_eq_false, not_false_eq_true, List.length_cons, List.length_nil, decide_eq_true_eq, decide_eq_false_iff_not, callB, List.zip_cons_cons, List.zip_nil_right, List.zip_nil_left, List.map_cons, List.map_nil, List.size_toArray, partF, TI.agg, scal, isAgg, cellsOf, tokRo, cellOk, List.all_cons, List.all_nil, Bool.and_true, Bool.true_and, Bool.or_true, Bool.true_or, Bool.or_false, Bool.and_self, Nat.reduceLeDiff, Nat.reduceLT, Nat.lt_add_one, Nat.zero_lt_succ, range1, range2, range3, range4, Option.isSome_some, splice, fillF, List.take_zero, List.drop_zero, List.drop_succ_cons, List.take_succ_cons, List.nil_append, List.cons_append, Int.reduceEq, Int.reduceLT, Int.reduceAdd, Int.reduceSub, Int.reduceMul, W_regionD, xrE, OpsW_eqnil, OpsW_neqnil, NilW_sl, List.set_cons_zero, List.set_cons_succ, List.headD_cons, T3, T4, T9, T22, T23, T25, T27, T37, T41, T54, T68, T89, g0', resF, resAll, resOne]
    exact ⟨1, by rw [pub_int, hn, if_pos g0]⟩
  have g0' : (grpErr c.base c.grps != 0) = false := by simp [g0]
  rw [g0] at hn
  simp only [ne_eq, not_true_eq_false, if_false] at hn
  simp only [W_skip, W_region, W_seq, W_cond, W_block, W_exit, W_label, W_ret, W_range, OpsW_nil, OpsW_app, OpsW_app', OpsW_op, OpsW_guard, upd_some, upd_none, Br_W1, Br_W2, Br_O1, Br_O2, opF, evalT, evalO, ofConst, argFr, binF, intF, unF, idxN_nat, reduceIte, reduceCtorEq, Nat.reduceEqDiff, Nat.reduceAdd, Nat.reduceMul, Option.getD_some, Option.getD_none, Option.map_some, Option.map_none, Option.bind_some, Option.some.injEq, Prod.mk.injEq, List.getElem?_toArray, List.getElem?_cons_zero, List.getElem?_cons_succ, List.getElem?_nil, Nat.succ_ne_zero, and_self, true_and, and_true, true_or, or_true, false_or, or_false, exists_eq_left, exists_eq_left', exists_eq, exists_and_left, and_assoc, if_true, if_false, decide_true, decide_false, Bool.false_eq_true, beq_self_eq_true, Bool.true_beq, Bool.false_beq, Bool.not_true, Bool.not_false, ne_eq, not_true_eq_false, not_false_eq_true, List.length_cons, List.length_nil, decide_eq_true_eq, decide_eq_false_iff_not, callB, List.zip_cons_cons, List.zip_nil_right, List.zip_nil_left, List.map_cons, List.map_nil, List.size_toArray, partF, TI.agg, scal, isAgg, cellsOf, tokRo, cellOk, List.all_cons, List.all_nil, Bool.and_true, Bool.true_and, Bool.or_true, Bool.true_or, Bool.or_false, Bool.and_self, Nat.reduceLeDiff, Nat.reduceLT, Nat.lt_add_one, Nat.zero_lt_succ, range1, range2, range3, range4, Option.isSome_some, splice, fillF, List.take_zero, List.drop_zero, List.drop_succ_cons, List.take_succ_cons, List.nil_append, List.cons_append, Int.reduceEq, Int.reduceLT, Int.reduceAdd, Int.reduceSub, Int.reduceMul, W_regionD, xrE, OpsW_eqnil, OpsW_neqnil, NilW_sl, List.set_cons_zero, List.set_cons_succ, List.headD_cons, T3, T4, T9, T22, T23, T25, T27, T37, T41, T54, T68, T89, g0', entR_length]
  refine W_loop (fun n fr st => ∃ (i : Nat), fr 1 = .optr 0 5 0 ∧ fr 41 = .sl 2 (entR c.ents) (tk c.a) ∧ fr 42 = .int .i64 c.ents.length ∧ fr 43 = .int .i64 i ∧ st[0]? = some (.cells c.cells) ∧ i ≤ c.ents.length ∧ firstErr (errs c) = firstErr ((errs c).drop i) ∧ n = c.ents.length - i) ?_ c.ents.length _ _
    ⟨0, by simp [upd], by simp [upd], by simp [upd], by simp [upd], rfl, by omega, by simp, by omega⟩
  rintro n fr st ⟨i, f1, f41, f42, f43, s0, hi, hc, rfl⟩
  have hle := hf.ents
  have s0' : ∀ x, (st ++ [x])[0]? = some (.cells c.cells) := fun x => get_app s0
  by_cases ci : (i : Int) < (c.ents.length : Int)
  · have ia : i < c.ents.length := by omega
    have ga := entR_get c.ents i ia
    have hw : IntKind.i64.wrap ((i : Int) + 1) = ((i + 1 : Nat) : Int) := by rw [wrap_small (by omega) (by omega)]; rfl
    have hd := errs_drop c i ia
    have ha := errAt_at c i ia
    have hx := List.getElem_mem ia
    simp only [W_skip, W_region, W_seq, W_cond, W_block, W_exit, W_label, W_ret, W_range, OpsW_nil, OpsW_app, OpsW_app', OpsW_op, OpsW_guard, upd_some, upd_none, Br_W1, Br_W2, Br_O1, Br_O2, opF, evalT, evalO, ofConst, argFr, binF, intF, unF, idxN_nat, reduceIte, reduceCtorEq, Nat.reduceEqDiff, Nat.reduceAdd, Nat.reduceMul, Option.getD_some, Option.getD_none, Option.map_some, Option.map_none, Option.bind_some, Option.some.injEq, Prod.mk.injEq, List.getElem?_toArray, List.getElem?_cons_zero, List.getElem?_cons_succ, List.getElem?_nil, Nat.succ_ne_zero, and_self, true_and, and_true, true_or, or_true, false_or, or_false, exists_eq_left, exists_eq_left', exists_eq, exists_and_left, and_assoc, if_true, if_false, decide_true, decide_false, Bool.false_eq_true, beq_self_eq_true, Bool.true_beq, Bool.false_beq, Bool.not_true, Bool.not_false, ne_eq, not_true_eq_false, not_false_eq_true, List.length_cons, List.length_nil, decide_eq_true_eq, decide_eq_false_iff_not, callB, List.zip_cons_cons, List.zip_nil_right, List.zip_nil_left, List.map_cons, List.map_nil, List.size_toArray, partF, TI.agg, scal, isAgg, cellsOf, tokRo, cellOk, List.all_cons, List.all_nil, Bool.and_true, Bool.true_and, Bool.or_true, Bool.true_or, Bool.or_false, Bool.and_self, Nat.reduceLeDiff, Nat.reduceLT, Nat.lt_add_one, Nat.zero_lt_succ, range1, range2, range3, range4, Option.isSome_some, splice, fillF, List.take_zero, List.drop_zero, List.drop_succ_cons, List.take_succ_cons, List.nil_append, List.cons_append, Int.reduceEq, Int.reduceLT, Int.reduceAdd, Int.reduceSub, Int.reduceMul, W_regionD, xrE, OpsW_eqnil, OpsW_neqnil, NilW_sl, List.set_cons_zero, List.set_cons_succ, List.headD_cons, T3, T4, T9, T22, T23, T25, T27, T37, T41, T54, T68, T89, f1, f41, f42, f43, s0', ci, ga, get_last, set_last, Coll.cells]
    refine OpsW_pl (ofEntry_plain c c.ents[i] (hf.codes _ hx) (hf.els _ hx)) rfl rfl (by simp only [W_skip, W_region, W_seq, W_cond, W_block, W_exit, W_label, W_ret, W_range, OpsW_nil, OpsW_app, OpsW_app', OpsW_op, OpsW_guard, upd_some, upd_none, Br_W1, Br_W2, Br_O1, Br_O2, opF, evalT, evalO, ofConst, argFr, binF, intF, unF, idxN_nat, reduceIte, reduceCtorEq, Nat.reduceEqDiff, Nat.reduceAdd, Nat.reduceMul, Option.getD_some, Option.getD_none, Option.map_some, Option.map_none, Option.bind_some, Option.some.injEq, Prod.mk.injEq, List.getElem?_toArray, List.getElem?_cons_zero, List.getElem?_cons_succ, List.getElem?_nil, Nat.succ_ne_zero, and_self, true_and, and_true, true_or, or_true, false_or, or_false, exists_eq_left, exists_eq_left', exists_eq, exists_and_left, and_assoc, if_true, if_false, decide_true, decide_false, Bool.false_eq_true, beq_self_eq_true, Bool.true_beq, Bool.false_beq, Bool.not_true, Bool.not_false, ne_eq, not_true_eq_false, not_false_eq_true, List.length_cons, List.length_nil, decide_eq_true_eq, decide_eq_false_iff_not, callB, List.zip_cons_cons, List.zip_nil_right, List.zip_nil_left, List.map_cons, List.map_nil, List.size_toArray, partF, TI.agg, scal, isAgg, cellsOf, tokRo, cellOk, List.all_cons, List.all_nil, Bool.and_true, Bool.true_and, Bool.or_true, Bool.true_or, Bool.or_false, Bool.and_self, Nat.reduceLeDiff, Nat.reduceLT, Nat.lt_add_one, Nat.zero_lt_succ, range1, range2, range3, range4, Option.isSome_some, splice, fillF, List.take_zero, List.drop_zero, List.drop_succ_cons, List.take_succ_cons, List.nil_append, List.cons_append, Int.reduceEq, Int.reduceLT, Int.reduceAdd, Int.reduceSub, Int.reduceMul, W_regionD, xrE, OpsW_eqnil, OpsW_neqnil, NilW_sl, List.set_cons_zero, List.set_cons_succ, List.headD_cons, T3, T4, T9, T22, T23, T25, T27, T37, T41, T54, T68, T89, callArgs, strips, strip_sl, strip_int, strip_bool, strip_str, strip_coll', strip_entry'] <;> rfl) ?_
    by_cases e0 : entErr c.base c.ents[i] = 0
    case neg =>
      have e0' : (entErr c.base c.ents[i] != 0) = true := by simp [e0]
      rw [if_pos e0] at ha
      simp only [W_skip, W_region, W_seq, W_cond, W_block, W_exit, W_label, W_ret, W_range, OpsW_nil, OpsW_app, OpsW_app', OpsW_op, OpsW_guard, upd_some, upd_none, Br_W1, Br_W2, Br_O1, Br_O2, opF, evalT, evalO, ofConst, argFr, binF, intF, unF, idxN_nat, reduceIte, reduceCtorEq, Nat.reduceEqDiff, Nat.reduceAdd, Nat.reduceMul, Option.getD_some, Option.getD_none, Option.map_some, Option.map_none, Option.bind_some, Option.some.injEq, Prod.mk.injEq, List.getElem?_toArray, List.getElem?_cons_zero, List.getElem?_cons_succ, List.getElem?_nil, Nat.succ_ne_zero, and_self, true_and, and_true, true_or, or_true, false_or, or_false, exists_eq_left, exists_eq_left', exists_eq, exists_and_left, and_assoc, if_true, if_false, decide_true, decide_false, Bool.false_eq_true, beq_self_eq_true, Bool.true_beq, Bool.false_beq, Bool.not_true, Bool.not_false, ne_eq, not_true_eq_false, not_false_eq_true, List.length_cons, List.length_nil, decide_eq_true_eq, decide_eq_false_iff_not, callB, List.zip_cons_cons, List.zip_nil_right, List.zip_nil_left, List.map_cons, List.map_nil, List.size_toArray, partF, TI.agg, scal, isAgg, cellsOf, tokRo, cellOk, List.all_cons, List.all_nil, Bool.and_true, Bool.true_and, Bool.or_true, Bool.true_or, Bool.or_false, Bool.and_self, Nat.reduceLeDiff, Nat.reduceLT, Nat.lt_add_one, Nat.zero_lt_succ, range1, range2, range3, range4, Option.isSome_some, splice, fillF, List.take_zero, List.drop_zero, List.drop_succ_cons, List.take_succ_cons, List.nil_append, List.cons_append, Int.reduceEq, Int.reduceLT, Int.reduceAdd, Int.reduceSub, Int.reduceMul, W_regionD, xrE, OpsW_eqnil, OpsW_neqnil, NilW_sl, List.set_cons_zero, List.set_cons_succ, List.headD_cons, T3, T4, T9, T22, T23, T25, T27, T37, T41, T54, T68, T89, f1, f41, f42, f43, e0', resF, resAll, resOne]
      exact ⟨1, by rw [pub_int, hn, hc, hd, if_neg (by rw [ha]; exact e0), ha]⟩
    have e0' : (entErr c.base c.ents[i] != 0) = false := by simp [e0]
    rw [e0] at ha
    simp only [ne_eq, not_true_eq_false, if_false] at ha
    by_cases ip : (i : Int) > 0
    · have ip' : decide (i > 0) = true := by simp; omega
      have ipl : i - 1 < c.ents.length := by omega
      have gp := entR_get c.ents (i - 1) ipl
      have hw1 : IntKind.i64.wrap ((i : Int) - 1) = ((i - 1 : Nat) : Int) := by rw [wrap_small (by omega) (by omega)]; omega
      rw [ip', List.getElem?_eq_getElem ipl] at ha
      simp only [W_skip, W_region, W_seq, W_cond, W_block, W_exit, W_label, W_ret, W_range, OpsW_nil, OpsW_app, OpsW_app', OpsW_op, OpsW_guard, upd_some, upd_none, Br_W1, Br_W2, Br_O1, Br_O2, opF, evalT, evalO, ofConst, argFr, binF, intF, unF, idxN_nat, reduceIte, reduceCtorEq, Nat.reduceEqDiff, Nat.reduceAdd, Nat.reduceMul, Option.getD_some, Option.getD_none, Option.map_some, Option.map_none, Option.bind_some, Option.some.injEq, Prod.mk.injEq, List.getElem?_toArray, List.getElem?_cons_zero, List.getElem?_cons_succ, List.getElem?_nil, Nat.succ_ne_zero, and_self, true_and, and_true, true_or, or_true, false_or, or_false, exists_eq_left, exists_eq_left', exists_eq, exists_and_left, and_assoc, if_true, if_false, decide_true, decide_false, Bool.false_eq_true, beq_self_eq_true, Bool.true_beq, Bool.false_beq, Bool.not_true, Bool.not_false, ne_eq, not_true_eq_false, not_false_eq_true, List.length_cons, List.length_nil, decide_eq_true_eq, decide_eq_false_iff_not, callB, List.zip_cons_cons, List.zip_nil_right, List.zip_nil_left, List.map_cons, List.map_nil, List.size_toArray, partF, TI.agg, scal, isAgg, cellsOf, tokRo, cellOk, List.all_cons, List.all_nil, Bool.and_true, Bool.true_and, Bool.or_true, Bool.true_or, Bool.or_false, Bool.and_self, Nat.reduceLeDiff, Nat.reduceLT, Nat.lt_add_one, Nat.zero_lt_succ, range1, range2, range3, range4, Option.isSome_some, splice, fillF, List.take_zero, List.drop_zero, List.drop_succ_cons, List.take_succ_cons, List.nil_append, List.cons_append, Int.reduceEq, Int.reduceLT, Int.reduceAdd, Int.reduceSub, Int.reduceMul, W_regionD, xrE, OpsW_eqnil, OpsW_neqnil, NilW_sl, List.set_cons_zero, List.set_cons_succ, List.headD_cons, T3, T4, T9, T22, T23, T25, T27, T37, T41, T54, T68, T89, f1, f41, f42, f43, s0', e0', ip, hw1, gp, get_last, Coll.cells]
      refine OpsW_pl (compareC_plain c.ents[i - 1].codes c.ents[i].codes _ _ (hf.codes _ (List.getElem_mem ipl)) (hf.codes _ hx)) rfl rfl (by simp only [W_skip, W_region, W_seq, W_cond, W_block, W_exit, W_label, W_ret, W_range, OpsW_nil, OpsW_app, OpsW_app', OpsW_op, OpsW_guard, upd_some, upd_none, Br_W1, Br_W2, Br_O1, Br_O2, opF, evalT, evalO, ofConst, argFr, binF, intF, unF, idxN_nat, reduceIte, reduceCtorEq, Nat.reduceEqDiff, Nat.reduceAdd, Nat.reduceMul, Option.getD_some, Option.getD_none, Option.map_some, Option.map_none, Option.bind_some, Option.some.injEq, Prod.mk.injEq, List.getElem?_toArray, List.getElem?_cons_zero, List.getElem?_cons_succ, List.getElem?_nil, Nat.succ_ne_zero, and_self, true_and, and_true, true_or, or_true, false_or, or_false, exists_eq_left, exists_eq_left', exists_eq, exists_and_left, and_assoc, if_true, if_false, decide_true, decide_false, Bool.false_eq_true, beq_self_eq_true, Bool.true_beq, Bool.false_beq, Bool.not_true, Bool.not_false, ne_eq, not_true_eq_false, not_false_eq_true, List.length_cons, List.length_nil, decide_eq_true_eq, decide_eq_false_iff_not, callB, List.zip_cons_cons, List.zip_nil_right, List.zip_nil_left, List.map_cons, List.map_nil, List.size_toArray, partF, TI.agg, scal, isAgg, cellsOf, tokRo, cellOk, List.all_cons, List.all_nil, Bool.and_true, Bool.true_and, Bool.or_true, Bool.true_or, Bool.or_false, Bool.and_self, Nat.reduceLeDiff, Nat.reduceLT, Nat.lt_add_one, Nat.zero_lt_succ, range1, range2, range3, range4, Option.isSome_some, splice, fillF, List.take_zero, List.drop_zero, List.drop_succ_cons, List.take_succ_cons, List.nil_append, List.cons_append, Int.reduceEq, Int.reduceLT, Int.reduceAdd, Int.reduceSub, Int.reduceMul, W_regionD, xrE, OpsW_eqnil, OpsW_neqnil, NilW_sl, List.set_cons_zero, List.set_cons_succ, List.headD_cons, T3, T4, T9, T22, T23, T25, T27, T37, T41, T54, T68, T89, callArgs, strips, strip_sl, strip_int, strip_bool, strip_str] <;> rfl) ?_
      by_cases c2 : cmpL c.ents[i - 1].codes c.ents[i].codes ≥ 0
      · have c2' : decide (cmpL c.ents[i - 1].codes c.ents[i].codes ≥ 0) = true := by simp [c2]
        simp only [c2'] at ha
        have ha : errAt c i = 4 := ha
        simp only [W_skip, W_region, W_seq, W_cond, W_block, W_exit, W_label, W_ret, W_range, OpsW_nil, OpsW_app, OpsW_app', OpsW_op, OpsW_guard, upd_some, upd_none, Br_W1, Br_W2, Br_O1, Br_O2, opF, evalT, evalO, ofConst, argFr, binF, intF, unF, idxN_nat, reduceIte, reduceCtorEq, Nat.reduceEqDiff, Nat.reduceAdd, Nat.reduceMul, Option.getD_some, Option.getD_none, Option.map_some, Option.map_none, Option.bind_some, Option.some.injEq, Prod.mk.injEq, List.getElem?_toArray, List.getElem?_cons_zero, List.getElem?_cons_succ, List.getElem?_nil, Nat.succ_ne_zero, and_self, true_and, and_true, true_or, or_true, false_or, or_false, exists_eq_left, exists_eq_left', exists_eq, exists_and_left, and_assoc, if_true, if_false, decide_true, decide_false, Bool.false_eq_true, beq_self_eq_true, Bool.true_beq, Bool.false_beq, Bool.not_true, Bool.not_false, ne_eq, not_true_eq_false, not_false_eq_true, List.length_cons, List.length_nil, decide_eq_true_eq, decide_eq_false_iff_not, callB, List.zip_cons_cons, List.zip_nil_right, List.zip_nil_left, List.map_cons, List.map_nil, List.size_toArray, partF, TI.agg, scal, isAgg, cellsOf, tokRo, cellOk, List.all_cons, List.all_nil, Bool.and_true, Bool.true_and, Bool.or_true, Bool.true_or, Bool.or_false, Bool.and_self, Nat.reduceLeDiff, Nat.reduceLT, Nat.lt_add_one, Nat.zero_lt_succ, range1, range2, range3, range4, Option.isSome_some, splice, fillF, List.take_zero, List.drop_zero, List.drop_succ_cons, List.take_succ_cons, List.nil_append, List.cons_append, Int.reduceEq, Int.reduceLT, Int.reduceAdd, Int.reduceSub, Int.reduceMul, W_regionD, xrE, OpsW_eqnil, OpsW_neqnil, NilW_sl, List.set_cons_zero, List.set_cons_succ, List.headD_cons, T3, T4, T9, T22, T23, T25, T27, T37, T41, T54, T68, T89, c2, resF, resAll, resOne]
        exact ⟨1, by rw [pub_int, hn, hc, hd, if_neg (by rw [ha]; decide), ha]⟩
      · have c2' : decide (cmpL c.ents[i - 1].codes c.ents[i].codes ≥ 0) = false := by simp [c2]
        simp only [c2'] at ha
        have ha : errAt c i = 0 := ha
        simp only [W_skip, W_region, W_seq, W_cond, W_block, W_exit, W_label, W_ret, W_range, OpsW_nil, OpsW_app, OpsW_app', OpsW_op, OpsW_guard, upd_some, upd_none, Br_W1, Br_W2, Br_O1, Br_O2, opF, evalT, evalO, ofConst, argFr, binF, intF, unF, idxN_nat, reduceIte, reduceCtorEq, Nat.reduceEqDiff, Nat.reduceAdd, Nat.reduceMul, Option.getD_some, Option.getD_none, Option.map_some, Option.map_none, Option.bind_some, Option.some.injEq, Prod.mk.injEq, List.getElem?_toArray, List.getElem?_cons_zero, List.getElem?_cons_succ, List.getElem?_nil, Nat.succ_ne_zero, and_self, true_and, and_true, true_or, or_true, false_or, or_false, exists_eq_left, exists_eq_left', exists_eq, exists_and_left, and_assoc, if_true, if_false, decide_true, decide_false, Bool.false_eq_true, beq_self_eq_true, Bool.true_beq, Bool.false_beq, Bool.not_true, Bool.not_false, ne_eq, not_true_eq_false, not_false_eq_true, List.length_cons, List.length_nil, decide_eq_true_eq, decide_eq_false_iff_not, callB, List.zip_cons_cons, List.zip_nil_right, List.zip_nil_left, List.map_cons, List.map_nil, List.size_toArray, partF, TI.agg, scal, isAgg, cellsOf, tokRo, cellOk, List.all_cons, List.all_nil, Bool.and_true, Bool.true_and, Bool.or_true, Bool.true_or, Bool.or_false, Bool.and_self, Nat.reduceLeDiff, Nat.reduceLT, Nat.lt_add_one, Nat.zero_lt_succ, range1, range2, range3, range4, Option.isSome_some, splice, fillF, List.take_zero, List.drop_zero, List.drop_succ_cons, List.take_succ_cons, List.nil_append, List.cons_append, Int.reduceEq, Int.reduceLT, Int.reduceAdd, Int.reduceSub, Int.reduceMul, W_regionD, xrE, OpsW_eqnil, OpsW_neqnil, NilW_sl, List.set_cons_zero, List.set_cons_succ, List.headD_cons, T3, T4, T9, T22, T23, T25, T27, T37, T41, T54, T68, T89, f1, f41, f42, f43, c2, hw]
        exact ⟨c.ents.length - (i + 1), by omega, i + 1, rfl, s0' _, by omega, by rw [hc, hd, if_pos ha], rfl⟩
    · have ip' : decide (i > 0) = false := by simp; omega
      rw [ip'] at ha
      have ha : errAt c i = 0 := ha
      simp only [W_skip, W_region, W_seq, W_cond, W_block, W_exit, W_label, W_ret, W_range, OpsW_nil, OpsW_app, OpsW_app', OpsW_op, OpsW_guard, upd_some, upd_none, Br_W1, Br_W2, Br_O1, Br_O2, opF, evalT, evalO, ofConst, argFr, binF, intF, unF, idxN_nat, reduceIte, reduceCtorEq, Nat.reduceEqDiff, Nat.reduceAdd, Nat.reduceMul, Option.getD_some, Option.getD_none, Option.map_some, Option.map_none, Option.bind_some, Option.some.injEq, Prod.mk.injEq, List.getElem?_toArray, List.getElem?_cons_zero, List.getElem?_cons_succ, List.getElem?_nil, Nat.succ_ne_zero, and_self, true_and, and_true, true_or, or_true, false_or, or_false, exists_eq_left, exists_eq_left', exists_eq, exists_and_left, and_assoc, if_true, if_false, decide_true, decide_false, Bool.false_eq_true, beq_self_eq_true, Bool.true_beq, Bool.false_beq, Bool.not_true, Bool.not_false, ne_eq, not_true_eq_false, not_false_eq_true, List.length_cons, List.length_nil, decide_eq_true_eq, decide_eq_false_iff_not, callB, List.zip_cons_cons, List.zip_nil_right, List.zip_nil_left, List.map_cons, List.map_nil, List.size_toArray, partF, TI.agg, scal, isAgg, cellsOf, tokRo, cellOk, List.all_cons, List.all_nil, Bool.and_true, Bool.true_and, Bool.or_true, Bool.true_or, Bool.or_false, Bool.and_self, Nat.reduceLeDiff, Nat.reduceLT, Nat.lt_add_one, Nat.zero_lt_succ, range1, range2, range3, range4, Option.isSome_some, splice, fillF, List.take_zero, List.drop_zero, List.drop_succ_cons, List.take_succ_cons, List.nil_append, List.cons_append, Int.reduceEq, Int.reduceLT, Int.reduceAdd, Int.reduceSub, Int.reduceMul, W_regionD, xrE, OpsW_eqnil, OpsW_neqnil, NilW_sl, List.set_cons_zero, List.set_cons_succ, List.headD_cons, T3, T4, T9, T22, T23, T25, T27, T37, T41, T54, T68, T89, f1, f41, f42, f43, e0', ip, hw]
      exact ⟨c.ents.length - (i + 1), by omega, i + 1, rfl, s0' _, by omega, by rw [hc, hd, if_pos ha], rfl⟩
  · have hnil : (errs c).drop i = [] := List.drop_eq_nil_of_le (by rw [errs_length]; omega)
    rw [hnil] at hc
    simp only [W_skip, W_region, W_seq, W_cond, W_block, W_exit, W_label, W_ret, W_range, OpsW_nil, OpsW_app, OpsW_app', OpsW_op, OpsW_guard, upd_some, upd_none, Br_W1, Br_W2, Br_O1, Br_O2, opF, evalT, evalO, ofConst, argFr, binF, intF, unF, idxN_nat, reduceIte, reduceCtorEq, Nat.reduceEqDiff, Nat.reduceAdd, Nat.reduceMul, Option.getD_some, Option.getD_none, Option.map_some, Option.map_none, Option.bind_some, Option.some.injEq, Prod.mk.injEq, List.getElem?_toArray, List.getElem?_cons_zero, List.getElem?_cons_succ, List.getElem?_nil, Nat.succ_ne_zero, and_self, true_and, and_true, true_or, or_true, false_or, or_false, exists_eq_left, exists_eq_left', exists_eq, exists_and_left, and_assoc, if_true, if_false, decide_true, decide_false, Bool.false_eq_true, beq_self_eq_true, Bool.true_beq, Bool.false_beq, Bool.not_true, Bool.not_false, ne_eq, not_true_eq_false, not_false_eq_true, List.length_cons, List.length_nil, decide_eq_true_eq, decide_eq_false_iff_not, callB, List.zip_cons_cons, List.zip_nil_right, List.zip_nil_left, List.map_cons, List.map_nil, List.size_toArray, partF, TI.agg, scal, isAgg, cellsOf, tokRo, cellOk, List.all_cons, List.all_nil, Bool.and_true, Bool.true_and, Bool.or_true, Bool.true_or, Bool.or_false, Bool.and_self, Nat.reduceLeDiff, Nat.reduceLT, Nat.lt_add_one, Nat.zero_lt_succ, range1, range2, range3, range4, Option.isSome_some, splice, fillF, List.take_zero, List.drop_zero, List.drop_succ_cons, List.take_succ_cons, List.nil_append, List.cons_append, Int.reduceEq, Int.reduceLT, Int.reduceAdd, Int.reduceSub, Int.reduceMul, W_regionD, xrE, OpsW_eqnil, OpsW_neqnil, NilW_sl, List.set_cons_zero, List.set_cons_succ, List.headD_cons, T3, T4, T9, T22, T23, T25, T27, T37, T41, T54, T68, T89, f1, f41, f42, f43, ci, resF, resAll, resOne]
    exact ⟨1, by rw [pub_int, hn, hc]; rfl⟩

def smallC (c : Coll) : Bool := decide (c.ents.length ≤ 12) && decide (c.grps.length ≤ 8) && c.ents.all fun x => decide (x.codes.length ≤ 10) && decide (x.els.length ≤ 20)
set_option maxHeartbeats 8000000 in
theorem small_plain (c : Coll) (hf : c.ents.length < 9223372036854775808) : Plain EE 12 [.agg c.cells] (.bool (smallC c)) := by
  refine plain_of_W ok ok12 (by simp) ?_
  unfold BodyW
  have e0 : code Go.Proofs.Tryz.f12 = code Go.Proofs.Tryz.f12 := rfl
  conv at e0 => rhs; simp only [code, Go.Proofs.Tryz.f12, Option.getD_some]
  rw [e0]
  clear e0
  by_cases c1 : (c.ents.length : Int) > 12
  · simp only [W_skip, W_region, W_seq, W_cond, W_block, W_exit, W_label, W_ret, W_range, OpsW_nil, OpsW_app, OpsW_app', OpsW_op, OpsW_guard, upd_some, upd_none, Br_W1, Br_W2, Br_O1, Br_O2, opF, evalT, evalO, ofConst, argFr, binF, intF, unF, idxN_nat, reduceIte, reduceCtorEq, Nat.reduceEqDiff, Nat.reduceAdd, Nat.reduceMul, Option.getD_some, Option.getD_none, Option.map_some, Option.map_none, Option.bind_some, Option.some.injEq, Prod.mk.injEq, List.getElem?_toArray, List.getElem?_cons_zero, List.getElem?_cons_succ, List.getElem?_nil, Nat.succ_ne_zero, and_self, true_and, and_true, true_or, or_true, false_or, or_false, exists_eq_left, exists_eq_left', exists_eq, exists_and_left, and_assoc, if_true, if_false, decide_true, decide_false, Bool.false_eq_true, beq_self_eq_true, Bool.true_beq, Bool.false_beq, Bool.not_true, Bool.not_false, ne_eq, not_true_eq_false, not_false_eq_true, List.length_cons, List.length_nil, decide_eq_true_eq, decide_eq_false_iff_not, callB, List.zip_cons_cons, List.zip_nil_right, List.zip_nil_left, List.map_cons, List.map_nil, List.size_toArray, partF, TI.agg, scal, isAgg, cellsOf, tokRo, cellOk, List.all_cons, List.all_nil, Bool.and_true, Bool.true_and, Bool.or_true, Bool.true_or, Bool.or_false, Bool.and_self, Nat.reduceLeDiff, Nat.reduceLT, Nat.lt_add_one, Nat.zero_lt_succ, range1, range2, range3, range4, Option.isSome_some, splice, fillF, List.take_zero, List.drop_zero, List.drop_succ_cons, List.take_succ_cons, List.nil_append, List.cons_append, Int.reduceEq, Int.reduceLT, Int.reduceAdd, Int.reduceSub, Int.reduceMul, W_regionD, xrE, OpsW_eqnil, OpsW_neqnil, NilW_sl, List.set_cons_zero, List.set_cons_succ, List.headD_cons, T3, T4, T9, T22, T23, T25, T37, T41, T54, T68, T89, Coll.cells, entR_length, grpR_length, c1, resF, resAll, resOne]
    exact ⟨1, by rw [pub_bool]; have : ¬ c.ents.length ≤ 12 := by omega
                 simp [smallC, this]⟩
  by_cases c2 : (c.grps.length : Int) > 8
  · simp only [W_skip, W_region, W_seq, W_cond, W_block, W_exit, W_label, W_ret, W_range, OpsW_nil, OpsW_app, OpsW_app', OpsW_op, OpsW_guard, upd_some, upd_none, Br_W1, Br_W2, Br_O1, Br_O2, opF, evalT, evalO, ofConst, argFr, binF, intF, unF, idxN_nat, reduceIte, reduceCtorEq, Nat.reduceEqDiff, Nat.reduceAdd, Nat.reduceMul, Option.getD_some, Option.getD_none, Option.map_some, Option.map_none, Option.bind_some, Option.some.injEq, Prod.mk.injEq, List.getElem?_toArray, List.getElem?_cons_zero, List.getElem?_cons_succ, List.getElem?_nil, Nat.succ_ne_zero, and_self, true_and, and_true, true_or, or_true, false_or, or_false, exists_eq_left, exists_eq_left', exists_eq, exists_and_left, and_assoc, if_true, if_false, decide_true, decide_false, Bool.false_eq_true, beq_self_eq_true, Bool.true_beq, Bool.false_beq, Bool.not_true, Bool.not_false, ne_eq, not_true_eq_false, not_false_eq_true, List.length_cons, List.length_nil, decide_eq_true_eq, decide_eq_false_iff_not, callB, List.zip_cons_cons, List.zip_nil_right, List.zip_nil_left, List.map_cons, List.map_nil, List.size_toArray, partF, TI.agg, scal, isAgg, cellsOf, tokRo, cellOk, List.all_cons, List.all_nil, Bool.and_true, Bool.true_and, Bool.or_true, Bool.true_or, Bool.or_false, Bool.and_self, Nat.reduceLeDiff, Nat.reduceLT, Nat.lt_add_one, Nat.zero_lt_succ, range1, range2, range3, range4, Option.isSome_some, splice, fillF, List.take_zero, List.drop_zero, List.drop_succ_cons, List.take_succ_cons, List.nil_append, List.cons_append, Int.reduceEq, Int.reduceLT, Int.reduceAdd, Int.reduceSub, Int.reduceMul, W_regionD, xrE, OpsW_eqnil, OpsW_neqnil, NilW_sl, List.set_cons_zero, List.set_cons_succ, List.headD_cons, T3, T4, T9, T22, T23, T25, T37, T41, T54, T68, T89, Coll.cells, entR_length, grpR_length, c1, c2, resF, resAll, resOne]
    exact ⟨1, by rw [pub_bool]; have : ¬ c.grps.length ≤ 8 := by omega
                 simp [smallC, this]⟩
  simp only [W_skip, W_region, W_seq, W_cond, W_block, W_exit, W_label, W_ret, W_range, OpsW_nil, OpsW_app, OpsW_app', OpsW_op, OpsW_guard, upd_some, upd_none, Br_W1, Br_W2, Br_O1, Br_O2, opF, evalT, evalO, ofConst, argFr, binF, intF, unF, idxN_nat, reduceIte, reduceCtorEq, Nat.reduceEqDiff, Nat.reduceAdd, Nat.reduceMul, Option.getD_some, Option.getD_none, Option.map_some, Option.map_none, Option.bind_some, Option.some.injEq, Prod.mk.injEq, List.getElem?_toArray, List.getElem?_cons_zero, List.getElem?_cons_succ, List.getElem?_nil, Nat.succ_ne_zero, and_self, true_and, and_true, true_or, or_true, false_or, or_false, exists_eq_left, exists_eq_left', exists_eq, exists_and_left, and_assoc, if_true, if_false, decide_true, decide_false, Bool.false_eq_true, beq_self_eq_true, Bool.true_beq, Bool.false_beq, Bool.not_true, Bool.not_false, ne_eq, not_true_eq_false, not_false_eq_true, List.length_cons, List.length_nil, decide_eq_true_eq, decide_eq_false_iff_not, callB, List.zip_cons_cons, List.zip_nil_right, List.zip_nil_left, List.map_cons, List.map_nil, List.size_toArray, partF, TI.agg, scal, isAgg, cellsOf, tokRo, cellOk, List.all_cons, List.all_nil, Bool.and_true, Bool.true_and, Bool.or_true, Bool.true_or, Bool.or_false, Bool.and_self, Nat.reduceLeDiff, Nat.reduceLT, Nat.lt_add_one, Nat.zero_lt_succ, range1, range2, range3, range4, Option.isSome_some, splice, fillF, List.take_zero, List.drop_zero, List.drop_succ_cons, List.take_succ_cons, List.nil_append, List.cons_append, Int.reduceEq, Int.reduceLT, Int.reduceAdd, Int.reduceSub, Int.reduceMul, W_regionD, xrE, OpsW_eqnil, OpsW_neqnil, NilW_sl, List.set_cons_zero, List.set_cons_succ, List.headD_cons, T3, T4, T9, T22, T23, T25, T37, T41, T54, T68, T89, Coll.cells, entR_length, grpR_length, c1, c2]
  refine W_loop (fun n fr st => ∃ (i : Nat), fr 1 = .optr 0 5 0 ∧ fr 3 = .int .i64 i ∧ st[0]? = some (.cells c.cells) ∧ i ≤ c.ents.length ∧ (∀ x ∈ c.ents.take i, (decide (x.codes.length ≤ 10) && decide (x.els.length ≤ 20)) = true) ∧ n = c.ents.length - i) ?_ c.ents.length _ _
    ⟨0, by simp [upd], by simp [upd], rfl, by omega, by simp, by omega⟩
  rintro n fr st ⟨i, f1, f3, s0, hi, hall, rfl⟩
  by_cases ci : (i : Int) < (c.ents.length : Int)
  · have ia : i < c.ents.length := by omega
    have ga := entR_get c.ents i ia
    have hw : IntKind.i64.wrap ((i : Int) + 1) = ((i + 1 : Nat) : Int) := by rw [wrap_small (by omega) (by omega)]; rfl
    have no : (decide (c.ents[i].codes.length ≤ 10) && decide (c.ents[i].els.length ≤ 20)) = false → smallC c = false := by
      intro h
      unfold smallC
      have : (c.ents.all fun x => decide (x.codes.length ≤ 10) && decide (x.els.length ≤ 20)) = false := by
        rw [← Bool.not_eq_true, List.all_eq_true]
        intro q
        have := q _ (List.getElem_mem ia)
        rw [h] at this
        cases this
      rw [this]; simp
    by_cases c3 : (c.ents[i].codes.length : Int) > 10
    · simp only [W_skip, W_region, W_seq, W_cond, W_block, W_exit, W_label, W_ret, W_range, OpsW_nil, OpsW_app, OpsW_app', OpsW_op, OpsW_guard, upd_some, upd_none, Br_W1, Br_W2, Br_O1, Br_O2, opF, evalT, evalO, ofConst, argFr, binF, intF, unF, idxN_nat, reduceIte, reduceCtorEq, Nat.reduceEqDiff, Nat.reduceAdd, Nat.reduceMul, Option.getD_some, Option.getD_none, Option.map_some, Option.map_none, Option.bind_some, Option.some.injEq, Prod.mk.injEq, List.getElem?_toArray, List.getElem?_cons_zero, List.getElem?_cons_succ, List.getElem?_nil, Nat.succ_ne_zero, and_self, true_and, and_true, true_or, or_true, false_or, or_false, exists_eq_left, exists_eq_left', exists_eq, exists_and_left, and_assoc, if_true, if_false, decide_true, decide_false, Bool.false_eq_true, beq_self_eq_true, Bool.true_beq, Bool.false_beq, Bool.not_true, Bool.not_false, ne_eq, not_true_eq_false, not_false_eq_true, List.length_cons, List.length_nil, decide_eq_true_eq, decide_eq_false_iff_not, callB, List.zip_cons_cons, List.zip_nil_right, List.zip_nil_left, List.map_cons, List.map_nil, List.size_toArray, partF, TI.agg, scal, isAgg, cellsOf, tokRo, cellOk, List.all_cons, List.all_nil, Bool.and_true, Bool.true_and, Bool.or_true, Bool.true_or, Bool.or_false, Bool.and_self, Nat.reduceLeDiff, Nat.reduceLT, Nat.lt_add_one, Nat.zero_lt_succ, range1, range2, range3, range4, Option.isSome_some, splice, fillF, List.take_zero, List.drop_zero, List.drop_succ_cons, List.take_succ_cons, List.nil_append, List.cons_append, Int.reduceEq, Int.reduceLT, Int.reduceAdd, Int.reduceSub, Int.reduceMul, W_regionD, xrE, OpsW_eqnil, OpsW_neqnil, NilW_sl, List.set_cons_zero, List.set_cons_succ, List.headD_cons, T3, T4, T9, T22, T23, T25, T37, T41, T54, T68, T89, f1, f3, s0, Coll.cells, entR_length, ints_length, elR_length, ci, ga, c3, resF, resAll, resOne]
      exact ⟨1, by rw [pub_bool, no (by simp; omega)]⟩
    by_cases c4 : (c.ents[i].els.length : Int) > 20
    · simp only [W_skip, W_region, W_seq, W_cond, W_block, W_exit, W_label, W_ret, W_range, OpsW_nil, OpsW_app, OpsW_app', OpsW_op, OpsW_guard, upd_some, upd_none, Br_W1, Br_W2, Br_O1, Br_O2, opF, evalT, evalO, ofConst, argFr, binF, intF, unF, idxN_nat, reduceIte, reduceCtorEq, Nat.reduceEqDiff, Nat.reduceAdd, Nat.reduceMul, Option.getD_some, Option.getD_none, Option.map_some, Option.map_none, Option.bind_some, Option.some.injEq, Prod.mk.injEq, List.getElem?_toArray, List.getElem?_cons_zero, List.getElem?_cons_succ, List.getElem?_nil, Nat.succ_ne_zero, and_self, true_and, and_true, true_or, or_true, false_or, or_false, exists_eq_left, exists_eq_left', exists_eq, exists_and_left, and_assoc, if_true, if_false, decide_true, decide_false, Bool.false_eq_true, beq_self_eq_true, Bool.true_beq, Bool.false_beq, Bool.not_true, Bool.not_false, ne_eq, not_true_eq_false, not_false_eq_true, List.length_cons, List.length_nil, decide_eq_true_eq, decide_eq_false_iff_not, callB, List.zip_cons_cons, List.zip_nil_right, List.zip_nil_left, List.map_cons, List.map_nil, List.size_toArray, partF, TI.agg, scal, isAgg, cellsOf, tokRo, cellOk, List.all_cons, List.all_nil, Bool.and_true, Bool.true_and, Bool.or_true, Bool.true_or, Bool.or_false, Bool.and_self, Nat.reduceLeDiff, Nat.reduceLT, Nat.lt_add_one, Nat.zero_lt_succ, range1, range2, range3, range4, Option.isSome_some, splice, fillF, List.take_zero, List.drop_zero, List.drop_succ_cons, List.take_succ_cons, List.nil_append, List.cons_append, Int.reduceEq, Int.reduceLT, Int.reduceAdd, Int.reduceSub, Int.reduceMul, W_regionD, xrE, OpsW_eqnil, OpsW_neqnil, NilW_sl, List.set_cons_zero, List.set_cons_succ, List.headD_cons, T3, T4, T9, T22, T23, T25, T37, T41, T54, T68, T89, f1, f3, s0, Coll.cells, entR_length, ints_length, elR_length, ci, ga, c3, c4, resF, resAll, resOne]
      exact ⟨1, by rw [pub_bool, no (by simp; omega)]⟩
    · simp only [W_skip, W_region, W_seq, W_cond, W_block, W_exit, W_label, W_ret, W_range, OpsW_nil, OpsW_app, OpsW_app', OpsW_op, OpsW_guard, upd_some, upd_none, Br_W1, Br_W2, Br_O1, Br_O2, opF, evalT, evalO, ofConst, argFr, binF, intF, unF, idxN_nat, reduceIte, reduceCtorEq, Nat.reduceEqDiff, Nat.reduceAdd, Nat.reduceMul, Option.getD_some, Option.getD_none, Option.map_some, Option.map_none, Option.bind_some, Option.some.injEq, Prod.mk.injEq, List.getElem?_toArray, List.getElem?_cons_zero, List.getElem?_cons_succ, List.getElem?_nil, Nat.succ_ne_zero, and_self, true_and, and_true, true_or, or_true, false_or, or_false, exists_eq_left, exists_eq_left', exists_eq, exists_and_left, and_assoc, if_true, if_false, decide_true, decide_false, Bool.false_eq_true, beq_self_eq_true, Bool.true_beq, Bool.false_beq, Bool.not_true, Bool.not_false, ne_eq, not_true_eq_false, not_false_eq_true, List.length_cons, List.length_nil, decide_eq_true_eq, decide_eq_false_iff_not, callB, List.zip_cons_cons, List.zip_nil_right, List.zip_nil_left, List.map_cons, List.map_nil, List.size_toArray, partF, TI.agg, scal, isAgg, cellsOf, tokRo, cellOk, List.all_cons, List.all_nil, Bool.and_true, Bool.true_and, Bool.or_true, Bool.true_or, Bool.or_false, Bool.and_self, Nat.reduceLeDiff, Nat.reduceLT, Nat.lt_add_one, Nat.zero_lt_succ, range1, range2, range3, range4, Option.isSome_some, splice, fillF, List.take_zero, List.drop_zero, List.drop_succ_cons, List.take_succ_cons, List.nil_append, List.cons_append, Int.reduceEq, Int.reduceLT, Int.reduceAdd, Int.reduceSub, Int.reduceMul, W_regionD, xrE, OpsW_eqnil, OpsW_neqnil, NilW_sl, List.set_cons_zero, List.set_cons_succ, List.headD_cons, T3, T4, T9, T22, T23, T25, T37, T41, T54, T68, T89, f1, f3, s0, Coll.cells, entR_length, ints_length, elR_length, ci, ga, c3, c4, hw]
      exact ⟨c.ents.length - (i + 1), by omega, i + 1, rfl, by omega, fun x hx => by simpa using take_all (p := fun x => (decide (x.codes.length ≤ 10) && decide (x.els.length ≤ 20)) = true) ia (by simpa using hall) (by simp; omega) x hx, rfl⟩
  · have hil : c.ents.take i = c.ents := List.take_of_length_le (by omega)
    rw [hil] at hall
    simp only [W_skip, W_region, W_seq, W_cond, W_block, W_exit, W_label, W_ret, W_range, OpsW_nil, OpsW_app, OpsW_app', OpsW_op, OpsW_guard, upd_some, upd_none, Br_W1, Br_W2, Br_O1, Br_O2, opF, evalT, evalO, ofConst, argFr, binF, intF, unF, idxN_nat, reduceIte, reduceCtorEq, Nat.reduceEqDiff, Nat.reduceAdd, Nat.reduceMul, Option.getD_some, Option.getD_none, Option.map_some, Option.map_none, Option.bind_some, Option.some.injEq, Prod.mk.injEq, List.getElem?_toArray, List.getElem?_cons_zero, List.getElem?_cons_succ, List.getElem?_nil, Nat.succ_ne_zero, and_self, true_and, and_true, true_or, or_true, false_or, or_false, exists_eq_left, exists_eq_left', exists_eq, exists_and_left, and_assoc, if_true, if_false, decide_true, decide_false, Bool.false_eq_true, beq_self_eq_true, Bool.true_beq, Bool.false_beq, Bool.not_true, Bool.not_false, ne_eq, not_true_eq_false, not_false_eq_true, List.length_cons, List.length_nil, decide_eq_true_eq, decide_eq_false_iff_not, callB, List.zip_cons_cons, List.zip_nil_right, List.zip_nil_left, List.map_cons, List.map_nil, List.size_toArray, partF, TI.agg, scal, isAgg, cellsOf, tokRo, cellOk, List.all_cons, List.all_nil, Bool.and_true, Bool.true_and, Bool.or_true, Bool.true_or, Bool.or_false, Bool.and_self, Nat.reduceLeDiff, Nat.reduceLT, Nat.lt_add_one, Nat.zero_lt_succ, range1, range2, range3, range4, Option.isSome_some, splice, fillF, List.take_zero, List.drop_zero, List.drop_succ_cons, List.take_succ_cons, List.nil_append, List.cons_append, Int.reduceEq, Int.reduceLT, Int.reduceAdd, Int.reduceSub, Int.reduceMul, W_regionD, xrE, OpsW_eqnil, OpsW_neqnil, NilW_sl, List.set_cons_zero, List.set_cons_succ, List.headD_cons, T3, T4, T9, T22, T23, T25, T37, T41, T54, T68, T89, f1, f3, s0, Coll.cells, entR_length, ci, resF, resAll, resOne]
    refine ⟨1, ?_⟩
    rw [pub_bool]
    have : (c.ents.all fun x => decide (x.codes.length ≤ 10) && decide (x.els.length ≤ 20)) = true := List.all_eq_true.2 hall
    unfold smallC
    rw [this]
    simp; omega
end Go.Pv.Ct
end
section
namespace Go.Proofs
open Go.Shelf
def Tryz.lays169_ren : Go.Shelf.Ren := ⟨fun | 169 => 102 | n => n, fun | 70 => 129 | 9 => 9 | 0 => 0 | 72 => 132 | 37 => 130 | 127 => 157 | 3 => 3 | 5 => 5 | n => n, fun | n => n⟩
theorem Tryz.lays169 : Go.Proofs.Lays.n169 Tryz.prog Tryz.lays169_ren := {
  mixed := by kernel_rfl
  f169 := Tryz.func102.trans (congrArg some (by kernel_rfl))
  t0 := Tryz.underlying0
  a0 := Tryz.isAgg0
  z0 := Tryz.sizeOf0
  v0 := Tryz.zeroValue0
  t3 := Tryz.underlying3
  a3 := Tryz.isAgg3
  z3 := Tryz.sizeOf3
  v3 := Tryz.zeroValue3
  t9 := Tryz.underlying9
  a9 := Tryz.isAgg9
  z9 := Tryz.sizeOf9
  v9 := Tryz.zeroValue9
  t37 := Tryz.underlying130
  a37 := Tryz.isAgg130
  z37 := Tryz.sizeOf130
  v37 := Tryz.zeroValue130
  t70 := Tryz.underlying129
  a70 := Tryz.isAgg129
  z70 := Tryz.sizeOf129
  v70 := Tryz.zeroValue129
  t72 := Tryz.underlying132
  a72 := Tryz.isAgg132
  z72 := Tryz.sizeOf132
  v72 := Tryz.zeroValue132
  t127 := Tryz.underlying157
  a127 := Tryz.isAgg157
  z127 := Tryz.sizeOf157
  v127 := Tryz.zeroValue157 }
theorem Tryz.Builder_Extra_169 : Builder.Extra Tryz.prog Tryz.lays169_ren := {
  sizeBuilder := by kernel_rfl
  liesBuilder := by kernel_rfl
  t5 := Tryz.underlying5
  a5 := Tryz.isAgg5
  z5 := Tryz.sizeOf5
  v5 := Tryz.zeroValue5
  infoByte := by kernel_rfl
  cellsByte := by kernel_rfl
  sizeByte := by kernel_rfl
  neB5 := by decide }
open Go.RowKit in
/-- (*strings.Builder).String: "String returns the accumulated string.": OF A BUILDER THAT HOLDS AT LEAST ONE BYTE. ✋ THE MODEL FREEZES THOSE BYTES IN THE BUFFER (unsafe.String): a later write INTO them ends the model's run without an answer; a later append BEHIND them goes on. The statement's order of evaluation is drawn: one draw. (LAID: no walk: one application.) -/
theorem Tryz.Builder_String (B b : Nat) (l : List UInt8) (w : World) (h : Lib.IsBuilder 132 5 B b (Lib.byteCells l) w) (h0 : l ≠ []) :
    Calls Tryz.prog 102 #[.pointer (some ⟨b, 0, none⟩)] w fun e w' => e = .returned (.string ⟨l.toArray⟩) ∧ Below B w w' := Any.Builder_String Tryz.lays169 Tryz.Builder_Extra_169 B b l w h h0
open Go.RowKit in
/-- (*strings.Builder).String OF A BUILDER THAT HOLDS NO BYTE: the empty string. (Its buffer is nil, or a row of which it has taken nothing yet; where that row has NO capacity the model lays one new block for unsafe.SliceData's 'some address'.) One draw. (LAID: no walk: one application.) -/
theorem Tryz.Builder_String_empty (B b : Nat) (w : World) (h : Lib.IsBuilder 132 5 B b [] w) (hBw : B ≤ w.heap.size) :
    Calls Tryz.prog 102 #[.pointer (some ⟨b, 0, none⟩)] w fun e w' => e = .returned (.string ⟨#[]⟩) ∧ Below B w w' := Any.Builder_String_empty Tryz.lays169 Tryz.Builder_Extra_169 B b w h hBw
open Go.RowKit in
/-- (*strings.Builder).String: "String returns the accumulated string.": WHATEVER THE BUILDER HOLDS. (LAID: no walk: one application.) -/
theorem Tryz.Builder_String_any (B b : Nat) (l : List UInt8) (w : World) (h : Lib.IsBuilder 132 5 B b (Lib.byteCells l) w) (hBw : B ≤ w.heap.size) :
    Calls Tryz.prog 102 #[.pointer (some ⟨b, 0, none⟩)] w fun e w' => e = .returned (.string ⟨l.toArray⟩) ∧ Below B w w' := Any.Builder_String_any Tryz.lays169 Tryz.Builder_Extra_169 B b l w h hBw
def Tryz.laysM171_ren : Go.Shelf.Ren := ⟨fun | 171 => 100 | 243 => 136 | 246 => 156 | 283 => 167 | 284 => 168 | 285 => 169 | 286 => 170 | 129 => 184 | 317 => 185 | 318 => 186 | 319 => 187 | 320 => 188 | 337 => 195 | 338 => 196 | n => n, fun | 3 => 3 | 9 => 9 | 2 => 2 | 4 => 4 | 171 => 191 | 0 => 0 | 53 => 192 | 37 => 130 | 5 => 5 | 173 => 195 | 212 => 208 | 51 => 206 | 20 => 20 | 213 => 209 | 46 => 161 | 232 => 220 | 233 => 221 | n => n, fun | 17 => 2 | 18 => 3 | 19 => 4 | n => n⟩
theorem Tryz.laysM171 : Go.Proofs.LaysM.n171 Tryz.prog Tryz.laysM171_ren := {
  mixed := by kernel_rfl
  f129 := Tryz.func184.trans (congrArg some (by kernel_rfl))
  f171 := Tryz.func100.trans (congrArg some (by kernel_rfl))
  f243 := Tryz.func136.trans (congrArg some (by kernel_rfl))
  f246 := Tryz.func156.trans (congrArg some (by kernel_rfl))
  f283 := Tryz.func167.trans (congrArg some (by kernel_rfl))
  f284 := Tryz.func168.trans (congrArg some (by kernel_rfl))
  f285 := Tryz.func169.trans (congrArg some (by kernel_rfl))
  f286 := Tryz.func170.trans (congrArg some (by kernel_rfl))
  f317 := Tryz.func185.trans (congrArg some (by kernel_rfl))
  f318 := Tryz.func186.trans (congrArg some (by kernel_rfl))
  f319 := Tryz.func187.trans (congrArg some (by kernel_rfl))
  f320 := Tryz.func188.trans (congrArg some (by kernel_rfl))
  f337 := Tryz.func195.trans (congrArg some (by kernel_rfl))
  f338 := Tryz.func196.trans (congrArg some (by kernel_rfl))
  t0 := Tryz.underlying0
  a0 := Tryz.isAgg0
  z0 := Tryz.sizeOf0
  v0 := Tryz.zeroValue0
  t2 := Tryz.underlying2
  a2 := Tryz.isAgg2
  z2 := Tryz.sizeOf2
  v2 := Tryz.zeroValue2
  t3 := Tryz.underlying3
  a3 := Tryz.isAgg3
  z3 := Tryz.sizeOf3
  v3 := Tryz.zeroValue3
  t4 := Tryz.underlying4
  a4 := Tryz.isAgg4
  z4 := Tryz.sizeOf4
  v4 := Tryz.zeroValue4
  t5 := Tryz.underlying5
  a5 := Tryz.isAgg5
  z5 := Tryz.sizeOf5
  v5 := Tryz.zeroValue5
  t9 := Tryz.underlying9
  a9 := Tryz.isAgg9
  z9 := Tryz.sizeOf9
  v9 := Tryz.zeroValue9
  t20 := Tryz.underlying20
  a20 := Tryz.isAgg20
  z20 := Tryz.sizeOf20
  v20 := Tryz.zeroValue20
  t37 := Tryz.underlying130
  a37 := Tryz.isAgg130
  z37 := Tryz.sizeOf130
  v37 := Tryz.zeroValue130
  t46 := Tryz.underlying161
  a46 := Tryz.isAgg161
  z46 := Tryz.sizeOf161
  v46 := Tryz.zeroValue161
  t51 := Tryz.underlying206
  a51 := Tryz.isAgg206
  z51 := Tryz.sizeOf206
  v51 := Tryz.zeroValue206
  t53 := Tryz.underlying192
  a53 := Tryz.isAgg192
  z53 := Tryz.sizeOf192
  v53 := Tryz.zeroValue192
  t171 := Tryz.underlying191
  a171 := Tryz.isAgg191
  z171 := Tryz.sizeOf191
  v171 := Tryz.zeroValue191
  t173 := Tryz.underlying195
  a173 := Tryz.isAgg195
  z173 := Tryz.sizeOf195
  v173 := Tryz.zeroValue195
  t212 := Tryz.underlying208
  a212 := Tryz.isAgg208
  z212 := Tryz.sizeOf208
  v212 := Tryz.zeroValue208
  t213 := Tryz.underlying209
  a213 := Tryz.isAgg209
  z213 := Tryz.sizeOf209
  t232 := Tryz.underlying220
  a232 := Tryz.isAgg220
  z232 := Tryz.sizeOf220
  v232 := Tryz.zeroValue220
  t233 := Tryz.underlying221
  a233 := Tryz.isAgg221
  z233 := Tryz.sizeOf221
  v233 := Tryz.zeroValue221
  g17 := by kernel_rfl
  g18 := by kernel_rfl
  g19 := by kernel_rfl
  i0 := by kernel_rfl
  i2 := by kernel_rfl
  i3 := by kernel_rfl
  i4 := by kernel_rfl
  i5 := by kernel_rfl
  i9 := by kernel_rfl
  i20 := by kernel_rfl
  i37 := by kernel_rfl
  i46 := by kernel_rfl
  i51 := by kernel_rfl
  i53 := by kernel_rfl
  i171 := by kernel_rfl
  i173 := by kernel_rfl
  i212 := by kernel_rfl
  i232 := by kernel_rfl
  i233 := by kernel_rfl
  m17 := by kernel_rfl
  m18 := by kernel_rfl
  m19 := by kernel_rfl }
open Go.RowKit Go.Sort Go.Lib in
/-- strconv.Itoa: "Itoa is equivalent to FormatInt(int64(i), 10).": i's DECIMAL NUMERAL ('Lib.itoa': a '-' where i is negative, then the digits), FOR EVERY int. The world behind the call: the world before it, new blocks behind the heap (the library's 'var a [24]byte'), draws. (LAID: no walk: one application.) -/
theorem Tryz.strconv_Itoa (n : Int) (h0 : -9223372036854775808 ≤ n) (h1 : n ≤ 9223372036854775807) (w : World) (htab : Lib.TabIs Tryz.prog w "internal/strconv.uint64pow10" .u64 Lib.pow10Tab) :
    Calls Tryz.prog 100 #[.int .i64 n] w fun e w' => e = .returned (.string ⟨(Lib.itoa n).toArray⟩) ∧ ∃ k os, w' = grow (w.drewN k) os := Any.strconv_Itoa Tryz.laysM171 n h0 h1 w htab
def Tryz.growI_ren : Go.Shelf.Ren := ⟨fun | 4 => 137 | n => n, fun | 22 => 37 | 25 => 3 | 3 => 3 | 4 => 4 | 9 => 9 | 20 => 20 | 0 => 0 | n => n, fun | n => n⟩
theorem Tryz.growI : Go.Proofs.Lays8.n4 Tryz.prog Tryz.growI_ren := {
  mixed := by kernel_rfl
  f4 := ⟨Tryz.f137.name, by decide, Tryz.func137.trans (congrArg some (by kernel_rfl))⟩
  t0 := Tryz.underlying0
  a0 := Tryz.isAgg0
  z0 := Tryz.sizeOf0
  v0 := Tryz.zeroValue0
  t3 := Tryz.underlying3
  a3 := Tryz.isAgg3
  z3 := Tryz.sizeOf3
  v3 := Tryz.zeroValue3
  t4 := Tryz.underlying4
  a4 := Tryz.isAgg4
  z4 := Tryz.sizeOf4
  v4 := Tryz.zeroValue4
  t9 := Tryz.underlying9
  a9 := Tryz.isAgg9
  z9 := Tryz.sizeOf9
  v9 := Tryz.zeroValue9
  t20 := Tryz.underlying20
  a20 := Tryz.isAgg20
  z20 := Tryz.sizeOf20
  v20 := Tryz.zeroValue20
  t22 := Tryz.underlying37
  a22 := Tryz.isAgg37
  z22 := Tryz.sizeOf37
  v22 := Tryz.zeroValue37 }
end Go.Proofs
end
section
namespace Go.Pv.Ct
open Go.Pv
set_option maxRecDepth 20000

theorem int_info : ∃ i0 z, Go.Proofs.Tryz.prog.info? 3 = some i0 ∧ i0.zero = some z ∧ i0.size = 1 ∧ z.cells.size = 1 ∧ i0.bytes = 8 := by
  have h : (match Go.Proofs.Tryz.prog.info? 3 with | some i => (match i.zero with | some z => Nat.beq i.size 1 && (Nat.beq z.cells.size 1 && Nat.beq i.bytes 8) | none => false) | none => false) = true := by kernel_rfl
  split at h
  · rename_i i hi
    split at h
    · rename_i z hz
      simp only [Bool.and_eq_true] at h
      exact ⟨i, z, hi, hz, Nat.eq_of_beq_eq_true h.1, Nat.eq_of_beq_eq_true h.2.1, Nat.eq_of_beq_eq_true h.2.2⟩
    · cases h
  · cases h
/-- A nil slice's value. -/
theorem empty_full {K : Know} {ι : Nat → Value} {st : Store} {k : Nat} {v : Value} (h : VRel K ι st (.sl k [] .full) v) : ∃ A, v = .slice A 0 0 := by
  cases h with
  | tree _ _ h =>
    cases h with
    | sl _ _ _ A c b off f _ _ _ _ _ hc hm hn ht =>
      rcases ht with e | ⟨_, e⟩
      · cases e
      · have : c = 0 := by simpa using e
        subst this
        exact ⟨A, rfl⟩
theorem enters_grow : Enters EE.P 137 := ok137.enters
theorem grow0_spec (st : Store) : Spec EE 137 [.sl 1 [] .full, .int .i64 0] st (.sl 1 [] .full) st := by
  refine ⟨enters_grow, fun K ι w vs hr ha => ?_⟩
  obtain ⟨hl, hv⟩ := ha
  have hs : vs.size = 2 := by simpa using hl.symm
  obtain ⟨v0, v1, rfl⟩ : ∃ v0 v1, vs = #[v0, v1] := ⟨vs[0], vs[1], by
    apply Array.ext
    · simp [hs]
    · intro i h1 h2
      match i, h2 with
      | 0, _ => rfl
      | 1, _ => rfl
      | i + 2, h2 => simp at h2; omega⟩
  have r0 := hv 0 _ v0 rfl (by simp)
  have r1 := hv 1 _ v1 rfl (by simp)
  obtain ⟨A, rfl⟩ := empty_full r0
  have e1 := r1.intV
  subst e1
  refine (Go.Proofs.Any8.slices_Grow_room Go.Proofs.Tryz.growI A 0 0 0 w (by omega) (by omega) (by omega) (by omega)).mono fun e w' q => ?_
  obtain ⟨rfl, rfl⟩ := q
  exact ⟨K, ι, _, rfl, .refl hr, r0⟩
theorem grow_spec (n : Nat) (h0 : 0 < n) (hn : n ≤ 4294967296) (st : Store) : Spec EE 137 [.sl 1 [] .full, .int .i64 n] st (.sl 1 [] (.own st.length)) (st ++ [.tok 0 3 1]) := by
  refine ⟨enters_grow, fun K ι w vs hr ha => ?_⟩
  obtain ⟨hl, hv⟩ := ha
  have hs : vs.size = 2 := by simpa using hl.symm
  obtain ⟨v0, v1, rfl⟩ : ∃ v0 v1, vs = #[v0, v1] := ⟨vs[0], vs[1], by
    apply Array.ext
    · simp [hs]
    · intro i h1 h2
      match i, h2 with
      | 0, _ => rfl
      | 1, _ => rfl
      | i + 2, h2 => simp at h2; omega⟩
  have r0 := hv 0 _ v0 rfl (by simp)
  have r1 := hv 1 _ v1 rfl (by simp)
  obtain ⟨A, rfl⟩ := empty_full r0
  have e1 := r1.intV
  subst e1
  obtain ⟨i0, z, hi, hz, hsz, hcs, hby⟩ := int_info
  refine (Go.Proofs.Any8.slices_Grow_grow Go.Proofs.Tryz.growI i0 z hi hz (by omega) A 0 0 n [] w (by omega) (by omega) (by rw [hby]; omega) (by omega) (by simp) (fun _ => rfl) (fun a _ j v hj => by simp at hj)).mono fun e w' q => ?_
  obtain ⟨rfl, rfl⟩ := q
  have hge : n ≤ grownCap w (0 + n) 0 3 := by simpa using grownCap_ge w (0 + n) 0 3
  have hle : grownCap w (0 + n) 0 3 ≤ maxLen := grownCap_le_maxLen w (0 + n) 0 3 (by unfold maxLen; omega)
  have hd := Stp.drew hr
  have s1 := Stp.newOb hd.rel (.tok 0 3 1) (.cells (([] : List Value).toArray ++ Builtin.zeroCells z.cells (0 + n - 0) ++ Builtin.zeroCells z.cells (grownCap w (0 + n) 0 3 - (0 + n))) 3) (.slice (some ⟨w.heap.size, 0, none⟩) 0 (grownCap w (0 + n) 0 3)) rfl (fun _ hno => ?_)
  · refine ⟨_, _, _, rfl, hd.trans s1, ?_⟩
    exact .own 1 [] st.length (some ⟨w.heap.size, 0, none⟩) (grownCap w (0 + n) 0 3) 0 3 (.sl 1 [] .ro _ _ 0 0 (fun _ _ => .bool false) (by simp) (fun h => absurd rfl h) (by simp) (by simp) (fun _ _ => rfl) (Nat.zero_le _) hle (fun h => by cases h) (.inl rfl)) (by simp) (Nat.le_refl _) (fun _ => by rw [ins_same]; rfl)
  · refine ⟨w.heap.size, grownCap w (0 + n) 0 3, _, rfl, heap_alloc_new w.drew _, ?_, Nat.zero_le _, hle, by omega, fun j _ => hno j⟩
    simp only [Array.size_append, size_zeroCells, hcs]
    simp only [Nat.zero_add] at hge ⊢
    simp
    omega

/-! ### Concat -/
def listR (l : List (List Int × Bool)) : List (List PV) := l.map fun x => [.sl 1 (ints x.1) (tk x.2)]
theorem listR_length (l : List (List Int × Bool)) : (listR l).length = l.length := by simp [listR]
theorem listR_get (l : List (List Int × Bool)) (i : Nat) (h : i < l.length) : (listR l)[i]? = some [.sl 1 (ints l[i].1) (tk l[i].2)] := by simp [listR, h]
def catL (l : List (List Int × Bool)) : List Int := l.flatMap (·.1)
theorem cat_take (l : List (List Int × Bool)) (i : Nat) (h : i < l.length) : catL (l.take (i + 1)) = catL (l.take i) ++ l[i].1 := by
  unfold catL
  rw [List.take_succ_eq_append_getElem h, List.flatMap_append]
  simp
/-- A list that is being made by append: nothing yet, or a row of the call's own. -/
def OutSt (st : Store) (o : List Int) (p : PV) : Prop := (o = [] ∧ p = .sl 1 [] .full) ∨ ∃ i, p = .sl 1 (ints o) (.own i) ∧ st[i]? = some (.tok o.length 3 1)
theorem OutSt.sl {st : Store} {o : List Int} {p : PV} (h : OutSt st o p) : ∃ t, p = .sl 1 (ints o) t := by
  rcases h with ⟨rfl, rfl⟩ | ⟨i, rfl, _⟩
  · exact ⟨.full, rfl⟩
  · exact ⟨_, rfl⟩
theorem OutSt.append {st : Store} {o : List Int} {p : PV} (h : OutSt st o p) (xs : List Int) (hl : o.length + xs.length ≤ LIM) :
    ∃ t st', appendF EE st 3 p (ints xs) 1 = some (.sl 1 (ints (o ++ xs)) t, st') ∧ OutSt st' (o ++ xs) (.sl 1 (ints (o ++ xs)) t) := by
  have hn : (ints xs = []) ↔ xs = [] := by simp [ints]
  have happ : ints o ++ ints xs = ints (o ++ xs) := by simp [ints]
  by_cases hx : xs = []
  · subst hx
    rw [List.append_nil]
    obtain ⟨t, rfl⟩ := h.sl
    refine ⟨t, st, ?_, h⟩
    simp [appendF, T3, ints]
    simpa using hl
  · rcases h with ⟨rfl, rfl⟩ | ⟨i, rfl, hst⟩
    · refine ⟨.own st.length, st ++ [.tok xs.length 3 1], ?_, .inr ⟨st.length, rfl, by simp⟩⟩
      simp [appendF, T3, ints_length, hn, hx]
      simpa using hl
    · refine ⟨.own i, st.set i (.tok (o.length + xs.length) 3 1), ?_, .inr ⟨i, rfl, ?_⟩⟩
      · simp [appendF, T3, ints_length, hn, hx, hst, happ]
        exact hl
      · rw [get_set_eq (get_lt hst)]; simp
theorem OutSt.pub {st st' : Store} {o : List Int} {p : PV} (h : OutSt st o p) : ∃ b, Pv.pub st' 1 p = some (.sl 1 (ints o) (tk b)) := by
  rcases h with ⟨rfl, rfl⟩ | ⟨i, rfl, _⟩
  · exact ⟨true, pub_sl _ _ _ _ _⟩
  · exact ⟨false, pub_sl _ _ _ _ _⟩

theorem cat_len_le (l : List (List Int × Bool)) (i : Nat) : (catL (l.take i)).length ≤ (catL l).length := by
  conv => rhs; rw [← List.take_append_drop i l]
  unfold catL
  rw [List.flatMap_append, List.length_append]
  omega
theorem append_own {st : Store} {o : List Int} {j : Nat} (h : st[j]? = some (.tok o.length 3 1)) (xs : List Int) (hl : o.length + xs.length ≤ LIM) :
    ∃ st', appendF EE st 3 (.sl 1 (ints o) (.own j)) (ints xs) 1 = some (.sl 1 (ints (o ++ xs)) (.own j), st') ∧ st'[j]? = some (.tok (o ++ xs).length 3 1) := by
  have hn : (ints xs = []) ↔ xs = [] := by simp [ints]
  have happ : ints o ++ ints xs = ints (o ++ xs) := by simp [ints]
  by_cases hx : xs = []
  · subst hx
    rw [List.append_nil]
    refine ⟨st, ?_, h⟩
    simp [appendF, T3, ints_length, ints]
    simpa using hl
  · refine ⟨st.set j (.tok (o.length + xs.length) 3 1), ?_, ?_⟩
    · simp [appendF, T3, ints_length, hn, hx, h, happ]
      exact hl
    · rw [get_set_eq (get_lt h)]; simp
theorem append_nil_full (st : Store) : appendF EE st 3 (.sl 1 [] .full) (ints []) 1 = some (.sl 1 [] .full, st) := by
  simp [appendF, T3, ints]
theorem cat_nil {l : List (List Int × Bool)} (h : catL l = []) (i : Nat) (ia : i < l.length) : l[i].1 = [] := by
  unfold catL at h
  rw [List.flatMap_eq_nil_iff] at h
  exact h _ (List.getElem_mem ia)

set_option maxHeartbeats 8000000 in
theorem concat_tail0 (l : List (List Int × Bool)) (t : Tok) (hl : l.length < 9223372036854775808) (hc : catL l = []) (fr : Fr) (st : Store) (f0 : fr 0 = .sl 1 (listR l) t) (f6 : fr 6 = .sl 1 [] .full) :
    W EE 36 (part [true, true, true, true] (code Go.Proofs.Tryz.f106)) fr st (EndW EE [.tmp 2] fun p st1 => ∃ n, pub st1 n p = some (.sl 1 (ints (catL l)) (tk (catL l).isEmpty))) := by
  have e1 : part [true, true, true, true] (code Go.Proofs.Tryz.f106) = part [true, true, true, true] (code Go.Proofs.Tryz.f106) := rfl
  conv at e1 => rhs; simp only [part, code, Go.Proofs.Tryz.f106, Option.getD_some]
  rw [e1]
  clear e1
  simp only [W_skip, W_region, W_seq, W_cond, W_block, W_exit, W_label, W_ret, W_range, OpsW_nil, OpsW_app, OpsW_app', OpsW_op, OpsW_guard, upd_some, upd_none, Br_W1, Br_W2, Br_O1, Br_O2, opF, evalT, evalO, ofConst, argFr, binF, intF, unF, idxN_nat, reduceIte, reduceCtorEq, Nat.reduceEqDiff, Nat.reduceAdd, Nat.reduceMul, Option.getD_some, Option.getD_none, Option.map_some, Option.map_none, Option.bind_some, Option.some.injEq, Prod.mk.injEq, List.getElem?_toArray, List.getElem?_cons_zero, List.getElem?_cons_succ, List.getElem?_nil, Nat.succ_ne_zero, and_self, true_and, and_true, true_or, or_true, false_or, or_false, exists_eq_left, exists_eq_left', exists_eq, exists_and_left, and_assoc, if_true, if_false, decide_true, decide_false, Bool.false_eq_true, beq_self_eq_true, Bool.true_beq, Bool.false_beq, Bool.not_true, Bool.not_false, ne_eq, not_true_eq_false, not_false_eq_true, List.length_cons, List.length_nil, decide_eq_true_eq, decide_eq_false_iff_not, callB, List.zip_cons_cons, List.zip_nil_right, List.zip_nil_left, List.map_cons, List.map_nil, List.size_toArray, partF, TI.agg, scal, isAgg, cellsOf, tokRo, cellOk, List.all_cons, List.all_nil, Bool.and_true, Bool.true_and, Bool.or_true, Bool.true_or, Bool.or_false, Bool.and_self, Nat.reduceLeDiff, Nat.reduceLT, Nat.lt_add_one, Nat.zero_lt_succ, range1, range2, range3, range4, Option.isSome_some, splice, fillF, List.take_zero, List.drop_zero, List.drop_succ_cons, List.take_succ_cons, List.nil_append, List.cons_append, Int.reduceEq, Int.reduceLT, Int.reduceAdd, Int.reduceSub, Int.reduceMul, W_regionD, xrE, OpsW_eqnil, OpsW_neqnil, NilW_sl, List.set_cons_zero, List.set_cons_succ, List.headD_cons, T3, T4, T20, T37, T158, f0, listR_length]
  refine W_loop (fun n fr st => ∃ (i : Nat), fr 6 = .sl 1 [] .full ∧ fr 25 = .sl 1 (listR l) t ∧ fr 26 = .int .i64 l.length ∧ fr 27 = .int .i64 i ∧ i ≤ l.length ∧ n = l.length - i) ?_ l.length _ _
    ⟨0, by simp [upd, f6], by simp [upd], by simp [upd], by simp [upd], by omega, by omega⟩
  clear f0 f6
  rintro n fr st ⟨i, f6, f25, f26, f27, hi, rfl⟩
  by_cases ci : (i : Int) < (l.length : Int)
  · have ia : i < l.length := by omega
    have ga := listR_get l i ia
    have hw : IntKind.i64.wrap ((i : Int) + 1) = ((i + 1 : Nat) : Int) := by rw [wrap_small (by omega) (by omega)]; rfl
    rw [cat_nil hc i ia] at ga
    have ha := append_nil_full st
    simp only [W_skip, W_region, W_seq, W_cond, W_block, W_exit, W_label, W_ret, W_range, OpsW_nil, OpsW_app, OpsW_app', OpsW_op, OpsW_guard, upd_some, upd_none, Br_W1, Br_W2, Br_O1, Br_O2, opF, evalT, evalO, ofConst, argFr, binF, intF, unF, idxN_nat, reduceIte, reduceCtorEq, Nat.reduceEqDiff, Nat.reduceAdd, Nat.reduceMul, Option.getD_some, Option.getD_none, Option.map_some, Option.map_none, Option.bind_some, Option.some.injEq, Prod.mk.injEq, List.getElem?_toArray, List.getElem?_cons_zero, List.getElem?_cons_succ, List.getElem?_nil, Nat.succ_ne_zero, and_self, true_and, and_true, true_or, or_true, false_or, or_false, exists_eq_left, exists_eq_left', exists_eq, exists_and_left, and_assoc, if_true, if_false, decide_true, decide_false, Bool.false_eq_true, beq_self_eq_true, Bool.true_beq, Bool.false_beq, Bool.not_true, Bool.not_false, ne_eq, not_true_eq_false, not_false_eq_true, List.length_cons, List.length_nil, decide_eq_true_eq, decide_eq_false_iff_not, callB, List.zip_cons_cons, List.zip_nil_right, List.zip_nil_left, List.map_cons, List.map_nil, List.size_toArray, partF, TI.agg, scal, isAgg, cellsOf, tokRo, cellOk, List.all_cons, List.all_nil, Bool.and_true, Bool.true_and, Bool.or_true, Bool.true_or, Bool.or_false, Bool.and_self, Nat.reduceLeDiff, Nat.reduceLT, Nat.lt_add_one, Nat.zero_lt_succ, range1, range2, range3, range4, Option.isSome_some, splice, fillF, List.take_zero, List.drop_zero, List.drop_succ_cons, List.take_succ_cons, List.nil_append, List.cons_append, Int.reduceEq, Int.reduceLT, Int.reduceAdd, Int.reduceSub, Int.reduceMul, W_regionD, xrE, OpsW_eqnil, OpsW_neqnil, NilW_sl, List.set_cons_zero, List.set_cons_succ, List.headD_cons, T3, T4, T20, T37, T158, f6, f25, f26, f27, ci, ga, ha, hw]
    exact ⟨l.length - (i + 1), by omega, i + 1, rfl, by omega, rfl⟩
  · simp only [W_skip, W_region, W_seq, W_cond, W_block, W_exit, W_label, W_ret, W_range, OpsW_nil, OpsW_app, OpsW_app', OpsW_op, OpsW_guard, upd_some, upd_none, Br_W1, Br_W2, Br_O1, Br_O2, opF, evalT, evalO, ofConst, argFr, binF, intF, unF, idxN_nat, reduceIte, reduceCtorEq, Nat.reduceEqDiff, Nat.reduceAdd, Nat.reduceMul, Option.getD_some, Option.getD_none, Option.map_some, Option.map_none, Option.bind_some, Option.some.injEq, Prod.mk.injEq, List.getElem?_toArray, List.getElem?_cons_zero, List.getElem?_cons_succ, List.getElem?_nil, Nat.succ_ne_zero, and_self, true_and, and_true, true_or, or_true, false_or, or_false, exists_eq_left, exists_eq_left', exists_eq, exists_and_left, and_assoc, if_true, if_false, decide_true, decide_false, Bool.false_eq_true, beq_self_eq_true, Bool.true_beq, Bool.false_beq, Bool.not_true, Bool.not_false, ne_eq, not_true_eq_false, not_false_eq_true, List.length_cons, List.length_nil, decide_eq_true_eq, decide_eq_false_iff_not, callB, List.zip_cons_cons, List.zip_nil_right, List.zip_nil_left, List.map_cons, List.map_nil, List.size_toArray, partF, TI.agg, scal, isAgg, cellsOf, tokRo, cellOk, List.all_cons, List.all_nil, Bool.and_true, Bool.true_and, Bool.or_true, Bool.true_or, Bool.or_false, Bool.and_self, Nat.reduceLeDiff, Nat.reduceLT, Nat.lt_add_one, Nat.zero_lt_succ, range1, range2, range3, range4, Option.isSome_some, splice, fillF, List.take_zero, List.drop_zero, List.drop_succ_cons, List.take_succ_cons, List.nil_append, List.cons_append, Int.reduceEq, Int.reduceLT, Int.reduceAdd, Int.reduceSub, Int.reduceMul, W_regionD, xrE, OpsW_eqnil, OpsW_neqnil, NilW_sl, List.set_cons_zero, List.set_cons_succ, List.headD_cons, T3, T4, T20, T37, T158, f6, f25, f26, f27, ci, resF, resAll, resOne, EndW]
    exact ⟨1, by rw [hc]; exact pub_sl _ _ _ _ _⟩
set_option maxHeartbeats 8000000 in
theorem concat_tail1 (l : List (List Int × Bool)) (t : Tok) (hl : l.length < 9223372036854775808) (hc : (catL l).length ≤ LIM) (hne : catL l ≠ []) (fr : Fr) (st : Store) (f0 : fr 0 = .sl 1 (listR l) t) (j : Nat) (f6 : fr 6 = .sl 1 [] (.own j)) (hj : st[j]? = some (.tok 0 3 1)) :
    W EE 36 (part [true, true, true, true] (code Go.Proofs.Tryz.f106)) fr st (EndW EE [.tmp 2] fun p st1 => ∃ n, pub st1 n p = some (.sl 1 (ints (catL l)) (tk (catL l).isEmpty))) := by
  have e1 : part [true, true, true, true] (code Go.Proofs.Tryz.f106) = part [true, true, true, true] (code Go.Proofs.Tryz.f106) := rfl
  conv at e1 => rhs; simp only [part, code, Go.Proofs.Tryz.f106, Option.getD_some]
  rw [e1]
  clear e1
  simp only [W_skip, W_region, W_seq, W_cond, W_block, W_exit, W_label, W_ret, W_range, OpsW_nil, OpsW_app, OpsW_app', OpsW_op, OpsW_guard, upd_some, upd_none, Br_W1, Br_W2, Br_O1, Br_O2, opF, evalT, evalO, ofConst, argFr, binF, intF, unF, idxN_nat, reduceIte, reduceCtorEq, Nat.reduceEqDiff, Nat.reduceAdd, Nat.reduceMul, Option.getD_some, Option.getD_none, Option.map_some, Option.map_none, Option.bind_some, Option.some.injEq, Prod.mk.injEq, List.getElem?_toArray, List.getElem?_cons_zero, List.getElem?_cons_succ, List.getElem?_nil, Nat.succ_ne_zero, and_self, true_and, and_true, true_or, or_true, false_or, or_false, exists_eq_left, exists_eq_left', exists_eq, exists_and_left, and_assoc, if_true, if_false, decide_true, decide_false, Bool.false_eq_true, beq_self_eq_true, Bool.true_beq, Bool.false_beq, Bool.not_true, Bool.not_false, ne_eq, not_true_eq_false, not_false_eq_true, List.length_cons, List.length_nil, decide_eq_true_eq, decide_eq_false_iff_not, callB, List.zip_cons_cons, List.zip_nil_right, List.zip_nil_left, List.map_cons, List.map_nil, List.size_toArray, partF, TI.agg, scal, isAgg, cellsOf, tokRo, cellOk, List.all_cons, List.all_nil, Bool.and_true, Bool.true_and, Bool.or_true, Bool.true_or, Bool.or_false, Bool.and_self, Nat.reduceLeDiff, Nat.reduceLT, Nat.lt_add_one, Nat.zero_lt_succ, range1, range2, range3, range4, Option.isSome_some, splice, fillF, List.take_zero, List.drop_zero, List.drop_succ_cons, List.take_succ_cons, List.nil_append, List.cons_append, Int.reduceEq, Int.reduceLT, Int.reduceAdd, Int.reduceSub, Int.reduceMul, W_regionD, xrE, OpsW_eqnil, OpsW_neqnil, NilW_sl, List.set_cons_zero, List.set_cons_succ, List.headD_cons, T3, T4, T20, T37, T158, f0, listR_length]
  refine W_loop (fun n fr st => ∃ (i : Nat), fr 6 = .sl 1 (ints (catL (l.take i))) (.own j) ∧ st[j]? = some (.tok (catL (l.take i)).length 3 1) ∧ fr 25 = .sl 1 (listR l) t ∧ fr 26 = .int .i64 l.length ∧ fr 27 = .int .i64 i ∧ i ≤ l.length ∧ n = l.length - i) ?_ l.length _ _
    ⟨0, by simp [upd, f6, catL, ints], by simpa [catL] using hj, by simp [upd], by simp [upd], by simp [upd], by omega, by omega⟩
  clear f0 f6 hj
  rintro n fr st ⟨i, f6, hj, f25, f26, f27, hi, rfl⟩
  by_cases ci : (i : Int) < (l.length : Int)
  · have ia : i < l.length := by omega
    have ga := listR_get l i ia
    have hw : IntKind.i64.wrap ((i : Int) + 1) = ((i + 1 : Nat) : Int) := by rw [wrap_small (by omega) (by omega)]; rfl
    have hst := cat_take l i ia
    have hle := cat_len_le l (i + 1)
    rw [hst, List.length_append] at hle
    obtain ⟨st2, a1, a2⟩ := append_own hj l[i].1 (by omega)
    rw [← hst] at a1 a2
    simp only [W_skip, W_region, W_seq, W_cond, W_block, W_exit, W_label, W_ret, W_range, OpsW_nil, OpsW_app, OpsW_app', OpsW_op, OpsW_guard, upd_some, upd_none, Br_W1, Br_W2, Br_O1, Br_O2, opF, evalT, evalO, ofConst, argFr, binF, intF, unF, idxN_nat, reduceIte, reduceCtorEq, Nat.reduceEqDiff, Nat.reduceAdd, Nat.reduceMul, Option.getD_some, Option.getD_none, Option.map_some, Option.map_none, Option.bind_some, Option.some.injEq, Prod.mk.injEq, List.getElem?_toArray, List.getElem?_cons_zero, List.getElem?_cons_succ, List.getElem?_nil, Nat.succ_ne_zero, and_self, true_and, and_true, true_or, or_true, false_or, or_false, exists_eq_left, exists_eq_left', exists_eq, exists_and_left, and_assoc, if_true, if_false, decide_true, decide_false, Bool.false_eq_true, beq_self_eq_true, Bool.true_beq, Bool.false_beq, Bool.not_true, Bool.not_false, ne_eq, not_true_eq_false, not_false_eq_true, List.length_cons, List.length_nil, decide_eq_true_eq, decide_eq_false_iff_not, callB, List.zip_cons_cons, List.zip_nil_right, List.zip_nil_left, List.map_cons, List.map_nil, List.size_toArray, partF, TI.agg, scal, isAgg, cellsOf, tokRo, cellOk, List.all_cons, List.all_nil, Bool.and_true, Bool.true_and, Bool.or_true, Bool.true_or, Bool.or_false, Bool.and_self, Nat.reduceLeDiff, Nat.reduceLT, Nat.lt_add_one, Nat.zero_lt_succ, range1, range2, range3, range4, Option.isSome_some, splice, fillF, List.take_zero, List.drop_zero, List.drop_succ_cons, List.take_succ_cons, List.nil_append, List.cons_append, Int.reduceEq, Int.reduceLT, Int.reduceAdd, Int.reduceSub, Int.reduceMul, W_regionD, xrE, OpsW_eqnil, OpsW_neqnil, NilW_sl, List.set_cons_zero, List.set_cons_succ, List.headD_cons, T3, T4, T20, T37, T158, f6, f25, f26, f27, ci, ga, a1, hw]
    exact ⟨l.length - (i + 1), by omega, i + 1, rfl, a2, rfl, by omega, rfl⟩
  · have hil : l.take i = l := List.take_of_length_le (by omega)
    rw [hil] at f6
    have he : (catL l).isEmpty = false := by simpa using hne
    simp only [W_skip, W_region, W_seq, W_cond, W_block, W_exit, W_label, W_ret, W_range, OpsW_nil, OpsW_app, OpsW_app', OpsW_op, OpsW_guard, upd_some, upd_none, Br_W1, Br_W2, Br_O1, Br_O2, opF, evalT, evalO, ofConst, argFr, binF, intF, unF, idxN_nat, reduceIte, reduceCtorEq, Nat.reduceEqDiff, Nat.reduceAdd, Nat.reduceMul, Option.getD_some, Option.getD_none, Option.map_some, Option.map_none, Option.bind_some, Option.some.injEq, Prod.mk.injEq, List.getElem?_toArray, List.getElem?_cons_zero, List.getElem?_cons_succ, List.getElem?_nil, Nat.succ_ne_zero, and_self, true_and, and_true, true_or, or_true, false_or, or_false, exists_eq_left, exists_eq_left', exists_eq, exists_and_left, and_assoc, if_true, if_false, decide_true, decide_false, Bool.false_eq_true, beq_self_eq_true, Bool.true_beq, Bool.false_beq, Bool.not_true, Bool.not_false, ne_eq, not_true_eq_false, not_false_eq_true, List.length_cons, List.length_nil, decide_eq_true_eq, decide_eq_false_iff_not, callB, List.zip_cons_cons, List.zip_nil_right, List.zip_nil_left, List.map_cons, List.map_nil, List.size_toArray, partF, TI.agg, scal, isAgg, cellsOf, tokRo, cellOk, List.all_cons, List.all_nil, Bool.and_true, Bool.true_and, Bool.or_true, Bool.true_or, Bool.or_false, Bool.and_self, Nat.reduceLeDiff, Nat.reduceLT, Nat.lt_add_one, Nat.zero_lt_succ, range1, range2, range3, range4, Option.isSome_some, splice, fillF, List.take_zero, List.drop_zero, List.drop_succ_cons, List.take_succ_cons, List.nil_append, List.cons_append, Int.reduceEq, Int.reduceLT, Int.reduceAdd, Int.reduceSub, Int.reduceMul, W_regionD, xrE, OpsW_eqnil, OpsW_neqnil, NilW_sl, List.set_cons_zero, List.set_cons_succ, List.headD_cons, T3, T4, T20, T37, T158, f6, f25, f26, f27, ci, resF, resAll, resOne, EndW]
    exact ⟨1, by rw [he]; exact pub_sl _ _ _ _ _⟩

set_option maxHeartbeats 8000000 in
theorem concat_plain (l : List (List Int × Bool)) (t : Tok) (hl : l.length < 9223372036854775808) (hc : (catL l).length ≤ LIM) : Plain EE 106 [.sl 1 (listR l) t] (.sl 1 (ints (catL l)) (tk (catL l).isEmpty)) := by
  refine plain_of_W ok ok106 (by simp) ?_
  unfold BodyW
  have e0 : code Go.Proofs.Tryz.f106 = code Go.Proofs.Tryz.f106 := rfl
  conv at e0 => rhs; simp only [code, Go.Proofs.Tryz.f106, Option.getD_some]
  rw [e0]
  clear e0
  have e1 : part [true, true, true, true] (code Go.Proofs.Tryz.f106) = part [true, true, true, true] (code Go.Proofs.Tryz.f106) := rfl
  conv at e1 => rhs; simp only [part, code, Go.Proofs.Tryz.f106, Option.getD_some]
  rw [← e1]
  clear e1
  have hL : LIM = 4294967296 := rfl
  simp only [W_skip, W_region, W_seq, W_cond, W_block, W_exit, W_label, W_ret, W_range, OpsW_nil, OpsW_app, OpsW_app', OpsW_op, OpsW_guard, upd_some, upd_none, Br_W1, Br_W2, Br_O1, Br_O2, opF, evalT, evalO, ofConst, argFr, binF, intF, unF, idxN_nat, reduceIte, reduceCtorEq, Nat.reduceEqDiff, Nat.reduceAdd, Nat.reduceMul, Option.getD_some, Option.getD_none, Option.map_some, Option.map_none, Option.bind_some, Option.some.injEq, Prod.mk.injEq, List.getElem?_toArray, List.getElem?_cons_zero, List.getElem?_cons_succ, List.getElem?_nil, Nat.succ_ne_zero, and_self, true_and, and_true, true_or, or_true, false_or, or_false, exists_eq_left, exists_eq_left', exists_eq, exists_and_left, and_assoc, if_true, if_false, decide_true, decide_false, Bool.false_eq_true, beq_self_eq_true, Bool.true_beq, Bool.false_beq, Bool.not_true, Bool.not_false, ne_eq, not_true_eq_false, not_false_eq_true, List.length_cons, List.length_nil, decide_eq_true_eq, decide_eq_false_iff_not, callB, List.zip_cons_cons, List.zip_nil_right, List.zip_nil_left, List.map_cons, List.map_nil, List.size_toArray, partF, TI.agg, scal, isAgg, cellsOf, tokRo, cellOk, List.all_cons, List.all_nil, Bool.and_true, Bool.true_and, Bool.or_true, Bool.true_or, Bool.or_false, Bool.and_self, Nat.reduceLeDiff, Nat.reduceLT, Nat.lt_add_one, Nat.zero_lt_succ, range1, range2, range3, range4, Option.isSome_some, splice, fillF, List.take_zero, List.drop_zero, List.drop_succ_cons, List.take_succ_cons, List.nil_append, List.cons_append, Int.reduceEq, Int.reduceLT, Int.reduceAdd, Int.reduceSub, Int.reduceMul, W_regionD, xrE, OpsW_eqnil, OpsW_neqnil, NilW_sl, List.set_cons_zero, List.set_cons_succ, List.headD_cons, T3, T4, T20, T37, T158, listR_length]
  refine W_loop (fun n fr st => ∃ (i : Nat), fr 0 = .sl 1 (listR l) t ∧ fr 3 = .int .i64 ((catL (l.take i)).length : Nat) ∧ st = [] ∧ fr 9 = .sl 1 (listR l) t ∧ fr 10 = .int .i64 l.length ∧ fr 11 = .int .i64 i ∧ i ≤ l.length ∧ n = l.length - i) ?_ l.length _ _
    ⟨0, by simp [upd, argFr], by simp [upd, catL], rfl, by simp [upd], by simp [upd], by simp [upd], by omega, by omega⟩
  rintro n fr st ⟨i, f0, f3, rfl, f9, f10, f11, hi, rfl⟩
  by_cases ci : (i : Int) < (l.length : Int)
  · have ia : i < l.length := by omega
    have ga := listR_get l i ia
    have hw : IntKind.i64.wrap ((i : Int) + 1) = ((i + 1 : Nat) : Int) := by rw [wrap_small (by omega) (by omega)]; rfl
    have hst := cat_take l i ia
    have hle := cat_len_le l (i + 1)
    have hll : (catL (l.take (i + 1))).length = (catL (l.take i)).length + l[i].1.length := by rw [hst, List.length_append]
    have hw2 : IntKind.i64.wrap (((catL (l.take i)).length : Int) + (l[i].1.length : Int)) = (((catL (l.take (i + 1))).length : Nat) : Int) := by rw [wrap_small (by omega) (by omega)]; omega
    have hn : ¬ (((catL (l.take (i + 1))).length : Nat) : Int) < 0 := by omega
    simp only [W_skip, W_region, W_seq, W_cond, W_block, W_exit, W_label, W_ret, W_range, OpsW_nil, OpsW_app, OpsW_app', OpsW_op, OpsW_guard, upd_some, upd_none, Br_W1, Br_W2, Br_O1, Br_O2, opF, evalT, evalO, ofConst, argFr, binF, intF, unF, idxN_nat, reduceIte, reduceCtorEq, Nat.reduceEqDiff, Nat.reduceAdd, Nat.reduceMul, Option.getD_some, Option.getD_none, Option.map_some, Option.map_none, Option.bind_some, Option.some.injEq, Prod.mk.injEq, List.getElem?_toArray, List.getElem?_cons_zero, List.getElem?_cons_succ, List.getElem?_nil, Nat.succ_ne_zero, and_self, true_and, and_true, true_or, or_true, false_or, or_false, exists_eq_left, exists_eq_left', exists_eq, exists_and_left, and_assoc, if_true, if_false, decide_true, decide_false, Bool.false_eq_true, beq_self_eq_true, Bool.true_beq, Bool.false_beq, Bool.not_true, Bool.not_false, ne_eq, not_true_eq_false, not_false_eq_true, List.length_cons, List.length_nil, decide_eq_true_eq, decide_eq_false_iff_not, callB, List.zip_cons_cons, List.zip_nil_right, List.zip_nil_left, List.map_cons, List.map_nil, List.size_toArray, partF, TI.agg, scal, isAgg, cellsOf, tokRo, cellOk, List.all_cons, List.all_nil, Bool.and_true, Bool.true_and, Bool.or_true, Bool.true_or, Bool.or_false, Bool.and_self, Nat.reduceLeDiff, Nat.reduceLT, Nat.lt_add_one, Nat.zero_lt_succ, range1, range2, range3, range4, Option.isSome_some, splice, fillF, List.take_zero, List.drop_zero, List.drop_succ_cons, List.take_succ_cons, List.nil_append, List.cons_append, Int.reduceEq, Int.reduceLT, Int.reduceAdd, Int.reduceSub, Int.reduceMul, W_regionD, xrE, OpsW_eqnil, OpsW_neqnil, NilW_sl, List.set_cons_zero, List.set_cons_succ, List.headD_cons, T3, T4, T20, T37, T158, f0, f3, f9, f10, f11, ints_length, ci, ga, hw, hw2, hn]
    exact ⟨l.length - (i + 1), by omega, i + 1, rfl, rfl, by omega, rfl⟩
  · have hil : l.take i = l := List.take_of_length_le (by omega)
    rw [hil] at f3
    simp only [W_skip, W_region, W_seq, W_cond, W_block, W_exit, W_label, W_ret, W_range, OpsW_nil, OpsW_app, OpsW_app', OpsW_op, OpsW_guard, upd_some, upd_none, Br_W1, Br_W2, Br_O1, Br_O2, opF, evalT, evalO, ofConst, argFr, binF, intF, unF, idxN_nat, reduceIte, reduceCtorEq, Nat.reduceEqDiff, Nat.reduceAdd, Nat.reduceMul, Option.getD_some, Option.getD_none, Option.map_some, Option.map_none, Option.bind_some, Option.some.injEq, Prod.mk.injEq, List.getElem?_toArray, List.getElem?_cons_zero, List.getElem?_cons_succ, List.getElem?_nil, Nat.succ_ne_zero, and_self, true_and, and_true, true_or, or_true, false_or, or_false, exists_eq_left, exists_eq_left', exists_eq, exists_and_left, and_assoc, if_true, if_false, decide_true, decide_false, Bool.false_eq_true, beq_self_eq_true, Bool.true_beq, Bool.false_beq, Bool.not_true, Bool.not_false, ne_eq, not_true_eq_false, not_false_eq_true, List.length_cons, List.length_nil, decide_eq_true_eq, decide_eq_false_iff_not, callB, List.zip_cons_cons, List.zip_nil_right, List.zip_nil_left, List.map_cons, List.map_nil, List.size_toArray, partF, TI.agg, scal, isAgg, cellsOf, tokRo, cellOk, List.all_cons, List.all_nil, Bool.and_true, Bool.true_and, Bool.or_true, Bool.true_or, Bool.or_false, Bool.and_self, Nat.reduceLeDiff, Nat.reduceLT, Nat.lt_add_one, Nat.zero_lt_succ, range1, range2, range3, range4, Option.isSome_some, splice, fillF, List.take_zero, List.drop_zero, List.drop_succ_cons, List.take_succ_cons, List.nil_append, List.cons_append, Int.reduceEq, Int.reduceLT, Int.reduceAdd, Int.reduceSub, Int.reduceMul, W_regionD, xrE, OpsW_eqnil, OpsW_neqnil, NilW_sl, List.set_cons_zero, List.set_cons_succ, List.headD_cons, T3, T4, T20, T37, T158, f0, f3, f9, f10, f11, ci]
    by_cases hz : catL l = []
    · rw [hz]
      refine OpsW_sp (grow0_spec []) rfl rfl rfl (by simp only [W_skip, W_region, W_seq, W_cond, W_block, W_exit, W_label, W_ret, W_range, OpsW_nil, OpsW_app, OpsW_app', OpsW_op, OpsW_guard, upd_some, upd_none, Br_W1, Br_W2, Br_O1, Br_O2, opF, evalT, evalO, ofConst, argFr, binF, intF, unF, idxN_nat, reduceIte, reduceCtorEq, Nat.reduceEqDiff, Nat.reduceAdd, Nat.reduceMul, Option.getD_some, Option.getD_none, Option.map_some, Option.map_none, Option.bind_some, Option.some.injEq, Prod.mk.injEq, List.getElem?_toArray, List.getElem?_cons_zero, List.getElem?_cons_succ, List.getElem?_nil, Nat.succ_ne_zero, and_self, true_and, and_true, true_or, or_true, false_or, or_false, exists_eq_left, exists_eq_left', exists_eq, exists_and_left, and_assoc, if_true, if_false, decide_true, decide_false, Bool.false_eq_true, beq_self_eq_true, Bool.true_beq, Bool.false_beq, Bool.not_true, Bool.not_false, ne_eq, not_true_eq_false, not_false_eq_true, List.length_cons, List.length_nil, decide_eq_true_eq, decide_eq_false_iff_not, callB, List.zip_cons_cons, List.zip_nil_right, List.zip_nil_left, List.map_cons, List.map_nil, List.size_toArray, partF, TI.agg, scal, isAgg, cellsOf, tokRo, cellOk, List.all_cons, List.all_nil, Bool.and_true, Bool.true_and, Bool.or_true, Bool.true_or, Bool.or_false, Bool.and_self, Nat.reduceLeDiff, Nat.reduceLT, Nat.lt_add_one, Nat.zero_lt_succ, range1, range2, range3, range4, Option.isSome_some, splice, fillF, List.take_zero, List.drop_zero, List.drop_succ_cons, List.take_succ_cons, List.nil_append, List.cons_append, Int.reduceEq, Int.reduceLT, Int.reduceAdd, Int.reduceSub, Int.reduceMul, W_regionD, xrE, OpsW_eqnil, OpsW_neqnil, NilW_sl, List.set_cons_zero, List.set_cons_succ, List.headD_cons, T3, T4, T20, T37, T158, callArgs] <;> rfl) ?_
      simp only [W_skip, W_region, W_seq, W_cond, W_block, W_exit, W_label, W_ret, W_range, OpsW_nil, OpsW_app, OpsW_app', OpsW_op, OpsW_guard, upd_some, upd_none, Br_W1, Br_W2, Br_O1, Br_O2, opF, evalT, evalO, ofConst, argFr, binF, intF, unF, idxN_nat, reduceIte, reduceCtorEq, Nat.reduceEqDiff, Nat.reduceAdd, Nat.reduceMul, Option.getD_some, Option.getD_none, Option.map_some, Option.map_none, Option.bind_some, Option.some.injEq, Prod.mk.injEq, List.getElem?_toArray, List.getElem?_cons_zero, List.getElem?_cons_succ, List.getElem?_nil, Nat.succ_ne_zero, and_self, true_and, and_true, true_or, or_true, false_or, or_false, exists_eq_left, exists_eq_left', exists_eq, exists_and_left, and_assoc, if_true, if_false, decide_true, decide_false, Bool.false_eq_true, beq_self_eq_true, Bool.true_beq, Bool.false_beq, Bool.not_true, Bool.not_false, ne_eq, not_true_eq_false, not_false_eq_true, List.length_cons, List.length_nil, decide_eq_true_eq, decide_eq_false_iff_not, callB, List.zip_cons_cons, List.zip_nil_right, List.zip_nil_left, List.map_cons, List.map_nil, List.size_toArray, partF, TI.agg, scal, isAgg, cellsOf, tokRo, cellOk, List.all_cons, List.all_nil, Bool.and_true, Bool.true_and, Bool.or_true, Bool.true_or, Bool.or_false, Bool.and_self, Nat.reduceLeDiff, Nat.reduceLT, Nat.lt_add_one, Nat.zero_lt_succ, range1, range2, range3, range4, Option.isSome_some, splice, fillF, List.take_zero, List.drop_zero, List.drop_succ_cons, List.take_succ_cons, List.nil_append, List.cons_append, Int.reduceEq, Int.reduceLT, Int.reduceAdd, Int.reduceSub, Int.reduceMul, W_regionD, xrE, OpsW_eqnil, OpsW_neqnil, NilW_sl, List.set_cons_zero, List.set_cons_succ, List.headD_cons, T3, T4, T20, T37, T158]
      rw [← hz]
      exact concat_tail0 l t hl hz _ _ (by simp [upd, f0]) (by simp [upd])
    · have hp : 0 < (catL l).length := List.length_pos_iff.2 hz
      refine OpsW_sp (grow_spec (catL l).length hp (by omega) []) rfl rfl rfl (by simp only [W_skip, W_region, W_seq, W_cond, W_block, W_exit, W_label, W_ret, W_range, OpsW_nil, OpsW_app, OpsW_app', OpsW_op, OpsW_guard, upd_some, upd_none, Br_W1, Br_W2, Br_O1, Br_O2, opF, evalT, evalO, ofConst, argFr, binF, intF, unF, idxN_nat, reduceIte, reduceCtorEq, Nat.reduceEqDiff, Nat.reduceAdd, Nat.reduceMul, Option.getD_some, Option.getD_none, Option.map_some, Option.map_none, Option.bind_some, Option.some.injEq, Prod.mk.injEq, List.getElem?_toArray, List.getElem?_cons_zero, List.getElem?_cons_succ, List.getElem?_nil, Nat.succ_ne_zero, and_self, true_and, and_true, true_or, or_true, false_or, or_false, exists_eq_left, exists_eq_left', exists_eq, exists_and_left, and_assoc, if_true, if_false, decide_true, decide_false, Bool.false_eq_true, beq_self_eq_true, Bool.true_beq, Bool.false_beq, Bool.not_true, Bool.not_false, ne_eq, not_true_eq_false, not_false_eq_true, List.length_cons, List.length_nil, decide_eq_true_eq, decide_eq_false_iff_not, callB, List.zip_cons_cons, List.zip_nil_right, List.zip_nil_left, List.map_cons, List.map_nil, List.size_toArray, partF, TI.agg, scal, isAgg, cellsOf, tokRo, cellOk, List.all_cons, List.all_nil, Bool.and_true, Bool.true_and, Bool.or_true, Bool.true_or, Bool.or_false, Bool.and_self, Nat.reduceLeDiff, Nat.reduceLT, Nat.lt_add_one, Nat.zero_lt_succ, range1, range2, range3, range4, Option.isSome_some, splice, fillF, List.take_zero, List.drop_zero, List.drop_succ_cons, List.take_succ_cons, List.nil_append, List.cons_append, Int.reduceEq, Int.reduceLT, Int.reduceAdd, Int.reduceSub, Int.reduceMul, W_regionD, xrE, OpsW_eqnil, OpsW_neqnil, NilW_sl, List.set_cons_zero, List.set_cons_succ, List.headD_cons, T3, T4, T20, T37, T158, callArgs] <;> rfl) ?_
      simp only [W_skip, W_region, W_seq, W_cond, W_block, W_exit, W_label, W_ret, W_range, OpsW_nil, OpsW_app, OpsW_app', OpsW_op, OpsW_guard, upd_some, upd_none, Br_W1, Br_W2, Br_O1, Br_O2, opF, evalT, evalO, ofConst, argFr, binF, intF, unF, idxN_nat, reduceIte, reduceCtorEq, Nat.reduceEqDiff, Nat.reduceAdd, Nat.reduceMul, Option.getD_some, Option.getD_none, Option.map_some, Option.map_none, Option.bind_some, Option.some.injEq, Prod.mk.injEq, List.getElem?_toArray, List.getElem?_cons_zero, List.getElem?_cons_succ, List.getElem?_nil, Nat.succ_ne_zero, and_self, true_and, and_true, true_or, or_true, false_or, or_false, exists_eq_left, exists_eq_left', exists_eq, exists_and_left, and_assoc, if_true, if_false, decide_true, decide_false, Bool.false_eq_true, beq_self_eq_true, Bool.true_beq, Bool.false_beq, Bool.not_true, Bool.not_false, ne_eq, not_true_eq_false, not_false_eq_true, List.length_cons, List.length_nil, decide_eq_true_eq, decide_eq_false_iff_not, callB, List.zip_cons_cons, List.zip_nil_right, List.zip_nil_left, List.map_cons, List.map_nil, List.size_toArray, partF, TI.agg, scal, isAgg, cellsOf, tokRo, cellOk, List.all_cons, List.all_nil, Bool.and_true, Bool.true_and, Bool.or_true, Bool.true_or, Bool.or_false, Bool.and_self, Nat.reduceLeDiff, Nat.reduceLT, Nat.lt_add_one, Nat.zero_lt_succ, range1, range2, range3, range4, Option.isSome_some, splice, fillF, List.take_zero, List.drop_zero, List.drop_succ_cons, List.take_succ_cons, List.nil_append, List.cons_append, Int.reduceEq, Int.reduceLT, Int.reduceAdd, Int.reduceSub, Int.reduceMul, W_regionD, xrE, OpsW_eqnil, OpsW_neqnil, NilW_sl, List.set_cons_zero, List.set_cons_succ, List.headD_cons, T3, T4, T20, T37, T158]
      exact concat_tail1 l t hl hc hz _ _ (by simp [upd, f0]) 0 (by simp [upd]) rfl
end Go.Pv.Ct
end
section
namespace Go.Pv

/-- Is every edge that binds one to an earlier operation? -/
def edgesOk (ops : Array Oper) : Bool := (List.range ops.size).all fun j => match ops[j]? with
  | none => false
  | some oj => oj.after.all fun e => !Region.binds .any e || decide (e.on < j)
theorem edgesOk_at {ops : Array Oper} (h : edgesOk ops = true) : ∀ (j : Nat) (oj : Oper), ops[j]? = some oj → ∀ e ∈ oj.after, Region.binds .any e = true → e.on < j := by
  intro j oj hj e he hb
  unfold edgesOk at h
  rw [List.all_eq_true] at h
  have := h j (by simpa using (Array.getElem?_eq_some_iff.1 hj).1)
  rw [hj] at this
  simp only at this
  rw [Array.all_eq_true_iff_forall_mem] at this
  simpa [hb] using this e he

theorem AnyW_of {E : Env} {ops : Array Oper} {KK : Fr → Store → Prop} (hd : edgesOk ops = true) (I : (Nat → Bool) → Fr → Store → Prop)
    (hstep : ∀ (L : Nat → Bool) (fr : Fr) (st : Store) (i : Nat) (o : Oper), I L fr st → Ready ops L i o →
      match guardF ops fr o with
      | some g => Br g (StepW E fr st o fun v st' => I (adds L i) (upd fr o.dst v) st') (I (adds L i) (upd fr o.dst (.tup [])) st)
      | none => False)
    (hend : ∀ L fr st, I L fr st → (∀ i, i < ops.size → L i = true) → KK fr st) :
    ∀ (f : Nat) (listed : Array Bool) (fr : Fr) (st : Store), listed.size = ops.size → unl ops listed ≤ f → I (Lof listed) fr st → AnyW E ops KK f listed fr st := by
  have D := edgesOk_at hd
  have done : ∀ (listed : Array Bool), listed.size = ops.size → Region.ready .any ops listed = [] → ∀ i, i < ops.size → Lof listed i = true := by
    intro listed hls hr i hi
    cases hL : Lof listed i with
    | true => rfl
    | false =>
      obtain ⟨k, o, hk⟩ := ready_ex D i hi hL
      have := ready_mem hls hk
      rw [hr] at this
      cases this
  intro f
  induction f with
  | zero =>
    intro listed fr st hls hu hI
    have hall : ∀ i, i < ops.size → Lof listed i = true := by
      intro i hi
      have h0 : unl ops listed = 0 := by omega
      unfold unl at h0
      rw [List.countP_eq_zero] at h0
      have := h0 i (by simpa using hi)
      simpa using this
    refine ⟨?_, hend _ _ _ hI hall⟩
    cases hr : Region.ready .any ops listed with
    | nil => rfl
    | cons i l =>
      obtain ⟨o, hk⟩ := ready_spec hls (i := i) (by rw [hr]; simp) D
      have := hall i (Array.getElem?_eq_some_iff.1 hk.1).1
      rw [hk.2.1] at this
      cases this
  | succ f ih =>
    intro listed fr st hls hu hI
    refine ⟨fun hr => hend _ _ _ hI (done listed hls hr), fun i hi => ?_⟩
    obtain ⟨o, hk⟩ := ready_spec hls hi D
    have his : i < ops.size := (Array.getElem?_eq_some_iff.1 hk.1).1
    have hset := Lof_set (listed := listed) (i := i) (by omega)
    have hu' : unl ops (listed.setIfInBounds i true) ≤ f := by
      have : unl ops (listed.setIfInBounds i true) < unl ops listed := by
        unfold unl
        rw [hset]
        refine countP_lt _ (fun x _ hx => ?_) i (by simpa using his) (by simp [hk.2.1]) (by simp [adds])
        simp [adds] at hx ⊢
        exact hx.2
      omega
    refine ⟨o, hk.1, ?_⟩
    have hs := hstep _ _ _ _ _ hI hk
    split at hs
    · rename_i g hg
      rw [hg]
      exact Br.mk (fun hg => (hs.1 hg).mono fun v st' q => ih _ _ _ (by simpa using hls) hu' (by rw [hset]; exact q)) (fun hg => ih _ _ _ (by simpa using hls) hu' (by rw [hset]; exact hs.2 hg))
    · exact hs.elim
theorem Lof_none (n : Nat) : Lof (Array.replicate n false) = fun _ => false := by
  funext i
  unfold Lof
  rw [Array.getD_eq_getD_getElem?, Array.getElem?_replicate]
  split <;> rfl
theorem AnyW_start {E : Env} {ops : Array Oper} {KK : Fr → Store → Prop} (hd : edgesOk ops = true) (I : (Nat → Bool) → Fr → Store → Prop)
    (hstep : ∀ (L : Nat → Bool) (fr : Fr) (st : Store) (i : Nat) (o : Oper), I L fr st → Ready ops L i o →
      match guardF ops fr o with
      | some g => Br g (StepW E fr st o fun v st' => I (adds L i) (upd fr o.dst v) st') (I (adds L i) (upd fr o.dst (.tup [])) st)
      | none => False)
    (hend : ∀ L fr st, I L fr st → (∀ i, i < ops.size → L i = true) → KK fr st) {fr : Fr} {st : Store} (h : I (fun _ => false) fr st) : AnyW E ops KK ops.size (Array.replicate ops.size false) fr st := by
  refine AnyW_of hd I hstep hend _ _ _ _ (by simp) ?_ (by rw [Lof_none]; exact h)
  unfold unl
  exact Nat.le_trans List.countP_le_length (by simp)
/-- The same; each step as a region of one operation. -/
theorem AnyW_steps {E : Env} {ops : Array Oper} {KK : Fr → Store → Prop} (hd : edgesOk ops = true) (I : (Nat → Bool) → Fr → Store → Prop)
    (hstep : ∀ (L : Nat → Bool) (fr : Fr) (st : Store) (i : Nat) (o : Oper), I L fr st → Ready ops L i o → OpsW E ops [o] fr st (I (adds L i)))
    (hend : ∀ L fr st, I L fr st → (∀ i, i < ops.size → L i = true) → KK fr st) {fr : Fr} {st : Store} (h : I (fun _ => false) fr st) : AnyW E ops KK ops.size (Array.replicate ops.size false) fr st := by
  refine AnyW_start hd I (fun L fr st i o hI hr => ?_) hend h
  have q := hstep L fr st i o hI hr
  unfold OpsW at q
  split at q
  · rename_i g e
    rw [e]
    exact q
  · exact q.elim
end Go.Pv
end
