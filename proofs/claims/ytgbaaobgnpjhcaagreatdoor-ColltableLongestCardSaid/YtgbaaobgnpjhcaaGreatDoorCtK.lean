/-
  Collation tables (3): lists of plain values; small functions of several layers.
-/
import Derived.Test.YtgbaaobgnpjhcaaGreatDoorCtB
set_option linter.all false
set_option linter.unusedSimpArgs false
set_option linter.unusedVariables false
section
namespace Go.Pv.Ct
open Go.Pv

def I (n : Int) : PV := .int .i64 n
def ints (a : List Int) : List (List PV) := a.map fun n => [.int .i64 n]
theorem ints_length (a : List Int) : (ints a).length = a.length := by simp [ints]
theorem ints_get (a : List Int) (i : Nat) (h : i < a.length) : (ints a)[i]? = some [.int .i64 a[i]] := by simp [ints, h]
theorem wrap_small {n : Int} (h1 : -9223372036854775808 ≤ n) (h2 : n ≤ 9223372036854775807) : IntKind.i64.wrap n = n := wrap64_id (by omega) (by omega)
/-- A part of a code's sequence: left or right, in turn. -/
def part : List Bool → Code → Code
  | [], c => c
  | false :: p, .seq a _ => part p a
  | true :: p, .seq _ b => part p b
  | _, _ => .skip
def EndW (E : Env) (rs : List ResultVar) (Q : PV → Store → Prop) : Exit → Fr → Store → Prop := fun e fr1 st1 => (e = .normal ∨ e = .ret) ∧ ∃ v, resF E rs fr1 st1 = some v ∧ Q v st1

/-- Is a number a code point? -/
def validC (c : Int) : Bool := decide (c ≥ 0) && decide (c ≤ 1114111)
theorem valid01_plain (c : Int) : Plain EE 50 [.int .i64 c] (.bool (validC c)) := by
  refine plain_of_W ok ok50 (by simp) ?_
  unfold BodyW
  have e0 : code Go.Proofs.Tryz.f50 = code Go.Proofs.Tryz.f50 := rfl
  conv at e0 => rhs; simp only [code, Go.Proofs.Tryz.f50, Option.getD_some]
  rw [e0]
  clear e0
  by_cases h1 : c ≥ 0
  · simp only [W_region, W_seq, W_ret, OpsW_nil, OpsW_op, OpsW_guard, upd_some, Br_O1, opF, evalT, evalO, ofConst, argFr, binF, intF, reduceCtorEq, Nat.reduceEqDiff, Option.getD_some, Option.getD_none, Option.map_some, Option.bind_some, Option.some.injEq, List.getElem?_toArray, List.getElem?_cons_zero, List.getElem?_cons_succ, List.getElem?_nil, true_and, or_true, exists_eq_left', if_true, if_false, decide_true, beq_self_eq_true, h1, resF, resAll, resOne]
    exact ⟨1, by rw [pub_bool]; simp [h1, validC]⟩
  · simp only [W_region, W_seq, W_ret, OpsW_nil, OpsW_op, OpsW_guard, upd_some, Br_O2, opF, evalT, evalO, ofConst, argFr, binF, intF, reduceCtorEq, Nat.reduceEqDiff, Option.getD_some, Option.getD_none, Option.map_some, Option.bind_some, Option.some.injEq, List.getElem?_toArray, List.getElem?_cons_zero, List.getElem?_cons_succ, List.getElem?_nil, true_and, or_true, exists_eq_left', if_true, if_false, decide_false, Bool.false_eq_true, Bool.false_beq, Bool.not_true, h1, resF, resAll, resOne]
    exact ⟨1, by rw [pub_bool]; simp [h1, validC]⟩
theorem valid_plain (c : Int) : Plain EE 62 [.int .i64 c] (.bool (validC c)) := by
  refine plain_of_W ok ok62 (by simp) ?_
  unfold BodyW
  have e0 : code Go.Proofs.Tryz.f62 = code Go.Proofs.Tryz.f62 := rfl
  conv at e0 => rhs; simp only [code, Go.Proofs.Tryz.f62, Option.getD_some]
  rw [e0]
  clear e0
  by_cases h1 : c ≥ 0
  · simp only [W_region, W_seq, W_ret, OpsW_nil, OpsW_op, OpsW_guard, upd_some, Br_O1, opF, evalT, evalO, ofConst, argFr, binF, intF, reduceCtorEq, Nat.reduceEqDiff, Option.getD_some, Option.getD_none, Option.map_some, Option.bind_some, Option.some.injEq, List.getElem?_toArray, List.getElem?_cons_zero, List.getElem?_cons_succ, List.getElem?_nil, true_and, or_true, exists_eq_left', if_true, if_false, decide_true, beq_self_eq_true, h1, resF, resAll, resOne]
    exact ⟨1, by rw [pub_bool]; simp [h1, validC]⟩
  · simp only [W_region, W_seq, W_ret, OpsW_nil, OpsW_op, OpsW_guard, upd_some, Br_O2, opF, evalT, evalO, ofConst, argFr, binF, intF, reduceCtorEq, Nat.reduceEqDiff, Option.getD_some, Option.getD_none, Option.map_some, Option.bind_some, Option.some.injEq, List.getElem?_toArray, List.getElem?_cons_zero, List.getElem?_cons_succ, List.getElem?_nil, true_and, or_true, exists_eq_left', if_true, if_false, decide_false, Bool.false_eq_true, Bool.false_beq, Bool.not_true, h1, resF, resAll, resOne]
    exact ⟨1, by rw [pub_bool]; simp [h1, validC]⟩
/-- The comparison of two lists. -/
def cmpL : List Int → List Int → Int
  | [], [] => 0
  | [], _ :: _ => -1
  | _ :: _, [] => 1
  | x :: xs, y :: ys => if x < y then -1 else if x > y then 1 else cmpL xs ys
theorem cmpL_drop {a b : List Int} {i : Nat} (ha : i < a.length) (hb : i < b.length) : cmpL (a.drop i) (b.drop i) = if a[i] < b[i] then -1 else if a[i] > b[i] then 1 else cmpL (a.drop (i + 1)) (b.drop (i + 1)) := by
  rw [List.drop_eq_getElem_cons ha, List.drop_eq_getElem_cons hb, cmpL]

theorem compare_plain (a b : List Int) (ta tb : Tok) (ha : a.length < 9223372036854775808) : Plain EE 47 [.sl 1 (ints a) ta, .sl 1 (ints b) tb] (.int .i64 (cmpL a b)) := by
  refine plain_of_W ok ok47 (by simp) ?_
  unfold BodyW
  have e0 : code Go.Proofs.Tryz.f47 = code Go.Proofs.Tryz.f47 := rfl
  conv at e0 => rhs; simp only [code, Go.Proofs.Tryz.f47, Option.getD_some]
  rw [e0]
  clear e0
  simp only [W_region, W_seq, W_cond, W_block, W_ret, OpsW_nil, OpsW_op, upd_some, opF, evalT, evalO, ofConst, binF, intF, reduceCtorEq, Nat.reduceEqDiff, Nat.reduceAdd, true_and, or_true, or_false, if_true, if_false, List.length_cons, List.length_nil, callB, List.zip_cons_cons, List.zip_nil_right, List.map_cons, List.map_nil, List.size_toArray, T37]
  refine W_loop (fun n fr st => ∃ i : Nat, fr 0 = .sl 1 (ints a) ta ∧ fr 1 = .sl 1 (ints b) tb ∧ fr 5 = .int .i64 i ∧ st = [] ∧ n = a.length - i ∧ i ≤ a.length ∧ i ≤ b.length ∧ cmpL a b = cmpL (a.drop i) (b.drop i)) ?_ a.length _ _ ⟨0, by simp [upd, argFr]⟩
  rintro n fr st ⟨i, h0, h1, h5, rfl, rfl, hia, hib, hc⟩
  by_cases ca : (i : Int) < (a.length : Int)
  · by_cases cb : (i : Int) < (b.length : Int)
    · have ia : i < a.length := by omega
      have ib : i < b.length := by omega
      have ga := ints_get a i ia
      have gb := ints_get b i ib
      have hd := cmpL_drop ia ib
      have hw : IntKind.i64.wrap ((i : Int) + 1) = ((i + 1 : Nat) : Int) := by rw [wrap_small (by omega) (by omega)]; rfl
      by_cases c1 : a[i] < b[i]
      · simp only [W_skip, W_region, W_seq, W_cond, W_block, W_ret, OpsW_nil, OpsW_op, OpsW_guard, upd_some, Br_W1, Br_O1, opF, evalT, evalO, ofConst, binF, intF, idxN_nat, reduceCtorEq, Nat.reduceEqDiff, Nat.reduceAdd, Option.map_some, Option.bind_some, Option.some.injEq, List.getElem?_toArray, List.getElem?_cons_zero, List.getElem?_cons_succ, true_and, or_true, exists_eq_left', exists_and_left, if_true, if_false, decide_true, Bool.false_eq_true, beq_self_eq_true, List.length_cons, List.length_nil, callB, List.zip_cons_cons, List.zip_nil_right, List.map_cons, List.map_nil, List.size_toArray, partF, TI.agg, Nat.reduceLeDiff, List.take_zero, List.drop_zero, List.take_succ_cons, W_regionD, xrE, T3, T37, h0, h1, h5, ints_length, ca, cb, ga, gb, c1, resF, resAll, resOne]
        refine ⟨1, ?_⟩
        rw [pub_int, hc, hd, if_pos c1]
      · by_cases c2 : a[i] > b[i]
        · simp only [W_skip, W_region, W_seq, W_cond, W_block, W_ret, OpsW_nil, OpsW_op, OpsW_guard, upd_some, Br_W1, Br_W2, Br_O1, opF, evalT, evalO, ofConst, binF, intF, idxN_nat, reduceCtorEq, Nat.reduceEqDiff, Nat.reduceAdd, Option.map_some, Option.bind_some, Option.some.injEq, List.getElem?_toArray, List.getElem?_cons_zero, List.getElem?_cons_succ, true_and, or_true, exists_eq_left', exists_and_left, if_true, if_false, decide_true, decide_false, Bool.false_eq_true, beq_self_eq_true, List.length_cons, List.length_nil, callB, List.zip_cons_cons, List.zip_nil_right, List.map_cons, List.map_nil, List.size_toArray, partF, TI.agg, Nat.reduceLeDiff, List.take_zero, List.drop_zero, List.take_succ_cons, W_regionD, xrE, T3, T37, h0, h1, h5, ints_length, ca, cb, ga, gb, c1, c2, resF, resAll, resOne]
          refine ⟨1, ?_⟩
          rw [pub_int, hc, hd, if_neg c1, if_pos c2]
        · simp only [W_skip, W_region, W_seq, W_cond, W_block, OpsW_nil, OpsW_op, OpsW_guard, upd_some, Br_W1, Br_W2, Br_O1, opF, evalT, evalO, ofConst, binF, intF, idxN_nat, reduceCtorEq, Nat.reduceEqDiff, Nat.reduceAdd, Option.map_some, Option.bind_some, List.getElem?_toArray, List.getElem?_cons_zero, List.getElem?_cons_succ, true_and, exists_and_left, if_true, if_false, decide_true, decide_false, Bool.false_eq_true, beq_self_eq_true, List.length_cons, List.length_nil, callB, List.zip_cons_cons, List.zip_nil_right, List.map_cons, List.map_nil, List.size_toArray, partF, TI.agg, Nat.reduceLeDiff, List.take_zero, List.drop_zero, List.take_succ_cons, W_regionD, xrE, T3, T37, h0, h1, h5, ints_length, ca, cb, ga, gb, c1, c2, hw]
          refine ⟨a.length - (i + 1), by omega, i + 1, rfl, rfl, by omega, by omega, ?_⟩
          rw [hc, hd, if_neg c1, if_neg c2]
    · have hl : (b.length : Int) < (a.length : Int) := by omega
      have hl' : ¬ (a.length : Int) < (b.length : Int) := by omega
      simp only [W_skip, W_region, W_seq, W_cond, W_block, W_exit, W_ret, OpsW_nil, OpsW_op, OpsW_guard, upd_some, Br_W1, Br_W2, Br_O1, opF, evalT, evalO, ofConst, binF, intF, reduceCtorEq, Nat.reduceEqDiff, Nat.reduceAdd, Option.map_some, Option.bind_some, Option.some.injEq, List.getElem?_toArray, List.getElem?_cons_zero, List.getElem?_cons_succ, true_and, or_true, exists_eq_left', exists_and_left, if_true, if_false, decide_true, decide_false, beq_self_eq_true, List.length_cons, List.length_nil, callB, List.zip_cons_cons, List.zip_nil_right, List.map_cons, List.map_nil, List.size_toArray, partF, TI.agg, List.drop_zero, W_regionD, xrE, T3, T37, h0, h1, h5, ints_length, ca, cb, resF, resAll, resOne, hl, hl', gt_iff_lt]
      refine ⟨1, ?_⟩
      rw [pub_int, hc, show b.drop i = [] from List.drop_eq_nil_of_le (by omega), List.drop_eq_getElem_cons (by omega : i < a.length)]
      rfl
  · by_cases cb : (i : Int) < (b.length : Int)
    · have hl' : (a.length : Int) < (b.length : Int) := by omega
      simp only [W_region, W_seq, W_cond, W_block, W_exit, W_ret, OpsW_nil, OpsW_op, OpsW_guard, upd_some, Br_W1, Br_W2, Br_O2, opF, evalT, evalO, ofConst, binF, intF, reduceCtorEq, Nat.reduceEqDiff, Nat.reduceAdd, Option.map_some, Option.bind_some, Option.some.injEq, List.getElem?_toArray, List.getElem?_cons_zero, List.getElem?_cons_succ, true_and, or_true, exists_eq_left', exists_and_left, if_true, if_false, decide_true, decide_false, Bool.false_eq_true, Bool.false_beq, Bool.not_true, List.length_cons, List.length_nil, callB, List.zip_cons_cons, List.zip_nil_right, List.map_cons, List.map_nil, List.size_toArray, partF, TI.agg, List.drop_zero, W_regionD, xrE, T3, T37, h0, h1, h5, ints_length, ca, resF, resAll, resOne, hl', gt_iff_lt]
      refine ⟨1, ?_⟩
      rw [pub_int, hc, show a.drop i = [] from List.drop_eq_nil_of_le (by omega), List.drop_eq_getElem_cons (by omega : i < b.length)]
      rfl
    · have hl : ¬ (b.length : Int) < (a.length : Int) := by omega
      have hl' : ¬ (a.length : Int) < (b.length : Int) := by omega
      simp only [W_skip, W_region, W_seq, W_cond, W_block, W_exit, OpsW_nil, OpsW_op, OpsW_guard, upd_some, Br_W2, Br_O2, opF, evalT, evalO, ofConst, binF, intF, reduceCtorEq, Nat.reduceEqDiff, Nat.reduceAdd, Option.map_some, Option.bind_some, Option.some.injEq, List.getElem?_toArray, List.getElem?_cons_zero, List.getElem?_cons_succ, exists_eq_left', exists_and_left, if_true, if_false, decide_false, Bool.false_eq_true, Bool.false_beq, Bool.not_true, List.length_cons, List.length_nil, callB, List.zip_cons_cons, List.zip_nil_right, List.map_cons, List.map_nil, List.size_toArray, partF, TI.agg, List.drop_zero, W_regionD, xrE, T3, T37, h0, h1, h5, ints_length, ca, resF, resAll, resOne, hl, hl', gt_iff_lt]
      refine ⟨1, ?_⟩
      rw [pub_int, hc, show b.drop i = [] from List.drop_eq_nil_of_le (by omega), show a.drop i = [] from List.drop_eq_nil_of_le (by omega)]
      rfl


def order (a b : Int) : Int := if a < b then -1 else if a > b then 1 else 0
theorem order_plain (a b : Int) : Plain EE 66 [.int .i64 a, .int .i64 b] (.int .i64 (order a b)) := by
  refine plain_of_W ok ok66 (by simp) ?_
  unfold BodyW
  have e0 : code Go.Proofs.Tryz.f66 = code Go.Proofs.Tryz.f66 := rfl
  conv at e0 => rhs; simp only [code, Go.Proofs.Tryz.f66, Option.getD_some]
  rw [e0]
  clear e0
  unfold order
  by_cases h1 : a < b
  · simp only [W_region, W_seq, W_cond, W_block, W_ret, OpsW_nil, OpsW_op, upd_some, Br_W1, opF, evalT, evalO, ofConst, argFr, binF, intF, reduceCtorEq, Nat.reduceEqDiff, Option.getD_some, Option.getD_none, Option.map_some, Option.some.injEq, List.getElem?_cons_zero, List.getElem?_cons_succ, List.getElem?_nil, true_and, or_true, or_false, exists_eq_left', if_true, if_false, decide_true, h1, resF, resAll, resOne]
    exact ⟨1, pub_int _ _ _ _⟩
  by_cases h2 : a > b
  · simp only [W_region, W_seq, W_cond, W_block, W_ret, OpsW_nil, OpsW_op, upd_some, Br_W1, Br_W2, opF, evalT, evalO, ofConst, argFr, binF, intF, reduceCtorEq, Nat.reduceEqDiff, Option.getD_some, Option.getD_none, Option.map_some, Option.some.injEq, List.getElem?_cons_zero, List.getElem?_cons_succ, List.getElem?_nil, true_and, or_true, or_false, exists_eq_left', if_true, if_false, decide_true, decide_false, h1, h2, resF, resAll, resOne]
    exact ⟨1, pub_int _ _ _ _⟩
  · simp only [W_skip, W_region, W_seq, W_cond, W_block, W_ret, OpsW_nil, OpsW_op, upd_some, Br_W2, opF, evalT, evalO, ofConst, argFr, binF, intF, reduceCtorEq, Nat.reduceEqDiff, Option.getD_some, Option.getD_none, Option.map_some, Option.some.injEq, List.getElem?_cons_zero, List.getElem?_cons_succ, List.getElem?_nil, true_and, or_true, or_false, exists_eq_left', if_true, if_false, decide_false, h1, h2, resF, resAll, resOne]
    exact ⟨1, pub_int _ _ _ _⟩

theorem equal_plain (a b : List Int) (ta tb : Tok) (ha : a.length < 9223372036854775808) : Plain EE 19 [.sl 1 (ints a) ta, .sl 1 (ints b) tb] (.bool (cmpL a b == 0)) := by
  refine plain_of_W ok ok19 (by simp) ?_
  unfold BodyW
  have e0 : code Go.Proofs.Tryz.f19 = code Go.Proofs.Tryz.f19 := rfl
  conv at e0 => rhs; simp only [code, Go.Proofs.Tryz.f19, Option.getD_some]
  rw [e0]
  clear e0
  simp only [W_region, W_seq, W_ret, OpsW_nil, OpsW_op, upd_some, opF, evalT, evalO, ofConst, argFr, reduceCtorEq, Nat.reduceEqDiff, Option.getD_some, List.getElem?_cons_zero, List.getElem?_cons_succ, true_and, or_true, if_false]
  refine OpsW_pl (compare_plain a b _ _ ha) rfl rfl (by simp only [upd_some, evalT, evalO, ofConst, argFr, Nat.reduceEqDiff, Option.getD_none, Option.some.injEq, List.getElem?_cons_succ, List.getElem?_nil, if_true, if_false, List.zip_cons_cons, List.zip_nil_right, List.map_cons, List.map_nil, callArgs, strips, strip_sl] <;> rfl) ?_
  simp only [OpsW_nil, OpsW_op, upd_some, opF, evalT, evalO, ofConst, argFr, binF, intF, Nat.reduceEqDiff, Option.getD_none, Option.map_some, Option.some.injEq, List.getElem?_cons_succ, List.getElem?_nil, exists_eq_left', if_true, if_false, resF, resAll, resOne]
  exact ⟨1, pub_bool _ _ _⟩

theorem compareC_plain (a b : List Int) (ta tb : Tok) (ha : a.length < 9223372036854775808) (hb : b.length < 9223372036854775808) : Plain EE 36 [.sl 1 (ints a) ta, .sl 1 (ints b) tb] (.int .i64 (cmpL a b)) := by
  refine plain_of_W ok ok36 (by simp) ?_
  unfold BodyW
  have e0 : code Go.Proofs.Tryz.f36 = code Go.Proofs.Tryz.f36 := rfl
  conv at e0 => rhs; simp only [code, Go.Proofs.Tryz.f36, Option.getD_some]
  rw [e0]
  clear e0
  have hmin : ∃ m : Nat, (if (b.length : Int) < (a.length : Int) then (b.length : Int) else (a.length : Int)) = (m : Int) ∧ m ≤ a.length ∧ m ≤ b.length ∧ (m = a.length ∨ m = b.length) := by
    split
    · exact ⟨b.length, rfl, by omega, by omega, .inr rfl⟩
    · exact ⟨a.length, rfl, by omega, by omega, .inl rfl⟩
  obtain ⟨m, hm, hma, hmb, hmm⟩ := hmin
  simp only [W_region, W_seq, W_block, W_ret, OpsW_nil, OpsW_op, upd_some, opF, evalT, evalO, ofConst, argFr, reduceCtorEq, Nat.reduceEqDiff, Nat.reduceAdd, Option.getD_some, List.getElem?_cons_zero, List.getElem?_cons_succ, true_and, or_true, or_false, if_true, if_false, List.length_cons, List.length_nil, callB, List.zip_cons_cons, List.zip_nil_right, List.map_cons, List.map_nil, List.size_toArray, hmE, T37, ints_length, hm]
  refine W_loop (fun n fr st => ∃ i : Nat, fr 0 = .sl 1 (ints a) ta ∧ fr 1 = .sl 1 (ints b) tb ∧ fr 10 = .int .i64 m ∧ fr 11 = .int .i64 i ∧ st = [] ∧ n = m - i ∧ i ≤ m ∧ cmpL a b = cmpL (a.drop i) (b.drop i)) ?_ m _ _ ⟨0, by simp [upd, argFr]⟩
  rintro n fr st ⟨i, h0, h1, h10, h11, rfl, rfl, hi, hc⟩
  by_cases c : (i : Int) < (m : Int)
  · have ia : i < a.length := by omega
    have ib : i < b.length := by omega
    have ga := ints_get a i ia
    have gb := ints_get b i ib
    have hd := cmpL_drop ia ib
    have hw : IntKind.i64.wrap ((i : Int) + 1) = ((i + 1 : Nat) : Int) := by rw [wrap_small (by omega) (by omega)]; rfl
    by_cases e : a[i] = b[i]
    · have e' : (a[i] != b[i]) = false := by simp [e]
      simp only [W_skip, W_region, W_seq, W_cond, W_block, OpsW_nil, OpsW_op, upd_some, Br_W1, Br_W2, opF, evalT, evalO, ofConst, binF, intF, idxN_nat, reduceCtorEq, Nat.reduceEqDiff, Nat.reduceAdd, Option.map_some, List.getElem?_cons_zero, true_and, exists_and_left, if_true, if_false, decide_true, Bool.false_eq_true, List.length_cons, List.length_nil, partF, TI.agg, Nat.reduceLeDiff, List.take_zero, List.drop_zero, List.take_succ_cons, W_regionD, xrE, T3, T37, h0, h1, h10, h11, c, ga, gb, e', hw]
      refine ⟨m - (i + 1), by omega, i + 1, rfl, rfl, by omega, ?_⟩
      rw [hc, hd, if_neg (by omega), if_neg (by omega)]
    · have e' : (a[i] != b[i]) = true := by simp [e]
      simp only [W_skip, W_region, W_seq, W_cond, W_block, W_ret, OpsW_nil, OpsW_op, upd_some, Br_W1, opF, evalT, evalO, ofConst, binF, intF, idxN_nat, reduceCtorEq, Nat.reduceEqDiff, Nat.reduceAdd, Option.map_some, List.getElem?_cons_zero, true_and, or_true, exists_and_left, if_true, if_false, decide_true, Bool.false_eq_true, List.length_cons, List.length_nil, partF, TI.agg, Nat.reduceLeDiff, List.take_zero, List.drop_zero, List.take_succ_cons, W_regionD, xrE, T3, T37, h0, h1, h10, h11, c, ga, gb, e']
      refine OpsW_pl (order_plain a[i] b[i]) rfl rfl (by simp only [upd_some, evalT, evalO, ofConst, Nat.reduceEqDiff, if_true, if_false, List.zip_cons_cons, List.zip_nil_right, List.map_cons, List.map_nil, callArgs, strips, strip_int] <;> rfl) ?_
      simp only [OpsW_nil, OpsW_op, upd_some, opF, evalT, evalO, Nat.reduceEqDiff, Option.map_some, Option.some.injEq, exists_eq_left', if_true, if_false, resF, resAll, resOne]
      refine ⟨1, ?_⟩
      rw [pub_int, hc, hd]
      unfold order
      by_cases c1 : a[i] < b[i]
      · rw [if_pos c1, if_pos c1]
      · have c2 : a[i] > b[i] := by omega
        rw [if_neg c1, if_neg c1, if_pos c2, if_pos c2]
  · have hmi : i = m := by omega
    subst hmi
    simp only [W_region, W_seq, W_cond, W_block, W_exit, OpsW_nil, OpsW_op, upd_some, Br_W2, opF, evalT, evalO, ofConst, binF, intF, reduceCtorEq, Nat.reduceEqDiff, Option.map_some, exists_and_left, if_true, if_false, decide_false, partF, TI.agg, List.drop_zero, W_regionD, xrE, T3, T37, h0, h1, h10, h11, ints_length, c]
    refine OpsW_pl (order_plain a.length b.length) rfl rfl (by simp only [upd_some, evalT, evalO, ofConst, Nat.reduceEqDiff, if_true, if_false, List.zip_cons_cons, List.zip_nil_right, List.map_cons, List.map_nil, callArgs, strips, strip_int] <;> rfl) ?_
    simp only [OpsW_nil, OpsW_op, upd_some, opF, evalT, evalO, Nat.reduceEqDiff, Option.map_some, Option.some.injEq, exists_eq_left', if_true, if_false, resF, resAll, resOne]
    refine ⟨1, ?_⟩
    rw [pub_int, hc]
    unfold order
    by_cases ca : i < a.length
    · rw [show b.drop i = [] from List.drop_eq_nil_of_le (by omega), List.drop_eq_getElem_cons ca, if_neg (by omega), if_pos (by omega)]
      rfl
    · by_cases cb : i < b.length
      · rw [show a.drop i = [] from List.drop_eq_nil_of_le (by omega), List.drop_eq_getElem_cons cb, if_pos (by omega)]
        rfl
      · rw [show b.drop i = [] from List.drop_eq_nil_of_le (by omega), show a.drop i = [] from List.drop_eq_nil_of_le (by omega), if_neg (by omega), if_neg (by omega)]
        rfl

theorem cmpL_eq : ∀ (a b : List Int), cmpL a b = 0 ↔ a = b
  | [], [] => by simp [cmpL]
  | [], _ :: _ => by simp [cmpL]
  | _ :: _, [] => by simp [cmpL]
  | x :: xs, y :: ys => by
    have := cmpL_eq xs ys
    simp only [cmpL, List.cons.injEq]
    by_cases h1 : x < y
    · rw [if_pos h1]; constructor
      · intro h; omega
      · rintro ⟨rfl, _⟩; omega
    · by_cases h2 : x > y
      · rw [if_neg h1, if_pos h2]; constructor
        · intro h; omega
        · rintro ⟨rfl, _⟩; omega
      · rw [if_neg h1, if_neg h2, this]
        have : x = y := by omega
        simp [this]

end Go.Pv.Ct
end
section
namespace Go.Pv.Ct
open Go.Pv
set_option maxRecDepth 20000

structure Elem where
  p : Int
  s : Int
  t : Int
  v : Bool
def Elem.cells (e : Elem) : List PV := [.int .i64 e.p, .int .i64 e.s, .int .i64 e.t, .bool e.v]
def elR (l : List Elem) : List (List PV) := l.map Elem.cells
theorem elR_length (l : List Elem) : (elR l).length = l.length := by simp [elR]
theorem elR_get (l : List Elem) (i : Nat) (h : i < l.length) : (elR l)[i]? = some [.int .i64 l[i].p, .int .i64 l[i].s, .int .i64 l[i].t, .bool l[i].v] := by simp [elR, h, Elem.cells]

def wOk (n : Int) : Bool := decide (n ≥ 0) && decide (n ≤ 65535)
def wOk1 (n : Int) : Bool := decide (n ≥ 1) && decide (n ≤ 65535)
theorem weight42_plain (c : Int) : Plain EE 92 [.int .i64 c] (.bool (wOk c)) := by
  refine plain_of_W ok ok92 (by simp) ?_
  unfold BodyW
  have e0 : code Go.Proofs.Tryz.f92 = code Go.Proofs.Tryz.f92 := rfl
  conv at e0 => rhs; simp only [code, Go.Proofs.Tryz.f92, Option.getD_some]
  rw [e0]
  clear e0
  by_cases h1 : c ≥ 0
  · simp only [W_region, W_seq, W_ret, OpsW_nil, OpsW_op, OpsW_guard, upd_some, Br_O1, opF, evalT, evalO, ofConst, argFr, binF, intF, reduceCtorEq, Nat.reduceEqDiff, Option.getD_some, Option.getD_none, Option.map_some, Option.bind_some, Option.some.injEq, List.getElem?_toArray, List.getElem?_cons_zero, List.getElem?_cons_succ, List.getElem?_nil, true_and, or_true, exists_eq_left', if_true, if_false, decide_true, beq_self_eq_true, h1, resF, resAll, resOne]
    exact ⟨1, by rw [pub_bool]; simp [h1, wOk]⟩
  · simp only [W_region, W_seq, W_ret, OpsW_nil, OpsW_op, OpsW_guard, upd_some, Br_O2, opF, evalT, evalO, ofConst, argFr, binF, intF, reduceCtorEq, Nat.reduceEqDiff, Option.getD_some, Option.getD_none, Option.map_some, Option.bind_some, Option.some.injEq, List.getElem?_toArray, List.getElem?_cons_zero, List.getElem?_cons_succ, List.getElem?_nil, true_and, or_true, exists_eq_left', if_true, if_false, decide_false, Bool.false_eq_true, Bool.false_beq, Bool.not_true, h1, resF, resAll, resOne]
    exact ⟨1, by rw [pub_bool]; simp [h1, wOk]⟩
theorem weight43_plain (c : Int) : Plain EE 37 [.int .i64 c] (.bool (wOk1 c)) := by
  refine plain_of_W ok ok37 (by simp) ?_
  unfold BodyW
  have e0 : code Go.Proofs.Tryz.f37 = code Go.Proofs.Tryz.f37 := rfl
  conv at e0 => rhs; simp only [code, Go.Proofs.Tryz.f37, Option.getD_some]
  rw [e0]
  clear e0
  by_cases h1 : c ≥ 1
  · simp only [W_region, W_seq, W_ret, OpsW_nil, OpsW_op, OpsW_guard, upd_some, Br_O1, opF, evalT, evalO, ofConst, argFr, binF, intF, reduceCtorEq, Nat.reduceEqDiff, Option.getD_some, Option.getD_none, Option.map_some, Option.bind_some, Option.some.injEq, List.getElem?_toArray, List.getElem?_cons_zero, List.getElem?_cons_succ, List.getElem?_nil, true_and, or_true, exists_eq_left', if_true, if_false, decide_true, beq_self_eq_true, h1, resF, resAll, resOne]
    exact ⟨1, by rw [pub_bool]; simp [h1, wOk1]⟩
  · simp only [W_region, W_seq, W_ret, OpsW_nil, OpsW_op, OpsW_guard, upd_some, Br_O2, opF, evalT, evalO, ofConst, argFr, binF, intF, reduceCtorEq, Nat.reduceEqDiff, Option.getD_some, Option.getD_none, Option.map_some, Option.bind_some, Option.some.injEq, List.getElem?_toArray, List.getElem?_cons_zero, List.getElem?_cons_succ, List.getElem?_nil, true_and, or_true, exists_eq_left', if_true, if_false, decide_false, Bool.false_eq_true, Bool.false_beq, Bool.not_true, h1, resF, resAll, resOne]
    exact ⟨1, by rw [pub_bool]; simp [h1, wOk1]⟩

/-- The error of an element. -/
def elErr (e : Elem) : Int :=
  if !wOk e.p || !wOk e.s || !wOk e.t then 1
  else if e.p != 0 && (e.s == 0 || e.t == 0) || e.s != 0 && e.t == 0 || e.v && e.p == 0 then 11 else 0

set_option maxHeartbeats 4000000 in
theorem elCheck42_plain (e : Elem) : Plain EE 68 [.agg e.cells] (.int .i64 (elErr e)) := by
  obtain ⟨p, s, t, v⟩ := e
  refine plain_of_W ok ok68 (by simp) ?_
  unfold BodyW
  have e0 : code Go.Proofs.Tryz.f68 = code Go.Proofs.Tryz.f68 := rfl
  conv at e0 => rhs; simp only [code, Go.Proofs.Tryz.f68, Option.getD_some]
  rw [e0]
  clear e0
  simp only [W_region, W_seq, W_cond, W_ret, OpsW_nil, OpsW_op, OpsW_guard, upd_some, opF, evalT, evalO, ofConst, argFr, binF, intF, reduceCtorEq, Nat.reduceEqDiff, Nat.reduceAdd, Option.getD_some, Option.getD_none, Option.map_some, Option.bind_some, List.getElem?_toArray, List.getElem?_cons_zero, List.getElem?_cons_succ, List.getElem?_nil, Nat.succ_ne_zero, and_self, true_and, or_true, if_true, if_false, Bool.false_eq_true, List.length_cons, List.length_nil, partF, TI.agg, scal, isAgg, cellsOf, Bool.or_true, Nat.reduceLeDiff, List.take_zero, List.drop_zero, List.take_succ_cons, List.nil_append, T3, T68, Elem.cells]
  refine OpsW_pl (weight42_plain p) rfl rfl (by simp only [upd_some, evalT, evalO, ofConst, argFr, Nat.reduceEqDiff, Option.getD_none, List.getElem?_cons_succ, List.getElem?_nil, if_true, if_false, List.zip_cons_cons, List.zip_nil_right, List.map_cons, List.map_nil, callArgs, strips, strip_int] <;> rfl) ?_
  rcases Bool.eq_false_or_eq_true (wOk p) with w1 | w1
  case inr =>
    simp only [W_region, W_seq, W_ret, OpsW_nil, OpsW_op, OpsW_guard, upd_some, Br_W1, Br_O2, opF, evalT, evalO, ofConst, argFr, unF, reduceCtorEq, Nat.reduceEqDiff, Option.getD_none, Option.map_some, Option.bind_some, Option.some.injEq, List.getElem?_toArray, List.getElem?_cons_zero, List.getElem?_cons_succ, List.getElem?_nil, true_and, or_true, exists_eq_left', if_true, if_false, Bool.true_beq, Bool.not_false, w1, resF, resAll, resOne]
    exact ⟨1, by rw [pub_int]; simp [elErr, w1]⟩
  simp only [OpsW_op, OpsW_guard, upd_some, Br_O1, opF, evalT, evalO, argFr, unF, Nat.reduceEqDiff, Nat.reduceAdd, Option.getD_none, Option.map_some, Option.bind_some, List.getElem?_toArray, List.getElem?_cons_zero, List.getElem?_cons_succ, List.getElem?_nil, Nat.succ_ne_zero, if_true, if_false, Bool.false_eq_true, beq_self_eq_true, Bool.not_true, List.length_cons, List.length_nil, partF, TI.agg, Nat.reduceLeDiff, List.take_zero, List.drop_zero, List.drop_succ_cons, List.take_succ_cons, T3, T68, w1]
  refine OpsW_pl (weight42_plain s) rfl rfl (by simp only [upd_some, evalT, evalO, ofConst, argFr, Nat.reduceEqDiff, Option.getD_none, List.getElem?_cons_succ, List.getElem?_nil, if_true, if_false, List.zip_cons_cons, List.zip_nil_right, List.map_cons, List.map_nil, callArgs, strips, strip_int] <;> rfl) ?_
  rcases Bool.eq_false_or_eq_true (wOk s) with w2 | w2
  case inr =>
    simp only [W_region, W_seq, W_ret, OpsW_nil, OpsW_op, OpsW_guard, upd_some, Br_W1, Br_O1, Br_O2, opF, evalT, evalO, ofConst, argFr, unF, reduceCtorEq, Nat.reduceEqDiff, Option.getD_none, Option.map_some, Option.bind_some, Option.some.injEq, List.getElem?_toArray, List.getElem?_cons_zero, List.getElem?_cons_succ, List.getElem?_nil, true_and, or_true, exists_eq_left', if_true, if_false, Bool.false_eq_true, beq_self_eq_true, Bool.true_beq, Bool.not_false, w2, resF, resAll, resOne]
    exact ⟨1, by rw [pub_int]; simp [elErr, w2]⟩
  simp only [OpsW_op, OpsW_guard, upd_some, Br_O1, opF, evalT, evalO, ofConst, argFr, unF, Nat.reduceEqDiff, Nat.reduceAdd, Option.getD_none, Option.map_some, Option.bind_some, List.getElem?_toArray, List.getElem?_cons_zero, List.getElem?_cons_succ, List.getElem?_nil, Nat.succ_ne_zero, if_true, if_false, Bool.false_eq_true, beq_self_eq_true, Bool.not_true, List.length_cons, List.length_nil, partF, TI.agg, Nat.reduceLeDiff, List.take_zero, List.drop_zero, List.drop_succ_cons, List.take_succ_cons, T3, T68, w2]
  refine OpsW_pl (weight42_plain t) rfl rfl (by simp only [upd_some, evalT, evalO, ofConst, argFr, Nat.reduceEqDiff, Option.getD_none, List.getElem?_cons_succ, List.getElem?_nil, if_true, if_false, List.zip_cons_cons, List.zip_nil_right, List.map_cons, List.map_nil, callArgs, strips, strip_int] <;> rfl) ?_
  rcases Bool.eq_false_or_eq_true (wOk t) with w3 | w3
  case inr =>
    simp only [W_region, W_seq, W_ret, OpsW_nil, OpsW_op, OpsW_guard, upd_some, Br_W1, Br_O1, opF, evalT, evalO, ofConst, argFr, unF, reduceCtorEq, Nat.reduceEqDiff, Option.getD_none, Option.map_some, Option.bind_some, Option.some.injEq, List.getElem?_toArray, List.getElem?_cons_zero, List.getElem?_cons_succ, List.getElem?_nil, true_and, or_true, exists_eq_left', if_true, if_false, Bool.false_eq_true, beq_self_eq_true, Bool.not_false, w3, resF, resAll, resOne]
    exact ⟨1, by rw [pub_int]; simp [elErr, w3]⟩
  have e1 : (p == 0) = !(p != 0) := by simp [bne]
  have e2 : (s == 0) = !(s != 0) := by simp [bne]
  have e3 : (t == 0) = !(t != 0) := by simp [bne]
  simp only [W_skip, OpsW_nil, OpsW_op, OpsW_guard, upd_some, Br_W2, Br_O1, opF, evalO, ofConst, argFr, unF, Nat.reduceEqDiff, Nat.reduceAdd, Option.getD_none, Option.map_some, Option.bind_some, List.getElem?_toArray, List.getElem?_cons_zero, List.getElem?_cons_succ, List.getElem?_nil, if_true, if_false, Bool.false_eq_true, beq_self_eq_true, Bool.not_true, List.length_cons, List.length_nil, Nat.reduceLeDiff, List.take_zero, List.drop_zero, List.take_succ_cons, w3]
  rcases Bool.eq_false_or_eq_true (p != 0) with b1 | b1 <;> rw [b1] at e1 <;> simp only [OpsW_op, OpsW_guard, upd_some, Br_O1, Br_O2, opF, evalT, evalO, ofConst, argFr, binF, intF, Nat.reduceEqDiff, Nat.reduceAdd, Option.getD_none, Option.map_some, Option.bind_some, List.getElem?_toArray, List.getElem?_cons_zero, List.getElem?_cons_succ, List.getElem?_nil, Nat.succ_ne_zero, if_true, if_false, Bool.false_eq_true, beq_self_eq_true, Bool.false_beq, Bool.not_true, List.length_cons, List.length_nil, partF, TI.agg, Nat.reduceLeDiff, List.take_zero, List.drop_zero, List.drop_succ_cons, List.take_succ_cons, T3, T68, b1] <;> rcases Bool.eq_false_or_eq_true (s != 0) with b2 | b2 <;> rw [b2] at e2 <;> simp only [W_region, W_seq, W_ret, OpsW_nil, OpsW_op, OpsW_guard, upd_some, Br_W1, Br_O1, Br_O2, opF, evalT, evalO, ofConst, argFr, binF, intF, reduceCtorEq, Nat.reduceEqDiff, Nat.reduceAdd, Option.getD_none, Option.map_some, Option.bind_some, Option.some.injEq, List.getElem?_toArray, List.getElem?_cons_zero, List.getElem?_cons_succ, List.getElem?_nil, Nat.succ_ne_zero, true_and, or_true, exists_eq_left', if_true, if_false, Bool.false_eq_true, beq_self_eq_true, Bool.true_beq, Bool.false_beq, Bool.not_true, Bool.not_false, List.length_cons, List.length_nil, partF, TI.agg, Nat.reduceLeDiff, List.take_zero, List.drop_zero, List.drop_succ_cons, List.take_succ_cons, T3, T4, T68, b2, e2, resF, resAll, resOne]
  all_goals first
    | exact ⟨1, by rw [pub_int]; simp only [elErr, w1, w2, w3, e1, e2, b1, b2]; cases v <;> rfl⟩
    | skip
  all_goals rcases Bool.eq_false_or_eq_true (t != 0) with b3 | b3 <;> rw [b3] at e3 <;> cases v <;> simp only [W_skip, W_region, W_seq, W_ret, OpsW_nil, OpsW_op, OpsW_guard, upd_some, Br_W1, Br_W2, Br_O1, Br_O2, opF, evalT, evalO, ofConst, argFr, binF, intF, reduceCtorEq, Nat.reduceEqDiff, Nat.reduceAdd, Option.getD_none, Option.map_some, Option.bind_some, List.getElem?_toArray, List.getElem?_cons_zero, List.getElem?_cons_succ, List.getElem?_nil, Nat.succ_ne_zero, true_and, or_true, if_true, if_false, Bool.false_eq_true, beq_self_eq_true, Bool.true_beq, Bool.false_beq, Bool.not_true, Bool.not_false, List.length_cons, List.length_nil, partF, TI.agg, Nat.reduceLeDiff, List.take_zero, List.drop_zero, List.drop_succ_cons, List.take_succ_cons, T3, T4, T68, e3, e1, b2]
  all_goals exact ⟨1, by rw [pub_int]; simp only [elErr, w1, w2, w3, e1, e2, e3, b1, b2]; rfl⟩

set_option maxHeartbeats 4000000 in
theorem elCheck_plain (e : Elem) : Plain EE 63 [.agg e.cells] (.int .i64 (elErr e)) := by
  obtain ⟨p, s, t, v⟩ := e
  refine plain_of_W ok ok63 (by simp) ?_
  unfold BodyW
  have e0 : code Go.Proofs.Tryz.f63 = code Go.Proofs.Tryz.f63 := rfl
  conv at e0 => rhs; simp only [code, Go.Proofs.Tryz.f63, Option.getD_some]
  rw [e0]
  clear e0
  have e1 : (p == 0) = !(p != 0) := by simp [bne]
  have e2 : (s == 0) = !(s != 0) := by simp [bne]
  by_cases c1 : (if t < (if s < p then s else p) then t else (if s < p then s else p)) < 0
  · simp only [W_region, W_seq, W_cond, W_ret, OpsW_nil, OpsW_op, OpsW_guard, upd_some, Br_W1, Br_O2, opF, evalT, evalO, ofConst, argFr, binF, intF, reduceCtorEq, Nat.reduceEqDiff, Nat.reduceAdd, Option.getD_some, Option.getD_none, Option.map_some, Option.bind_some, Option.some.injEq, List.getElem?_toArray, List.getElem?_cons_zero, List.getElem?_cons_succ, List.getElem?_nil, Nat.succ_ne_zero, and_self, true_and, or_true, exists_eq_left', if_true, if_false, decide_true, Bool.false_eq_true, Bool.true_beq, List.length_cons, List.length_nil, callB, List.zip_cons_cons, List.zip_nil_right, List.map_cons, List.map_nil, List.size_toArray, partF, TI.agg, scal, isAgg, cellsOf, Bool.or_true, Nat.reduceLeDiff, List.take_zero, List.drop_zero, List.drop_succ_cons, List.take_succ_cons, List.nil_append, hmE, T3, T68, Elem.cells, c1, resF, resAll, resOne]
    refine ⟨1, ?_⟩
    rw [pub_int]
    have : (!wOk p || !wOk s || !wOk t) = true := by
      unfold wOk
      simp
      repeat' split at c1
      all_goals omega
    simp [elErr, this]
  by_cases c2 : (if t > (if s > p then s else p) then t else (if s > p then s else p)) > 65535
  · simp only [W_region, W_seq, W_cond, W_ret, OpsW_nil, OpsW_op, OpsW_guard, upd_some, Br_W1, Br_O1, opF, evalT, evalO, ofConst, argFr, binF, intF, reduceCtorEq, Nat.reduceEqDiff, Nat.reduceAdd, Option.getD_some, Option.getD_none, Option.map_some, Option.bind_some, Option.some.injEq, List.getElem?_toArray, List.getElem?_cons_zero, List.getElem?_cons_succ, List.getElem?_nil, Nat.succ_ne_zero, and_self, true_and, or_true, exists_eq_left', if_true, if_false, decide_true, decide_false, Bool.false_eq_true, beq_self_eq_true, List.length_cons, List.length_nil, callB, List.zip_cons_cons, List.zip_nil_right, List.map_cons, List.map_nil, List.size_toArray, partF, TI.agg, scal, isAgg, cellsOf, Bool.or_true, Nat.reduceLeDiff, List.take_zero, List.drop_zero, List.drop_succ_cons, List.take_succ_cons, List.nil_append, hmE, T3, T68, Elem.cells, c1, c2, resF, resAll, resOne]
    refine ⟨1, ?_⟩
    rw [pub_int]
    have : (!wOk p || !wOk s || !wOk t) = true := by
      unfold wOk
      simp
      repeat' split at c2
      all_goals omega
    simp [elErr, this]
  have hr : 0 ≤ p ∧ p ≤ 65535 ∧ 0 ≤ s ∧ s ≤ 65535 ∧ 0 ≤ t ∧ t ≤ 65535 := by
    repeat' split at c1
    all_goals repeat' split at c2
    all_goals omega
  have w1 : wOk p = true := by unfold wOk; simp; omega
  have w2 : wOk s = true := by unfold wOk; simp; omega
  have w3 : wOk t = true := by unfold wOk; simp; omega
  have hw : IntKind.i64.wrap (p + s) = p + s := wrap_small (by omega) (by omega)
  simp only [W_skip, W_region, W_seq, W_cond, W_ret, OpsW_nil, OpsW_op, OpsW_guard, upd_some, Br_W2, Br_O1, opF, evalT, evalO, ofConst, argFr, binF, intF, reduceCtorEq, Nat.reduceEqDiff, Nat.reduceAdd, Option.getD_some, Option.getD_none, Option.map_some, Option.bind_some, List.getElem?_toArray, List.getElem?_cons_zero, List.getElem?_cons_succ, List.getElem?_nil, Nat.succ_ne_zero, and_self, true_and, or_true, if_true, if_false, decide_false, Bool.false_eq_true, beq_self_eq_true, List.length_cons, List.length_nil, callB, List.zip_cons_cons, List.zip_nil_right, List.map_cons, List.map_nil, List.size_toArray, partF, TI.agg, scal, isAgg, cellsOf, Bool.or_true, Nat.reduceLeDiff, List.take_zero, List.drop_zero, List.drop_succ_cons, List.take_succ_cons, List.nil_append, hmE, T3, T68, Elem.cells, c1, c2]
  rcases Bool.eq_false_or_eq_true (p != 0) with b1 | b1 <;> rw [b1] at e1 <;> simp only [OpsW_op, OpsW_guard, upd_some, Br_O1, Br_O2, opF, evalT, evalO, ofConst, argFr, binF, intF, Nat.reduceEqDiff, Nat.reduceAdd, Option.getD_none, Option.map_some, Option.bind_some, List.getElem?_toArray, List.getElem?_cons_zero, List.getElem?_cons_succ, List.getElem?_nil, Nat.succ_ne_zero, if_true, if_false, Bool.false_eq_true, beq_self_eq_true, Bool.false_beq, Bool.not_true, List.length_cons, List.length_nil, callB, List.zip_cons_cons, List.zip_nil_right, List.map_cons, List.map_nil, List.size_toArray, partF, TI.agg, Nat.reduceLeDiff, List.take_zero, List.drop_zero, List.drop_succ_cons, List.take_succ_cons, T3, T68, b1] <;> rcases Bool.eq_false_or_eq_true (s != 0) with b2 | b2 <;> rw [b2] at e2 <;> simp only [W_region, W_seq, W_ret, OpsW_nil, OpsW_op, OpsW_guard, upd_some, Br_W1, Br_O1, Br_O2, opF, evalT, evalO, ofConst, argFr, binF, intF, reduceCtorEq, Nat.reduceEqDiff, Nat.reduceAdd, Option.getD_none, Option.map_some, Option.bind_some, Option.some.injEq, List.getElem?_toArray, List.getElem?_cons_zero, List.getElem?_cons_succ, List.getElem?_nil, Nat.succ_ne_zero, true_and, or_true, exists_eq_left', if_true, if_false, Bool.false_eq_true, beq_self_eq_true, Bool.true_beq, Bool.not_true, Bool.not_false, List.length_cons, List.length_nil, callB, List.zip_cons_cons, List.zip_nil_right, List.map_cons, List.map_nil, List.size_toArray, partF, TI.agg, Nat.reduceLeDiff, List.take_zero, List.drop_zero, List.drop_succ_cons, List.take_succ_cons, T3, T68, e2, hw, resF, resAll, resOne]
  all_goals first
    | exact ⟨1, by rw [pub_int]; simp only [elErr, w1, w2, w3, e1, e2, b1, b2]; cases v <;> rfl⟩
    | skip
  all_goals
    have hp : (p = 0) = (p == 0) := by simp
    have hs : (s = 0) = (s == 0) := by simp
    rw [e1] at hp
    rw [e2] at hs
    simp at hp hs
    by_cases tz : t = 0
    · have tb : (t == 0) = true := by simp [tz]
      by_cases c3 : (if 1 < p + s then 1 else p + s) > t
      · cases v <;> simp only [W_region, W_seq, W_ret, OpsW_nil, OpsW_op, OpsW_guard, upd_some, Br_W1, Br_O2, opF, evalT, evalO, ofConst, argFr, reduceCtorEq, Nat.reduceEqDiff, Option.getD_none, Option.bind_some, List.getElem?_toArray, List.getElem?_cons_zero, List.getElem?_cons_succ, List.getElem?_nil, true_and, or_true, if_true, if_false, decide_true, Bool.true_beq, c3] <;> refine ⟨1, ?_⟩ <;> rw [pub_int] <;> simp only [elErr, w1, w2, w3, e1, e2, tb, b1, b2] <;> first | rfl | (exfalso; split at c3 <;> omega)
      · cases v <;> simp only [W_skip, W_region, W_seq, W_ret, OpsW_nil, OpsW_op, OpsW_guard, upd_some, Br_W1, Br_W2, Br_O1, Br_O2, opF, evalT, evalO, ofConst, argFr, binF, intF, reduceCtorEq, Nat.reduceEqDiff, Nat.reduceAdd, Option.getD_none, Option.map_some, Option.bind_some, List.getElem?_toArray, List.getElem?_cons_zero, List.getElem?_cons_succ, List.getElem?_nil, Nat.succ_ne_zero, true_and, or_true, if_true, if_false, decide_false, Bool.false_eq_true, beq_self_eq_true, Bool.false_beq, Bool.not_true, Bool.not_false, List.length_cons, List.length_nil, partF, TI.agg, Nat.reduceLeDiff, List.take_zero, List.drop_zero, List.drop_succ_cons, List.take_succ_cons, T3, T4, T68, c3, e1] <;> refine ⟨1, ?_⟩ <;> rw [pub_int] <;> simp only [elErr, w1, w2, w3, e1, e2, tb, b1, b2] <;> first | rfl | (exfalso; split at c3 <;> omega)
    · have tb : (t == 0) = false := by simp [tz]
      have c3 : ¬ (if 1 < p + s then 1 else p + s) > t := by split <;> omega
      cases v <;> simp only [W_skip, W_region, W_seq, W_ret, OpsW_nil, OpsW_op, OpsW_guard, upd_some, Br_W1, Br_W2, Br_O1, Br_O2, opF, evalT, evalO, ofConst, argFr, binF, intF, reduceCtorEq, Nat.reduceEqDiff, Nat.reduceAdd, Option.getD_none, Option.map_some, Option.bind_some, List.getElem?_toArray, List.getElem?_cons_zero, List.getElem?_cons_succ, List.getElem?_nil, Nat.succ_ne_zero, true_and, or_true, if_true, if_false, decide_false, Bool.false_eq_true, beq_self_eq_true, Bool.false_beq, Bool.not_true, Bool.not_false, List.length_cons, List.length_nil, partF, TI.agg, Nat.reduceLeDiff, List.take_zero, List.drop_zero, List.drop_succ_cons, List.take_succ_cons, T3, T4, T68, c3, e1] <;> refine ⟨1, ?_⟩ <;> rw [pub_int] <;> simp only [elErr, w1, w2, w3, e1, e2, tb, b1, b2] <;> rfl
end Go.Pv.Ct
end
section
namespace Go.Pv.Ct
open Go.Pv
set_option maxRecDepth 20000

def chI (c : Int) : Bool := decide (c ≥ 65) && decide (c ≤ 90) || decide (c ≥ 97) && decide (c ≤ 122) || decide (c ≥ 48) && decide (c ≤ 57) || c == 95
def chOk (b : UInt8) : Bool := chI (b.toNat : Int)
/-- Is a text a name? -/
def nameOk (s : List UInt8) : Bool := !(s == []) && decide (s.length ≤ 32) && s.all chOk
theorem all_take (s : List UInt8) (i : Nat) (h : i < s.length) : (s.take (i + 1)).all chOk = ((s.take i).all chOk && chOk s[i]) := by
  rw [List.take_succ_eq_append_getElem h, List.all_append]
  simp

set_option maxHeartbeats 8000000 in
theorem named_plain (s : List UInt8) (hs : s.length < 9223372036854775808) : Plain EE 59 [.str s] (.bool (nameOk s)) := by
  refine plain_of_W ok ok59 (by simp) ?_
  unfold BodyW
  have e0 : code Go.Proofs.Tryz.f59 = code Go.Proofs.Tryz.f59 := rfl
  conv at e0 => rhs; simp only [code, Go.Proofs.Tryz.f59, Option.getD_some]
  rw [e0]
  clear e0
  have main : ∀ fr st, fr 0 = .str s → fr 3 = .bool (!(s == []) && decide (s.length ≤ 32)) → W EE 52 (part [true, true] (code Go.Proofs.Tryz.f59)) fr st (EndW EE [.tmp 2] fun p st1 => ∃ n, pub st1 n p = some (.bool (nameOk s))) := by
    intro fr st f0 f3
    have e1 : part [true, true] (code Go.Proofs.Tryz.f59) = part [true, true] (code Go.Proofs.Tryz.f59) := rfl
    conv at e1 => rhs; simp only [part, code, Go.Proofs.Tryz.f59, Option.getD_some]
    rw [e1]
    clear e1
    simp only [W_region, W_seq, W_block, W_ret, OpsW_nil, OpsW_op, upd_some, opF, evalT, evalO, ofConst, Nat.reduceAdd, if_true, List.length_cons, List.length_nil, callB, List.zip_cons_cons, List.zip_nil_right, List.map_cons, List.map_nil, List.size_toArray, T9, f0]
    refine W_loop (fun n fr st => ∃ (i : Nat), fr 0 = .str s ∧ fr 3 = .bool (!(s == []) && decide (s.length ≤ 32) && (s.take i).all chOk) ∧ fr 14 = .int .i64 s.length ∧ fr 15 = .int .i64 i ∧ i ≤ s.length ∧ n = s.length - i) ?_ s.length _ _
      ⟨0, by simp [upd, f0], by simp [upd, f3], by simp [upd], by simp [upd], by omega, by omega⟩
    clear f0 f3
    rintro n fr st ⟨i, f0, f3, f14, f15, hi, rfl⟩
    by_cases ci : (i : Int) < (s.length : Int)
    · have ia : i < s.length := by omega
      have hg : s[i]? = some s[i] := List.getElem?_eq_getElem ia
      have hw : IntKind.i64.wrap ((i : Int) + 1) = ((i + 1 : Nat) : Int) := by rw [wrap_small (by omega) (by omega)]; rfl
      have hst := all_take s i ia
      simp only [W_skip, W_region, W_seq, W_cond, W_block, OpsW_nil, OpsW_op, OpsW_guard, upd_some, Br_W1, opF, evalT, evalO, ofConst, binF, intF, idxN_nat, reduceCtorEq, Nat.reduceEqDiff, Option.map_some, Option.bind_some, List.getElem?_toArray, List.getElem?_cons_zero, List.getElem?_cons_succ, exists_and_left, if_true, if_false, decide_true, partF, TI.agg, T9, f0, f3, f14, f15, ci, hg]
      generalize hc : ((s[i].toNat : Nat) : Int) = c at *
      have hco : chOk s[i] = chI c := by rw [← hc]; rfl
      rw [hco] at hst
      generalize hb : (!(s == []) && decide (s.length ≤ 32) && (s.take i).all chOk) = ob at *
      have fin : ∀ v : Bool, v = (ob && chI c) → v = (!(s == []) && decide (s.length ≤ 32) && (s.take (i + 1)).all chOk) := by
        intro v hv
        rw [hv, hst, ← Bool.and_assoc, hb]
      cases ob
      · simp only [OpsW_nil, OpsW_op, OpsW_guard, upd_some, Br_O2, opF, evalT, evalO, ofConst, reduceCtorEq, Nat.reduceEqDiff, Option.map_some, Option.bind_some, List.getElem?_toArray, List.getElem?_cons_zero, List.getElem?_cons_succ, true_and, if_true, if_false, Bool.false_eq_true, Bool.false_beq, Bool.not_true, hw, f0, f14, f15]
        exact ⟨s.length - (i + 1), by omega, i + 1, by rw [← fin false (by simp)], rfl, by omega, rfl⟩
      · by_cases a1 : c ≥ 65 <;> by_cases a2 : c ≤ 90 <;> by_cases a3 : c ≥ 97 <;> by_cases a4 : c ≤ 122 <;> by_cases a5 : c ≥ 48 <;> by_cases a6 : c ≤ 57 <;> rcases Bool.eq_false_or_eq_true (c == 95) with h95 | h95
        all_goals first
          | (exfalso; have a7 : c = 95 := by simpa using h95; omega)
          | (exfalso; omega)
          | (simp only [OpsW_nil, OpsW_op, OpsW_guard, upd_some, Br_O1, Br_O2, opF, evalT, evalO, ofConst, binF, intF, reduceCtorEq, Nat.reduceEqDiff, Option.map_some, Option.bind_some, List.getElem?_toArray, List.getElem?_cons_zero, List.getElem?_cons_succ, true_and, if_true, if_false, decide_true, decide_false, Bool.false_eq_true, beq_self_eq_true, Bool.true_beq, Bool.false_beq, Bool.not_true, hw, f0, f14, f15, a1, a2, a3, a4, a5, a6, h95]
             refine ⟨s.length - (i + 1), by omega, i + 1, congrArg PV.bool (fin _ ?_), rfl, by omega, rfl⟩
             simp [chI, a1, a2, a3, a4, a5, a6, h95])
    · have hil : s.take i = s := List.take_of_length_le (by omega)
      rw [hil] at f3
      simp only [W_region, W_seq, W_cond, W_block, W_exit, OpsW_nil, OpsW_op, OpsW_guard, upd_some, Br_W2, opF, evalT, evalO, ofConst, binF, intF, reduceCtorEq, Nat.reduceEqDiff, Option.map_some, Option.bind_some, Option.some.injEq, List.getElem?_toArray, List.getElem?_cons_zero, List.getElem?_cons_succ, true_and, or_true, or_false, exists_eq_left', exists_and_left, if_true, if_false, decide_false, partF, TI.agg, T9, f3, f14, f15, ci, resF, resAll, resOne, EndW]
      exact ⟨1, pub_bool _ _ _⟩
  have e1 : part [true, true] (code Go.Proofs.Tryz.f59) = part [true, true] (code Go.Proofs.Tryz.f59) := rfl
  conv at e1 => rhs; simp only [part, code, Go.Proofs.Tryz.f59, Option.getD_some]
  rw [← e1]
  clear e1
  have hn : strF .neq s [] = some (.bool (!(s == []))) := rfl
  by_cases c1 : s = []
  · have c1' : (s == []) = true := by simp [c1]
    simp only [W_region, W_seq, OpsW_nil, OpsW_op, OpsW_guard, upd_some, Br_O2, opF, evalT, evalO, ofConst, argFr, binF, intF, reduceCtorEq, Nat.reduceEqDiff, Option.getD_some, Option.getD_none, Option.map_some, Option.bind_some, List.getElem?_toArray, List.getElem?_cons_zero, List.getElem?_cons_succ, List.getElem?_nil, if_true, if_false, Bool.false_eq_true, Bool.false_beq, Bool.not_true, hn, c1']
    exact main _ _ (by simp [upd, argFr]) (by simp [upd, c1'])
  · have c1' : (s == []) = false := by simp [c1]
    by_cases c2 : (s.length : Int) ≤ 32
    · simp only [W_region, W_seq, OpsW_nil, OpsW_op, OpsW_guard, upd_some, Br_O1, opF, evalT, evalO, ofConst, argFr, binF, intF, reduceCtorEq, Nat.reduceEqDiff, Nat.reduceAdd, Option.getD_some, Option.getD_none, Option.map_some, Option.bind_some, List.getElem?_toArray, List.getElem?_cons_zero, List.getElem?_cons_succ, List.getElem?_nil, if_true, if_false, decide_true, beq_self_eq_true, Bool.not_false, List.length_cons, List.length_nil, callB, List.zip_cons_cons, List.zip_nil_right, List.map_cons, List.map_nil, List.size_toArray, T9, hn, c1', c2]
      exact main _ _ (by simp [upd, argFr]) (by simp [upd, c1']; omega)
    · simp only [W_region, W_seq, OpsW_nil, OpsW_op, OpsW_guard, upd_some, Br_O1, opF, evalT, evalO, ofConst, argFr, binF, intF, reduceCtorEq, Nat.reduceEqDiff, Nat.reduceAdd, Option.getD_some, Option.getD_none, Option.map_some, Option.bind_some, List.getElem?_toArray, List.getElem?_cons_zero, List.getElem?_cons_succ, List.getElem?_nil, if_true, if_false, decide_false, beq_self_eq_true, Bool.not_false, List.length_cons, List.length_nil, callB, List.zip_cons_cons, List.zip_nil_right, List.map_cons, List.map_nil, List.size_toArray, T9, hn, c1', c2]
      exact main _ _ (by simp [upd, argFr]) (by simp [upd, c1']; omega)

set_option maxHeartbeats 8000000 in
theorem name_plain (s : List UInt8) (hs : s.length < 9223372036854775808) : Plain EE 67 [.str s] (.bool (nameOk s)) := by
  refine plain_of_W ok ok67 (by simp) ?_
  unfold BodyW
  have e0 : code Go.Proofs.Tryz.f67 = code Go.Proofs.Tryz.f67 := rfl
  conv at e0 => rhs; simp only [code, Go.Proofs.Tryz.f67, Option.getD_some]
  rw [e0]
  clear e0
  simp only [W_region, W_seq, W_block, W_ret, OpsW_nil, OpsW_op, OpsW_guard, upd_some, opF, evalT, evalO, ofConst, binF, intF, reduceCtorEq, Nat.reduceEqDiff, Nat.reduceAdd, Option.bind_some, List.getElem?_toArray, List.getElem?_cons_zero, List.getElem?_cons_succ, true_and, or_true, or_false, if_true, if_false, List.length_cons, List.length_nil, callB, List.zip_cons_cons, List.zip_nil_right, List.map_cons, List.map_nil, List.size_toArray, T9]
  refine W_loop (fun n fr st => ∃ (i : Nat), fr 0 = .str s ∧ fr 3 = .int .i64 i ∧ i ≤ s.length ∧ (s.take i).all chOk = true ∧ n = s.length - i) ?_ s.length _ _
    ⟨0, by simp [upd, argFr], by simp [upd], by omega, by simp, by omega⟩
  rintro n fr st ⟨i, f0, f3, hi, hall, rfl⟩
  by_cases ci : (i : Int) < (s.length : Int)
  · have ia : i < s.length := by omega
    have hg : s[i]? = some s[i] := List.getElem?_eq_getElem ia
    have hw : IntKind.i64.wrap ((i : Int) + 1) = ((i + 1 : Nat) : Int) := by rw [wrap_small (by omega) (by omega)]; rfl
    have hst := all_take s i ia
    simp only [W_skip, W_region, W_seq, W_cond, W_block, OpsW_nil, OpsW_op, OpsW_guard, upd_some, Br_W1, opF, evalT, evalO, ofConst, binF, intF, unF, idxN_nat, reduceCtorEq, Nat.reduceEqDiff, Nat.reduceAdd, Option.map_some, Option.bind_some, List.getElem?_toArray, List.getElem?_cons_zero, List.getElem?_cons_succ, exists_and_left, if_true, if_false, decide_true, List.length_cons, List.length_nil, callB, List.zip_cons_cons, List.zip_nil_right, List.map_cons, List.map_nil, List.size_toArray, partF, TI.agg, T9, f0, f3, ci, hg]
    generalize hc : ((s[i].toNat : Nat) : Int) = c at *
    have hco : chOk s[i] = chI c := by rw [← hc]; rfl
    have bad : chI c = false → nameOk s = false := by
      intro h
      unfold nameOk
      have : s.all chOk = false := by
        rw [← Bool.not_eq_true]
        intro q
        rw [List.all_eq_true] at q
        have := q _ (List.getElem_mem ia)
        rw [hco, h] at this
        cases this
      rw [this]; simp
    by_cases a1 : c ≥ 65 <;> by_cases a2 : c ≤ 90 <;> by_cases a3 : c ≥ 97 <;> by_cases a4 : c ≤ 122 <;> by_cases a5 : c ≥ 48 <;> by_cases a6 : c ≤ 57 <;> rcases Bool.eq_false_or_eq_true (c == 95) with h95 | h95
    all_goals first
      | (exfalso; have a7 : c = 95 := by simpa using h95; omega)
          | (exfalso; omega)
      | (simp only [W_skip, W_region, W_seq, W_ret, OpsW_nil, OpsW_op, OpsW_guard, upd_some, Br_W1, Br_W2, Br_O1, Br_O2, opF, evalT, evalO, ofConst, binF, intF, unF, reduceCtorEq, Nat.reduceEqDiff, Option.map_some, Option.bind_some, Option.some.injEq, List.getElem?_toArray, List.getElem?_cons_zero, List.getElem?_cons_succ, true_and, or_true, exists_eq_left', if_true, if_false, decide_true, decide_false, Bool.false_eq_true, beq_self_eq_true, Bool.true_beq, Bool.false_beq, Bool.not_true, Bool.not_false, hw, f0, f3, a1, a2, a3, a4, a5, a6, h95, resF, resAll, resOne]
         first
           | (refine ⟨s.length - (i + 1), by omega, i + 1, rfl, by omega, ?_, rfl⟩
              rw [hst, hall, hco]
              simp [chI, a1, a2, a3, a4, a5, a6, h95])
           | (refine ⟨1, ?_⟩
              rw [pub_bool, bad]
              simp [chI, a1, a2, a3, a4, a5, a6, h95]))
  · have hil : s.take i = s := List.take_of_length_le (by omega)
    rw [hil] at hall
    by_cases c1 : (s.length : Int) ≥ 1
    · simp only [W_region, W_seq, W_cond, W_block, W_exit, OpsW_nil, OpsW_op, OpsW_guard, upd_some, Br_W2, Br_O1, opF, evalT, evalO, ofConst, binF, intF, unF, reduceCtorEq, Nat.reduceEqDiff, Nat.reduceAdd, Option.map_some, Option.bind_some, Option.some.injEq, List.getElem?_toArray, List.getElem?_cons_zero, List.getElem?_cons_succ, exists_eq_left', exists_and_left, if_true, if_false, decide_true, decide_false, beq_self_eq_true, List.length_cons, List.length_nil, callB, List.zip_cons_cons, List.zip_nil_right, List.map_cons, List.map_nil, List.size_toArray, partF, TI.agg, T9, f0, f3, ci, c1, resF, resAll, resOne]
      refine ⟨1, ?_⟩
      rw [pub_bool]
      have : (s == []) = false := by cases s <;> simp at c1 ⊢
      simp [nameOk, hall, this]
      omega
    · simp only [W_region, W_seq, W_cond, W_block, W_exit, OpsW_nil, OpsW_op, OpsW_guard, upd_some, Br_W2, Br_O2, opF, evalT, evalO, ofConst, binF, intF, unF, reduceCtorEq, Nat.reduceEqDiff, Nat.reduceAdd, Option.map_some, Option.bind_some, Option.some.injEq, List.getElem?_toArray, List.getElem?_cons_zero, List.getElem?_cons_succ, exists_eq_left', exists_and_left, if_true, if_false, decide_false, Bool.false_eq_true, Bool.false_beq, Bool.not_true, List.length_cons, List.length_nil, callB, List.zip_cons_cons, List.zip_nil_right, List.map_cons, List.map_nil, List.size_toArray, partF, TI.agg, T9, f0, f3, ci, c1, resF, resAll, resOne]
      refine ⟨1, ?_⟩
      rw [pub_bool]
      have : (s == []) = true := by cases s <;> simp at c1 ⊢; omega
      simp [nameOk, this]
end Go.Pv.Ct
end
section
namespace Go.Pv.Ct
open Go.Pv
set_option maxRecDepth 20000

/-- The store has grown. -/
def Grows (a b : Store) : Prop := ∃ x, b = a ++ x
theorem Grows.refl (a : Store) : Grows a a := ⟨[], by simp⟩
theorem Grows.trans {a b c : Store} (h : Grows a b) (h' : Grows b c) : Grows a c := by
  obtain ⟨x, rfl⟩ := h
  obtain ⟨y, rfl⟩ := h'
  exact ⟨x ++ y, by simp⟩
theorem Grows.get {a b : Store} (h : Grows a b) {i : Nat} {o : Ob} (e : a[i]? = some o) : b[i]? = some o := by
  obtain ⟨x, rfl⟩ := h
  exact get_app e
theorem Grows.more {a b : Store} (h : Grows a b) (o : Ob) : Grows a (b ++ [o]) := h.trans ⟨[o], rfl⟩

/-- A function value that answers 'bs' at these values, and lays but new objects. -/
def PredOk (E : Env) (f : FuncId) (caps : List PV) (vals : List PV) (bs : List Bool) (st0 : Store) : Prop :=
  E.pl f = false ∧ bs.length = vals.length ∧ ∀ (i : Nat) (v : PV) (b : Bool), vals[i]? = some v → bs[i]? = some b → ∀ st, Grows st0 st → SpecQ E f ([v] ++ caps) st fun r st' => r = .bool b ∧ Grows st st'
/-- The index of the first. -/
def firstOf : Nat → List Bool → Int
  | _, [] => -1
  | k, b :: bs => if b then (k : Int) else firstOf (k + 1) bs
theorem firstOf_ge : ∀ (bs : List Bool) (k : Nat), (decide (firstOf k bs ≥ 0)) = bs.any id
  | [], k => rfl
  | b :: bs, k => by
    unfold firstOf
    cases b
    · simpa using firstOf_ge bs (k + 1)
    · simp
theorem firstOf_drop {bs : List Bool} {i : Nat} (h : i < bs.length) : firstOf i (bs.drop i) = if bs[i] then (i : Int) else firstOf (i + 1) (bs.drop (i + 1)) := by
  rw [List.drop_eq_getElem_cons h, firstOf]

set_option maxHeartbeats 4000000 in
theorem ixI_spec (l : List Int) (t : Tok) (f : FuncId) (caps : List PV) (bs : List Bool) (st0 : Store) (hp : PredOk EE f caps (l.map fun n => PV.int .i64 n) bs st0) (hl : l.length < 9223372036854775808) :
    SpecQ EE 90 [.sl 1 (ints l) t, .fn f caps] st0 fun r st' => r = .int .i64 (firstOf 0 bs) ∧ Grows st0 st' := by
  obtain ⟨hpl, hbl, hpr⟩ := hp
  refine specQ_of_W ok ok90 (by simp) (by kernel_rfl) ?_
  unfold BodyW
  have e0 : code Go.Proofs.Tryz.f90 = code Go.Proofs.Tryz.f90 := rfl
  conv at e0 => rhs; simp only [code, Go.Proofs.Tryz.f90, Option.getD_some]
  rw [e0]
  clear e0
  simp only [W_region, W_seq, W_block, W_ret, OpsW_nil, OpsW_op, upd_some, opF, evalT, evalO, ofConst, argFr, reduceCtorEq, Nat.reduceAdd, Option.getD_some, List.getElem?_cons_zero, true_and, or_true, or_false, if_true, if_false, List.length_cons, List.length_nil, callB, List.zip_cons_cons, List.zip_nil_right, List.map_cons, List.map_nil, List.size_toArray, T37, ints_length]
  refine W_loop (fun n fr st => ∃ (i : Nat), fr 0 = .sl 1 (ints l) t ∧ fr 1 = .fn f caps ∧ fr 7 = .int .i64 l.length ∧ fr 8 = .int .i64 i ∧ Grows st0 st ∧ i ≤ l.length ∧ firstOf 0 bs = firstOf i (bs.drop i) ∧ n = l.length - i) ?_ l.length _ _
    ⟨0, by simp [upd, argFr], by simp [upd, argFr], by simp [upd], by simp [upd], .refl _, by omega, by simp, by omega⟩
  rintro n fr st ⟨i, f0, f1, f7, f8, hg, hi, hc, rfl⟩
  have hvl : (l.map fun n => PV.int .i64 n).length = l.length := by simp
  by_cases ci : (i : Int) < (l.length : Int)
  · have ia : i < l.length := by omega
    have ga := ints_get l i ia
    have hw : IntKind.i64.wrap ((i : Int) + 1) = ((i + 1 : Nat) : Int) := by rw [wrap_small (by omega) (by omega)]; rfl
    have hb : bs[i]? = some (bs[i]'(by omega)) := List.getElem?_eq_getElem _
    obtain ⟨r, st1, hs, rfl, hg1⟩ := hpr i (PV.int .i64 l[i]) _ (by simp [ia]) hb st hg
    have hd := firstOf_drop (bs := bs) (i := i) (by omega)
    simp only [W_skip, W_region, W_seq, W_cond, W_block, OpsW_nil, OpsW_op, upd_some, Br_W1, opF, evalT, evalO, ofConst, binF, intF, idxN_nat, reduceCtorEq, Nat.reduceEqDiff, Nat.reduceAdd, Option.map_some, List.getElem?_cons_zero, exists_and_left, if_true, if_false, decide_true, Bool.false_eq_true, List.length_cons, List.length_nil, partF, TI.agg, Nat.reduceLeDiff, List.take_zero, List.drop_zero, List.take_succ_cons, T3, T37, f0, f1, f7, f8, ci, ga]
    refine OpsW_sp hs (by simp only [upd_some, evalO, Nat.reduceEqDiff, if_true, if_false] <;> rfl) hpl rfl (by simp only [upd_some, evalT, evalO, ofConst, Nat.reduceEqDiff, if_true, if_false, List.zip_cons_cons, List.zip_nil_right, List.map_cons, List.map_nil, List.nil_append, List.cons_append, callArgs] <;> rfl) ?_
    rcases Bool.eq_false_or_eq_true (bs[i]'(by omega)) with e | e
    · simp only [W_region, W_seq, W_ret, OpsW_nil, OpsW_op, upd_some, Br_W1, opF, evalT, evalO, reduceCtorEq, Nat.reduceEqDiff, Option.map_some, Option.some.injEq, true_and, or_true, exists_eq_left', if_true, if_false, e, resF, resAll, resOne]
      exact ⟨by rw [hc, hd, e]; rfl, hg.trans hg1⟩
    · simp only [W_skip, OpsW_nil, upd_some, Br_W2, reduceCtorEq, Nat.reduceEqDiff, Option.map_some, true_and, if_true, if_false, f0, f1, f7, f8, e, hw]
      exact ⟨l.length - (i + 1), by omega, i + 1, rfl, hg.trans hg1, by omega, by rw [hc, hd, e]; rfl, rfl⟩
  · have hnil : bs.drop i = [] := List.drop_eq_nil_of_le (by omega)
    simp only [W_region, W_seq, W_cond, W_block, W_exit, OpsW_nil, OpsW_op, upd_some, Br_W2, opF, evalT, evalO, ofConst, binF, intF, reduceCtorEq, Nat.reduceEqDiff, Option.map_some, Option.some.injEq, exists_eq_left', exists_and_left, if_true, if_false, decide_false, partF, TI.agg, List.drop_zero, T3, T37, f7, f8, ci, resF, resAll, resOne]
    exact ⟨by rw [hc, hnil]; rfl, hg⟩
set_option maxHeartbeats 4000000 in
theorem cfI_spec (l : List Int) (t : Tok) (f : FuncId) (caps : List PV) (bs : List Bool) (st0 : Store) (hp : PredOk EE f caps (l.map fun n => PV.int .i64 n) bs st0) (hl : l.length < 9223372036854775808) :
    SpecQ EE 60 [.sl 1 (ints l) t, .fn f caps] st0 fun r st' => r = .bool (bs.any id) ∧ Grows st0 st' := by
  refine specQ_of_W ok ok60 (by simp) (by kernel_rfl) ?_
  unfold BodyW
  have e0 : code Go.Proofs.Tryz.f60 = code Go.Proofs.Tryz.f60 := rfl
  conv at e0 => rhs; simp only [code, Go.Proofs.Tryz.f60, Option.getD_some]
  rw [e0]
  clear e0
  obtain ⟨r, st1, hs, rfl, hg⟩ := ixI_spec l t f caps bs st0 hp hl
  simp only [W_region, W_seq, W_ret, OpsW_nil, OpsW_op, upd_some, opF, evalT, evalO, ofConst, argFr, reduceCtorEq, Nat.reduceEqDiff, Option.getD_some, List.getElem?_cons_zero, List.getElem?_cons_succ, true_and, or_true, if_false]
  refine OpsW_sp hs (by simp only [evalO] <;> rfl) rfl rfl (by simp only [upd_some, evalT, evalO, ofConst, argFr, Nat.reduceEqDiff, Option.getD_none, List.getElem?_cons_succ, List.getElem?_nil, if_true, if_false, List.zip_cons_cons, List.zip_nil_right, List.map_cons, List.map_nil, List.nil_append, List.cons_append, callArgs] <;> rfl) ?_
  simp only [OpsW_nil, OpsW_op, upd_some, opF, evalT, evalO, ofConst, argFr, binF, intF, Nat.reduceEqDiff, Option.getD_none, Option.map_some, Option.some.injEq, List.getElem?_cons_succ, List.getElem?_nil, exists_eq_left', if_true, if_false, resF, resAll, resOne]
  exact ⟨by rw [firstOf_ge], hg⟩
set_option maxHeartbeats 4000000 in
theorem ixE_spec (l : List Elem) (t : Tok) (f : FuncId) (caps : List PV) (bs : List Bool) (st0 : Store) (hp : PredOk EE f caps (l.map fun e => PV.agg e.cells) bs st0) (hl : l.length < 9223372036854775808) :
    SpecQ EE 91 [.sl 4 (elR l) t, .fn f caps] st0 fun r st' => r = .int .i64 (firstOf 0 bs) ∧ Grows st0 st' := by
  obtain ⟨hpl, hbl, hpr⟩ := hp
  refine specQ_of_W ok ok91 (by simp) (by kernel_rfl) ?_
  unfold BodyW
  have e0 : code Go.Proofs.Tryz.f91 = code Go.Proofs.Tryz.f91 := rfl
  conv at e0 => rhs; simp only [code, Go.Proofs.Tryz.f91, Option.getD_some]
  rw [e0]
  clear e0
  simp only [W_region, W_seq, W_block, W_ret, OpsW_nil, OpsW_op, upd_some, opF, evalT, evalO, ofConst, argFr, reduceCtorEq, Nat.reduceAdd, Option.getD_some, List.getElem?_cons_zero, true_and, or_true, or_false, if_true, if_false, List.length_cons, List.length_nil, callB, List.zip_cons_cons, List.zip_nil_right, List.map_cons, List.map_nil, List.size_toArray, T41, elR_length]
  refine W_loop (fun n fr st => ∃ (i : Nat), fr 0 = .sl 4 (elR l) t ∧ fr 1 = .fn f caps ∧ fr 7 = .int .i64 l.length ∧ fr 8 = .int .i64 i ∧ Grows st0 st ∧ i ≤ l.length ∧ firstOf 0 bs = firstOf i (bs.drop i) ∧ n = l.length - i) ?_ l.length _ _
    ⟨0, by simp [upd, argFr], by simp [upd, argFr], by simp [upd], by simp [upd], .refl _, by omega, by simp, by omega⟩
  rintro n fr st ⟨i, f0, f1, f7, f8, hg, hi, hc, rfl⟩
  have hvl : (l.map fun e => PV.agg e.cells).length = l.length := by simp
  by_cases ci : (i : Int) < (l.length : Int)
  · have ia : i < l.length := by omega
    have ga := elR_get l i ia
    have hw : IntKind.i64.wrap ((i : Int) + 1) = ((i + 1 : Nat) : Int) := by rw [wrap_small (by omega) (by omega)]; rfl
    have hb : bs[i]? = some (bs[i]'(by omega)) := List.getElem?_eq_getElem _
    obtain ⟨r, st1, hs, rfl, hg1⟩ := hpr i (PV.agg l[i].cells) _ (by simp [ia]) hb st hg
    have hd := firstOf_drop (bs := bs) (i := i) (by omega)
    simp only [W_skip, W_region, W_seq, W_cond, W_block, OpsW_nil, OpsW_op, upd_some, Br_W1, opF, evalT, evalO, ofConst, binF, intF, idxN_nat, reduceCtorEq, Nat.reduceEqDiff, Nat.reduceAdd, Option.map_some, List.getElem?_cons_zero, exists_and_left, if_true, if_false, decide_true, List.length_cons, List.length_nil, partF, TI.agg, Nat.reduceLeDiff, List.take_zero, List.drop_zero, List.take_succ_cons, T41, T68, f0, f1, f7, f8, ci, ga]
    refine OpsW_sp hs (by simp only [upd_some, evalO, Nat.reduceEqDiff, if_true, if_false] <;> rfl) hpl rfl (by simp only [upd_some, evalT, evalO, ofConst, Nat.reduceEqDiff, if_true, if_false, List.zip_cons_cons, List.zip_nil_right, List.map_cons, List.map_nil, List.nil_append, List.cons_append, callArgs] <;> rfl) ?_
    rcases Bool.eq_false_or_eq_true (bs[i]'(by omega)) with e | e
    · simp only [W_region, W_seq, W_ret, OpsW_nil, OpsW_op, upd_some, Br_W1, opF, evalT, evalO, reduceCtorEq, Nat.reduceEqDiff, Option.map_some, Option.some.injEq, true_and, or_true, exists_eq_left', if_true, if_false, e, resF, resAll, resOne]
      exact ⟨by rw [hc, hd, e]; rfl, hg.trans hg1⟩
    · simp only [W_skip, OpsW_nil, upd_some, Br_W2, reduceCtorEq, Nat.reduceEqDiff, Option.map_some, true_and, if_true, if_false, f0, f1, f7, f8, e, hw]
      exact ⟨l.length - (i + 1), by omega, i + 1, rfl, hg.trans hg1, by omega, by rw [hc, hd, e]; rfl, rfl⟩
  · have hnil : bs.drop i = [] := List.drop_eq_nil_of_le (by omega)
    simp only [W_region, W_seq, W_cond, W_block, W_exit, OpsW_nil, OpsW_op, upd_some, Br_W2, opF, evalT, evalO, ofConst, binF, intF, reduceCtorEq, Nat.reduceEqDiff, Option.map_some, Option.some.injEq, exists_eq_left', exists_and_left, if_true, if_false, decide_false, partF, TI.agg, List.drop_zero, T41, T68, f7, f8, ci, resF, resAll, resOne]
    exact ⟨by rw [hc, hnil]; rfl, hg⟩
set_option maxHeartbeats 4000000 in
theorem cfE_spec (l : List Elem) (t : Tok) (f : FuncId) (caps : List PV) (bs : List Bool) (st0 : Store) (hp : PredOk EE f caps (l.map fun e => PV.agg e.cells) bs st0) (hl : l.length < 9223372036854775808) :
    SpecQ EE 64 [.sl 4 (elR l) t, .fn f caps] st0 fun r st' => r = .bool (bs.any id) ∧ Grows st0 st' := by
  refine specQ_of_W ok ok64 (by simp) (by kernel_rfl) ?_
  unfold BodyW
  have e0 : code Go.Proofs.Tryz.f64 = code Go.Proofs.Tryz.f64 := rfl
  conv at e0 => rhs; simp only [code, Go.Proofs.Tryz.f64, Option.getD_some]
  rw [e0]
  clear e0
  obtain ⟨r, st1, hs, rfl, hg⟩ := ixE_spec l t f caps bs st0 hp hl
  simp only [W_region, W_seq, W_ret, OpsW_nil, OpsW_op, upd_some, opF, evalT, evalO, ofConst, argFr, reduceCtorEq, Nat.reduceEqDiff, Option.getD_some, List.getElem?_cons_zero, List.getElem?_cons_succ, true_and, or_true, if_false]
  refine OpsW_sp hs (by simp only [evalO] <;> rfl) rfl rfl (by simp only [upd_some, evalT, evalO, ofConst, argFr, Nat.reduceEqDiff, Option.getD_none, List.getElem?_cons_succ, List.getElem?_nil, if_true, if_false, List.zip_cons_cons, List.zip_nil_right, List.map_cons, List.map_nil, List.nil_append, List.cons_append, callArgs] <;> rfl) ?_
  simp only [OpsW_nil, OpsW_op, upd_some, opF, evalT, evalO, ofConst, argFr, binF, intF, Nat.reduceEqDiff, Option.getD_none, Option.map_some, Option.some.injEq, List.getElem?_cons_succ, List.getElem?_nil, exists_eq_left', if_true, if_false, resF, resAll, resOne]
  exact ⟨by rw [firstOf_ge], hg⟩
end Go.Pv.Ct
end
section
namespace Go.Pv.Ct
open Go.Pv
set_option maxRecDepth 20000

/-- A slice's token: of the very length, or not told. -/
def tk (b : Bool) : Tok := if b then .full else .ro
theorem tokRo_tk (k : Nat) (es : List (List PV)) (b : Bool) : tokRo (.sl k es (tk b)) = .sl k es (tk b) := by cases b <;> rfl
theorem cellOk_tk (k : Nat) (es : List (List PV)) (b : Bool) : cellOk (.sl k es (tk b)) = true := by cases b <;> rfl
theorem stripT_tk (b : Bool) : stripT (tk b) = tk b := by cases b <;> rfl

structure Entry where
  codes : List Int
  els : List Elem
  a : Bool
  b : Bool
def Entry.cells (x : Entry) : List PV := [.sl 1 (ints x.codes) (tk x.a), .sl 4 (elR x.els) (tk x.b)]
structure Grp where
  name : List UInt8
  lo : Int
  hi : Int
def Grp.cells (g : Grp) : List PV := [.str g.name, .int .i64 g.lo, .int .i64 g.hi]
def entR (l : List Entry) : List (List PV) := l.map Entry.cells
def grpR (l : List Grp) : List (List PV) := l.map Grp.cells
structure Coll where
  ents : List Entry
  grps : List Grp
  base : Int
  second : Int
  third : Int
  a : Bool
  b : Bool
def Coll.cells (c : Coll) : List PV := [.sl 2 (entR c.ents) (tk c.a), .sl 3 (grpR c.grps) (tk c.b), .int .i64 c.base, .int .i64 c.second, .int .i64 c.third]
theorem entR_length (l : List Entry) : (entR l).length = l.length := by simp [entR]
theorem grpR_length (l : List Grp) : (grpR l).length = l.length := by simp [grpR]
theorem entR_get (l : List Entry) (i : Nat) (h : i < l.length) : (entR l)[i]? = some [.sl 1 (ints l[i].codes) (tk l[i].a), .sl 4 (elR l[i].els) (tk l[i].b)] := by simp [entR, h, Entry.cells]
theorem grpR_get (l : List Grp) (i : Nat) (h : i < l.length) : (grpR l)[i]? = some [.str l[i].name, .int .i64 l[i].lo, .int .i64 l[i].hi] := by simp [grpR, h, Grp.cells]
theorem strip_coll (c : Coll) : strip1 (.agg c.cells) = some (.agg c.cells) := by
  cases ha : c.a <;> cases hb : c.b <;> simp [strip1, share, Coll.cells, ha, hb, tk, tokRo, cellOk]
theorem strip_entry (c : Entry) : strip1 (.agg c.cells) = some (.agg c.cells) := by
  cases ha : c.a <;> cases hb : c.b <;> simp [strip1, share, Entry.cells, ha, hb, tk, tokRo, cellOk]
theorem strip_elem (c : Elem) : strip1 (.agg c.cells) = some (.agg c.cells) := by
  simp [strip1, share, Elem.cells, tokRo, cellOk]

/-- The first that is not 0. -/
def firstErr : List Int → Int
  | [] => 0
  | e :: l => if e = 0 then firstErr l else e
theorem firstErr_drop {l : List Int} {i : Nat} (h : i < l.length) : firstErr (l.drop i) = if l[i] = 0 then firstErr (l.drop (i + 1)) else l[i] := by
  rw [List.drop_eq_getElem_cons h, firstErr]

/-- The error of an entry alone. -/
def entErr (base : Int) (x : Entry) : Int :=
  if x.codes.length < 1 ∨ x.codes.length > 8 ∨ x.els.length > 16 then 2
  else if x.codes.any (fun n => !validC n) then 1
  else if firstErr (x.els.map elErr) ≠ 0 then firstErr (x.els.map elErr)
  else if x.els.any (fun e => decide (e.p ≥ base)) then 1 else 0

theorem p1_spec (n : Int) (st : Store) : Spec EE 61 [.int .i64 n] st (.bool (!validC n)) st := by
  refine spec_of_W ok ok61 (by simp) ?_
  unfold BodyW
  have e0 : code Go.Proofs.Tryz.f61 = code Go.Proofs.Tryz.f61 := rfl
  conv at e0 => rhs; simp only [code, Go.Proofs.Tryz.f61, Option.getD_some]
  rw [e0]
  clear e0
  simp only [W_region, W_seq, W_ret, OpsW_nil, OpsW_op, upd_some, opF, evalT, evalO, ofConst, argFr, reduceCtorEq, Option.getD_some, List.getElem?_cons_zero, true_and, or_true, if_false]
  refine OpsW_pl (valid_plain n) rfl rfl (by simp only [upd_some, evalT, evalO, ofConst, argFr, Nat.reduceEqDiff, Option.getD_none, List.getElem?_cons_succ, List.getElem?_nil, if_true, if_false, List.zip_cons_cons, List.zip_nil_right, List.map_cons, List.map_nil, callArgs, strips, strip_int] <;> rfl) ?_
  simp only [OpsW_nil, OpsW_op, upd_some, opF, evalT, evalO, argFr, unF, Nat.reduceEqDiff, Option.getD_none, Option.map_some, Option.some.injEq, List.getElem?_cons_succ, List.getElem?_nil, and_self, exists_eq_left', if_true, if_false, resF, resAll, resOne]
theorem p1_ok (l : List Int) (st0 : Store) : PredOk EE 61 [] (l.map fun n => PV.int .i64 n) (l.map fun n => !validC n) st0 := by
  refine ⟨rfl, by simp, fun i v b hv hb st hg => ?_⟩
  rw [List.getElem?_map] at hv hb
  obtain ⟨n, hn, rfl⟩ := Option.map_eq_some_iff.1 hv
  rw [hn] at hb
  cases hb
  exact ⟨_, _, p1_spec n st, rfl, .refl _⟩

theorem p2_spec (c : Coll) (e : Elem) (id : Nat) (st : Store) (h : st[id]? = some (.cells c.cells)) : Spec EE 65 [.agg e.cells, .optr id 5 0] st (.bool (decide (e.p ≥ c.base))) (st ++ [.cells e.cells]) := by
  refine spec_of_W ok ok65 (by simp) ?_
  unfold BodyW
  have e0 : code Go.Proofs.Tryz.f65 = code Go.Proofs.Tryz.f65 := rfl
  conv at e0 => rhs; simp only [code, Go.Proofs.Tryz.f65, Option.getD_some]
  rw [e0]
  clear e0
  have h1 : ∀ x, (st ++ [x])[id]? = some (.cells c.cells) := fun x => get_app h
  simp only [W_region, W_seq, W_ret, OpsW_nil, OpsW_op, upd_some, opF, evalT, evalO, ofConst, argFr, binF, intF, reduceCtorEq, Nat.reduceEqDiff, Nat.reduceAdd, Option.getD_some, Option.getD_none, Option.map_some, Option.some.injEq, List.getElem?_cons_zero, List.getElem?_cons_succ, List.getElem?_nil, Nat.succ_ne_zero, and_self, true_and, or_true, exists_eq_left', if_true, if_false, Bool.false_eq_true, List.length_cons, List.length_nil, partF, TI.agg, scal, isAgg, cellsOf, Bool.or_true, Nat.reduceLeDiff, List.take_zero, List.drop_zero, List.drop_succ_cons, List.take_succ_cons, T3, T25, T68, Elem.cells, get_last, h1, Coll.cells, resF, resAll, resOne]
theorem p2_ok (c : Coll) (id : Nat) (l : List Elem) (st0 : Store) (h : st0[id]? = some (.cells c.cells)) : PredOk EE 65 [.optr id 5 0] (l.map fun e => PV.agg e.cells) (l.map fun e => decide (e.p ≥ c.base)) st0 := by
  refine ⟨rfl, by simp, fun i v b hv hb st hg => ?_⟩
  rw [List.getElem?_map] at hv hb
  obtain ⟨n, hn, rfl⟩ := Option.map_eq_some_iff.1 hv
  rw [hn] at hb
  cases hb
  exact ⟨_, _, p2_spec c n id st (hg.get h), rfl, _, rfl⟩

set_option maxHeartbeats 8000000 in
theorem ofEntry_plain (c : Coll) (x : Entry) (hl : x.codes.length < 9223372036854775808) (hl2 : x.els.length < 9223372036854775808) : Plain EE 35 [.agg c.cells, .agg x.cells] (.int .i64 (entErr c.base x)) := by
  refine plain_of_W ok ok35 (by simp) ?_
  unfold BodyW
  have e0 : code Go.Proofs.Tryz.f35 = code Go.Proofs.Tryz.f35 := rfl
  conv at e0 => rhs; simp only [code, Go.Proofs.Tryz.f35, Option.getD_some]
  rw [e0]
  clear e0
  by_cases c1 : (x.codes.length : Int) < 1
  · simp only [W_region, W_seq, W_cond, W_block, W_ret, OpsW_nil, OpsW_op, OpsW_guard, upd_some, Br_W1, Br_O2, opF, evalT, evalO, ofConst, argFr, binF, intF, reduceCtorEq, Nat.reduceEqDiff, Nat.reduceAdd, Option.getD_some, Option.getD_none, Option.map_some, Option.bind_some, Option.some.injEq, List.getElem?_toArray, List.getElem?_cons_zero, List.getElem?_cons_succ, List.getElem?_nil, Nat.succ_ne_zero, and_self, true_and, or_true, or_false, exists_eq_left', if_true, if_false, decide_true, Bool.false_eq_true, Bool.true_beq, List.length_cons, List.length_nil, callB, List.zip_cons_cons, List.zip_nil_right, List.map_cons, List.map_nil, List.size_toArray, partF, TI.agg, scal, isAgg, cellsOf, Bool.or_true, Nat.reduceLeDiff, List.take_zero, List.drop_zero, List.take_succ_cons, List.nil_append, List.cons_append, T25, T37, T41, T54, Coll.cells, Entry.cells, ints_length, c1, resF, resAll, resOne]
    exact ⟨1, by rw [pub_int, entErr, if_pos (by omega)]⟩
  by_cases c2 : (x.codes.length : Int) > 8
  · simp only [W_region, W_seq, W_cond, W_block, W_ret, OpsW_nil, OpsW_op, OpsW_guard, upd_some, Br_W1, Br_O1, Br_O2, opF, evalT, evalO, ofConst, argFr, binF, intF, reduceCtorEq, Nat.reduceEqDiff, Nat.reduceAdd, Option.getD_some, Option.getD_none, Option.map_some, Option.bind_some, Option.some.injEq, List.getElem?_toArray, List.getElem?_cons_zero, List.getElem?_cons_succ, List.getElem?_nil, Nat.succ_ne_zero, and_self, true_and, or_true, or_false, exists_eq_left', if_true, if_false, decide_true, decide_false, Bool.false_eq_true, beq_self_eq_true, Bool.true_beq, List.length_cons, List.length_nil, callB, List.zip_cons_cons, List.zip_nil_right, List.map_cons, List.map_nil, List.size_toArray, partF, TI.agg, scal, isAgg, cellsOf, Bool.or_true, Nat.reduceLeDiff, List.take_zero, List.drop_zero, List.take_succ_cons, List.nil_append, List.cons_append, T25, T37, T41, T54, Coll.cells, Entry.cells, ints_length, c1, c2, resF, resAll, resOne]
    exact ⟨1, by rw [pub_int, entErr, if_pos (by omega)]⟩
  by_cases c3 : (x.els.length : Int) > 16
  · simp only [W_region, W_seq, W_cond, W_block, W_ret, OpsW_nil, OpsW_op, OpsW_guard, upd_some, Br_W1, Br_O1, opF, evalT, evalO, ofConst, argFr, binF, intF, reduceCtorEq, Nat.reduceEqDiff, Nat.reduceAdd, Option.getD_some, Option.getD_none, Option.map_some, Option.bind_some, Option.some.injEq, List.getElem?_toArray, List.getElem?_cons_zero, List.getElem?_cons_succ, List.getElem?_nil, Nat.succ_ne_zero, and_self, true_and, or_true, or_false, exists_eq_left', if_true, if_false, decide_true, decide_false, Bool.false_eq_true, beq_self_eq_true, List.length_cons, List.length_nil, callB, List.zip_cons_cons, List.zip_nil_right, List.map_cons, List.map_nil, List.size_toArray, partF, TI.agg, scal, isAgg, cellsOf, Bool.or_true, Nat.reduceLeDiff, List.take_zero, List.drop_zero, List.drop_succ_cons, List.take_succ_cons, List.nil_append, List.cons_append, T25, T37, T41, T54, Coll.cells, Entry.cells, ints_length, elR_length, c1, c2, c3, resF, resAll, resOne]
    exact ⟨1, by rw [pub_int, entErr, if_pos (by omega)]⟩
  simp only [W_skip, W_region, W_seq, W_cond, W_block, W_ret, OpsW_nil, OpsW_op, OpsW_guard, upd_some, Br_W2, Br_O1, opF, evalT, evalO, ofConst, argFr, binF, intF, reduceCtorEq, Nat.reduceEqDiff, Nat.reduceAdd, Option.getD_some, Option.getD_none, Option.map_some, Option.bind_some, List.getElem?_toArray, List.getElem?_cons_zero, List.getElem?_cons_succ, List.getElem?_nil, Nat.succ_ne_zero, and_self, true_and, or_true, or_false, if_true, if_false, decide_false, Bool.false_eq_true, beq_self_eq_true, List.length_cons, List.length_nil, callB, List.zip_cons_cons, List.zip_nil_right, List.map_cons, List.map_nil, List.size_toArray, partF, TI.agg, scal, isAgg, cellsOf, Bool.or_true, Nat.reduceLeDiff, List.take_zero, List.drop_zero, List.drop_succ_cons, List.take_succ_cons, List.nil_append, List.cons_append, T25, T37, T41, T54, Coll.cells, Entry.cells, ints_length, elR_length, c1, c2, c3]
  obtain ⟨r, st1, hs, rfl, y, rfl⟩ := cfI_spec x.codes (tk x.a) 61 [] (x.codes.map fun n => !validC n) [.cells c.cells, .cells x.cells] (p1_ok _ _) hl
  rw [List.any_map] at hs
  refine OpsW_sp hs rfl rfl rfl (by simp only [upd_some, evalT, evalO, ofConst, argFr, Nat.reduceEqDiff, Option.getD_none, List.getElem?_cons_succ, List.getElem?_nil, if_true, if_false, List.zip_cons_cons, List.zip_nil_right, List.map_cons, List.map_nil, List.nil_append, List.cons_append, callArgs] <;> rfl) ?_
  have hn : entErr c.base x = if x.codes.any (fun n => !validC n) then 1
      else if firstErr (x.els.map elErr) ≠ 0 then firstErr (x.els.map elErr)
      else if x.els.any (fun e => decide (e.p ≥ c.base)) then 1 else 0 := by rw [entErr, if_neg (by omega)]
  have hid : (x.codes.any (id ∘ fun n => !validC n)) = x.codes.any (fun n => !validC n) := rfl
  rcases Bool.eq_false_or_eq_true (x.codes.any (fun n => !validC n)) with b1 | b1
  · simp only [W_region, W_seq, W_ret, OpsW_nil, OpsW_op, upd_some, Br_W1, opF, evalT, evalO, ofConst, argFr, reduceCtorEq, Nat.reduceEqDiff, Option.getD_none, Option.map_some, Option.some.injEq, List.getElem?_cons_succ, List.getElem?_nil, true_and, or_true, exists_eq_left', if_true, if_false, List.nil_append, List.cons_append, hid, b1, resF, resAll, resOne]
    exact ⟨1, by rw [pub_int, hn, b1]; rfl⟩
  rw [b1] at hn
  simp only [Bool.false_eq_true, if_false] at hn
  simp only [W_skip, OpsW_nil, upd_some, Br_W2, argFr, Nat.reduceEqDiff, Nat.reduceAdd, Option.getD_none, Option.map_some, List.getElem?_cons_zero, List.getElem?_cons_succ, List.getElem?_nil, if_true, if_false, Bool.false_eq_true, List.length_cons, List.length_nil, Nat.reduceLeDiff, List.take_zero, List.drop_zero, List.drop_succ_cons, List.take_succ_cons, List.nil_append, List.cons_append, hid, b1, Coll.cells, Entry.cells, elR_length]
  refine W_loop (fun n fr st => ∃ (i : Nat), fr 2 = .optr 0 5 0 ∧ fr 3 = .optr 1 2 0 ∧ fr 28 = .sl 4 (elR x.els) (tk x.b) ∧ fr 29 = .int .i64 x.els.length ∧ fr 30 = .int .i64 i ∧ Grows [.cells c.cells, .cells x.cells] st ∧ i ≤ x.els.length ∧ firstErr (x.els.map elErr) = firstErr ((x.els.map elErr).drop i) ∧ n = x.els.length - i) ?_ x.els.length _ _
    ⟨0, by simp [upd], by simp [upd], by simp [upd], by simp [upd], by simp [upd], ⟨y, rfl⟩, by omega, by simp, by omega⟩
  rintro n fr st ⟨i, f2, f3, f28, f29, f30, hg, hi, hc, rfl⟩
  by_cases ci : (i : Int) < (x.els.length : Int)
  · have ia : i < x.els.length := by omega
    have ga := elR_get x.els i ia
    have hw : IntKind.i64.wrap ((i : Int) + 1) = ((i + 1 : Nat) : Int) := by rw [wrap_small (by omega) (by omega)]; rfl
    have hd := firstErr_drop (l := x.els.map elErr) (i := i) (by simp; omega)
    simp only [List.getElem_map] at hd
    simp only [W_skip, W_region, W_seq, W_cond, W_block, OpsW_nil, OpsW_op, upd_some, upd_none, Br_W1, opF, evalT, evalO, ofConst, binF, intF, idxN_nat, Nat.reduceEqDiff, Nat.reduceAdd, Option.map_some, List.getElem?_cons_zero, and_self, true_and, exists_and_left, if_true, if_false, decide_true, List.length_cons, List.length_nil, partF, TI.agg, scal, isAgg, cellsOf, Bool.or_true, Nat.reduceLeDiff, splice, List.take_zero, List.drop_zero, List.drop_succ_cons, List.take_succ_cons, List.nil_append, List.cons_append, T41, T68, f28, f29, f30, ci, ga, get_last, set_last]
    refine OpsW_pl (elCheck_plain x.els[i]) rfl rfl (by simp only [upd_some, evalT, evalO, ofConst, Nat.reduceEqDiff, if_true, if_false, List.zip_cons_cons, List.zip_nil_right, List.map_cons, List.map_nil, callArgs, strips] <;> exact congrArg (fun q => some [q]) (Option.some.inj (strip_elem x.els[i]))) ?_
    by_cases e0 : elErr x.els[i] = 0
    · have e0' : (elErr x.els[i] != 0) = false := by simp [e0]
      simp only [W_skip, OpsW_nil, OpsW_op, upd_some, Br_W2, opF, evalT, evalO, Nat.reduceEqDiff, Option.map_some, true_and, if_true, if_false, f2, f3, f28, f29, f30, e0', hw]
      exact ⟨x.els.length - (i + 1), by omega, i + 1, rfl, hg.more _, by omega, by rw [hc, hd, if_pos e0], rfl⟩
    · have e0' : (elErr x.els[i] != 0) = true := by simp [e0]
      rw [if_neg e0] at hd
      simp only [W_region, W_seq, W_ret, OpsW_nil, OpsW_op, upd_some, Br_W1, opF, evalT, evalO, reduceCtorEq, Nat.reduceEqDiff, Option.map_some, Option.some.injEq, true_and, or_true, exists_eq_left', if_true, if_false, e0', resF, resAll, resOne]
      refine ⟨1, ?_⟩
      rw [pub_int, hn, hc, hd, if_pos e0]
  · have hnil : (x.els.map elErr).drop i = [] := List.drop_eq_nil_of_le (by simp; omega)
    rw [hnil] at hc
    have h0 : st[0]? = some (.cells c.cells) := hg.get rfl
    have h1 : st[1]? = some (.cells x.cells) := hg.get rfl
    have hc' : firstErr (x.els.map elErr) = 0 := hc
    rw [hc'] at hn
    simp only [ne_eq, not_true_eq_false, if_false] at hn
    obtain ⟨r, st2, hs2, rfl, hg2⟩ := cfE_spec x.els (tk x.b) 65 [.optr 0 5 0] (x.els.map fun e => decide (e.p ≥ c.base)) st (p2_ok c 0 _ _ h0) hl2
    rw [List.any_map] at hs2
    have hid2 : (x.els.any (id ∘ fun e => decide (e.p ≥ c.base))) = x.els.any (fun e => decide (e.p ≥ c.base)) := rfl
    rw [hid2] at hs2
    simp only [W_region, W_seq, W_cond, W_block, W_exit, OpsW_nil, OpsW_op, upd_some, upd_none, Br_W2, opF, evalT, evalO, ofConst, binF, intF, Nat.reduceEqDiff, Nat.reduceAdd, Option.map_some, List.getElem?_cons_zero, List.getElem?_cons_succ, true_and, exists_and_left, if_true, if_false, decide_false, Bool.false_eq_true, List.length_cons, List.length_nil, partF, TI.agg, scal, isAgg, cellsOf, Nat.reduceLeDiff, splice, List.take_zero, List.drop_zero, List.drop_succ_cons, List.take_succ_cons, List.nil_append, T41, T68, f2, f3, f29, f30, ci, h1, Entry.cells]
    refine OpsW_sp hs2 rfl rfl rfl (by simp only [upd_some, evalT, evalO, ofConst, Nat.reduceEqDiff, if_true, if_false, List.zip_cons_cons, List.zip_nil_right, List.map_cons, List.map_nil, List.nil_append, List.cons_append, callArgs] <;> rfl) ?_
    rcases Bool.eq_false_or_eq_true (x.els.any (fun e => decide (e.p ≥ c.base))) with b2 | b2
    · simp only [W_region, W_seq, W_ret, OpsW_nil, OpsW_op, upd_some, Br_W1, opF, evalT, evalO, ofConst, reduceCtorEq, Nat.reduceEqDiff, Option.map_some, Option.some.injEq, true_and, or_true, exists_eq_left', if_true, if_false, b2, resF, resAll, resOne]
      exact ⟨1, by rw [pub_int, hn, b2]; rfl⟩
    · simp only [W_skip, OpsW_nil, upd_some, Br_W2, Nat.reduceEqDiff, Option.map_some, Option.some.injEq, exists_eq_left', if_true, if_false, b2, resF, resAll, resOne]
      exact ⟨1, by rw [pub_int, hn, b2]; rfl⟩
end Go.Pv.Ct
end
section
namespace Go.Pv.Ct
open Go.Pv
set_option maxRecDepth 20000

/-- Does something occur twice? -/
def dup : List (List UInt8) → Bool
  | [] => false
  | x :: l => l.contains x || dup l
theorem dup_app (x : List UInt8) : ∀ (l : List (List UInt8)), dup (l ++ [x]) = (dup l || l.contains x)
  | [] => by simp [dup]
  | y :: l => by
    rw [List.cons_append, dup, dup, dup_app x l]
    by_cases h : x = y
    · subst h; simp
    · have h1 : (y == x) = false := by simp [Ne.symm h]
      have h2 : (x == y) = false := by simp [h]
      simp only [List.contains_eq_mem, List.mem_append, List.mem_cons, List.not_mem_nil, or_false] at *
      cases hd : dup l <;> simp [h, Ne.symm h]
/-- A set of names, as the program's map has it. -/
def mp (l : List (List UInt8)) : List (PV × PV) := l.map fun s => (.str s, .bool true)
theorem find_mp (s : List UInt8) : ∀ (l : List (List UInt8)) (k : Nat), (s ∈ l → ∃ j, l[j]? = some s ∧ findF (.str s) (mp l) k = some (some (k + j, .bool true))) ∧ (s ∉ l → findF (.str s) (mp l) k = some none)
  | [], k => ⟨fun h => (List.not_mem_nil h).elim, fun _ => rfl⟩
  | x :: l, k => by
    have ih := find_mp s l (k + 1)
    by_cases h : x = s
    · subst h
      refine ⟨fun _ => ⟨0, rfl, ?_⟩, fun q => absurd (by simp) q⟩
      simp [mp, findF, keyEq]
    · have hb : (s == x) = false := by simp [Ne.symm h]
      refine ⟨fun q => ?_, fun q => ?_⟩
      · have : s ∈ l := by simpa [Ne.symm h] using q
        obtain ⟨j, hj, e⟩ := ih.1 this
        refine ⟨j + 1, by simpa using hj, ?_⟩
        show findF (.str s) ((.str x, .bool true) :: mp l) k = _
        rw [findF, keyEq, hb]
        simp only
        rw [e]; congr 3; omega
      · have : s ∉ l := fun r => q (by simp [r])
        show findF (.str s) ((.str x, .bool true) :: mp l) k = _
        rw [findF, keyEq, hb]
        exact ih.2 this
theorem mp_set {l : List (List UInt8)} {j : Nat} {s : List UInt8} (h : l[j]? = some s) : (mp l).set j (.str s, .bool true) = mp l := by
  unfold mp
  apply List.ext_getElem?
  intro i
  rw [List.getElem?_set]
  split
  · rename_i e
    subst e
    have := (List.getElem?_eq_some_iff.1 h).1
    rw [List.getElem?_map, h]
    simp [this]
  · rfl

def names (l : List Grp) : List (List UInt8) := l.map Grp.name
def rangeBad (base : Int) (g : Grp) : Bool := decide (g.lo < 1) || decide (g.hi < g.lo) || decide (g.hi ≥ base)
/-- Is a group not the next one's neighbour? -/
def orderBad : List Grp → Bool
  | a :: b :: l => (b.lo != IntKind.i64.wrap (a.hi + 1)) || orderBad (b :: l)
  | _ => false
theorem orderBad_drop {l : List Grp} {i : Nat} (h : i + 1 < l.length) : orderBad (l.drop i) = ((l[i + 1].lo != IntKind.i64.wrap (l[i].hi + 1)) || orderBad (l.drop (i + 1))) := by
  rw [List.drop_eq_getElem_cons (by omega : i < l.length), List.drop_eq_getElem_cons h, orderBad]
/-- The error of the groups. -/
def grpErr (base : Int) (l : List Grp) : Int :=
  if l.any (fun g => !nameOk g.name) then 6 else if dup (names l) then 5 else if l.any (rangeBad base) then 1 else if orderBad l then 4 else 0

set_option maxHeartbeats 8000000 in
theorem ofGroups3 (c : Coll) (hl : c.grps.length < 9223372036854775808) (h6 : c.grps.any (fun g => !nameOk g.name) = false) (h5 : dup (names c.grps) = false) (h1 : c.grps.any (rangeBad c.base) = false) (fr : Fr) (st : Store) (f1 : fr 1 = .optr 0 5 0) (s0 : st[0]? = some (.cells c.cells)) :
    W EE 81 (part [true, true, true, true, true, true] (code Go.Proofs.Tryz.f34)) fr st (EndW EE [.tmp 2] fun p st1 => ∃ n, pub st1 n p = some (.int .i64 (grpErr c.base c.grps))) := by
  have e1 : part [true, true, true, true, true, true] (code Go.Proofs.Tryz.f34) = part [true, true, true, true, true, true] (code Go.Proofs.Tryz.f34) := rfl
  conv at e1 => rhs; simp only [part, code, Go.Proofs.Tryz.f34, Option.getD_some]
  rw [e1]
  clear e1
  have hn : grpErr c.base c.grps = if orderBad c.grps then 4 else 0 := by
    unfold grpErr
    rw [h6, h5, h1]; rfl
  simp only [W_region, W_seq, W_block, W_ret, OpsW_nil, OpsW_op, opF, evalT, evalO, ofConst]
  refine W_loop (fun n fr st => ∃ (i : Nat), fr 1 = .optr 0 5 0 ∧ fr 9 = .int .i64 ((i : Int) + 1) ∧ st[0]? = some (.cells c.cells) ∧ (i ≤ c.grps.length) ∧ orderBad c.grps = orderBad (c.grps.drop i) ∧ n = c.grps.length - i) ?_ c.grps.length _ _
    ⟨0, by simp [upd, f1], by simp [upd], s0, by omega, by simp, by omega⟩
  clear f1 s0
  rintro n fr st ⟨i, f1, f9, s0, hi, hc, rfl⟩
  by_cases ci : (i : Int) + 1 < (c.grps.length : Int)
  · have ia : i < c.grps.length := by omega
    have ib : i + 1 < c.grps.length := by omega
    have ga := grpR_get c.grps i ia
    have gb := grpR_get c.grps (i + 1) ib
    have hd := orderBad_drop ib
    have hx : idxN (.int .i64 ((i : Int) + 1)) = some (i + 1) := idxN_nat (i + 1)
    have hw0 : IntKind.i64.wrap ((i : Int) + 1 - 1) = ((i : Nat) : Int) := by rw [show (i : Int) + 1 - 1 = i by omega]; exact wrap_small (by omega) (by omega)
    have hw : IntKind.i64.wrap ((i : Int) + 1 + 1) = ((i + 1 : Nat) : Int) + 1 := by rw [wrap_small (by omega) (by omega)]; omega
    rcases Bool.eq_false_or_eq_true (c.grps[i + 1].lo != IntKind.i64.wrap (c.grps[i].hi + 1)) with b | b
    · simp only [W_skip, W_region, W_seq, W_cond, W_block, W_ret, OpsW_nil, OpsW_op, upd_some, Br_W1, opF, evalT, evalO, ofConst, binF, intF, idxN_nat, reduceCtorEq, Nat.reduceEqDiff, Nat.reduceAdd, Option.map_some, Option.some.injEq, List.getElem?_cons_zero, List.getElem?_cons_succ, Nat.succ_ne_zero, true_and, or_true, or_false, exists_eq_left', exists_and_left, if_true, if_false, decide_true, Bool.false_eq_true, List.length_cons, List.length_nil, callB, List.zip_cons_cons, List.zip_nil_right, List.map_cons, List.map_nil, List.size_toArray, partF, TI.agg, Nat.reduceLeDiff, List.take_zero, List.drop_zero, List.drop_succ_cons, List.take_succ_cons, W_regionD, xrE, T3, T23, T25, T89, Coll.cells, grpR_length, s0, f1, f9, ci, ga, gb, hx, hw0, b, resF, resAll, resOne, EndW]
      exact ⟨1, by rw [pub_int, hn, hc, hd, b]; rfl⟩
    · simp only [W_skip, W_region, W_seq, W_cond, W_block, OpsW_nil, OpsW_op, upd_some, Br_W1, Br_W2, opF, evalT, evalO, ofConst, binF, intF, idxN_nat, Nat.reduceEqDiff, Nat.reduceAdd, Option.map_some, List.getElem?_cons_zero, List.getElem?_cons_succ, Nat.succ_ne_zero, true_and, exists_and_left, if_true, if_false, decide_true, Bool.false_eq_true, List.length_cons, List.length_nil, callB, List.zip_cons_cons, List.zip_nil_right, List.map_cons, List.map_nil, List.size_toArray, partF, TI.agg, Nat.reduceLeDiff, List.take_zero, List.drop_zero, List.drop_succ_cons, List.take_succ_cons, W_regionD, xrE, T3, T23, T25, T89, Coll.cells, grpR_length, s0, f1, f9, ci, ga, gb, hx, hw0, hw, b]
      exact ⟨c.grps.length - (i + 1), by omega, i + 1, rfl, by omega, by rw [hc, hd, b]; rfl, rfl⟩
  · have hnil : orderBad (c.grps.drop i) = false := by
      by_cases hz : i < c.grps.length
      · rw [List.drop_eq_getElem_cons hz, List.drop_eq_nil_of_le (by omega)]; rfl
      · rw [List.drop_eq_nil_of_le (by omega)]; rfl
    simp only [W_region, W_seq, W_cond, W_block, W_exit, OpsW_nil, OpsW_op, upd_some, Br_W2, opF, evalT, evalO, ofConst, binF, intF, reduceCtorEq, Nat.reduceEqDiff, Nat.reduceAdd, Option.map_some, Option.some.injEq, List.getElem?_cons_zero, List.getElem?_cons_succ, Nat.succ_ne_zero, true_and, or_true, or_false, exists_eq_left', exists_and_left, if_true, if_false, decide_false, Bool.false_eq_true, List.length_cons, List.length_nil, callB, List.zip_cons_cons, List.zip_nil_right, List.map_cons, List.map_nil, List.size_toArray, partF, TI.agg, Nat.reduceLeDiff, List.take_zero, List.drop_zero, List.drop_succ_cons, List.take_succ_cons, W_regionD, xrE, T3, T23, T25, T89, Coll.cells, grpR_length, s0, f1, f9, ci, resF, resAll, resOne, EndW]
    exact ⟨1, by rw [pub_int, hn, hc, hnil]; rfl⟩

set_option maxHeartbeats 8000000 in
theorem ofGroups2 (c : Coll) (hl : c.grps.length < 9223372036854775808) (h6 : c.grps.any (fun g => !nameOk g.name) = false) (fr : Fr) (st : Store) (f1 : fr 1 = .optr 0 5 0) (f4 : fr 4 = .bool (dup (names c.grps))) (s0 : st[0]? = some (.cells c.cells)) :
    W EE 81 (part [true, true, true, true] (code Go.Proofs.Tryz.f34)) fr st (EndW EE [.tmp 2] fun p st1 => ∃ n, pub st1 n p = some (.int .i64 (grpErr c.base c.grps))) := by
  have e1 : part [true, true, true, true] (code Go.Proofs.Tryz.f34) = part [true, true, true, true] (code Go.Proofs.Tryz.f34) := rfl
  conv at e1 => rhs; simp only [part, code, Go.Proofs.Tryz.f34, Option.getD_some]
  rw [e1]
  clear e1
  have e1 : part [true, true, true, true, true, true] (code Go.Proofs.Tryz.f34) = part [true, true, true, true, true, true] (code Go.Proofs.Tryz.f34) := rfl
  conv at e1 => rhs; simp only [part, code, Go.Proofs.Tryz.f34, Option.getD_some]
  rw [← e1]
  clear e1
  rcases Bool.eq_false_or_eq_true (dup (names c.grps)) with h5 | h5
  · simp only [W_region, W_seq, W_cond, W_block, W_ret, OpsW_nil, OpsW_op, upd_some, Br_W1, opF, evalT, evalO, ofConst, reduceCtorEq, Nat.reduceEqDiff, Nat.reduceAdd, Option.map_some, Option.some.injEq, List.getElem?_cons_zero, List.getElem?_cons_succ, Nat.succ_ne_zero, true_and, or_true, or_false, exists_eq_left', if_true, if_false, List.length_cons, List.length_nil, callB, List.zip_cons_cons, List.zip_nil_right, List.map_cons, List.map_nil, List.size_toArray, partF, TI.agg, List.drop_zero, T23, T25, f4, h5, resF, resAll, resOne, EndW]
    exact ⟨1, by rw [pub_int, grpErr, h6, h5]; rfl⟩
  have hn : grpErr c.base c.grps = if c.grps.any (rangeBad c.base) then 1 else if orderBad c.grps then 4 else 0 := by
    unfold grpErr
    rw [h6, h5]; rfl
  simp only [W_skip, W_region, W_seq, W_cond, W_block, OpsW_nil, OpsW_op, upd_some, Br_W2, opF, evalT, evalO, ofConst, Nat.reduceEqDiff, Nat.reduceAdd, Option.map_some, List.getElem?_cons_zero, List.getElem?_cons_succ, Nat.succ_ne_zero, if_true, if_false, Bool.false_eq_true, List.length_cons, List.length_nil, callB, List.zip_cons_cons, List.zip_nil_right, List.map_cons, List.map_nil, List.size_toArray, partF, TI.agg, Nat.reduceLeDiff, List.take_zero, List.drop_zero, List.drop_succ_cons, List.take_succ_cons, T23, T25, f1, f4, h5, s0, Coll.cells, grpR_length]
  refine W_loop (fun n fr st => ∃ (i : Nat), fr 1 = .optr 0 5 0 ∧ fr 35 = .sl 3 (grpR c.grps) (tk c.b) ∧ fr 36 = .int .i64 c.grps.length ∧ fr 37 = .int .i64 i ∧ st[0]? = some (.cells c.cells) ∧ i ≤ c.grps.length ∧ (∀ g ∈ c.grps.take i, rangeBad c.base g = false) ∧ n = c.grps.length - i) ?_ c.grps.length _ _
    ⟨0, by simp [upd, f1], by simp [upd], by simp [upd], by simp [upd], s0, by omega, by simp, by omega⟩
  clear f1 f4 s0
  rintro n fr st ⟨i, f1, f35, f36, f37, s0, hi, hall, rfl⟩
  have s0' : ∀ x, (st ++ [x])[0]? = some (.cells c.cells) := fun x => get_app s0
  by_cases ci : (i : Int) < (c.grps.length : Int)
  · have ia : i < c.grps.length := by omega
    have ga := grpR_get c.grps i ia
    have hw : IntKind.i64.wrap ((i : Int) + 1) = ((i + 1 : Nat) : Int) := by rw [wrap_small (by omega) (by omega)]; rfl
    have bad : rangeBad c.base c.grps[i] = true → grpErr c.base c.grps = 1 := by
      intro h
      rw [hn, if_pos]
      rw [List.any_eq_true]
      exact ⟨_, List.getElem_mem ia, h⟩
    by_cases c1 : c.grps[i].lo < 1
    · simp only [W_skip, W_region, W_seq, W_cond, W_block, W_ret, OpsW_nil, OpsW_op, OpsW_guard, upd_some, upd_none, Br_W1, Br_O2, opF, evalT, evalO, ofConst, binF, intF, idxN_nat, reduceCtorEq, Nat.reduceEqDiff, Nat.reduceAdd, Option.map_some, Option.bind_some, Option.some.injEq, List.getElem?_toArray, List.getElem?_cons_zero, List.getElem?_cons_succ, Nat.succ_ne_zero, and_self, true_and, or_true, or_false, exists_eq_left', exists_and_left, if_true, if_false, decide_true, Bool.false_eq_true, Bool.true_beq, List.length_cons, List.length_nil, partF, TI.agg, scal, isAgg, cellsOf, Bool.or_true, Nat.reduceLeDiff, splice, List.take_zero, List.drop_zero, List.drop_succ_cons, List.take_succ_cons, List.nil_append, List.cons_append, T3, T23, T89, f35, f36, f37, ci, ga, c1, get_last, set_last, resF, resAll, resOne, EndW]
      exact ⟨1, by rw [pub_int, bad (by simp [rangeBad, c1])]⟩
    by_cases c2 : c.grps[i].hi < c.grps[i].lo
    · simp only [W_skip, W_region, W_seq, W_cond, W_block, W_ret, OpsW_nil, OpsW_op, OpsW_guard, upd_some, upd_none, Br_W1, Br_O1, Br_O2, opF, evalT, evalO, ofConst, binF, intF, idxN_nat, reduceCtorEq, Nat.reduceEqDiff, Nat.reduceAdd, Option.map_some, Option.bind_some, Option.some.injEq, List.getElem?_toArray, List.getElem?_cons_zero, List.getElem?_cons_succ, Nat.succ_ne_zero, and_self, true_and, or_true, or_false, exists_eq_left', exists_and_left, if_true, if_false, decide_true, decide_false, Bool.false_eq_true, beq_self_eq_true, Bool.true_beq, List.length_cons, List.length_nil, partF, TI.agg, scal, isAgg, cellsOf, Bool.or_true, Nat.reduceLeDiff, splice, List.take_zero, List.drop_zero, List.drop_succ_cons, List.take_succ_cons, List.nil_append, List.cons_append, T3, T23, T89, f35, f36, f37, ci, ga, c1, c2, get_last, set_last, resF, resAll, resOne, EndW]
      exact ⟨1, by rw [pub_int, bad (by simp [rangeBad, c2])]⟩
    by_cases c3 : c.grps[i].hi ≥ c.base
    · simp only [W_skip, W_region, W_seq, W_cond, W_block, W_ret, OpsW_nil, OpsW_op, OpsW_guard, upd_some, upd_none, Br_W1, Br_O1, opF, evalT, evalO, ofConst, binF, intF, idxN_nat, reduceCtorEq, Nat.reduceEqDiff, Nat.reduceAdd, Option.map_some, Option.bind_some, Option.some.injEq, List.getElem?_toArray, List.getElem?_cons_zero, List.getElem?_cons_succ, Nat.succ_ne_zero, and_self, true_and, or_true, or_false, exists_eq_left', exists_and_left, if_true, if_false, decide_true, decide_false, Bool.false_eq_true, beq_self_eq_true, List.length_cons, List.length_nil, partF, TI.agg, scal, isAgg, cellsOf, Bool.or_true, Nat.reduceLeDiff, splice, List.take_zero, List.drop_zero, List.drop_succ_cons, List.take_succ_cons, List.nil_append, List.cons_append, T3, T23, T25, T89, f1, f35, f36, f37, ci, ga, c1, c2, c3, get_last, set_last, s0', Coll.cells, resF, resAll, resOne, EndW]
      exact ⟨1, by rw [pub_int, bad (by simp [rangeBad, c3])]⟩
    · simp only [W_skip, W_region, W_seq, W_cond, W_block, OpsW_nil, OpsW_op, OpsW_guard, upd_some, upd_none, Br_W1, Br_W2, Br_O1, opF, evalT, evalO, ofConst, binF, intF, idxN_nat, Nat.reduceEqDiff, Nat.reduceAdd, Option.map_some, Option.bind_some, List.getElem?_toArray, List.getElem?_cons_zero, List.getElem?_cons_succ, Nat.succ_ne_zero, and_self, true_and, exists_and_left, if_true, if_false, decide_true, decide_false, Bool.false_eq_true, beq_self_eq_true, List.length_cons, List.length_nil, partF, TI.agg, scal, isAgg, cellsOf, Bool.or_true, Nat.reduceLeDiff, splice, List.take_zero, List.drop_zero, List.drop_succ_cons, List.take_succ_cons, List.nil_append, List.cons_append, T3, T23, T25, T89, f1, f35, f36, f37, ci, ga, c1, c2, c3, hw, get_last, set_last, s0', Coll.cells]
      refine ⟨c.grps.length - (i + 1), by omega, i + 1, rfl, by omega, fun g hg => ?_, rfl⟩
      rw [List.take_succ_eq_append_getElem ia, List.mem_append] at hg
      rcases hg with hg | hg
      · exact hall g hg
      · simp at hg
        subst hg
        simp [rangeBad, c1, c2, c3]
  · have hil : c.grps.take i = c.grps := List.take_of_length_le (by omega)
    rw [hil] at hall
    have h1 : c.grps.any (rangeBad c.base) = false := by
      rw [← Bool.not_eq_true, List.any_eq_true]
      rintro ⟨g, hg, e⟩
      rw [hall g hg] at e
      cases e
    simp only [W_region, W_seq, W_cond, W_block, W_exit, OpsW_nil, OpsW_op, OpsW_guard, upd_some, upd_none, Br_W2, opF, evalT, evalO, ofConst, binF, intF, Nat.reduceEqDiff, Nat.reduceAdd, Option.map_some, Option.bind_some, List.getElem?_toArray, List.getElem?_cons_zero, List.getElem?_cons_succ, Nat.succ_ne_zero, true_and, exists_and_left, if_true, if_false, decide_false, Bool.false_eq_true, partF, TI.agg, scal, isAgg, cellsOf, Nat.reduceLeDiff, splice, List.take_zero, List.drop_zero, List.nil_append, T3, T23, T89, f36, f37, ci]
    exact ofGroups3 c hl h6 h5 h1 _ _ (by simp [upd, f1]) s0

set_option maxHeartbeats 8000000 in
theorem ofGroups_plain (c : Coll) (hl : c.grps.length < 9223372036854775808) (hs : ∀ g ∈ c.grps, g.name.length < 9223372036854775808) : Plain EE 34 [.agg c.cells] (.int .i64 (grpErr c.base c.grps)) := by
  refine plain_of_W ok ok34 (by simp) ?_
  unfold BodyW
  have e0 : code Go.Proofs.Tryz.f34 = code Go.Proofs.Tryz.f34 := rfl
  conv at e0 => rhs; simp only [code, Go.Proofs.Tryz.f34, Option.getD_some]
  rw [e0]
  clear e0
  have e1 : part [true, true, true, true] (code Go.Proofs.Tryz.f34) = part [true, true, true, true] (code Go.Proofs.Tryz.f34) := rfl
  conv at e1 => rhs; simp only [part, code, Go.Proofs.Tryz.f34, Option.getD_some]
  rw [← e1]
  clear e1
  simp only [W_region, W_seq, W_block, OpsW_nil, OpsW_op, upd_some, opF, evalT, evalO, ofConst, argFr, reduceCtorEq, Nat.reduceEqDiff, Nat.reduceAdd, Option.getD_some, Option.getD_none, Option.map_some, List.getElem?_cons_zero, List.getElem?_cons_succ, List.getElem?_nil, Nat.succ_ne_zero, and_self, or_false, if_true, if_false, Bool.false_eq_true, List.length_cons, List.length_nil, callB, List.zip_cons_cons, List.zip_nil_right, List.map_cons, List.map_nil, List.size_toArray, partF, TI.agg, scal, isAgg, cellsOf, Bool.or_true, Nat.reduceLeDiff, List.take_zero, List.drop_zero, List.drop_succ_cons, List.take_succ_cons, List.nil_append, List.cons_append, T23, T25, Coll.cells, grpR_length]
  refine W_loop (fun n fr st => ∃ (i : Nat) (S : List (List UInt8)), fr 1 = .optr 0 5 0 ∧ fr 3 = .map 1 ∧ fr 4 = .bool (dup ((names c.grps).take i)) ∧ fr 12 = .sl 3 (grpR c.grps) (tk c.b) ∧ fr 13 = .int .i64 c.grps.length ∧ fr 14 = .int .i64 i ∧ st[0]? = some (.cells c.cells) ∧ st[1]? = some (.map (mp S)) ∧ (∀ s, s ∈ S ↔ s ∈ (names c.grps).take i) ∧ i ≤ c.grps.length ∧ (∀ g ∈ c.grps.take i, nameOk g.name = true) ∧ n = c.grps.length - i) ?_ c.grps.length _ _
    ⟨0, [], by simp [upd], by simp [upd], by simp [upd, dup], by simp [upd], by simp [upd], by simp [upd], rfl, rfl, by simp, by omega, by simp, by omega⟩
  rintro n fr st ⟨i, S, f1, f3, f4, f12, f13, f14, s0, s1, hS, hi, hall, rfl⟩
  have s0' : ∀ x, (st ++ [x])[0]? = some (.cells c.cells) := fun x => get_app s0
  have s1' : ∀ x, (st ++ [x])[1]? = some (.map (mp S)) := fun x => get_app s1
  by_cases ci : (i : Int) < (c.grps.length : Int)
  · have ia : i < c.grps.length := by omega
    have ga := grpR_get c.grps i ia
    have hw : IntKind.i64.wrap ((i : Int) + 1) = ((i + 1 : Nat) : Int) := by rw [wrap_small (by omega) (by omega)]; rfl
    have hnl : (names c.grps)[i]? = some c.grps[i].name := by simp [names, ia]
    have hnt : (names c.grps).take (i + 1) = (names c.grps).take i ++ [c.grps[i].name] := by
      rw [List.take_succ_eq_append_getElem (by simp [names]; exact ia)]
      simp [names]
    have hdup : dup ((names c.grps).take (i + 1)) = (dup ((names c.grps).take i) || ((names c.grps).take i).contains c.grps[i].name) := by rw [hnt, dup_app]
    simp only [W_skip, W_region, W_seq, W_cond, W_block, OpsW_nil, OpsW_op, OpsW_guard, upd_some, upd_none, Br_W1, opF, evalT, evalO, ofConst, binF, intF, idxN_nat, Nat.reduceEqDiff, Nat.reduceAdd, Option.map_some, Option.bind_some, List.getElem?_toArray, List.getElem?_cons_zero, List.getElem?_cons_succ, Nat.succ_ne_zero, and_self, true_and, exists_and_left, if_true, if_false, decide_true, Bool.false_eq_true, List.length_cons, List.length_nil, partF, TI.agg, scal, isAgg, cellsOf, Bool.or_true, Nat.reduceLeDiff, splice, List.take_zero, List.drop_zero, List.drop_succ_cons, List.take_succ_cons, List.nil_append, List.cons_append, T9, T23, T87, T89, f12, f13, f14, ci, ga, get_last, set_last]
    refine OpsW_pl (named_plain c.grps[i].name (hs _ (List.getElem_mem ia))) rfl rfl (by simp only [upd_some, evalT, evalO, ofConst, Nat.reduceEqDiff, if_true, if_false, List.zip_cons_cons, List.zip_nil_right, List.map_cons, List.map_nil, callArgs, strips, strip_str] <;> rfl) ?_
    rcases Bool.eq_false_or_eq_true (nameOk c.grps[i].name) with b | b
    case inr =>
      simp only [W_region, W_seq, W_ret, OpsW_nil, OpsW_op, upd_some, Br_W1, opF, evalT, evalO, ofConst, unF, reduceCtorEq, Nat.reduceEqDiff, Option.map_some, Option.some.injEq, true_and, or_true, exists_eq_left', if_true, if_false, Bool.not_false, b, resF, resAll, resOne]
      refine ⟨1, ?_⟩
      rw [pub_int, grpErr, if_pos]
      rw [List.any_eq_true]
      exact ⟨_, List.getElem_mem ia, by rw [b]; rfl⟩
    have hall' : ∀ g ∈ c.grps.take (i + 1), nameOk g.name = true := by
      intro g hg
      rw [List.take_succ_eq_append_getElem ia, List.mem_append] at hg
      rcases hg with hg | hg
      · exact hall g hg
      · simp at hg
        subst hg
        exact b
    have lt1 : 1 < (st ++ [Ob.cells [.str c.grps[i].name, .int .i64 c.grps[i].lo, .int .i64 c.grps[i].hi]]).length := by have := get_lt s1; simp; omega
    have done : ∀ (S' : List (List UInt8)) (v : Bool), v = dup ((names c.grps).take (i + 1)) → (∀ s, s ∈ S' ↔ s ∈ (names c.grps).take (i + 1)) →
        ∃ m, m < c.grps.length - i ∧ ∃ x x_1, PV.bool v = .bool (dup ((names c.grps).take x)) ∧ .int .i64 ((i + 1 : Nat) : Int) = PV.int .i64 (x : Int) ∧ ((st ++ [Ob.cells [.str c.grps[i].name, .int .i64 c.grps[i].lo, .int .i64 c.grps[i].hi]]).set 1 (.map (mp S')))[0]? = some (.cells c.cells) ∧ ((st ++ [Ob.cells [.str c.grps[i].name, .int .i64 c.grps[i].lo, .int .i64 c.grps[i].hi]]).set 1 (.map (mp S')))[1]? = some (.map (mp x_1)) ∧ (∀ s, s ∈ x_1 ↔ s ∈ (names c.grps).take x) ∧ x ≤ c.grps.length ∧ (∀ g ∈ c.grps.take x, nameOk g.name = true) ∧ m = c.grps.length - x :=
      fun S' v hv hS' => ⟨c.grps.length - (i + 1), by omega, i + 1, S', by rw [hv], rfl, by rw [get_set_ne _ (by decide)]; exact s0' _, get_set_eq lt1 _, hS', by omega, hall', rfl⟩
    obtain ⟨g1, g2⟩ := find_mp c.grps[i].name S 0
    by_cases hm : c.grps[i].name ∈ S
    · obtain ⟨j, hj, hf⟩ := g1 hm
      rw [Nat.zero_add] at hf
      have hms := mp_set hj
      have hc : ((names c.grps).take i).contains c.grps[i].name = true := by simpa using (hS _).1 hm
      have hS2 : ∀ s, s ∈ S ↔ s ∈ (names c.grps).take (i + 1) := by
        intro s
        rw [hnt, List.mem_append, hS s]
        constructor
        · exact .inl
        · rintro (h | h)
          · exact h
          · simp at h; subst h; exact (hS _).1 hm
      rw [hc] at hdup
      rcases Bool.eq_false_or_eq_true (dup ((names c.grps).take i)) with d | d
      · simp only [W_skip, OpsW_nil, OpsW_op, OpsW_guard, upd_some, Br_W2, Br_O2, opF, evalT, evalO, ofConst, unF, Nat.reduceEqDiff, Nat.reduceAdd, Option.map_some, Option.bind_some, List.getElem?_toArray, List.getElem?_cons_zero, List.getElem?_cons_succ, true_and, if_true, if_false, Bool.false_eq_true, Bool.true_beq, Bool.not_true, List.length_cons, List.length_nil, Nat.reduceLeDiff, List.take_zero, List.drop_zero, List.take_succ_cons, f1, f3, f4, f12, f13, f14, b, d, hw, get_last, s1', hf, keyK, hms]
        have := done S true (by rw [hdup, d]; rfl) hS2
        obtain ⟨m, hm, x, x1, e1, e2, e3, e4⟩ := this
        exact ⟨m, hm, x, e1, e2, e3, x1, e4⟩
      · simp only [W_skip, OpsW_nil, OpsW_op, OpsW_guard, upd_some, Br_W2, Br_O1, opF, evalT, evalO, ofConst, unF, Nat.reduceEqDiff, Nat.reduceAdd, Option.map_some, Option.bind_some, List.getElem?_toArray, List.getElem?_cons_zero, List.getElem?_cons_succ, Nat.succ_ne_zero, true_and, if_true, if_false, Bool.false_eq_true, beq_self_eq_true, Bool.not_true, List.length_cons, List.length_nil, partF, TI.agg, Nat.reduceLeDiff, List.take_zero, List.drop_zero, List.take_succ_cons, T4, T9, T87, T89, f1, f3, f4, f12, f13, f14, b, d, hw, get_last, s1', hf, keyK, mapEs, hms]
        have := done S true (by rw [hdup, d]; rfl) hS2
        obtain ⟨m, hm, x, x1, e1, e2, e3, e4⟩ := this
        exact ⟨m, hm, x, e1, e2, e3, x1, e4⟩
    · have hf := g2 hm
      have hc : ((names c.grps).take i).contains c.grps[i].name = false := by
        rw [← Bool.not_eq_true]
        intro q
        exact hm ((hS _).2 (by simpa using q))
      have hS2 : ∀ s, s ∈ S ++ [c.grps[i].name] ↔ s ∈ (names c.grps).take (i + 1) := by
        intro s
        rw [hnt, List.mem_append, List.mem_append, hS s]
      have hms : mp S ++ [(.str c.grps[i].name, .bool true)] = mp (S ++ [c.grps[i].name]) := by simp [mp]
      rw [hc] at hdup
      rcases Bool.eq_false_or_eq_true (dup ((names c.grps).take i)) with d | d
      · simp only [W_skip, OpsW_nil, OpsW_op, OpsW_guard, upd_some, Br_W2, Br_O2, opF, evalT, evalO, ofConst, unF, Nat.reduceEqDiff, Nat.reduceAdd, Option.map_some, Option.bind_some, List.getElem?_toArray, List.getElem?_cons_zero, List.getElem?_cons_succ, true_and, if_true, if_false, Bool.false_eq_true, Bool.true_beq, Bool.not_true, List.length_cons, List.length_nil, Nat.reduceLeDiff, List.take_zero, List.drop_zero, List.take_succ_cons, f1, f3, f4, f12, f13, f14, b, d, hw, get_last, s1', hf, keyK, hms]
        have := done (S ++ [c.grps[i].name]) true (by rw [hdup, d]; rfl) hS2
        obtain ⟨m, hm, x, x1, e1, e2, e3, e4⟩ := this
        exact ⟨m, hm, x, e1, e2, e3, x1, e4⟩
      · simp only [W_skip, OpsW_nil, OpsW_op, OpsW_guard, upd_some, Br_W2, Br_O1, opF, evalT, evalO, ofConst, unF, Nat.reduceEqDiff, Nat.reduceAdd, Option.map_some, Option.bind_some, List.getElem?_toArray, List.getElem?_cons_zero, List.getElem?_cons_succ, Nat.succ_ne_zero, true_and, if_true, if_false, Bool.false_eq_true, beq_self_eq_true, Bool.not_true, List.length_cons, List.length_nil, partF, TI.agg, Nat.reduceLeDiff, List.take_zero, List.drop_zero, List.take_succ_cons, List.headD_cons, T4, T9, T87, T89, f1, f3, f4, f12, f13, f14, b, d, hw, get_last, s1', hf, keyK, mapEs, valOf, List.headD_cons, hms]
        have := done (S ++ [c.grps[i].name]) false (by rw [hdup, d]; rfl) hS2
        obtain ⟨m, hm, x, x1, e1, e2, e3, e4⟩ := this
        exact ⟨m, hm, x, e1, e2, e3, x1, e4⟩
  · have hil : c.grps.take i = c.grps := List.take_of_length_le (by omega)
    have hil2 : (names c.grps).take i = names c.grps := List.take_of_length_le (by simp [names]; omega)
    rw [hil] at hall
    rw [hil2] at f4
    have h6 : c.grps.any (fun g => !nameOk g.name) = false := by
      rw [← Bool.not_eq_true, List.any_eq_true]
      rintro ⟨g, hg, e⟩
      rw [hall g hg] at e
      cases e
    simp only [W_region, W_seq, W_cond, W_block, W_exit, OpsW_nil, OpsW_op, OpsW_guard, upd_some, upd_none, Br_W2, opF, evalT, evalO, ofConst, binF, intF, Nat.reduceEqDiff, Nat.reduceAdd, Option.map_some, Option.bind_some, List.getElem?_toArray, List.getElem?_cons_zero, List.getElem?_cons_succ, Nat.succ_ne_zero, true_and, exists_and_left, if_true, if_false, decide_false, Bool.false_eq_true, partF, TI.agg, scal, isAgg, cellsOf, Nat.reduceLeDiff, splice, List.take_zero, List.drop_zero, List.nil_append, T9, T23, T87, T89, f13, f14, ci]
    exact ofGroups2 c hl h6 _ _ (by simp [upd, f1]) (by simp [upd, f4]) s0
end Go.Pv.Ct
end
section
namespace Go.Pv.Ct
open Go.Pv
set_option maxRecDepth 20000

theorem dup_more : ∀ (a b : List (List UInt8)), dup a = true → dup (a ++ b) = true
  | [], b, h => by cases h
  | x :: a, b, h => by
    rw [dup, Bool.or_eq_true] at h
    rw [List.cons_append, dup, Bool.or_eq_true]
    rcases h with h | h
    · left; simp at h ⊢; exact .inl h
    · right; exact dup_more a b h
theorem any_not {α : Type} {l : List α} {p : α → Bool} (h : ∀ g ∈ l, p g = false) : l.any p = false := by
  rw [← Bool.not_eq_true, List.any_eq_true]
  rintro ⟨g, hg, e⟩
  rw [h g hg] at e
  cases e
theorem take_all {α : Type} {l : List α} {i : Nat} (ia : i < l.length) {p : α → Prop} (h : ∀ g ∈ l.take i, p g) (h1 : p l[i]) : ∀ g ∈ l.take (i + 1), p g := by
  intro g hg
  rw [List.take_succ_eq_append_getElem ia, List.mem_append] at hg
  rcases hg with hg | hg
  · exact h g hg
  · simp at hg; subst hg; exact h1

set_option maxHeartbeats 8000000 in
theorem refGroups4 (c : Coll) (hl : c.grps.length < 9223372036854775808) (h6 : c.grps.any (fun g => !nameOk g.name) = false) (h5 : dup (names c.grps) = false) (h1 : c.grps.any (rangeBad c.base) = false) (fr : Fr) (st : Store) (f3 : fr 3 = .sl 3 (grpR c.grps) (tk c.b)) :
    W EE 100 (part [true, true, true, true, true] (code Go.Proofs.Tryz.f38)) fr st (EndW EE [.tmp 2] fun p st1 => ∃ n, pub st1 n p = some (.int .i64 (grpErr c.base c.grps))) := by
  have e1 : part [true, true, true, true, true] (code Go.Proofs.Tryz.f38) = part [true, true, true, true, true] (code Go.Proofs.Tryz.f38) := rfl
  conv at e1 => rhs; simp only [part, code, Go.Proofs.Tryz.f38, Option.getD_some]
  rw [e1]
  clear e1
  have hn : grpErr c.base c.grps = if orderBad c.grps then 4 else 0 := by
    unfold grpErr
    rw [h6, h5, h1]; rfl
  simp only [W_region, W_seq, W_block, W_ret, OpsW_nil, OpsW_op, opF, evalT, evalO, ofConst]
  refine W_loop (fun n fr st => ∃ (i : Nat), fr 3 = .sl 3 (grpR c.grps) (tk c.b) ∧ fr 8 = .int .i64 ((i : Int) + 1) ∧ (i ≤ c.grps.length) ∧ orderBad c.grps = orderBad (c.grps.drop i) ∧ n = c.grps.length - i) ?_ c.grps.length _ _
    ⟨0, by simp [upd, f3], by simp [upd], by omega, by simp, by omega⟩
  clear f3
  rintro n fr st ⟨i, f3, f8, hi, hc, rfl⟩
  by_cases ci : (i : Int) + 1 < (c.grps.length : Int)
  · have ia : i < c.grps.length := by omega
    have ib : i + 1 < c.grps.length := by omega
    have ga := grpR_get c.grps i ia
    have gb := grpR_get c.grps (i + 1) ib
    have hd := orderBad_drop ib
    have hx : idxN (.int .i64 ((i : Int) + 1)) = some (i + 1) := idxN_nat (i + 1)
    have hw0 : IntKind.i64.wrap ((i : Int) + 1 - 1) = ((i : Nat) : Int) := by rw [show (i : Int) + 1 - 1 = i by omega]; exact wrap_small (by omega) (by omega)
    have hw : IntKind.i64.wrap ((i : Int) + 1 + 1) = ((i + 1 : Nat) : Int) + 1 := by rw [wrap_small (by omega) (by omega)]; omega
    rcases Bool.eq_false_or_eq_true (c.grps[i + 1].lo != IntKind.i64.wrap (c.grps[i].hi + 1)) with b | b
    · simp only [W_skip, W_region, W_seq, W_cond, W_block, W_ret, OpsW_nil, OpsW_op, upd_some, Br_W1, opF, evalT, evalO, ofConst, binF, intF, idxN_nat, reduceCtorEq, Nat.reduceEqDiff, Nat.reduceAdd, Option.map_some, Option.some.injEq, List.getElem?_cons_zero, List.getElem?_cons_succ, Nat.succ_ne_zero, true_and, or_true, or_false, exists_eq_left', exists_and_left, if_true, if_false, decide_true, Bool.false_eq_true, List.length_cons, List.length_nil, callB, List.zip_cons_cons, List.zip_nil_right, List.map_cons, List.map_nil, List.size_toArray, partF, TI.agg, Nat.reduceLeDiff, List.take_zero, List.drop_zero, List.drop_succ_cons, List.take_succ_cons, W_regionD, xrE, T3, T23, T89, grpR_length, f3, f8, ci, ga, gb, hx, hw0, b, resF, resAll, resOne, EndW]
      exact ⟨1, by rw [pub_int, hn, hc, hd, b]; rfl⟩
    · simp only [W_skip, W_region, W_seq, W_cond, W_block, OpsW_nil, OpsW_op, upd_some, Br_W1, Br_W2, opF, evalT, evalO, ofConst, binF, intF, idxN_nat, Nat.reduceEqDiff, Nat.reduceAdd, Option.map_some, List.getElem?_cons_zero, List.getElem?_cons_succ, Nat.succ_ne_zero, true_and, exists_and_left, if_true, if_false, decide_true, Bool.false_eq_true, List.length_cons, List.length_nil, callB, List.zip_cons_cons, List.zip_nil_right, List.map_cons, List.map_nil, List.size_toArray, partF, TI.agg, Nat.reduceLeDiff, List.take_zero, List.drop_zero, List.drop_succ_cons, List.take_succ_cons, W_regionD, xrE, T3, T23, T89, grpR_length, f3, f8, ci, ga, gb, hx, hw0, hw, b]
      exact ⟨c.grps.length - (i + 1), by omega, i + 1, rfl, by omega, by rw [hc, hd, b]; rfl, rfl⟩
  · have hnil : orderBad (c.grps.drop i) = false := by
      by_cases hz : i < c.grps.length
      · rw [List.drop_eq_getElem_cons hz, List.drop_eq_nil_of_le (by omega)]; rfl
      · rw [List.drop_eq_nil_of_le (by omega)]; rfl
    simp only [W_region, W_seq, W_cond, W_block, W_exit, OpsW_nil, OpsW_op, upd_some, Br_W2, opF, evalT, evalO, ofConst, binF, intF, reduceCtorEq, Nat.reduceEqDiff, Nat.reduceAdd, Option.map_some, Option.some.injEq, List.getElem?_cons_zero, List.getElem?_cons_succ, Nat.succ_ne_zero, true_and, or_true, or_false, exists_eq_left', exists_and_left, if_true, if_false, decide_false, List.length_cons, List.length_nil, callB, List.zip_cons_cons, List.zip_nil_right, List.map_cons, List.map_nil, List.size_toArray, partF, TI.agg, List.drop_zero, W_regionD, xrE, T3, T23, T89, grpR_length, f3, f8, ci, resF, resAll, resOne, EndW]
    exact ⟨1, by rw [pub_int, hn, hc, hnil]; rfl⟩

set_option maxHeartbeats 8000000 in
theorem refGroups3 (c : Coll) (hl : c.grps.length < 9223372036854775808) (h6 : c.grps.any (fun g => !nameOk g.name) = false) (h5 : dup (names c.grps) = false) (fr : Fr) (st : Store) (f1 : fr 1 = .optr 0 5 0) (f3 : fr 3 = .sl 3 (grpR c.grps) (tk c.b)) (s0 : st[0]? = some (.cells c.cells)) :
    W EE 100 (part [true, true, true, true] (code Go.Proofs.Tryz.f38)) fr st (EndW EE [.tmp 2] fun p st1 => ∃ n, pub st1 n p = some (.int .i64 (grpErr c.base c.grps))) := by
  have e1 : part [true, true, true, true] (code Go.Proofs.Tryz.f38) = part [true, true, true, true] (code Go.Proofs.Tryz.f38) := rfl
  conv at e1 => rhs; simp only [part, code, Go.Proofs.Tryz.f38, Option.getD_some]
  rw [e1]
  clear e1
  have e1 : part [true, true, true, true, true] (code Go.Proofs.Tryz.f38) = part [true, true, true, true, true] (code Go.Proofs.Tryz.f38) := rfl
  conv at e1 => rhs; simp only [part, code, Go.Proofs.Tryz.f38, Option.getD_some]
  rw [← e1]
  clear e1
  have hn : grpErr c.base c.grps = if c.grps.any (rangeBad c.base) then 1 else if orderBad c.grps then 4 else 0 := by
    unfold grpErr
    rw [h6, h5]; rfl
  simp only [W_region, W_seq, W_block, OpsW_nil, OpsW_op, opF, evalT, evalO, ofConst]
  refine W_loop (fun n fr st => ∃ (i : Nat), fr 1 = .optr 0 5 0 ∧ fr 3 = .sl 3 (grpR c.grps) (tk c.b) ∧ fr 7 = .int .i64 i ∧ st[0]? = some (.cells c.cells) ∧ i ≤ c.grps.length ∧ (∀ g ∈ c.grps.take i, rangeBad c.base g = false) ∧ n = c.grps.length - i) ?_ c.grps.length _ _
    ⟨0, by simp [upd, f1], by simp [upd, f3], by simp [upd], s0, by omega, by simp, by omega⟩
  clear f1 f3 s0
  rintro n fr st ⟨i, f1, f3, f7, s0, hi, hall, rfl⟩
  by_cases ci : (i : Int) < (c.grps.length : Int)
  · have ia : i < c.grps.length := by omega
    have ga := grpR_get c.grps i ia
    have hw : IntKind.i64.wrap ((i : Int) + 1) = ((i + 1 : Nat) : Int) := by rw [wrap_small (by omega) (by omega)]; rfl
    have bad : rangeBad c.base c.grps[i] = true → grpErr c.base c.grps = 1 := by
      intro h
      rw [hn, if_pos]
      rw [List.any_eq_true]
      exact ⟨_, List.getElem_mem ia, h⟩
    by_cases c1 : c.grps[i].lo < 1
    · simp only [W_skip, W_region, W_seq, W_cond, W_block, W_ret, OpsW_nil, OpsW_op, OpsW_guard, upd_some, Br_W1, Br_O2, opF, evalT, evalO, ofConst, binF, intF, idxN_nat, reduceCtorEq, Nat.reduceEqDiff, Nat.reduceAdd, Option.map_some, Option.bind_some, Option.some.injEq, List.getElem?_toArray, List.getElem?_cons_zero, List.getElem?_cons_succ, Nat.succ_ne_zero, true_and, or_true, or_false, exists_eq_left', exists_and_left, if_true, if_false, decide_true, Bool.false_eq_true, Bool.true_beq, List.length_cons, List.length_nil, callB, List.zip_cons_cons, List.zip_nil_right, List.map_cons, List.map_nil, List.size_toArray, partF, TI.agg, Nat.reduceLeDiff, List.take_zero, List.drop_zero, List.drop_succ_cons, List.take_succ_cons, W_regionD, xrE, T3, T23, T89, f3, f7, grpR_length, ci, ga, c1, resF, resAll, resOne, EndW]
      exact ⟨1, by rw [pub_int, bad (by simp [rangeBad, c1])]⟩
    by_cases c2 : c.grps[i].hi < c.grps[i].lo
    · simp only [W_skip, W_region, W_seq, W_cond, W_block, W_ret, OpsW_nil, OpsW_op, OpsW_guard, upd_some, Br_W1, Br_O1, Br_O2, opF, evalT, evalO, ofConst, binF, intF, idxN_nat, reduceCtorEq, Nat.reduceEqDiff, Nat.reduceAdd, Option.map_some, Option.bind_some, Option.some.injEq, List.getElem?_toArray, List.getElem?_cons_zero, List.getElem?_cons_succ, Nat.succ_ne_zero, true_and, or_true, or_false, exists_eq_left', exists_and_left, if_true, if_false, decide_true, decide_false, Bool.false_eq_true, beq_self_eq_true, Bool.true_beq, List.length_cons, List.length_nil, callB, List.zip_cons_cons, List.zip_nil_right, List.map_cons, List.map_nil, List.size_toArray, partF, TI.agg, Nat.reduceLeDiff, List.take_zero, List.drop_zero, List.drop_succ_cons, List.take_succ_cons, W_regionD, xrE, T3, T23, T89, f3, f7, grpR_length, ci, ga, c1, c2, resF, resAll, resOne, EndW]
      exact ⟨1, by rw [pub_int, bad (by simp [rangeBad, c2])]⟩
    by_cases c3 : c.grps[i].hi ≥ c.base
    · simp only [W_skip, W_region, W_seq, W_cond, W_block, W_ret, OpsW_nil, OpsW_op, OpsW_guard, upd_some, Br_W1, Br_O1, opF, evalT, evalO, ofConst, binF, intF, idxN_nat, reduceCtorEq, Nat.reduceEqDiff, Nat.reduceAdd, Option.map_some, Option.bind_some, Option.some.injEq, List.getElem?_toArray, List.getElem?_cons_zero, List.getElem?_cons_succ, Nat.succ_ne_zero, true_and, or_true, or_false, exists_eq_left', exists_and_left, if_true, if_false, decide_true, decide_false, Bool.false_eq_true, beq_self_eq_true, List.length_cons, List.length_nil, callB, List.zip_cons_cons, List.zip_nil_right, List.map_cons, List.map_nil, List.size_toArray, partF, TI.agg, Nat.reduceLeDiff, List.take_zero, List.drop_zero, List.drop_succ_cons, List.take_succ_cons, W_regionD, xrE, T3, T23, T25, T89, f1, f3, f7, grpR_length, ci, ga, c1, c2, c3, s0, Coll.cells, resF, resAll, resOne, EndW]
      exact ⟨1, by rw [pub_int, bad (by simp [rangeBad, c3])]⟩
    · simp only [W_skip, W_region, W_seq, W_cond, W_block, OpsW_nil, OpsW_op, OpsW_guard, upd_some, Br_W1, Br_W2, Br_O1, opF, evalT, evalO, ofConst, binF, intF, idxN_nat, Nat.reduceEqDiff, Nat.reduceAdd, Option.map_some, Option.bind_some, List.getElem?_toArray, List.getElem?_cons_zero, List.getElem?_cons_succ, Nat.succ_ne_zero, true_and, exists_and_left, if_true, if_false, decide_true, decide_false, Bool.false_eq_true, beq_self_eq_true, List.length_cons, List.length_nil, callB, List.zip_cons_cons, List.zip_nil_right, List.map_cons, List.map_nil, List.size_toArray, partF, TI.agg, Nat.reduceLeDiff, List.take_zero, List.drop_zero, List.drop_succ_cons, List.take_succ_cons, W_regionD, xrE, T3, T23, T25, T89, f1, f3, f7, grpR_length, ci, ga, c1, c2, c3, hw, s0, Coll.cells]
      exact ⟨c.grps.length - (i + 1), by omega, i + 1, rfl, by omega, take_all ia hall (by simp [rangeBad, c1, c2, c3]), rfl⟩
  · have hil : c.grps.take i = c.grps := List.take_of_length_le (by omega)
    rw [hil] at hall
    simp only [W_region, W_seq, W_cond, W_block, W_exit, OpsW_nil, OpsW_op, OpsW_guard, upd_some, Br_W2, opF, evalT, evalO, ofConst, binF, intF, Nat.reduceEqDiff, Nat.reduceAdd, Option.map_some, Option.bind_some, List.getElem?_toArray, List.getElem?_cons_zero, List.getElem?_cons_succ, Nat.succ_ne_zero, exists_and_left, if_true, if_false, decide_false, List.length_cons, List.length_nil, callB, List.zip_cons_cons, List.zip_nil_right, List.map_cons, List.map_nil, List.size_toArray, partF, TI.agg, List.drop_zero, W_regionD, xrE, T3, T23, T89, f3, f7, grpR_length, ci]
    exact refGroups4 c hl h6 h5 (any_not hall) _ _ (by simp [upd, f3])

set_option maxHeartbeats 8000000 in
theorem refGroups2 (c : Coll) (hl : c.grps.length < 9223372036854775808) (h6 : c.grps.any (fun g => !nameOk g.name) = false) (fr : Fr) (st : Store) (f1 : fr 1 = .optr 0 5 0) (f3 : fr 3 = .sl 3 (grpR c.grps) (tk c.b)) (s0 : st[0]? = some (.cells c.cells)) :
    W EE 100 (part [true, true, true] (code Go.Proofs.Tryz.f38)) fr st (EndW EE [.tmp 2] fun p st1 => ∃ n, pub st1 n p = some (.int .i64 (grpErr c.base c.grps))) := by
  have e1 : part [true, true, true] (code Go.Proofs.Tryz.f38) = part [true, true, true] (code Go.Proofs.Tryz.f38) := rfl
  conv at e1 => rhs; simp only [part, code, Go.Proofs.Tryz.f38, Option.getD_some]
  rw [e1]
  clear e1
  have e1 : part [true, true, true, true] (code Go.Proofs.Tryz.f38) = part [true, true, true, true] (code Go.Proofs.Tryz.f38) := rfl
  conv at e1 => rhs; simp only [part, code, Go.Proofs.Tryz.f38, Option.getD_some]
  rw [← e1]
  clear e1
  simp only [W_region, W_seq, W_block, OpsW_nil, OpsW_op, opF, evalT, evalO, ofConst]
  refine W_loop (fun n fr st => ∃ (i : Nat), fr 1 = .optr 0 5 0 ∧ fr 3 = .sl 3 (grpR c.grps) (tk c.b) ∧ fr 5 = .int .i64 i ∧ st[0]? = some (.cells c.cells) ∧ i ≤ c.grps.length ∧ dup ((names c.grps).take i) = false ∧ n = c.grps.length - i) ?_ c.grps.length _ _
    ⟨0, by simp [upd, f1], by simp [upd, f3], by simp [upd], s0, by omega, by simp [dup], by omega⟩
  clear f1 f3 s0
  rintro n fr st ⟨i, f1, f3, f5, s0, hi, hall, rfl⟩
  by_cases ci : (i : Int) < (c.grps.length : Int)
  · have ia : i < c.grps.length := by omega
    have ga := grpR_get c.grps i ia
    have hw : IntKind.i64.wrap ((i : Int) + 1) = ((i + 1 : Nat) : Int) := by rw [wrap_small (by omega) (by omega)]; rfl
    have hnt : (names c.grps).take (i + 1) = (names c.grps).take i ++ [c.grps[i].name] := by
      rw [List.take_succ_eq_append_getElem (by simp [names]; exact ia)]
      simp [names]
    have hdup : dup ((names c.grps).take (i + 1)) = (dup ((names c.grps).take i) || ((names c.grps).take i).contains c.grps[i].name) := by rw [hnt, dup_app]
    simp only [W_skip, W_region, W_seq, W_cond, W_block, OpsW_nil, OpsW_op, upd_some, Br_W1, opF, evalT, evalO, ofConst, binF, intF, Nat.reduceEqDiff, Nat.reduceAdd, Option.map_some, exists_and_left, if_true, if_false, decide_true, List.length_cons, List.length_nil, callB, List.zip_cons_cons, List.zip_nil_right, List.map_cons, List.map_nil, List.size_toArray, T23, f3, f5, grpR_length, ci]
    refine W_loop (fun n fr st => ∃ (k : Nat), fr 1 = .optr 0 5 0 ∧ fr 3 = .sl 3 (grpR c.grps) (tk c.b) ∧ fr 5 = .int .i64 i ∧ fr 6 = .int .i64 k ∧ st[0]? = some (.cells c.cells) ∧ k ≤ i ∧ (∀ s ∈ (names c.grps).take k, s ≠ c.grps[i].name) ∧ n = i - k) ?_ i _ _
      ⟨0, by simp [upd, f1], by simp [upd, f3], by simp [upd, f5], by simp [upd], s0, by omega, by simp, by omega⟩
    clear f1 f3 f5 s0
    rintro n fr st ⟨k, f1, f3, f5, f6, s0, hk, hne, rfl⟩
    by_cases ck : (k : Int) < (i : Int)
    · have ka : k < c.grps.length := by omega
      have gk := grpR_get c.grps k ka
      have hwk : IntKind.i64.wrap ((k : Int) + 1) = ((k + 1 : Nat) : Int) := by rw [wrap_small (by omega) (by omega)]; rfl
      have hnk : (names c.grps)[k]'(by simp [names]; exact ka) = c.grps[k].name := by simp [names]
      by_cases e : c.grps[k].name = c.grps[i].name
      · have e' : strF .eql c.grps[k].name c.grps[i].name = some (.bool true) := by unfold strF; simp [e]
        simp only [W_skip, W_region, W_seq, W_cond, W_block, W_ret, OpsW_nil, OpsW_op, upd_some, Br_W1, opF, evalT, evalO, ofConst, binF, intF, idxN_nat, reduceCtorEq, Nat.reduceEqDiff, Nat.reduceAdd, Option.map_some, Option.some.injEq, List.getElem?_cons_zero, Nat.succ_ne_zero, true_and, or_true, or_false, exists_eq_left', exists_and_left, if_true, if_false, decide_true, Bool.false_eq_true, ne_eq, List.length_cons, List.length_nil, partF, TI.agg, Nat.reduceLeDiff, List.take_zero, List.drop_zero, List.take_succ_cons, W_regionD, xrE, T9, T23, T89, f3, f5, f6, ck, ga, gk, e', resF, resAll, resOne, EndW]
        refine ⟨1, ?_⟩
        have : dup (names c.grps) = true := by
          have hc : ((names c.grps).take i).contains c.grps[i].name = true := by
            rw [← e, ← hnk]
            simp only [List.contains_eq_mem, decide_eq_true_eq]
            rw [List.mem_take_iff_getElem]
            exact ⟨k, by simp [names]; omega, rfl⟩
          have h2 : dup ((names c.grps).take (i + 1)) = true := by rw [hdup, hc]; simp
          have := dup_more _ ((names c.grps).drop (i + 1)) h2
          rwa [List.take_append_drop] at this
        rw [pub_int, grpErr, h6, this]; rfl
      · have e' : strF .eql c.grps[k].name c.grps[i].name = some (.bool false) := by unfold strF; simp [e]
        simp only [W_skip, W_region, W_seq, W_cond, W_block, OpsW_nil, OpsW_op, upd_some, Br_W1, Br_W2, opF, evalT, evalO, ofConst, binF, intF, idxN_nat, Nat.reduceEqDiff, Nat.reduceAdd, Option.map_some, List.getElem?_cons_zero, Nat.succ_ne_zero, true_and, exists_and_left, if_true, if_false, decide_true, Bool.false_eq_true, ne_eq, List.length_cons, List.length_nil, partF, TI.agg, Nat.reduceLeDiff, List.take_zero, List.drop_zero, List.take_succ_cons, W_regionD, xrE, T9, T23, T89, f1, f3, f5, f6, ck, ga, gk, e', hwk]
        exact ⟨i - (k + 1), by omega, k + 1, rfl, s0, by omega, take_all (by simp [names]; exact ka) hne (by rw [hnk]; exact e), rfl⟩
    · have hki : k = i := by omega
      subst hki
      have hc : ((names c.grps).take k).contains c.grps[k].name = false := by
        rw [← Bool.not_eq_true]
        intro q
        simp only [List.contains_eq_mem, decide_eq_true_eq] at q
        exact hne _ q rfl
      simp only [W_region, W_seq, W_cond, W_block, W_exit, OpsW_nil, OpsW_op, upd_some, Br_W2, opF, evalT, evalO, ofConst, binF, intF, Nat.reduceEqDiff, Option.map_some, List.getElem?_cons_zero, Nat.succ_ne_zero, true_and, exists_and_left, if_true, if_false, decide_false, ne_eq, partF, TI.agg, List.drop_zero, W_regionD, xrE, T9, T23, T89, f1, f3, f5, f6, ck, hw]
      exact ⟨c.grps.length - (k + 1), by omega, k + 1, rfl, s0, by omega, by rw [hdup, hall, hc]; rfl, rfl⟩
  · have hil : (names c.grps).take i = names c.grps := List.take_of_length_le (by simp [names]; omega)
    rw [hil] at hall
    simp only [W_region, W_seq, W_cond, W_block, W_exit, OpsW_nil, OpsW_op, upd_some, Br_W2, opF, evalT, evalO, ofConst, binF, intF, Nat.reduceEqDiff, Nat.reduceAdd, Option.map_some, exists_and_left, if_true, if_false, decide_false, List.length_cons, List.length_nil, callB, List.zip_cons_cons, List.zip_nil_right, List.map_cons, List.map_nil, List.size_toArray, T23, f3, f5, grpR_length, ci]
    exact refGroups3 c hl h6 hall _ _ (by simp [upd, f1]) (by simp [upd, f3]) s0

set_option maxHeartbeats 8000000 in
theorem refGroups_plain (c : Coll) (hl : c.grps.length < 9223372036854775808) (hs : ∀ g ∈ c.grps, g.name.length < 9223372036854775808) : Plain EE 38 [.agg c.cells] (.int .i64 (grpErr c.base c.grps)) := by
  refine plain_of_W ok ok38 (by simp) ?_
  unfold BodyW
  have e0 : code Go.Proofs.Tryz.f38 = code Go.Proofs.Tryz.f38 := rfl
  conv at e0 => rhs; simp only [code, Go.Proofs.Tryz.f38, Option.getD_some]
  rw [e0]
  clear e0
  have e1 : part [true, true, true] (code Go.Proofs.Tryz.f38) = part [true, true, true] (code Go.Proofs.Tryz.f38) := rfl
  conv at e1 => rhs; simp only [part, code, Go.Proofs.Tryz.f38, Option.getD_some]
  rw [← e1]
  clear e1
  simp only [W_region, W_seq, W_block, OpsW_nil, OpsW_op, upd_some, opF, evalT, evalO, ofConst, argFr, reduceCtorEq, Nat.reduceEqDiff, Nat.reduceAdd, Option.getD_some, Option.getD_none, Option.map_some, List.getElem?_cons_zero, List.getElem?_cons_succ, List.getElem?_nil, Nat.succ_ne_zero, and_self, or_false, if_true, if_false, Bool.false_eq_true, List.length_cons, List.length_nil, partF, TI.agg, scal, isAgg, cellsOf, Bool.or_true, Nat.reduceLeDiff, List.take_zero, List.drop_zero, List.drop_succ_cons, List.take_succ_cons, List.nil_append, T23, T25, Coll.cells]
  refine W_loop (fun n fr st => ∃ (i : Nat), fr 1 = .optr 0 5 0 ∧ fr 3 = .sl 3 (grpR c.grps) (tk c.b) ∧ fr 4 = .int .i64 i ∧ st[0]? = some (.cells c.cells) ∧ i ≤ c.grps.length ∧ (∀ g ∈ c.grps.take i, (!nameOk g.name) = false) ∧ n = c.grps.length - i) ?_ c.grps.length _ _
    ⟨0, by simp [upd], by simp [upd], by simp [upd], rfl, by omega, by simp, by omega⟩
  rintro n fr st ⟨i, f1, f3, f4, s0, hi, hall, rfl⟩
  by_cases ci : (i : Int) < (c.grps.length : Int)
  · have ia : i < c.grps.length := by omega
    have ga := grpR_get c.grps i ia
    have hw : IntKind.i64.wrap ((i : Int) + 1) = ((i + 1 : Nat) : Int) := by rw [wrap_small (by omega) (by omega)]; rfl
    simp only [W_skip, W_region, W_seq, W_cond, W_block, OpsW_nil, OpsW_op, upd_some, Br_W1, opF, evalT, evalO, ofConst, binF, intF, idxN_nat, Nat.reduceEqDiff, Nat.reduceAdd, Option.map_some, List.getElem?_cons_zero, Nat.succ_ne_zero, exists_and_left, if_true, if_false, decide_true, Bool.false_eq_true, List.length_cons, List.length_nil, callB, List.zip_cons_cons, List.zip_nil_right, List.map_cons, List.map_nil, List.size_toArray, partF, TI.agg, Nat.reduceLeDiff, List.take_zero, List.drop_zero, List.take_succ_cons, T9, T23, T89, f3, f4, grpR_length, ci, ga]
    refine OpsW_pl (name_plain c.grps[i].name (hs _ (List.getElem_mem ia))) rfl rfl (by simp only [upd_some, evalT, evalO, ofConst, Nat.reduceEqDiff, if_true, if_false, List.zip_cons_cons, List.zip_nil_right, List.map_cons, List.map_nil, callArgs, strips, strip_str] <;> rfl) ?_
    rcases Bool.eq_false_or_eq_true (nameOk c.grps[i].name) with b | b
    · simp only [W_skip, OpsW_nil, OpsW_op, upd_some, Br_W2, opF, evalO, unF, Nat.reduceEqDiff, Option.map_some, true_and, if_true, if_false, Bool.not_true, f1, f3, f4, b, hw]
      exact ⟨c.grps.length - (i + 1), by omega, i + 1, rfl, s0, by omega, take_all ia hall (by rw [b]; rfl), rfl⟩
    · simp only [W_region, W_seq, W_ret, OpsW_nil, OpsW_op, upd_some, Br_W1, opF, evalT, evalO, ofConst, unF, reduceCtorEq, Nat.reduceEqDiff, Option.map_some, Option.some.injEq, true_and, or_true, exists_eq_left', if_true, if_false, Bool.not_false, b, resF, resAll, resOne]
      refine ⟨1, ?_⟩
      rw [pub_int, grpErr, if_pos]
      rw [List.any_eq_true]
      exact ⟨_, List.getElem_mem ia, by rw [b]; rfl⟩
  · have hil : c.grps.take i = c.grps := List.take_of_length_le (by omega)
    rw [hil] at hall
    simp only [W_region, W_seq, W_cond, W_block, W_exit, OpsW_nil, OpsW_op, upd_some, Br_W2, opF, evalT, evalO, ofConst, binF, intF, Nat.reduceEqDiff, Nat.reduceAdd, Option.map_some, List.getElem?_cons_zero, Nat.succ_ne_zero, exists_and_left, if_true, if_false, decide_false, List.length_cons, List.length_nil, callB, List.zip_cons_cons, List.zip_nil_right, List.map_cons, List.map_nil, List.size_toArray, partF, TI.agg, List.drop_zero, T9, T23, T89, f3, f4, grpR_length, ci]
    exact refGroups2 c hl (any_not hall) _ _ (by simp [upd, f1]) (by simp [upd, f3]) s0
end Go.Pv.Ct
end
section
namespace Go.Pv.Ct
open Go.Pv
set_option maxRecDepth 20000

/-- The error at an entry, its place among the others counted. -/
def errAt (c : Coll) (i : Nat) : Int :=
  match c.ents[i]? with
  | none => 0
  | some x => if entErr c.base x ≠ 0 then entErr c.base x else if decide (i > 0) && (match c.ents[i - 1]? with | some y => decide (cmpL y.codes x.codes ≥ 0) | none => false) then 4 else 0
def errs (c : Coll) : List Int := (List.range c.ents.length).map (errAt c)
theorem errAt_at (c : Coll) (i : Nat) (h : i < c.ents.length) : errAt c i = if entErr c.base c.ents[i] ≠ 0 then entErr c.base c.ents[i] else if decide (i > 0) && (match c.ents[i - 1]? with | some y => decide (cmpL y.codes c.ents[i].codes ≥ 0) | none => false) then 4 else 0 := by
  unfold errAt
  rw [List.getElem?_eq_getElem h]
theorem firstErr_0 {l : List Int} (h : ∀ e ∈ l, e = 0) : firstErr l = 0 := by
  induction l with
  | nil => rfl
  | cons e l ih => rw [firstErr, if_pos (h e (by simp))]; exact ih fun x hx => h x (by simp [hx])
theorem firstErr_at : ∀ {l : List Int} {i : Nat} (h : i < l.length), (∀ e ∈ l.take i, e = 0) → l[i] ≠ 0 → firstErr l = l[i]
  | e :: l, 0, h, _, hn => by
    have hn' : e ≠ 0 := hn
    rw [firstErr, if_neg hn']; rfl
  | e :: l, i + 1, h, ha, hn => by
    rw [firstErr, if_pos (ha e (by simp))]
    exact firstErr_at (by simpa using h) (fun x hx => ha x (by simp [hx])) hn

set_option maxHeartbeats 8000000 in
theorem refEntry4 (c : Coll) (i : Nat) (ia : i < c.ents.length) (hi : i < 9223372036854775808) (hl : ∀ x ∈ c.ents, x.codes.length < 9223372036854775808) (h0 : entErr c.base c.ents[i] = 0)
    (fr : Fr) (st : Store) (f1 : fr 1 = .int .i64 i) (f2 : fr 2 = .optr 0 5 0) (f5 : fr 5 = .optr 1 2 0) (s0 : st[0]? = some (.cells c.cells)) (s1 : st[1]? = some (.cells c.ents[i].cells)) :
    W EE 92 (part [true, true, true, true, true, true] (code Go.Proofs.Tryz.f39)) fr st (EndW EE [.tmp 4] fun p st1 => ∃ n, pub st1 n p = some (.int .i64 (errAt c i))) := by
  have e1 : part [true, true, true, true, true, true] (code Go.Proofs.Tryz.f39) = part [true, true, true, true, true, true] (code Go.Proofs.Tryz.f39) := rfl
  conv at e1 => rhs; simp only [part, code, Go.Proofs.Tryz.f39, Option.getD_some]
  rw [e1]
  clear e1
  have hn := errAt_at c i ia
  rw [h0] at hn
  simp only [ne_eq, not_true_eq_false, if_false] at hn
  by_cases c1 : (i : Int) > 0
  · have c1' : decide (i > 0) = true := by simp; omega
    have ip : i - 1 < c.ents.length := by omega
    have gp := entR_get c.ents (i - 1) ip
    have hw : IntKind.i64.wrap ((i : Int) - 1) = ((i - 1 : Nat) : Int) := by rw [wrap_small (by omega) (by omega)]; omega
    rw [c1', List.getElem?_eq_getElem ip] at hn
    simp only [W_region, W_seq, W_cond, W_ret, OpsW_nil, OpsW_op, OpsW_guard, upd_some, Br_O1, opF, evalT, evalO, ofConst, binF, intF, idxN_nat, Nat.reduceEqDiff, Nat.reduceAdd, Option.map_some, Option.bind_some, List.getElem?_toArray, List.getElem?_cons_zero, List.getElem?_cons_succ, Nat.succ_ne_zero, if_true, if_false, decide_true, Bool.false_eq_true, beq_self_eq_true, List.length_cons, List.length_nil, partF, TI.agg, Nat.reduceLeDiff, List.take_zero, List.drop_zero, List.take_succ_cons, W_regionD, xrE, T22, T25, T37, T54, f1, f2, f5, s0, s1, Coll.cells, Entry.cells, c1, hw, gp]
    refine OpsW_pl (compare_plain c.ents[i - 1].codes c.ents[i].codes _ _ (hl _ (List.getElem_mem ip))) rfl rfl (by simp only [upd_some, evalT, evalO, ofConst, Nat.reduceEqDiff, Option.some.injEq, if_true, if_false, List.zip_cons_cons, List.zip_nil_right, List.map_cons, List.map_nil, callArgs, strips, strip_sl] <;> rfl) ?_
    by_cases c2 : cmpL c.ents[i - 1].codes c.ents[i].codes ≥ 0
    · have c2' : decide (cmpL c.ents[i - 1].codes c.ents[i].codes ≥ 0) = true := by simp [c2]
      simp only [W_region, W_seq, W_ret, OpsW_nil, OpsW_op, OpsW_guard, upd_some, Br_W1, Br_O1, opF, evalT, evalO, ofConst, binF, intF, reduceCtorEq, Nat.reduceEqDiff, Option.map_some, Option.bind_some, Option.some.injEq, List.getElem?_toArray, List.getElem?_cons_zero, List.getElem?_cons_succ, true_and, or_true, exists_eq_left', if_true, if_false, decide_true, beq_self_eq_true, c2, resF, resAll, resOne, EndW]
      exact ⟨1, by rw [pub_int, hn]; simp only [c2']; rfl⟩
    · have c2' : decide (cmpL c.ents[i - 1].codes c.ents[i].codes ≥ 0) = false := by simp [c2]
      simp only [W_skip, OpsW_nil, OpsW_op, OpsW_guard, upd_some, Br_W2, Br_O1, opF, evalO, ofConst, binF, intF, reduceCtorEq, Nat.reduceEqDiff, Option.map_some, Option.bind_some, Option.some.injEq, List.getElem?_toArray, List.getElem?_cons_zero, List.getElem?_cons_succ, true_and, or_true, exists_eq_left', if_true, if_false, decide_false, beq_self_eq_true, c2, resF, resAll, resOne, EndW]
      exact ⟨1, by rw [pub_int, hn]; simp only [c2']; rfl⟩
  · have c1' : decide (i > 0) = false := by simp; omega
    simp only [W_skip, W_region, W_seq, W_cond, W_ret, OpsW_nil, OpsW_op, OpsW_guard, upd_some, Br_W2, Br_O2, opF, evalT, evalO, ofConst, binF, intF, reduceCtorEq, Nat.reduceEqDiff, Option.map_some, Option.bind_some, Option.some.injEq, List.getElem?_toArray, List.getElem?_cons_zero, List.getElem?_cons_succ, true_and, or_true, exists_eq_left', if_true, if_false, decide_false, Bool.false_eq_true, Bool.false_beq, Bool.not_true, W_regionD, xrE, f1, c1, resF, resAll, resOne, EndW]
    exact ⟨1, by rw [pub_int, hn, c1']; rfl⟩

set_option maxHeartbeats 8000000 in
theorem refEntry3 (c : Coll) (i : Nat) (ia : i < c.ents.length) (hi : i < 9223372036854775808) (hl : ∀ x ∈ c.ents, x.codes.length < 9223372036854775808) (hl2 : c.ents[i].els.length < 9223372036854775808)
    (h0 : entErr c.base c.ents[i] = if c.ents[i].els.any (fun e => decide (e.p ≥ c.base)) then 1 else 0)
    (fr : Fr) (st : Store) (f1 : fr 1 = .int .i64 i) (f2 : fr 2 = .optr 0 5 0) (f5 : fr 5 = .optr 1 2 0) (s0 : st[0]? = some (.cells c.cells)) (s1 : st[1]? = some (.cells c.ents[i].cells)) :
    W EE 92 (part [true, true, true, true, true] (code Go.Proofs.Tryz.f39)) fr st (EndW EE [.tmp 4] fun p st1 => ∃ n, pub st1 n p = some (.int .i64 (errAt c i))) := by
  have e1 : part [true, true, true, true, true] (code Go.Proofs.Tryz.f39) = part [true, true, true, true, true] (code Go.Proofs.Tryz.f39) := rfl
  conv at e1 => rhs; simp only [part, code, Go.Proofs.Tryz.f39, Option.getD_some]
  rw [e1]
  clear e1
  have e1 : part [true, true, true, true, true, true] (code Go.Proofs.Tryz.f39) = part [true, true, true, true, true, true] (code Go.Proofs.Tryz.f39) := rfl
  conv at e1 => rhs; simp only [part, code, Go.Proofs.Tryz.f39, Option.getD_some]
  rw [← e1]
  clear e1
  have hn := errAt_at c i ia
  simp only [W_region, W_seq, W_block, OpsW_nil, OpsW_op, opF, evalT, evalO, ofConst]
  refine W_loop (fun n fr st => ∃ (k : Nat), fr 1 = .int .i64 i ∧ fr 2 = .optr 0 5 0 ∧ fr 5 = .optr 1 2 0 ∧ fr 9 = .int .i64 k ∧ st[0]? = some (.cells c.cells) ∧ st[1]? = some (.cells c.ents[i].cells) ∧ k ≤ c.ents[i].els.length ∧ (∀ e ∈ c.ents[i].els.take k, decide (e.p ≥ c.base) = false) ∧ n = c.ents[i].els.length - k) ?_ c.ents[i].els.length _ _
    ⟨0, by simp [upd, f1], by simp [upd, f2], by simp [upd, f5], by simp [upd], s0, s1, by omega, by simp, by omega⟩
  clear f1 f2 f5 s0 s1
  rintro n fr st ⟨k, f1, f2, f5, f9, s0, s1, hk, hall, rfl⟩
  by_cases ck : (k : Int) < (c.ents[i].els.length : Int)
  · have ka : k < c.ents[i].els.length := by omega
    have gk := elR_get c.ents[i].els k ka
    have hw : IntKind.i64.wrap ((k : Int) + 1) = ((k + 1 : Nat) : Int) := by rw [wrap_small (by omega) (by omega)]; rfl
    by_cases c1 : c.ents[i].els[k].p ≥ c.base
    · simp only [W_skip, W_region, W_seq, W_cond, W_block, W_ret, OpsW_nil, OpsW_op, upd_some, Br_W1, opF, evalT, evalO, ofConst, binF, intF, idxN_nat, reduceCtorEq, Nat.reduceEqDiff, Nat.reduceAdd, Option.map_some, Option.some.injEq, List.getElem?_cons_zero, List.getElem?_cons_succ, Nat.succ_ne_zero, true_and, or_true, or_false, exists_eq_left', exists_and_left, if_true, if_false, decide_true, Bool.false_eq_true, List.length_cons, List.length_nil, decide_eq_false_iff_not, callB, List.zip_cons_cons, List.zip_nil_right, List.map_cons, List.map_nil, List.size_toArray, partF, TI.agg, Nat.reduceLeDiff, List.take_zero, List.drop_zero, List.drop_succ_cons, List.take_succ_cons, W_regionD, xrE, T3, T25, T41, T54, T68, f2, f5, f9, s0, s1, Coll.cells, Entry.cells, elR_length, ck, gk, c1, resF, resAll, resOne, EndW]
      refine ⟨1, ?_⟩
      have h1 : entErr c.base c.ents[i] = 1 := by
        rw [h0, if_pos]
        rw [List.any_eq_true]
        exact ⟨_, List.getElem_mem ka, by simp [c1]⟩
      rw [pub_int, hn, h1]; rfl
    · simp only [W_skip, W_region, W_seq, W_cond, W_block, OpsW_nil, OpsW_op, upd_some, Br_W1, Br_W2, opF, evalT, evalO, ofConst, binF, intF, idxN_nat, Nat.reduceEqDiff, Nat.reduceAdd, Option.map_some, List.getElem?_cons_zero, List.getElem?_cons_succ, Nat.succ_ne_zero, true_and, exists_and_left, if_true, if_false, decide_true, decide_false, Bool.false_eq_true, List.length_cons, List.length_nil, decide_eq_false_iff_not, callB, List.zip_cons_cons, List.zip_nil_right, List.map_cons, List.map_nil, List.size_toArray, partF, TI.agg, Nat.reduceLeDiff, List.take_zero, List.drop_zero, List.drop_succ_cons, List.take_succ_cons, W_regionD, xrE, T3, T25, T41, T54, T68, f1, f2, f5, f9, s0, s1, Coll.cells, Entry.cells, elR_length, ck, gk, c1, hw]
      exact ⟨c.ents[i].els.length - (k + 1), by omega, k + 1, rfl, by omega, fun g hg => by simpa using take_all (p := fun e => decide (e.p ≥ c.base) = false) ka hall (by simp [c1]) g hg, rfl⟩
  · have hil : c.ents[i].els.take k = c.ents[i].els := List.take_of_length_le (by omega)
    rw [hil] at hall
    have h1 : entErr c.base c.ents[i] = 0 := by rw [h0, any_not hall]; rfl
    simp only [W_region, W_seq, W_cond, W_block, W_exit, OpsW_nil, OpsW_op, upd_some, Br_W2, opF, evalT, evalO, ofConst, binF, intF, Nat.reduceEqDiff, Nat.reduceAdd, Option.map_some, List.getElem?_cons_zero, List.getElem?_cons_succ, Nat.succ_ne_zero, exists_and_left, if_true, if_false, decide_false, Bool.false_eq_true, List.length_cons, List.length_nil, decide_eq_false_iff_not, callB, List.zip_cons_cons, List.zip_nil_right, List.map_cons, List.map_nil, List.size_toArray, partF, TI.agg, Nat.reduceLeDiff, List.take_zero, List.drop_zero, List.drop_succ_cons, List.take_succ_cons, W_regionD, xrE, T3, T25, T41, T54, T68, f5, f9, s1, Coll.cells, Entry.cells, elR_length, ck]
    exact refEntry4 c i ia hi hl h1 _ _ (by simp [upd, f1]) (by simp [upd, f2]) (by simp [upd, f5]) s0 s1

set_option maxHeartbeats 8000000 in
theorem refEntry2 (c : Coll) (i : Nat) (ia : i < c.ents.length) (hi : i < 9223372036854775808) (hl : ∀ x ∈ c.ents, x.codes.length < 9223372036854775808) (hl2 : c.ents[i].els.length < 9223372036854775808)
    (h0 : entErr c.base c.ents[i] = if firstErr (c.ents[i].els.map elErr) ≠ 0 then firstErr (c.ents[i].els.map elErr) else if c.ents[i].els.any (fun e => decide (e.p ≥ c.base)) then 1 else 0)
    (fr : Fr) (st : Store) (f1 : fr 1 = .int .i64 i) (f2 : fr 2 = .optr 0 5 0) (f5 : fr 5 = .optr 1 2 0) (s0 : st[0]? = some (.cells c.cells)) (s1 : st[1]? = some (.cells c.ents[i].cells)) :
    W EE 92 (part [true, true, true, true] (code Go.Proofs.Tryz.f39)) fr st (EndW EE [.tmp 4] fun p st1 => ∃ n, pub st1 n p = some (.int .i64 (errAt c i))) := by
  have e1 : part [true, true, true, true] (code Go.Proofs.Tryz.f39) = part [true, true, true, true] (code Go.Proofs.Tryz.f39) := rfl
  conv at e1 => rhs; simp only [part, code, Go.Proofs.Tryz.f39, Option.getD_some]
  rw [e1]
  clear e1
  have e1 : part [true, true, true, true, true] (code Go.Proofs.Tryz.f39) = part [true, true, true, true, true] (code Go.Proofs.Tryz.f39) := rfl
  conv at e1 => rhs; simp only [part, code, Go.Proofs.Tryz.f39, Option.getD_some]
  rw [← e1]
  clear e1
  have hn := errAt_at c i ia
  simp only [W_region, W_seq, W_block, OpsW_nil, OpsW_op, opF, evalT, evalO, ofConst]
  refine W_loop (fun n fr st => ∃ (k : Nat), fr 1 = .int .i64 i ∧ fr 2 = .optr 0 5 0 ∧ fr 5 = .optr 1 2 0 ∧ fr 7 = .int .i64 k ∧ st[0]? = some (.cells c.cells) ∧ st[1]? = some (.cells c.ents[i].cells) ∧ k ≤ c.ents[i].els.length ∧ firstErr (c.ents[i].els.map elErr) = firstErr ((c.ents[i].els.map elErr).drop k) ∧ n = c.ents[i].els.length - k) ?_ c.ents[i].els.length _ _
    ⟨0, by simp [upd, f1], by simp [upd, f2], by simp [upd, f5], by simp [upd], s0, s1, by omega, by simp, by omega⟩
  clear f1 f2 f5 s0 s1
  rintro n fr st ⟨k, f1, f2, f5, f7, s0, s1, hk, hc, rfl⟩
  by_cases ck : (k : Int) < (c.ents[i].els.length : Int)
  · have ka : k < c.ents[i].els.length := by omega
    have gk := elR_get c.ents[i].els k ka
    have hw : IntKind.i64.wrap ((k : Int) + 1) = ((k + 1 : Nat) : Int) := by rw [wrap_small (by omega) (by omega)]; rfl
    have hd := firstErr_drop (l := c.ents[i].els.map elErr) (i := k) (by simp; omega)
    simp only [List.getElem_map] at hd
    simp only [W_skip, W_region, W_seq, W_cond, W_block, OpsW_nil, OpsW_op, upd_some, Br_W1, opF, evalT, evalO, ofConst, binF, intF, idxN_nat, Nat.reduceEqDiff, Nat.reduceAdd, Option.map_some, List.getElem?_cons_zero, List.getElem?_cons_succ, Nat.succ_ne_zero, exists_and_left, if_true, if_false, decide_true, Bool.false_eq_true, List.length_cons, List.length_nil, callB, List.zip_cons_cons, List.zip_nil_right, List.map_cons, List.map_nil, List.size_toArray, partF, TI.agg, Nat.reduceLeDiff, List.take_zero, List.drop_zero, List.drop_succ_cons, List.take_succ_cons, T41, T54, T68, f5, f7, s1, Coll.cells, Entry.cells, elR_length, ck, gk]
    refine OpsW_pl (elCheck42_plain c.ents[i].els[k]) rfl rfl (by simp only [upd_some, evalT, evalO, ofConst, Nat.reduceEqDiff, if_true, if_false, List.zip_cons_cons, List.zip_nil_right, List.map_cons, List.map_nil, callArgs, strips] <;> exact congrArg (fun q => some [q]) (Option.some.inj (strip_elem c.ents[i].els[k]))) ?_
    by_cases e0 : elErr c.ents[i].els[k] = 0
    · have e0' : (elErr c.ents[i].els[k] != 0) = false := by simp [e0]
      simp only [W_skip, OpsW_nil, OpsW_op, upd_some, Br_W2, opF, evalT, evalO, Nat.reduceEqDiff, Option.map_some, true_and, if_true, if_false, f1, f2, f5, f7, e0', hw]
      exact ⟨c.ents[i].els.length - (k + 1), by omega, k + 1, rfl, s0, s1, by omega, by rw [hc, hd, if_pos e0], rfl⟩
    · have e0' : (elErr c.ents[i].els[k] != 0) = true := by simp [e0]
      rw [if_neg e0] at hd
      simp only [W_region, W_seq, W_ret, OpsW_nil, OpsW_op, upd_some, Br_W1, opF, evalT, evalO, reduceCtorEq, Nat.reduceEqDiff, Option.map_some, Option.some.injEq, true_and, or_true, or_false, exists_eq_left', if_true, if_false, e0', resF, resAll, resOne, EndW]
      refine ⟨1, ?_⟩
      rw [pub_int, hn, h0, hc, hd, if_pos e0, if_pos e0]
  · have hnil : (c.ents[i].els.map elErr).drop k = [] := List.drop_eq_nil_of_le (by simp; omega)
    rw [hnil] at hc
    have hc' : firstErr (c.ents[i].els.map elErr) = 0 := hc
    rw [hc'] at h0
    simp only [ne_eq, not_true_eq_false, if_false] at h0
    simp only [W_region, W_seq, W_cond, W_block, W_exit, OpsW_nil, OpsW_op, upd_some, Br_W2, opF, evalT, evalO, ofConst, binF, intF, Nat.reduceEqDiff, Nat.reduceAdd, Option.map_some, List.getElem?_cons_zero, List.getElem?_cons_succ, Nat.succ_ne_zero, exists_and_left, if_true, if_false, decide_false, Bool.false_eq_true, List.length_cons, List.length_nil, callB, List.zip_cons_cons, List.zip_nil_right, List.map_cons, List.map_nil, List.size_toArray, partF, TI.agg, Nat.reduceLeDiff, List.take_zero, List.drop_zero, List.drop_succ_cons, List.take_succ_cons, T41, T54, T68, f5, f7, s1, Coll.cells, Entry.cells, elR_length, ck]
    exact refEntry3 c i ia hi hl hl2 h0 _ _ (by simp [upd, f1]) (by simp [upd, f2]) (by simp [upd, f5]) s0 s1

set_option maxHeartbeats 8000000 in
theorem refEntry1 (c : Coll) (i : Nat) (ia : i < c.ents.length) (hi : i < 9223372036854775808) (hl : ∀ x ∈ c.ents, x.codes.length < 9223372036854775808) (hl2 : c.ents[i].els.length < 9223372036854775808)
    (h0 : entErr c.base c.ents[i] = if c.ents[i].codes.any (fun n => !validC n) then 1 else if firstErr (c.ents[i].els.map elErr) ≠ 0 then firstErr (c.ents[i].els.map elErr) else if c.ents[i].els.any (fun e => decide (e.p ≥ c.base)) then 1 else 0)
    (fr : Fr) (st : Store) (f1 : fr 1 = .int .i64 i) (f2 : fr 2 = .optr 0 5 0) (f5 : fr 5 = .optr 1 2 0) (s0 : st[0]? = some (.cells c.cells)) (s1 : st[1]? = some (.cells c.ents[i].cells)) :
    W EE 92 (part [true, true, true] (code Go.Proofs.Tryz.f39)) fr st (EndW EE [.tmp 4] fun p st1 => ∃ n, pub st1 n p = some (.int .i64 (errAt c i))) := by
  have e1 : part [true, true, true] (code Go.Proofs.Tryz.f39) = part [true, true, true] (code Go.Proofs.Tryz.f39) := rfl
  conv at e1 => rhs; simp only [part, code, Go.Proofs.Tryz.f39, Option.getD_some]
  rw [e1]
  clear e1
  have e1 : part [true, true, true, true] (code Go.Proofs.Tryz.f39) = part [true, true, true, true] (code Go.Proofs.Tryz.f39) := rfl
  conv at e1 => rhs; simp only [part, code, Go.Proofs.Tryz.f39, Option.getD_some]
  rw [← e1]
  clear e1
  have hn := errAt_at c i ia
  have hlc := hl _ (List.getElem_mem ia)
  simp only [W_region, W_seq, W_block, OpsW_nil, OpsW_op, opF, evalT, evalO, ofConst]
  refine W_loop (fun n fr st => ∃ (k : Nat), fr 1 = .int .i64 i ∧ fr 2 = .optr 0 5 0 ∧ fr 5 = .optr 1 2 0 ∧ fr 6 = .int .i64 k ∧ st[0]? = some (.cells c.cells) ∧ st[1]? = some (.cells c.ents[i].cells) ∧ k ≤ c.ents[i].codes.length ∧ (∀ e ∈ c.ents[i].codes.take k, (!validC e) = false) ∧ n = c.ents[i].codes.length - k) ?_ c.ents[i].codes.length _ _
    ⟨0, by simp [upd, f1], by simp [upd, f2], by simp [upd, f5], by simp [upd], s0, s1, by omega, by simp, by omega⟩
  clear f1 f2 f5 s0 s1
  rintro n fr st ⟨k, f1, f2, f5, f6, s0, s1, hk, hall, rfl⟩
  by_cases ck : (k : Int) < (c.ents[i].codes.length : Int)
  · have ka : k < c.ents[i].codes.length := by omega
    have gk := ints_get c.ents[i].codes k ka
    have hw : IntKind.i64.wrap ((k : Int) + 1) = ((k + 1 : Nat) : Int) := by rw [wrap_small (by omega) (by omega)]; rfl
    simp only [W_skip, W_region, W_seq, W_cond, W_block, OpsW_nil, OpsW_op, upd_some, Br_W1, opF, evalT, evalO, ofConst, binF, intF, idxN_nat, Nat.reduceEqDiff, Nat.reduceAdd, Option.map_some, List.getElem?_cons_zero, Nat.succ_ne_zero, exists_and_left, if_true, if_false, decide_true, Bool.false_eq_true, List.length_cons, List.length_nil, callB, List.zip_cons_cons, List.zip_nil_right, List.map_cons, List.map_nil, List.size_toArray, partF, TI.agg, Nat.reduceLeDiff, List.take_zero, List.drop_zero, List.take_succ_cons, T3, T37, T54, f5, f6, s1, Coll.cells, Entry.cells, ints_length, ck, gk]
    refine OpsW_pl (valid01_plain c.ents[i].codes[k]) rfl rfl (by simp only [upd_some, evalT, evalO, ofConst, Nat.reduceEqDiff, if_true, if_false, List.zip_cons_cons, List.zip_nil_right, List.map_cons, List.map_nil, callArgs, strips, strip_int] <;> rfl) ?_
    rcases Bool.eq_false_or_eq_true (validC c.ents[i].codes[k]) with b | b
    · simp only [W_skip, OpsW_nil, OpsW_op, upd_some, Br_W2, opF, evalO, unF, Nat.reduceEqDiff, Option.map_some, true_and, if_true, if_false, Bool.not_true, f1, f2, f5, f6, b, hw]
      exact ⟨c.ents[i].codes.length - (k + 1), by omega, k + 1, rfl, s0, s1, by omega, take_all ka hall (by rw [b]; rfl), rfl⟩
    · simp only [W_region, W_seq, W_ret, OpsW_nil, OpsW_op, upd_some, Br_W1, opF, evalT, evalO, ofConst, unF, reduceCtorEq, Nat.reduceEqDiff, Option.map_some, Option.some.injEq, true_and, or_true, or_false, exists_eq_left', if_true, if_false, Bool.not_false, b, resF, resAll, resOne, EndW]
      refine ⟨1, ?_⟩
      have h1 : entErr c.base c.ents[i] = 1 := by
        rw [h0, if_pos]
        rw [List.any_eq_true]
        exact ⟨_, List.getElem_mem ka, by rw [b]; rfl⟩
      rw [pub_int, hn, h1]; rfl
  · have hil : c.ents[i].codes.take k = c.ents[i].codes := List.take_of_length_le (by omega)
    rw [hil] at hall
    rw [any_not hall] at h0
    simp only [Bool.false_eq_true, if_false] at h0
    simp only [W_region, W_seq, W_cond, W_block, W_exit, OpsW_nil, OpsW_op, upd_some, Br_W2, opF, evalT, evalO, ofConst, binF, intF, Nat.reduceEqDiff, Nat.reduceAdd, Option.map_some, List.getElem?_cons_zero, Nat.succ_ne_zero, exists_and_left, if_true, if_false, decide_false, Bool.false_eq_true, List.length_cons, List.length_nil, callB, List.zip_cons_cons, List.zip_nil_right, List.map_cons, List.map_nil, List.size_toArray, partF, TI.agg, Nat.reduceLeDiff, List.take_zero, List.drop_zero, List.take_succ_cons, T3, T37, T54, f5, f6, s1, Coll.cells, Entry.cells, ints_length, ck]
    exact refEntry2 c i ia hi hl hl2 h0 _ _ (by simp [upd, f1]) (by simp [upd, f2]) (by simp [upd, f5]) s0 s1

set_option maxHeartbeats 8000000 in
theorem refEntry_plain (c : Coll) (i : Nat) (ia : i < c.ents.length) (hi : i < 9223372036854775808) (hl : ∀ x ∈ c.ents, x.codes.length < 9223372036854775808) (hl2 : ∀ x ∈ c.ents, x.els.length < 9223372036854775808) :
    Plain EE 39 [.agg c.cells, .int .i64 i] (.int .i64 (errAt c i)) := by
  refine plain_of_W ok ok39 (by simp) ?_
  unfold BodyW
  have e0 : code Go.Proofs.Tryz.f39 = code Go.Proofs.Tryz.f39 := rfl
  conv at e0 => rhs; simp only [code, Go.Proofs.Tryz.f39, Option.getD_some]
  rw [e0]
  clear e0
  have e1 : part [true, true, true] (code Go.Proofs.Tryz.f39) = part [true, true, true] (code Go.Proofs.Tryz.f39) := rfl
  conv at e1 => rhs; simp only [part, code, Go.Proofs.Tryz.f39, Option.getD_some]
  rw [← e1]
  clear e1
  have hn := errAt_at c i ia
  have ga := entR_get c.ents i ia
  have two : (c.ents[i].codes.length < 1 ∨ c.ents[i].codes.length > 8 ∨ c.ents[i].els.length > 16) → errAt c i = 2 := by
    intro h
    have h1 : entErr c.base c.ents[i] = 2 := by rw [entErr, if_pos h]
    rw [hn, h1]; rfl
  by_cases c1 : (c.ents[i].codes.length : Int) < 1
  · simp only [W_region, W_seq, W_cond, W_ret, OpsW_nil, OpsW_op, OpsW_guard, upd_some, upd_none, Br_W1, Br_O2, opF, evalT, evalO, ofConst, argFr, binF, intF, idxN_nat, reduceCtorEq, Nat.reduceEqDiff, Nat.reduceAdd, Option.getD_some, Option.getD_none, Option.map_some, Option.bind_some, Option.some.injEq, List.getElem?_toArray, List.getElem?_cons_zero, List.getElem?_cons_succ, List.getElem?_nil, Nat.succ_ne_zero, and_self, true_and, or_true, exists_eq_left', if_true, if_false, decide_true, Bool.false_eq_true, Bool.true_beq, List.length_cons, List.length_nil, callB, List.zip_cons_cons, List.zip_nil_right, List.map_cons, List.map_nil, List.size_toArray, partF, TI.agg, scal, isAgg, cellsOf, Bool.or_true, Nat.reduceLeDiff, splice, List.take_zero, List.drop_zero, List.drop_succ_cons, List.take_succ_cons, List.nil_append, List.cons_append, List.set_cons_zero, List.set_cons_succ, T22, T25, T37, T54, Coll.cells, ga, ints_length, c1, resF, resAll, resOne]
    exact ⟨1, by rw [pub_int, two (by omega)]⟩
  by_cases c2 : (c.ents[i].codes.length : Int) > 8
  · simp only [W_region, W_seq, W_cond, W_ret, OpsW_nil, OpsW_op, OpsW_guard, upd_some, upd_none, Br_W1, Br_O1, Br_O2, opF, evalT, evalO, ofConst, argFr, binF, intF, idxN_nat, reduceCtorEq, Nat.reduceEqDiff, Nat.reduceAdd, Option.getD_some, Option.getD_none, Option.map_some, Option.bind_some, Option.some.injEq, List.getElem?_toArray, List.getElem?_cons_zero, List.getElem?_cons_succ, List.getElem?_nil, Nat.succ_ne_zero, and_self, true_and, or_true, exists_eq_left', if_true, if_false, decide_true, decide_false, Bool.false_eq_true, beq_self_eq_true, Bool.true_beq, List.length_cons, List.length_nil, callB, List.zip_cons_cons, List.zip_nil_right, List.map_cons, List.map_nil, List.size_toArray, partF, TI.agg, scal, isAgg, cellsOf, Bool.or_true, Nat.reduceLeDiff, splice, List.take_zero, List.drop_zero, List.drop_succ_cons, List.take_succ_cons, List.nil_append, List.cons_append, List.set_cons_zero, List.set_cons_succ, T22, T25, T37, T54, Coll.cells, ga, ints_length, c1, c2, resF, resAll, resOne]
    exact ⟨1, by rw [pub_int, two (by omega)]⟩
  by_cases c3 : (c.ents[i].els.length : Int) > 16
  · simp only [W_region, W_seq, W_cond, W_ret, OpsW_nil, OpsW_op, OpsW_guard, upd_some, upd_none, Br_W1, Br_O1, opF, evalT, evalO, ofConst, argFr, binF, intF, idxN_nat, reduceCtorEq, Nat.reduceEqDiff, Nat.reduceAdd, Option.getD_some, Option.getD_none, Option.map_some, Option.bind_some, Option.some.injEq, List.getElem?_toArray, List.getElem?_cons_zero, List.getElem?_cons_succ, List.getElem?_nil, Nat.succ_ne_zero, and_self, true_and, or_true, exists_eq_left', if_true, if_false, decide_true, decide_false, Bool.false_eq_true, beq_self_eq_true, List.length_cons, List.length_nil, callB, List.zip_cons_cons, List.zip_nil_right, List.map_cons, List.map_nil, List.size_toArray, partF, TI.agg, scal, isAgg, cellsOf, Bool.or_true, Nat.reduceLeDiff, splice, List.take_zero, List.drop_zero, List.drop_succ_cons, List.take_succ_cons, List.nil_append, List.cons_append, List.set_cons_zero, List.set_cons_succ, T22, T25, T37, T41, T54, Coll.cells, ga, ints_length, elR_length, c1, c2, c3, resF, resAll, resOne]
    exact ⟨1, by rw [pub_int, two (by omega)]⟩
  have h0 : entErr c.base c.ents[i] = if c.ents[i].codes.any (fun n => !validC n) then 1 else if firstErr (c.ents[i].els.map elErr) ≠ 0 then firstErr (c.ents[i].els.map elErr) else if c.ents[i].els.any (fun e => decide (e.p ≥ c.base)) then 1 else 0 := by
    rw [entErr, if_neg (by omega)]
  simp only [W_skip, W_region, W_seq, W_cond, OpsW_nil, OpsW_op, OpsW_guard, upd_some, upd_none, Br_W2, Br_O1, opF, evalT, evalO, ofConst, argFr, binF, intF, idxN_nat, Nat.reduceEqDiff, Nat.reduceAdd, Option.getD_some, Option.getD_none, Option.map_some, Option.bind_some, List.getElem?_toArray, List.getElem?_cons_zero, List.getElem?_cons_succ, List.getElem?_nil, Nat.succ_ne_zero, and_self, true_and, if_true, if_false, decide_false, Bool.false_eq_true, beq_self_eq_true, List.length_cons, List.length_nil, callB, List.zip_cons_cons, List.zip_nil_right, List.map_cons, List.map_nil, List.size_toArray, partF, TI.agg, scal, isAgg, cellsOf, Bool.or_true, Nat.reduceLeDiff, splice, List.take_zero, List.drop_zero, List.drop_succ_cons, List.take_succ_cons, List.nil_append, List.cons_append, List.set_cons_zero, List.set_cons_succ, T22, T25, T37, T41, T54, Coll.cells, ga, ints_length, elR_length, c1, c2, c3]
  exact refEntry1 c i ia hi hl (hl2 _ (List.getElem_mem ia)) h0 _ _ (by simp [upd, argFr]) (by simp [upd]) (by simp [upd]) rfl rfl
end Go.Pv.Ct
end
section
namespace Go.Pv.Ct
open Go.Pv
set_option maxRecDepth 20000

theorem strip_coll' (c : Coll) : strip1 (.agg [.sl 2 (entR c.ents) (tk c.a), .sl 3 (grpR c.grps) (tk c.b), .int .i64 c.base, .int .i64 c.second, .int .i64 c.third]) = some (.agg [.sl 2 (entR c.ents) (tk c.a), .sl 3 (grpR c.grps) (tk c.b), .int .i64 c.base, .int .i64 c.second, .int .i64 c.third]) := strip_coll c
theorem strip_entry' (c : Entry) : strip1 (.agg [.sl 1 (ints c.codes) (tk c.a), .sl 4 (elR c.els) (tk c.b)]) = some (.agg [.sl 1 (ints c.codes) (tk c.a), .sl 4 (elR c.els) (tk c.b)]) := strip_entry c
def numBad (c : Coll) : Bool := decide (c.base < 1) || decide (c.base > 65502) || !wOk1 c.second || !wOk1 c.third
/-- The error of a collation. -/
def collErr (c : Coll) : Int := if numBad c then 1 else if grpErr c.base c.grps ≠ 0 then grpErr c.base c.grps else firstErr (errs c)
theorem errs_length (c : Coll) : (errs c).length = c.ents.length := by simp [errs]
theorem errs_drop (c : Coll) (i : Nat) (h : i < c.ents.length) : firstErr ((errs c).drop i) = if errAt c i = 0 then firstErr ((errs c).drop (i + 1)) else errAt c i := by
  rw [firstErr_drop (by rw [errs_length]; exact h)]
  simp [errs]

/-- Lengths that fit. -/
structure Fits (c : Coll) : Prop where
  ents : c.ents.length < 9223372036854775808
  grps : c.grps.length < 9223372036854775808
  names : ∀ g ∈ c.grps, g.name.length < 9223372036854775808
  codes : ∀ x ∈ c.ents, x.codes.length < 9223372036854775808
  els : ∀ x ∈ c.ents, x.els.length < 9223372036854775808

set_option maxHeartbeats 8000000 in
theorem refCheck_plain (c : Coll) (hf : Fits c) : Plain EE 14 [.agg c.cells] (.int .i64 (collErr c)) := by
  refine plain_of_W ok ok14 (by simp) ?_
  unfold BodyW
  have e0 : code Go.Proofs.Tryz.f14 = code Go.Proofs.Tryz.f14 := rfl
  conv at e0 => rhs; simp only [code, Go.Proofs.Tryz.f14, Option.getD_some]
  rw [e0]
  clear e0
  have one : numBad c = true → collErr c = 1 := fun h => by rw [collErr, if_pos h]
  by_cases c1 : c.base < 1
  · simp only [W_region, W_seq, W_cond, W_block, W_ret, OpsW_nil, OpsW_op, OpsW_guard, upd_some, Br_W1, Br_O2, opF, evalT, evalO, ofConst, argFr, binF, intF, reduceCtorEq, Nat.reduceEqDiff, Nat.reduceAdd, Option.getD_some, Option.getD_none, Option.map_some, Option.bind_some, Option.some.injEq, List.getElem?_toArray, List.getElem?_cons_zero, List.getElem?_cons_succ, List.getElem?_nil, Nat.succ_ne_zero, and_self, true_and, or_true, or_false, exists_eq_left', if_true, if_false, decide_true, Bool.false_eq_true, Bool.true_beq, List.length_cons, List.length_nil, partF, TI.agg, scal, isAgg, cellsOf, Bool.or_true, Nat.reduceLeDiff, List.take_zero, List.drop_zero, List.drop_succ_cons, List.take_succ_cons, List.nil_append, T3, T25, Coll.cells, c1, resF, resAll, resOne]
    exact ⟨1, by rw [pub_int, one (by simp [numBad, c1])]⟩
  by_cases c2 : c.base > 65502
  · simp only [W_region, W_seq, W_cond, W_block, W_ret, OpsW_nil, OpsW_op, OpsW_guard, upd_some, Br_W1, Br_O1, Br_O2, opF, evalT, evalO, ofConst, argFr, binF, intF, reduceCtorEq, Nat.reduceEqDiff, Nat.reduceAdd, Option.getD_some, Option.getD_none, Option.map_some, Option.bind_some, Option.some.injEq, List.getElem?_toArray, List.getElem?_cons_zero, List.getElem?_cons_succ, List.getElem?_nil, Nat.succ_ne_zero, and_self, true_and, or_true, or_false, exists_eq_left', if_true, if_false, decide_true, decide_false, Bool.false_eq_true, beq_self_eq_true, Bool.true_beq, List.length_cons, List.length_nil, partF, TI.agg, scal, isAgg, cellsOf, Bool.or_true, Nat.reduceLeDiff, List.take_zero, List.drop_zero, List.drop_succ_cons, List.take_succ_cons, List.nil_append, T3, T25, Coll.cells, c1, c2, resF, resAll, resOne]
    exact ⟨1, by rw [pub_int, one (by simp [numBad, c2])]⟩
  simp only [W_region, W_seq, W_cond, W_block, W_ret, OpsW_nil, OpsW_op, OpsW_guard, upd_some, Br_O1, opF, evalT, evalO, ofConst, argFr, binF, intF, reduceCtorEq, Nat.reduceEqDiff, Nat.reduceAdd, Option.getD_some, Option.getD_none, Option.map_some, Option.bind_some, List.getElem?_toArray, List.getElem?_cons_zero, List.getElem?_cons_succ, List.getElem?_nil, Nat.succ_ne_zero, and_self, true_and, or_true, or_false, if_true, if_false, decide_false, Bool.false_eq_true, beq_self_eq_true, List.length_cons, List.length_nil, partF, TI.agg, scal, isAgg, cellsOf, Bool.or_true, Nat.reduceLeDiff, List.take_zero, List.drop_zero, List.drop_succ_cons, List.take_succ_cons, List.nil_append, T3, T25, Coll.cells, c1, c2]
  refine OpsW_pl (weight43_plain c.second) rfl rfl (by simp only [upd_some, evalT, evalO, ofConst, argFr, Nat.reduceEqDiff, Option.getD_none, List.getElem?_cons_succ, List.getElem?_nil, if_true, if_false, List.zip_cons_cons, List.zip_nil_right, List.map_cons, List.map_nil, callArgs, strips, strip_int] <;> rfl) ?_
  rcases Bool.eq_false_or_eq_true (wOk1 c.second) with b1 | b1
  case inr =>
    simp only [W_region, W_seq, W_ret, OpsW_nil, OpsW_op, OpsW_guard, upd_some, Br_W1, Br_O1, Br_O2, opF, evalT, evalO, ofConst, argFr, unF, reduceCtorEq, Nat.reduceEqDiff, Option.getD_none, Option.map_some, Option.bind_some, Option.some.injEq, List.getElem?_toArray, List.getElem?_cons_zero, List.getElem?_cons_succ, List.getElem?_nil, true_and, or_true, exists_eq_left', if_true, if_false, Bool.false_eq_true, beq_self_eq_true, Bool.true_beq, Bool.not_false, b1, resF, resAll, resOne]
    exact ⟨1, by rw [pub_int, one (by simp [numBad, b1])]⟩
  simp only [OpsW_op, OpsW_guard, upd_some, Br_O1, opF, evalT, evalO, ofConst, argFr, unF, Nat.reduceEqDiff, Nat.reduceAdd, Option.getD_none, Option.map_some, Option.bind_some, List.getElem?_toArray, List.getElem?_cons_zero, List.getElem?_cons_succ, List.getElem?_nil, Nat.succ_ne_zero, if_true, if_false, Bool.false_eq_true, beq_self_eq_true, Bool.not_true, List.length_cons, List.length_nil, partF, TI.agg, Nat.reduceLeDiff, List.take_zero, List.drop_zero, List.drop_succ_cons, List.take_succ_cons, T3, T25, b1]
  refine OpsW_pl (weight43_plain c.third) rfl rfl (by simp only [upd_some, evalT, evalO, ofConst, argFr, Nat.reduceEqDiff, Option.getD_none, List.getElem?_cons_succ, List.getElem?_nil, if_true, if_false, List.zip_cons_cons, List.zip_nil_right, List.map_cons, List.map_nil, callArgs, strips, strip_int] <;> rfl) ?_
  rcases Bool.eq_false_or_eq_true (wOk1 c.third) with b2 | b2
  case inr =>
    simp only [W_region, W_seq, W_ret, OpsW_nil, OpsW_op, OpsW_guard, upd_some, Br_W1, Br_O1, opF, evalT, evalO, ofConst, argFr, unF, reduceCtorEq, Nat.reduceEqDiff, Option.getD_none, Option.map_some, Option.bind_some, Option.some.injEq, List.getElem?_toArray, List.getElem?_cons_zero, List.getElem?_cons_succ, List.getElem?_nil, true_and, or_true, exists_eq_left', if_true, if_false, Bool.false_eq_true, beq_self_eq_true, Bool.not_false, b2, resF, resAll, resOne]
    exact ⟨1, by rw [pub_int, one (by simp [numBad, b2])]⟩
  have hn : collErr c = if grpErr c.base c.grps ≠ 0 then grpErr c.base c.grps else firstErr (errs c) := by
    rw [collErr, if_neg]
    simp [numBad, b1, b2]; omega
  simp only [W_skip, OpsW_nil, OpsW_op, OpsW_guard, upd_some, Br_W2, Br_O1, opF, evalO, ofConst, argFr, unF, Nat.reduceEqDiff, Nat.reduceAdd, Option.getD_none, Option.map_some, Option.bind_some, List.getElem?_toArray, List.getElem?_cons_zero, List.getElem?_cons_succ, List.getElem?_nil, if_true, if_false, Bool.false_eq_true, beq_self_eq_true, Bool.not_true, List.length_cons, List.length_nil, Nat.reduceLeDiff, List.take_zero, List.drop_zero, List.take_succ_cons, b2]
  refine OpsW_pl (refGroups_plain c hf.grps hf.names) rfl rfl (by simp only [upd_some, evalT, evalO, ofConst, argFr, Nat.reduceEqDiff, Option.getD_none, Option.some.injEq, List.getElem?_cons_succ, List.getElem?_nil, if_true, if_false, List.zip_cons_cons, List.zip_nil_right, List.map_cons, List.map_nil, callArgs, strips, strip_coll'] <;> rfl) ?_
  by_cases g0 : grpErr c.base c.grps = 0
  case neg =>
    have g0' : (grpErr c.base c.grps != 0) = true := by simp [g0]
    simp only [W_region, W_seq, W_ret, OpsW_nil, OpsW_op, upd_some, Br_W1, opF, evalT, evalO, argFr, reduceCtorEq, Nat.reduceEqDiff, Option.getD_none, Option.map_some, Option.some.injEq, List.getElem?_cons_succ, List.getElem?_nil, true_and, or_true, exists_eq_left', if_true, if_false, g0', resF, resAll, resOne]
    exact ⟨1, by rw [pub_int, hn, if_pos g0]⟩
  have g0' : (grpErr c.base c.grps != 0) = false := by simp [g0]
  rw [g0] at hn
  simp only [ne_eq, not_true_eq_false, if_false] at hn
  simp only [W_skip, OpsW_nil, OpsW_op, upd_some, Br_W2, opF, evalT, evalO, argFr, Nat.reduceEqDiff, Option.getD_none, Option.map_some, List.getElem?_cons_succ, List.getElem?_nil, if_true, if_false, g0']
  refine W_loop (fun n fr st => ∃ (i : Nat), fr 1 = .optr 0 5 0 ∧ fr 4 = .int .i64 i ∧ st[0]? = some (.cells c.cells) ∧ i ≤ c.ents.length ∧ firstErr (errs c) = firstErr ((errs c).drop i) ∧ n = c.ents.length - i) ?_ c.ents.length _ _
    ⟨0, by simp [upd], by simp [upd], rfl, by omega, by simp, by omega⟩
  rintro n fr st ⟨i, f1, f4, s0, hi, hc, rfl⟩
  have hle := hf.ents
  by_cases ci : (i : Int) < (c.ents.length : Int)
  · have ia : i < c.ents.length := by omega
    have hw : IntKind.i64.wrap ((i : Int) + 1) = ((i + 1 : Nat) : Int) := by rw [wrap_small (by omega) (by omega)]; rfl
    have hd := errs_drop c i ia
    simp only [W_skip, W_region, W_seq, W_cond, W_block, OpsW_nil, OpsW_op, upd_some, Br_W1, opF, evalT, evalO, ofConst, binF, intF, Nat.reduceEqDiff, Nat.reduceAdd, Option.map_some, List.getElem?_cons_zero, Nat.succ_ne_zero, exists_and_left, if_true, if_false, decide_true, Bool.false_eq_true, List.length_cons, List.length_nil, callB, List.zip_cons_cons, List.zip_nil_right, List.map_cons, List.map_nil, List.size_toArray, partF, TI.agg, Nat.reduceLeDiff, List.take_zero, List.drop_zero, List.take_succ_cons, T22, T25, f1, f4, s0, Coll.cells, entR_length, ci]
    refine OpsW_pl (refEntry_plain c i ia (by omega) hf.codes hf.els) rfl rfl (by simp only [upd_some, evalT, evalO, ofConst, Nat.reduceEqDiff, Option.some.injEq, if_true, if_false, List.zip_cons_cons, List.zip_nil_right, List.map_cons, List.map_nil, callArgs, strips, strip_int, strip_coll'] <;> rfl) ?_
    by_cases e0 : errAt c i = 0
    · have e0' : (errAt c i != 0) = false := by simp [e0]
      simp only [W_skip, OpsW_nil, OpsW_op, upd_some, Br_W2, opF, evalT, evalO, Nat.reduceEqDiff, Option.map_some, true_and, if_true, if_false, f1, f4, e0', hw]
      exact ⟨c.ents.length - (i + 1), by omega, i + 1, rfl, s0, by omega, by rw [hc, hd, if_pos e0], rfl⟩
    · have e0' : (errAt c i != 0) = true := by simp [e0]
      simp only [W_region, W_seq, W_ret, OpsW_nil, OpsW_op, upd_some, Br_W1, opF, evalT, evalO, reduceCtorEq, Nat.reduceEqDiff, Option.map_some, Option.some.injEq, true_and, or_true, exists_eq_left', if_true, if_false, e0', resF, resAll, resOne]
      exact ⟨1, by rw [pub_int, hn, hc, hd, if_neg e0]⟩
  · have hnil : (errs c).drop i = [] := List.drop_eq_nil_of_le (by rw [errs_length]; omega)
    rw [hnil] at hc
    simp only [W_region, W_seq, W_cond, W_block, W_exit, OpsW_nil, OpsW_op, upd_some, Br_W2, opF, evalT, evalO, ofConst, binF, intF, Nat.reduceEqDiff, Nat.reduceAdd, Option.map_some, Option.some.injEq, List.getElem?_cons_zero, Nat.succ_ne_zero, exists_eq_left', exists_and_left, if_true, if_false, decide_false, Bool.false_eq_true, List.length_cons, List.length_nil, callB, List.zip_cons_cons, List.zip_nil_right, List.map_cons, List.map_nil, List.size_toArray, partF, TI.agg, Nat.reduceLeDiff, List.take_zero, List.drop_zero, List.take_succ_cons, T22, T25, f1, f4, s0, Coll.cells, entR_length, ci, resF, resAll, resOne]
    exact ⟨1, by rw [pub_int, hn, hc]; rfl⟩

set_option maxHeartbeats 8000000 in
theorem check_plain (c : Coll) (hf : Fits c) : Plain EE 13 [.agg c.cells] (.int .i64 (collErr c)) := by
  refine plain_of_W ok ok13 (by simp) ?_
  unfold BodyW
  have e0 : code Go.Proofs.Tryz.f13 = code Go.Proofs.Tryz.f13 := rfl
  conv at e0 => rhs; simp only [code, Go.Proofs.Tryz.f13, Option.getD_some]
  rw [e0]
  clear e0
  have one : numBad c = true → collErr c = 1 := fun h => by rw [collErr, if_pos h]
  by_cases c1 : c.base < 1
  · simp only [W_region, W_seq, W_cond, W_block, W_ret, OpsW_nil, OpsW_op, OpsW_guard, upd_some, Br_W1, Br_O2, opF, evalT, evalO, ofConst, argFr, binF, intF, reduceCtorEq, Nat.reduceEqDiff, Nat.reduceAdd, Option.getD_some, Option.getD_none, Option.map_some, Option.bind_some, Option.some.injEq, List.getElem?_toArray, List.getElem?_cons_zero, List.getElem?_cons_succ, List.getElem?_nil, Nat.succ_ne_zero, and_self, true_and, or_true, or_false, exists_eq_left', if_true, if_false, decide_true, Bool.false_eq_true, Bool.true_beq, List.length_cons, List.length_nil, callB, List.zip_cons_cons, List.zip_nil_right, List.map_cons, List.map_nil, List.size_toArray, partF, TI.agg, scal, isAgg, cellsOf, Bool.or_true, Nat.reduceLeDiff, List.take_zero, List.drop_zero, List.drop_succ_cons, List.take_succ_cons, List.nil_append, T3, T22, T25, Coll.cells, c1, resF, resAll, resOne]
    exact ⟨1, by rw [pub_int, one (by simp [numBad, c1])]⟩
  by_cases c2 : c.base > 65502
  · simp only [W_region, W_seq, W_cond, W_block, W_ret, OpsW_nil, OpsW_op, OpsW_guard, upd_some, Br_W1, Br_O1, Br_O2, opF, evalT, evalO, ofConst, argFr, binF, intF, reduceCtorEq, Nat.reduceEqDiff, Nat.reduceAdd, Option.getD_some, Option.getD_none, Option.map_some, Option.bind_some, Option.some.injEq, List.getElem?_toArray, List.getElem?_cons_zero, List.getElem?_cons_succ, List.getElem?_nil, Nat.succ_ne_zero, and_self, true_and, or_true, or_false, exists_eq_left', if_true, if_false, decide_true, decide_false, Bool.false_eq_true, beq_self_eq_true, Bool.true_beq, List.length_cons, List.length_nil, callB, List.zip_cons_cons, List.zip_nil_right, List.map_cons, List.map_nil, List.size_toArray, partF, TI.agg, scal, isAgg, cellsOf, Bool.or_true, Nat.reduceLeDiff, List.take_zero, List.drop_zero, List.drop_succ_cons, List.take_succ_cons, List.nil_append, T3, T22, T25, Coll.cells, c1, c2, resF, resAll, resOne]
    exact ⟨1, by rw [pub_int, one (by simp [numBad, c2])]⟩
  by_cases c3 : c.second < 1
  · simp only [W_region, W_seq, W_cond, W_block, W_ret, OpsW_nil, OpsW_op, OpsW_guard, upd_some, Br_W1, Br_O1, Br_O2, opF, evalT, evalO, ofConst, argFr, binF, intF, reduceCtorEq, Nat.reduceEqDiff, Nat.reduceAdd, Option.getD_some, Option.getD_none, Option.map_some, Option.bind_some, Option.some.injEq, List.getElem?_toArray, List.getElem?_cons_zero, List.getElem?_cons_succ, List.getElem?_nil, Nat.succ_ne_zero, and_self, true_and, or_true, or_false, exists_eq_left', if_true, if_false, decide_true, decide_false, Bool.false_eq_true, beq_self_eq_true, Bool.true_beq, List.length_cons, List.length_nil, callB, List.zip_cons_cons, List.zip_nil_right, List.map_cons, List.map_nil, List.size_toArray, partF, TI.agg, scal, isAgg, cellsOf, Bool.or_true, Nat.reduceLeDiff, List.take_zero, List.drop_zero, List.drop_succ_cons, List.take_succ_cons, List.nil_append, T3, T22, T25, Coll.cells, c1, c2, c3, resF, resAll, resOne]
    exact ⟨1, by rw [pub_int, one (by simp [numBad, wOk1, c3])]⟩
  by_cases c4 : c.second > 65535
  · simp only [W_region, W_seq, W_cond, W_block, W_ret, OpsW_nil, OpsW_op, OpsW_guard, upd_some, Br_W1, Br_O1, Br_O2, opF, evalT, evalO, ofConst, argFr, binF, intF, reduceCtorEq, Nat.reduceEqDiff, Nat.reduceAdd, Option.getD_some, Option.getD_none, Option.map_some, Option.bind_some, Option.some.injEq, List.getElem?_toArray, List.getElem?_cons_zero, List.getElem?_cons_succ, List.getElem?_nil, Nat.succ_ne_zero, and_self, true_and, or_true, or_false, exists_eq_left', if_true, if_false, decide_true, decide_false, Bool.false_eq_true, beq_self_eq_true, Bool.true_beq, List.length_cons, List.length_nil, callB, List.zip_cons_cons, List.zip_nil_right, List.map_cons, List.map_nil, List.size_toArray, partF, TI.agg, scal, isAgg, cellsOf, Bool.or_true, Nat.reduceLeDiff, List.take_zero, List.drop_zero, List.drop_succ_cons, List.take_succ_cons, List.nil_append, T3, T22, T25, Coll.cells, c1, c2, c3, c4, resF, resAll, resOne]
    exact ⟨1, by rw [pub_int, one (by simp [numBad, wOk1]; omega)]⟩
  by_cases c5 : c.third < 1
  · simp only [W_region, W_seq, W_cond, W_block, W_ret, OpsW_nil, OpsW_op, OpsW_guard, upd_some, Br_W1, Br_O1, Br_O2, opF, evalT, evalO, ofConst, argFr, binF, intF, reduceCtorEq, Nat.reduceEqDiff, Nat.reduceAdd, Option.getD_some, Option.getD_none, Option.map_some, Option.bind_some, Option.some.injEq, List.getElem?_toArray, List.getElem?_cons_zero, List.getElem?_cons_succ, List.getElem?_nil, Nat.succ_ne_zero, and_self, true_and, or_true, or_false, exists_eq_left', if_true, if_false, decide_true, decide_false, Bool.false_eq_true, beq_self_eq_true, Bool.true_beq, List.length_cons, List.length_nil, callB, List.zip_cons_cons, List.zip_nil_right, List.map_cons, List.map_nil, List.size_toArray, partF, TI.agg, scal, isAgg, cellsOf, Bool.or_true, Nat.reduceLeDiff, List.take_zero, List.drop_zero, List.drop_succ_cons, List.take_succ_cons, List.nil_append, T3, T22, T25, Coll.cells, c1, c2, c3, c4, c5, resF, resAll, resOne]
    exact ⟨1, by rw [pub_int, one (by simp [numBad, wOk1]; omega)]⟩
  by_cases c6 : c.third > 65535
  · simp only [W_region, W_seq, W_cond, W_block, W_ret, OpsW_nil, OpsW_op, OpsW_guard, upd_some, Br_W1, Br_O1, opF, evalT, evalO, ofConst, argFr, binF, intF, reduceCtorEq, Nat.reduceEqDiff, Nat.reduceAdd, Option.getD_some, Option.getD_none, Option.map_some, Option.bind_some, Option.some.injEq, List.getElem?_toArray, List.getElem?_cons_zero, List.getElem?_cons_succ, List.getElem?_nil, Nat.succ_ne_zero, and_self, true_and, or_true, or_false, exists_eq_left', if_true, if_false, decide_true, decide_false, Bool.false_eq_true, beq_self_eq_true, List.length_cons, List.length_nil, callB, List.zip_cons_cons, List.zip_nil_right, List.map_cons, List.map_nil, List.size_toArray, partF, TI.agg, scal, isAgg, cellsOf, Bool.or_true, Nat.reduceLeDiff, List.take_zero, List.drop_zero, List.drop_succ_cons, List.take_succ_cons, List.nil_append, T3, T22, T25, Coll.cells, c1, c2, c3, c4, c5, c6, resF, resAll, resOne]
    exact ⟨1, by rw [pub_int, one (by simp [numBad, wOk1]; omega)]⟩
  have hn : collErr c = if grpErr c.base c.grps ≠ 0 then grpErr c.base c.grps else firstErr (errs c) := by
    rw [collErr, if_neg]
    simp [numBad, wOk1]; omega
  simp only [W_skip, W_region, W_seq, W_cond, W_block, W_ret, OpsW_nil, OpsW_op, OpsW_guard, upd_some, Br_W2, Br_O1, opF, evalT, evalO, ofConst, argFr, binF, intF, reduceCtorEq, Nat.reduceEqDiff, Nat.reduceAdd, Option.getD_some, Option.getD_none, Option.map_some, Option.bind_some, List.getElem?_toArray, List.getElem?_cons_zero, List.getElem?_cons_succ, List.getElem?_nil, Nat.succ_ne_zero, and_self, true_and, or_true, or_false, if_true, if_false, decide_false, Bool.false_eq_true, beq_self_eq_true, List.length_cons, List.length_nil, callB, List.zip_cons_cons, List.zip_nil_right, List.map_cons, List.map_nil, List.size_toArray, partF, TI.agg, scal, isAgg, cellsOf, Bool.or_true, Nat.reduceLeDiff, List.take_zero, List.drop_zero, List.drop_succ_cons, List.take_succ_cons, List.nil_append, T3, T22, T25, Coll.cells, c1, c2, c3, c4, c5, c6]
  refine OpsW_pl (ofGroups_plain c hf.grps hf.names) rfl rfl (by simp only [upd_some, evalT, evalO, ofConst, argFr, Nat.reduceEqDiff, Option.getD_none, Option.some.injEq, List.getElem?_cons_succ, List.getElem?_nil, if_true, if_false, List.zip_cons_cons, List.zip_nil_right, List.map_cons, List.map_nil, callArgs, strips, strip_coll'] <;> rfl) ?_
  by_cases g0 : grpErr c.base c.grps = 0
  case neg =>
    have g0' : (grpErr c.base c.grps != 0) = true := by simp [g0]
    simp only [W_region, W_seq, W_ret, OpsW_nil, OpsW_op, upd_some, Br_W1, opF, evalT, evalO, argFr, reduceCtorEq, Nat.reduceEqDiff, Option.getD_none, Option.map_some, Option.some.injEq, List.getElem?_cons_succ, List.getElem?_nil, true_and, or_true, exists_eq_left', if_true, if_false, g0', resF, resAll, resOne]
    exact ⟨1, by rw [pub_int, hn, if_pos g0]⟩
  have g0' : (grpErr c.base c.grps != 0) = false := by simp [g0]
  rw [g0] at hn
  simp only [ne_eq, not_true_eq_false, if_false] at hn
  simp only [W_skip, OpsW_nil, OpsW_op, upd_some, Br_W2, opF, evalT, evalO, argFr, Nat.reduceEqDiff, Nat.reduceAdd, Option.getD_none, Option.map_some, List.getElem?_cons_zero, List.getElem?_cons_succ, List.getElem?_nil, if_true, if_false, Bool.false_eq_true, List.length_cons, List.length_nil, Nat.reduceLeDiff, List.take_zero, List.drop_zero, List.take_succ_cons, g0', entR_length]
  refine W_loop (fun n fr st => ∃ (i : Nat), fr 1 = .optr 0 5 0 ∧ fr 41 = .sl 2 (entR c.ents) (tk c.a) ∧ fr 42 = .int .i64 c.ents.length ∧ fr 43 = .int .i64 i ∧ st[0]? = some (.cells c.cells) ∧ i ≤ c.ents.length ∧ firstErr (errs c) = firstErr ((errs c).drop i) ∧ n = c.ents.length - i) ?_ c.ents.length _ _
    ⟨0, by simp [upd], by simp [upd], by simp [upd], by simp [upd], rfl, by omega, by simp, by omega⟩
  rintro n fr st ⟨i, f1, f41, f42, f43, s0, hi, hc, rfl⟩
  have hle := hf.ents
  have s0' : ∀ x, (st ++ [x])[0]? = some (.cells c.cells) := fun x => get_app s0
  by_cases ci : (i : Int) < (c.ents.length : Int)
  · have ia : i < c.ents.length := by omega
    have ga := entR_get c.ents i ia
    have hw : IntKind.i64.wrap ((i : Int) + 1) = ((i + 1 : Nat) : Int) := by rw [wrap_small (by omega) (by omega)]; rfl
    have hd := errs_drop c i ia
    have ha := errAt_at c i ia
    have hx := List.getElem_mem ia
    simp only [W_skip, W_region, W_seq, W_cond, W_block, OpsW_nil, OpsW_op, OpsW_guard, upd_some, upd_none, Br_W1, opF, evalT, evalO, ofConst, binF, intF, idxN_nat, Nat.reduceEqDiff, Nat.reduceAdd, Option.map_some, Option.bind_some, List.getElem?_toArray, List.getElem?_cons_zero, List.getElem?_cons_succ, and_self, true_and, exists_and_left, if_true, if_false, decide_true, List.length_cons, List.length_nil, partF, TI.agg, scal, isAgg, cellsOf, Bool.or_true, Nat.reduceLeDiff, splice, List.take_zero, List.drop_zero, List.drop_succ_cons, List.take_succ_cons, List.nil_append, List.cons_append, W_regionD, xrE, T22, T25, T54, f1, f41, f42, f43, s0', ci, ga, get_last, set_last, Coll.cells]
    refine OpsW_pl (ofEntry_plain c c.ents[i] (hf.codes _ hx) (hf.els _ hx)) rfl rfl (by simp only [upd_some, evalT, evalO, ofConst, Nat.reduceEqDiff, Option.some.injEq, if_true, if_false, List.zip_cons_cons, List.zip_nil_right, List.map_cons, List.map_nil, callArgs, strips, strip_coll', strip_entry'] <;> rfl) ?_
    by_cases e0 : entErr c.base c.ents[i] = 0
    case neg =>
      have e0' : (entErr c.base c.ents[i] != 0) = true := by simp [e0]
      rw [if_pos e0] at ha
      simp only [W_region, W_seq, W_ret, OpsW_nil, OpsW_op, upd_some, Br_W1, opF, evalT, evalO, reduceCtorEq, Nat.reduceEqDiff, Option.map_some, Option.some.injEq, true_and, or_true, exists_eq_left', if_true, if_false, e0', resF, resAll, resOne]
      exact ⟨1, by rw [pub_int, hn, hc, hd, if_neg (by rw [ha]; exact e0), ha]⟩
    have e0' : (entErr c.base c.ents[i] != 0) = false := by simp [e0]
    rw [e0] at ha
    simp only [ne_eq, not_true_eq_false, if_false] at ha
    by_cases ip : (i : Int) > 0
    · have ip' : decide (i > 0) = true := by simp; omega
      have ipl : i - 1 < c.ents.length := by omega
      have gp := entR_get c.ents (i - 1) ipl
      have hw1 : IntKind.i64.wrap ((i : Int) - 1) = ((i - 1 : Nat) : Int) := by rw [wrap_small (by omega) (by omega)]; omega
      rw [ip', List.getElem?_eq_getElem ipl] at ha
      simp only [W_skip, OpsW_nil, OpsW_op, OpsW_guard, upd_some, Br_W2, Br_O1, opF, evalT, evalO, ofConst, binF, intF, idxN_nat, Nat.reduceEqDiff, Nat.reduceAdd, Option.map_some, Option.bind_some, List.getElem?_toArray, List.getElem?_cons_zero, List.getElem?_cons_succ, Nat.succ_ne_zero, if_true, if_false, decide_true, Bool.false_eq_true, beq_self_eq_true, List.length_cons, List.length_nil, partF, TI.agg, Nat.reduceLeDiff, List.take_zero, List.drop_zero, List.take_succ_cons, T22, T25, T37, T54, f1, s0', e0', ip, hw1, gp, get_last, Coll.cells]
      refine OpsW_pl (compareC_plain c.ents[i - 1].codes c.ents[i].codes _ _ (hf.codes _ (List.getElem_mem ipl)) (hf.codes _ hx)) rfl rfl (by simp only [upd_some, evalT, evalO, ofConst, Nat.reduceEqDiff, Option.some.injEq, if_true, if_false, List.zip_cons_cons, List.zip_nil_right, List.map_cons, List.map_nil, callArgs, strips, strip_sl] <;> rfl) ?_
      by_cases c2 : cmpL c.ents[i - 1].codes c.ents[i].codes ≥ 0
      · have c2' : decide (cmpL c.ents[i - 1].codes c.ents[i].codes ≥ 0) = true := by simp [c2]
        simp only [c2'] at ha
        have ha : errAt c i = 4 := ha
        simp only [W_region, W_seq, W_ret, OpsW_nil, OpsW_op, OpsW_guard, upd_some, Br_W1, Br_O1, opF, evalT, evalO, ofConst, binF, intF, reduceCtorEq, Nat.reduceEqDiff, Option.map_some, Option.bind_some, Option.some.injEq, List.getElem?_toArray, List.getElem?_cons_zero, List.getElem?_cons_succ, true_and, or_true, exists_eq_left', if_true, if_false, decide_true, beq_self_eq_true, c2, resF, resAll, resOne]
        exact ⟨1, by rw [pub_int, hn, hc, hd, if_neg (by rw [ha]; decide), ha]⟩
      · have c2' : decide (cmpL c.ents[i - 1].codes c.ents[i].codes ≥ 0) = false := by simp [c2]
        simp only [c2'] at ha
        have ha : errAt c i = 0 := ha
        simp only [W_skip, OpsW_nil, OpsW_op, OpsW_guard, upd_some, Br_W2, Br_O1, opF, evalO, ofConst, binF, intF, Nat.reduceEqDiff, Option.map_some, Option.bind_some, List.getElem?_toArray, List.getElem?_cons_zero, List.getElem?_cons_succ, true_and, if_true, if_false, decide_false, beq_self_eq_true, f1, f41, f42, f43, c2, hw]
        exact ⟨c.ents.length - (i + 1), by omega, i + 1, rfl, s0' _, by omega, by rw [hc, hd, if_pos ha], rfl⟩
    · have ip' : decide (i > 0) = false := by simp; omega
      rw [ip'] at ha
      have ha : errAt c i = 0 := ha
      simp only [W_skip, OpsW_nil, OpsW_op, OpsW_guard, upd_some, Br_W2, Br_O2, opF, evalT, evalO, ofConst, Nat.reduceEqDiff, Option.map_some, Option.bind_some, List.getElem?_toArray, List.getElem?_cons_zero, List.getElem?_cons_succ, true_and, if_true, if_false, decide_false, Bool.false_eq_true, Bool.false_beq, Bool.not_true, f1, f41, f42, f43, e0', ip, hw]
      exact ⟨c.ents.length - (i + 1), by omega, i + 1, rfl, s0' _, by omega, by rw [hc, hd, if_pos ha], rfl⟩
  · have hnil : (errs c).drop i = [] := List.drop_eq_nil_of_le (by rw [errs_length]; omega)
    rw [hnil] at hc
    simp only [W_region, W_seq, W_cond, W_block, W_exit, OpsW_nil, OpsW_op, OpsW_guard, upd_some, upd_none, Br_W2, opF, evalT, evalO, ofConst, binF, intF, Nat.reduceEqDiff, Nat.reduceAdd, Option.map_some, Option.bind_some, Option.some.injEq, List.getElem?_toArray, List.getElem?_cons_zero, List.getElem?_cons_succ, true_and, exists_eq_left', exists_and_left, if_true, if_false, decide_false, partF, TI.agg, scal, isAgg, cellsOf, Nat.reduceLeDiff, splice, List.take_zero, List.drop_zero, List.nil_append, W_regionD, xrE, T22, T25, T54, f42, f43, ci, resF, resAll, resOne]
    exact ⟨1, by rw [pub_int, hn, hc]; rfl⟩

def smallC (c : Coll) : Bool := decide (c.ents.length ≤ 12) && decide (c.grps.length ≤ 8) && c.ents.all fun x => decide (x.codes.length ≤ 10) && decide (x.els.length ≤ 20)
set_option maxHeartbeats 8000000 in
theorem small_plain (c : Coll) (hf : c.ents.length < 9223372036854775808) : Plain EE 12 [.agg c.cells] (.bool (smallC c)) := by
  refine plain_of_W ok ok12 (by simp) ?_
  unfold BodyW
  have e0 : code Go.Proofs.Tryz.f12 = code Go.Proofs.Tryz.f12 := rfl
  conv at e0 => rhs; simp only [code, Go.Proofs.Tryz.f12, Option.getD_some]
  rw [e0]
  clear e0
  by_cases c1 : (c.ents.length : Int) > 12
  · simp only [W_region, W_seq, W_cond, W_block, W_ret, OpsW_nil, OpsW_op, OpsW_guard, upd_some, Br_W1, Br_O2, opF, evalT, evalO, ofConst, argFr, binF, intF, reduceCtorEq, Nat.reduceEqDiff, Nat.reduceAdd, Option.getD_some, Option.getD_none, Option.map_some, Option.bind_some, Option.some.injEq, List.getElem?_toArray, List.getElem?_cons_zero, List.getElem?_cons_succ, List.getElem?_nil, Nat.succ_ne_zero, and_self, true_and, or_true, or_false, exists_eq_left', if_true, if_false, decide_true, Bool.false_eq_true, Bool.true_beq, List.length_cons, List.length_nil, callB, List.zip_cons_cons, List.zip_nil_right, List.map_cons, List.map_nil, List.size_toArray, partF, TI.agg, scal, isAgg, cellsOf, Bool.or_true, Nat.reduceLeDiff, List.take_zero, List.drop_zero, List.take_succ_cons, List.nil_append, T22, T25, Coll.cells, entR_length, c1, resF, resAll, resOne]
    exact ⟨1, by rw [pub_bool]; have : ¬ c.ents.length ≤ 12 := by omega
                 simp [smallC, this]⟩
  by_cases c2 : (c.grps.length : Int) > 8
  · simp only [W_region, W_seq, W_cond, W_block, W_ret, OpsW_nil, OpsW_op, OpsW_guard, upd_some, Br_W1, Br_O1, opF, evalT, evalO, ofConst, argFr, binF, intF, reduceCtorEq, Nat.reduceEqDiff, Nat.reduceAdd, Option.getD_some, Option.getD_none, Option.map_some, Option.bind_some, Option.some.injEq, List.getElem?_toArray, List.getElem?_cons_zero, List.getElem?_cons_succ, List.getElem?_nil, Nat.succ_ne_zero, and_self, true_and, or_true, or_false, exists_eq_left', if_true, if_false, decide_true, decide_false, Bool.false_eq_true, beq_self_eq_true, List.length_cons, List.length_nil, callB, List.zip_cons_cons, List.zip_nil_right, List.map_cons, List.map_nil, List.size_toArray, partF, TI.agg, scal, isAgg, cellsOf, Bool.or_true, Nat.reduceLeDiff, List.take_zero, List.drop_zero, List.drop_succ_cons, List.take_succ_cons, List.nil_append, T22, T23, T25, Coll.cells, entR_length, grpR_length, c1, c2, resF, resAll, resOne]
    exact ⟨1, by rw [pub_bool]; have : ¬ c.grps.length ≤ 8 := by omega
                 simp [smallC, this]⟩
  simp only [W_skip, W_region, W_seq, W_cond, W_block, W_ret, OpsW_nil, OpsW_op, OpsW_guard, upd_some, Br_W2, Br_O1, opF, evalT, evalO, ofConst, argFr, binF, intF, reduceCtorEq, Nat.reduceEqDiff, Nat.reduceAdd, Option.getD_some, Option.getD_none, Option.map_some, Option.bind_some, List.getElem?_toArray, List.getElem?_cons_zero, List.getElem?_cons_succ, List.getElem?_nil, Nat.succ_ne_zero, and_self, true_and, or_true, or_false, if_true, if_false, decide_false, Bool.false_eq_true, beq_self_eq_true, List.length_cons, List.length_nil, callB, List.zip_cons_cons, List.zip_nil_right, List.map_cons, List.map_nil, List.size_toArray, partF, TI.agg, scal, isAgg, cellsOf, Bool.or_true, Nat.reduceLeDiff, List.take_zero, List.drop_zero, List.drop_succ_cons, List.take_succ_cons, List.nil_append, T22, T23, T25, Coll.cells, entR_length, grpR_length, c1, c2]
  refine W_loop (fun n fr st => ∃ (i : Nat), fr 1 = .optr 0 5 0 ∧ fr 3 = .int .i64 i ∧ st[0]? = some (.cells c.cells) ∧ i ≤ c.ents.length ∧ (∀ x ∈ c.ents.take i, (decide (x.codes.length ≤ 10) && decide (x.els.length ≤ 20)) = true) ∧ n = c.ents.length - i) ?_ c.ents.length _ _
    ⟨0, by simp [upd], by simp [upd], rfl, by omega, by simp, by omega⟩
  rintro n fr st ⟨i, f1, f3, s0, hi, hall, rfl⟩
  by_cases ci : (i : Int) < (c.ents.length : Int)
  · have ia : i < c.ents.length := by omega
    have ga := entR_get c.ents i ia
    have hw : IntKind.i64.wrap ((i : Int) + 1) = ((i + 1 : Nat) : Int) := by rw [wrap_small (by omega) (by omega)]; rfl
    have no : (decide (c.ents[i].codes.length ≤ 10) && decide (c.ents[i].els.length ≤ 20)) = false → smallC c = false := by
      intro h
      unfold smallC
      have : (c.ents.all fun x => decide (x.codes.length ≤ 10) && decide (x.els.length ≤ 20)) = false := by
        rw [← Bool.not_eq_true, List.all_eq_true]
        intro q
        have := q _ (List.getElem_mem ia)
        rw [h] at this
        cases this
      rw [this]; simp
    by_cases c3 : (c.ents[i].codes.length : Int) > 10
    · simp only [W_skip, W_region, W_seq, W_cond, W_block, W_ret, OpsW_nil, OpsW_op, OpsW_guard, upd_some, Br_W1, Br_O2, opF, evalT, evalO, ofConst, binF, intF, idxN_nat, reduceCtorEq, Nat.reduceEqDiff, Nat.reduceAdd, Option.map_some, Option.bind_some, Option.some.injEq, List.getElem?_toArray, List.getElem?_cons_zero, List.getElem?_cons_succ, Nat.succ_ne_zero, true_and, or_true, exists_eq_left', exists_and_left, if_true, if_false, decide_true, Bool.false_eq_true, Bool.true_beq, List.length_cons, List.length_nil, callB, List.zip_cons_cons, List.zip_nil_right, List.map_cons, List.map_nil, List.size_toArray, partF, TI.agg, Nat.reduceLeDiff, List.take_zero, List.drop_zero, List.take_succ_cons, T22, T25, T37, T54, f1, f3, s0, Coll.cells, entR_length, ints_length, ci, ga, c3, resF, resAll, resOne]
      exact ⟨1, by rw [pub_bool, no (by simp; omega)]⟩
    by_cases c4 : (c.ents[i].els.length : Int) > 20
    · simp only [W_skip, W_region, W_seq, W_cond, W_block, W_ret, OpsW_nil, OpsW_op, OpsW_guard, upd_some, Br_W1, Br_O1, opF, evalT, evalO, ofConst, binF, intF, idxN_nat, reduceCtorEq, Nat.reduceEqDiff, Nat.reduceAdd, Option.map_some, Option.bind_some, Option.some.injEq, List.getElem?_toArray, List.getElem?_cons_zero, List.getElem?_cons_succ, Nat.succ_ne_zero, true_and, or_true, exists_eq_left', exists_and_left, if_true, if_false, decide_true, decide_false, Bool.false_eq_true, beq_self_eq_true, List.length_cons, List.length_nil, callB, List.zip_cons_cons, List.zip_nil_right, List.map_cons, List.map_nil, List.size_toArray, partF, TI.agg, Nat.reduceLeDiff, List.take_zero, List.drop_zero, List.drop_succ_cons, List.take_succ_cons, T22, T25, T37, T41, T54, f1, f3, s0, Coll.cells, entR_length, ints_length, elR_length, ci, ga, c3, c4, resF, resAll, resOne]
      exact ⟨1, by rw [pub_bool, no (by simp; omega)]⟩
    · simp only [W_skip, W_region, W_seq, W_cond, W_block, OpsW_nil, OpsW_op, OpsW_guard, upd_some, Br_W1, Br_W2, Br_O1, opF, evalT, evalO, ofConst, binF, intF, idxN_nat, Nat.reduceEqDiff, Nat.reduceAdd, Option.map_some, Option.bind_some, List.getElem?_toArray, List.getElem?_cons_zero, List.getElem?_cons_succ, Nat.succ_ne_zero, true_and, exists_and_left, if_true, if_false, decide_true, decide_false, Bool.false_eq_true, beq_self_eq_true, List.length_cons, List.length_nil, callB, List.zip_cons_cons, List.zip_nil_right, List.map_cons, List.map_nil, List.size_toArray, partF, TI.agg, Nat.reduceLeDiff, List.take_zero, List.drop_zero, List.drop_succ_cons, List.take_succ_cons, T22, T25, T37, T41, T54, f1, f3, s0, Coll.cells, entR_length, ints_length, elR_length, ci, ga, c3, c4, hw]
      exact ⟨c.ents.length - (i + 1), by omega, i + 1, rfl, by omega, fun x hx => by simpa using take_all (p := fun x => (decide (x.codes.length ≤ 10) && decide (x.els.length ≤ 20)) = true) ia (by simpa using hall) (by simp; omega) x hx, rfl⟩
  · have hil : c.ents.take i = c.ents := List.take_of_length_le (by omega)
    rw [hil] at hall
    simp only [W_region, W_seq, W_cond, W_block, W_exit, OpsW_nil, OpsW_op, OpsW_guard, upd_some, Br_W2, opF, evalT, evalO, ofConst, binF, intF, Nat.reduceEqDiff, Nat.reduceAdd, Option.map_some, Option.bind_some, Option.some.injEq, List.getElem?_toArray, List.getElem?_cons_zero, List.getElem?_cons_succ, Nat.succ_ne_zero, exists_eq_left', exists_and_left, if_true, if_false, decide_false, Bool.false_eq_true, List.length_cons, List.length_nil, callB, List.zip_cons_cons, List.zip_nil_right, List.map_cons, List.map_nil, List.size_toArray, partF, TI.agg, Nat.reduceLeDiff, List.take_zero, List.drop_zero, List.take_succ_cons, T22, T25, T37, T54, f1, f3, s0, Coll.cells, entR_length, ci, resF, resAll, resOne]
    refine ⟨1, ?_⟩
    rw [pub_bool]
    have : (c.ents.all fun x => decide (x.codes.length ≤ 10) && decide (x.els.length ≤ 20)) = true := List.all_eq_true.2 hall
    unfold smallC
    rw [this]
    simp; omega
end Go.Pv.Ct
end
