/-
  Keypack (1): the program's types and functions as the pure machine sees them; lists of numbers; the small functions.
-/
import Derived.Test.YtbfmlkdpeaeblaaPvW
import Derived.Test.YtbfmlkdpeaeblaaChecked
set_option linter.all false
set_option linter.unusedSimpArgs false
set_option linter.unusedVariables false
namespace Go.Pv.Kp
open Go.Pv

def tyList : List (Nat × TI) := [
  (3, ⟨.int .i64, 1, [.int .i64 0]⟩), (4, ⟨.bool, 1, [.bool false]⟩), (5, ⟨.int .u8, 1, [.int .u8 0]⟩), (9, ⟨.str, 1, [.str []]⟩),
  (22, ⟨.slice 3, 1, [.sl 1 [] .full]⟩), (28, ⟨.int .i64, 1, [.int .i64 0]⟩), (41, ⟨.strct [(0, 3), (1, 3), (2, 4)], 3, [.int .i64 0, .int .i64 0, .bool false]⟩), (44, ⟨.slice 5, 1, [.sl 1 [] .full]⟩),
  (38, ⟨.fn, 1, [.nilfn]⟩)]
noncomputable def EE : Env := { P := Go.Proofs.Try.prog, T := fun t => tyList.lookup t, G := fun _ => .bad, pl := fun f => [8, 9, 10, 11, 12, 13, 14, 15, 16, 17, 18, 19, 21, 22, 23, 26, 27, 28].contains f, eqt := fun _ => false }
theorem types : tyList.all (fun q => q.2.okB Go.Proofs.Try.prog q.1) = true := by kernel_rfl
theorem lookup_mem {l : List (Nat × TI)} {t : Nat} {ti : TI} (h : l.lookup t = some ti) : (t, ti) ∈ l := by
  induction l with
  | nil => cases h
  | cons x l ih =>
    obtain ⟨k, v⟩ := x
    rw [List.lookup_cons] at h
    split at h
    · rename_i e
      cases h
      have : t = k := by simpa using e
      subst this; simp
    · simp [ih h]
theorem ok : EnvOk EE where
  types t ti h := List.all_eq_true.1 types (t, ti) (lookup_mem h)
  mixed := by kernel_rfl
  eqs t h := by cases h
theorem T3 : EE.T 3 = some ⟨.int .i64, 1, [.int .i64 0]⟩ := rfl
theorem T4 : EE.T 4 = some ⟨.bool, 1, [.bool false]⟩ := rfl
theorem T5 : EE.T 5 = some ⟨.int .u8, 1, [.int .u8 0]⟩ := rfl
theorem T9 : EE.T 9 = some ⟨.str, 1, [.str []]⟩ := rfl
theorem T22 : EE.T 22 = some ⟨.slice 3, 1, [.sl 1 [] .full]⟩ := rfl
theorem T28 : EE.T 28 = some ⟨.int .i64, 1, [.int .i64 0]⟩ := rfl
theorem T38 : EE.T 38 = some ⟨.fn, 1, [.nilfn]⟩ := rfl
theorem T41 : EE.T 41 = some ⟨.strct [(0, 3), (1, 3), (2, 4)], 3, [.int .i64 0, .int .i64 0, .bool false]⟩ := rfl
theorem T44 : EE.T 44 = some ⟨.slice 5, 1, [.sl 1 [] .full]⟩ := rfl

def code (f : Func) : Code := f.body.getD .skip
theorem ok3 : FnOk EE 3 28 [.tmp 4] (code Go.Proofs.Try.f3) where
  ex := ⟨Go.Proofs.Try.f3, Go.Proofs.Try.func3, by kernel_rfl, by kernel_rfl, by kernel_rfl, by kernel_rfl⟩
  code := by kernel_rfl
  res := by kernel_rfl
theorem ok4 : FnOk EE 4 39 [.tmp 4] (code Go.Proofs.Try.f4) where
  ex := ⟨Go.Proofs.Try.f4, Go.Proofs.Try.func4, by kernel_rfl, by kernel_rfl, by kernel_rfl, by kernel_rfl⟩
  code := by kernel_rfl
  res := by kernel_rfl
theorem ok5 : FnOk EE 5 70 [.tmp 6] (code Go.Proofs.Try.f5) where
  ex := ⟨Go.Proofs.Try.f5, Go.Proofs.Try.func5, by kernel_rfl, by kernel_rfl, by kernel_rfl, by kernel_rfl⟩
  code := by kernel_rfl
  res := by kernel_rfl
theorem ok6 : FnOk EE 6 91 [.tmp 4] (code Go.Proofs.Try.f6) where
  ex := ⟨Go.Proofs.Try.f6, Go.Proofs.Try.func6, by kernel_rfl, by kernel_rfl, by kernel_rfl, by kernel_rfl⟩
  code := by kernel_rfl
  res := by kernel_rfl
theorem ok7 : FnOk EE 7 71 [.tmp 6] (code Go.Proofs.Try.f7) where
  ex := ⟨Go.Proofs.Try.f7, Go.Proofs.Try.func7, by kernel_rfl, by kernel_rfl, by kernel_rfl, by kernel_rfl⟩
  code := by kernel_rfl
  res := by kernel_rfl
theorem ok8 : FnOk EE 8 44 [.tmp 0] (code Go.Proofs.Try.f8) where
  ex := ⟨Go.Proofs.Try.f8, Go.Proofs.Try.func8, by kernel_rfl, by kernel_rfl, by kernel_rfl, by kernel_rfl⟩
  code := by kernel_rfl
  res := by kernel_rfl
theorem ok9 : FnOk EE 9 9 [.tmp 4] (code Go.Proofs.Try.f9) where
  ex := ⟨Go.Proofs.Try.f9, Go.Proofs.Try.func9, by kernel_rfl, by kernel_rfl, by kernel_rfl, by kernel_rfl⟩
  code := by kernel_rfl
  res := by kernel_rfl
theorem ok10 : FnOk EE 10 75 [.tmp 4] (code Go.Proofs.Try.f10) where
  ex := ⟨Go.Proofs.Try.f10, Go.Proofs.Try.func10, by kernel_rfl, by kernel_rfl, by kernel_rfl, by kernel_rfl⟩
  code := by kernel_rfl
  res := by kernel_rfl
theorem ok11 : FnOk EE 11 113 [.tmp 4] (code Go.Proofs.Try.f11) where
  ex := ⟨Go.Proofs.Try.f11, Go.Proofs.Try.func11, by kernel_rfl, by kernel_rfl, by kernel_rfl, by kernel_rfl⟩
  code := by kernel_rfl
  res := by kernel_rfl
theorem ok12 : FnOk EE 12 10 [.tmp 4] (code Go.Proofs.Try.f12) where
  ex := ⟨Go.Proofs.Try.f12, Go.Proofs.Try.func12, by kernel_rfl, by kernel_rfl, by kernel_rfl, by kernel_rfl⟩
  code := by kernel_rfl
  res := by kernel_rfl
theorem ok13 : FnOk EE 13 10 [.tmp 4] (code Go.Proofs.Try.f13) where
  ex := ⟨Go.Proofs.Try.f13, Go.Proofs.Try.func13, by kernel_rfl, by kernel_rfl, by kernel_rfl, by kernel_rfl⟩
  code := by kernel_rfl
  res := by kernel_rfl
theorem ok14 : FnOk EE 14 26 [.tmp 4, .tmp 5] (code Go.Proofs.Try.f14) where
  ex := ⟨Go.Proofs.Try.f14, Go.Proofs.Try.func14, by kernel_rfl, by kernel_rfl, by kernel_rfl, by kernel_rfl⟩
  code := by kernel_rfl
  res := by kernel_rfl
theorem ok15 : FnOk EE 15 34 [.tmp 2] (code Go.Proofs.Try.f15) where
  ex := ⟨Go.Proofs.Try.f15, Go.Proofs.Try.func15, by kernel_rfl, by kernel_rfl, by kernel_rfl, by kernel_rfl⟩
  code := by kernel_rfl
  res := by kernel_rfl
theorem ok16 : FnOk EE 16 46 [.tmp 4] (code Go.Proofs.Try.f16) where
  ex := ⟨Go.Proofs.Try.f16, Go.Proofs.Try.func16, by kernel_rfl, by kernel_rfl, by kernel_rfl, by kernel_rfl⟩
  code := by kernel_rfl
  res := by kernel_rfl
theorem ok17 : FnOk EE 17 46 [.tmp 2] (code Go.Proofs.Try.f17) where
  ex := ⟨Go.Proofs.Try.f17, Go.Proofs.Try.func17, by kernel_rfl, by kernel_rfl, by kernel_rfl, by kernel_rfl⟩
  code := by kernel_rfl
  res := by kernel_rfl
theorem ok18 : FnOk EE 18 58 [.tmp 2] (code Go.Proofs.Try.f18) where
  ex := ⟨Go.Proofs.Try.f18, Go.Proofs.Try.func18, by kernel_rfl, by kernel_rfl, by kernel_rfl, by kernel_rfl⟩
  code := by kernel_rfl
  res := by kernel_rfl
theorem ok19 : FnOk EE 19 10 [.tmp 2] (code Go.Proofs.Try.f19) where
  ex := ⟨Go.Proofs.Try.f19, Go.Proofs.Try.func19, by kernel_rfl, by kernel_rfl, by kernel_rfl, by kernel_rfl⟩
  code := by kernel_rfl
  res := by kernel_rfl
theorem ok20 : FnOk EE 20 6 [.tmp 4] (code Go.Proofs.Try.f20) where
  ex := ⟨Go.Proofs.Try.f20, Go.Proofs.Try.func20, by kernel_rfl, by kernel_rfl, by kernel_rfl, by kernel_rfl⟩
  code := by kernel_rfl
  res := by kernel_rfl
theorem ok21 : FnOk EE 21 10 [.tmp 2] (code Go.Proofs.Try.f21) where
  ex := ⟨Go.Proofs.Try.f21, Go.Proofs.Try.func21, by kernel_rfl, by kernel_rfl, by kernel_rfl, by kernel_rfl⟩
  code := by kernel_rfl
  res := by kernel_rfl
theorem ok22 : FnOk EE 22 65 [.tmp 4, .tmp 5] (code Go.Proofs.Try.f22) where
  ex := ⟨Go.Proofs.Try.f22, Go.Proofs.Try.func22, by kernel_rfl, by kernel_rfl, by kernel_rfl, by kernel_rfl⟩
  code := by kernel_rfl
  res := by kernel_rfl
theorem ok23 : FnOk EE 23 16 [.tmp 4] (code Go.Proofs.Try.f23) where
  ex := ⟨Go.Proofs.Try.f23, Go.Proofs.Try.func23, by kernel_rfl, by kernel_rfl, by kernel_rfl, by kernel_rfl⟩
  code := by kernel_rfl
  res := by kernel_rfl
theorem ok24 : FnOk EE 24 20 [.tmp 4] (code Go.Proofs.Try.f24) where
  ex := ⟨Go.Proofs.Try.f24, Go.Proofs.Try.func24, by kernel_rfl, by kernel_rfl, by kernel_rfl, by kernel_rfl⟩
  code := by kernel_rfl
  res := by kernel_rfl
theorem ok25 : FnOk EE 25 34 [] (code Go.Proofs.Try.f25) where
  ex := ⟨Go.Proofs.Try.f25, Go.Proofs.Try.func25, by kernel_rfl, by kernel_rfl, by kernel_rfl, by kernel_rfl⟩
  code := by kernel_rfl
  res := by kernel_rfl
theorem ok26 : FnOk EE 26 10 [.tmp 2] (code Go.Proofs.Try.f26) where
  ex := ⟨Go.Proofs.Try.f26, Go.Proofs.Try.func26, by kernel_rfl, by kernel_rfl, by kernel_rfl, by kernel_rfl⟩
  code := by kernel_rfl
  res := by kernel_rfl
theorem ok27 : FnOk EE 27 38 [.tmp 4] (code Go.Proofs.Try.f27) where
  ex := ⟨Go.Proofs.Try.f27, Go.Proofs.Try.func27, by kernel_rfl, by kernel_rfl, by kernel_rfl, by kernel_rfl⟩
  code := by kernel_rfl
  res := by kernel_rfl
theorem ok28 : FnOk EE 28 13 [.tmp 4] (code Go.Proofs.Try.f28) where
  ex := ⟨Go.Proofs.Try.f28, Go.Proofs.Try.func28, by kernel_rfl, by kernel_rfl, by kernel_rfl, by kernel_rfl⟩
  code := by kernel_rfl
  res := by kernel_rfl

/-! ### Lists of numbers -/
def ints (a : List Int) : List (List PV) := a.map fun n => [.int .i64 n]
theorem ints_length (a : List Int) : (ints a).length = a.length := by simp [ints]
theorem ints_get (a : List Int) (i : Nat) (h : i < a.length) : (ints a)[i]? = some [.int .i64 a[i]] := by simp [ints, h]
theorem ints_app (a b : List Int) : ints a ++ ints b = ints (a ++ b) := by simp [ints]
theorem ints_one (x : Int) : [[PV.int .i64 x]] = ints [x] := rfl
theorem ints_nil : ints [] = [] := rfl
theorem wrap_small {n : Int} (h1 : -4611686018427387904 ≤ n) (h2 : n ≤ 4611686018427387904) : IntKind.i64.wrap n = n := wrap64_id (by omega) (by omega)

/-- The comparison of two lists. -/
def cmpL : List Int → List Int → Int
  | [], [] => 0
  | [], _ :: _ => -1
  | _ :: _, [] => 1
  | x :: xs, y :: ys => if x < y then -1 else if x > y then 1 else cmpL xs ys
theorem cmpL_drop {a b : List Int} {i : Nat} (ha : i < a.length) (hb : i < b.length) : cmpL (a.drop i) (b.drop i) = if a[i] < b[i] then -1 else if a[i] > b[i] then 1 else cmpL (a.drop (i + 1)) (b.drop (i + 1)) := by
  rw [List.drop_eq_getElem_cons ha, List.drop_eq_getElem_cons hb, cmpL]

theorem compare_plain (a b : List Int) (ta tb : Tok) (ha : a.length < 4611686018427387904) : Plain EE 16 [.sl 1 (ints a) ta, .sl 1 (ints b) tb] (.int .i64 (cmpL a b)) := by
  refine plain_of_W ok ok16 (by simp) ?_
  unfold BodyW code Go.Proofs.Try.f16
  simp only [W_skip, W_region, W_seq, W_cond, W_block, W_exit, W_label, W_ret, W_range, OpsW_nil, OpsW_app, OpsW_app', OpsW_op, OpsW_guard, upd_some, upd_none, Br_W1, Br_W2, Br_O1, Br_O2, opF, evalT, evalO, ofConst, argFr, binF, intF, unF, idxN_nat, reduceIte, reduceCtorEq, Nat.reduceEqDiff, Nat.reduceAdd, Nat.reduceMul, Option.getD_some, Option.getD_none, Option.map_some, Option.map_none, Option.bind_some, Option.some.injEq, Prod.mk.injEq, List.getElem?_toArray, List.getElem?_cons_zero, List.getElem?_cons_succ, List.getElem?_nil, Nat.succ_ne_zero, and_self, true_and, and_true, true_or, or_true, false_or, or_false, exists_eq_left, exists_eq_left', exists_eq, exists_and_left, and_assoc, if_true, if_false, decide_true, decide_false, Bool.false_eq_true, beq_self_eq_true, Bool.true_beq, Bool.false_beq, Bool.not_true, Bool.not_false, ne_eq, not_true_eq_false, not_false_eq_true, List.length_cons, List.length_nil, decide_eq_true_eq, decide_eq_false_iff_not, callB, List.zip_cons_cons, List.zip_nil_right, List.zip_nil_left, List.map_cons, List.map_nil, List.size_toArray, partF, TI.agg, scal, isAgg, cellsOf, tokRo, cellOk, List.all_cons, List.all_nil, Bool.and_true, Bool.true_and, Bool.or_true, Bool.true_or, Bool.or_false, Bool.and_self, Nat.reduceLeDiff, Nat.reduceLT, Nat.lt_add_one, Nat.zero_lt_succ, range1, range2, range3, range4, Option.isSome_some, splice, fillF, List.take_zero, List.drop_zero, List.drop_succ_cons, List.take_succ_cons, List.nil_append, List.cons_append, Int.reduceEq, Int.reduceLT, Int.reduceAdd, Int.reduceSub, Int.reduceMul, T3, T22]
  refine W_loop (fun n fr st => ∃ i : Nat, fr 0 = .sl 1 (ints a) ta ∧ fr 1 = .sl 1 (ints b) tb ∧ fr 5 = .int .i64 i ∧ st = [] ∧ n = a.length - i ∧ i ≤ a.length ∧ i ≤ b.length ∧ cmpL a b = cmpL (a.drop i) (b.drop i)) ?_ a.length _ _ ⟨0, by simp [upd, argFr]⟩
  rintro n fr st ⟨i, h0, h1, h5, rfl, rfl, hia, hib, hc⟩
  by_cases ca : (i : Int) < (a.length : Int)
  · by_cases cb : (i : Int) < (b.length : Int)
    · have ia : i < a.length := by omega
      have ib : i < b.length := by omega
      have ga := ints_get a i ia
      have gb := ints_get b i ib
      have hd := cmpL_drop ia ib
      have hw : IntKind.i64.wrap ((i : Int) + 1) = ((i + 1 : Nat) : Int) := by rw [wrap_small (by omega) (by omega)]; rfl
      by_cases c1 : a[i] < b[i]
      · simp only [W_skip, W_region, W_seq, W_cond, W_block, W_exit, W_label, W_ret, W_range, OpsW_nil, OpsW_app, OpsW_app', OpsW_op, OpsW_guard, upd_some, upd_none, Br_W1, Br_W2, Br_O1, Br_O2, opF, evalT, evalO, ofConst, argFr, binF, intF, unF, idxN_nat, reduceIte, reduceCtorEq, Nat.reduceEqDiff, Nat.reduceAdd, Nat.reduceMul, Option.getD_some, Option.getD_none, Option.map_some, Option.map_none, Option.bind_some, Option.some.injEq, Prod.mk.injEq, List.getElem?_toArray, List.getElem?_cons_zero, List.getElem?_cons_succ, List.getElem?_nil, Nat.succ_ne_zero, and_self, true_and, and_true, true_or, or_true, false_or, or_false, exists_eq_left, exists_eq_left', exists_eq, exists_and_left, and_assoc, if_true, if_false, decide_true, decide_false, Bool.false_eq_true, beq_self_eq_true, Bool.true_beq, Bool.false_beq, Bool.not_true, Bool.not_false, ne_eq, not_true_eq_false, not_false_eq_true, List.length_cons, List.length_nil, decide_eq_true_eq, decide_eq_false_iff_not, callB, List.zip_cons_cons, List.zip_nil_right, List.zip_nil_left, List.map_cons, List.map_nil, List.size_toArray, partF, TI.agg, scal, isAgg, cellsOf, tokRo, cellOk, List.all_cons, List.all_nil, Bool.and_true, Bool.true_and, Bool.or_true, Bool.true_or, Bool.or_false, Bool.and_self, Nat.reduceLeDiff, Nat.reduceLT, Nat.lt_add_one, Nat.zero_lt_succ, range1, range2, range3, range4, Option.isSome_some, splice, fillF, List.take_zero, List.drop_zero, List.drop_succ_cons, List.take_succ_cons, List.nil_append, List.cons_append, Int.reduceEq, Int.reduceLT, Int.reduceAdd, Int.reduceSub, Int.reduceMul, T3, T22, h0, h1, h5, ints_length, ca, cb, ga, gb, c1, resF, resAll, resOne]
        refine ⟨1, ?_⟩
        rw [pub_int, hc, hd, if_pos c1]
      · by_cases c2 : a[i] > b[i]
        · simp only [W_skip, W_region, W_seq, W_cond, W_block, W_exit, W_label, W_ret, W_range, OpsW_nil, OpsW_app, OpsW_app', OpsW_op, OpsW_guard, upd_some, upd_none, Br_W1, Br_W2, Br_O1, Br_O2, opF, evalT, evalO, ofConst, argFr, binF, intF, unF, idxN_nat, reduceIte, reduceCtorEq, Nat.reduceEqDiff, Nat.reduceAdd, Nat.reduceMul, Option.getD_some, Option.getD_none, Option.map_some, Option.map_none, Option.bind_some, Option.some.injEq, Prod.mk.injEq, List.getElem?_toArray, List.getElem?_cons_zero, List.getElem?_cons_succ, List.getElem?_nil, Nat.succ_ne_zero, and_self, true_and, and_true, true_or, or_true, false_or, or_false, exists_eq_left, exists_eq_left', exists_eq, exists_and_left, and_assoc, if_true, if_false, decide_true, decide_false, Bool.false_eq_true, beq_self_eq_true, Bool.true_beq, Bool.false_beq, Bool.not_true, Bool.not_false, ne_eq, not_true_eq_false, not_false_eq_true, List.length_cons, List.length_nil, decide_eq_true_eq, decide_eq_false_iff_not, callB, List.zip_cons_cons, List.zip_nil_right, List.zip_nil_left, List.map_cons, List.map_nil, List.size_toArray, partF, TI.agg, scal, isAgg, cellsOf, tokRo, cellOk, List.all_cons, List.all_nil, Bool.and_true, Bool.true_and, Bool.or_true, Bool.true_or, Bool.or_false, Bool.and_self, Nat.reduceLeDiff, Nat.reduceLT, Nat.lt_add_one, Nat.zero_lt_succ, range1, range2, range3, range4, Option.isSome_some, splice, fillF, List.take_zero, List.drop_zero, List.drop_succ_cons, List.take_succ_cons, List.nil_append, List.cons_append, Int.reduceEq, Int.reduceLT, Int.reduceAdd, Int.reduceSub, Int.reduceMul, T3, T22, h0, h1, h5, ints_length, ca, cb, ga, gb, c1, c2, resF, resAll, resOne]
          refine ⟨1, ?_⟩
          rw [pub_int, hc, hd, if_neg c1, if_pos c2]
        · simp only [W_skip, W_region, W_seq, W_cond, W_block, W_exit, W_label, W_ret, W_range, OpsW_nil, OpsW_app, OpsW_app', OpsW_op, OpsW_guard, upd_some, upd_none, Br_W1, Br_W2, Br_O1, Br_O2, opF, evalT, evalO, ofConst, argFr, binF, intF, unF, idxN_nat, reduceIte, reduceCtorEq, Nat.reduceEqDiff, Nat.reduceAdd, Nat.reduceMul, Option.getD_some, Option.getD_none, Option.map_some, Option.map_none, Option.bind_some, Option.some.injEq, Prod.mk.injEq, List.getElem?_toArray, List.getElem?_cons_zero, List.getElem?_cons_succ, List.getElem?_nil, Nat.succ_ne_zero, and_self, true_and, and_true, true_or, or_true, false_or, or_false, exists_eq_left, exists_eq_left', exists_eq, exists_and_left, and_assoc, if_true, if_false, decide_true, decide_false, Bool.false_eq_true, beq_self_eq_true, Bool.true_beq, Bool.false_beq, Bool.not_true, Bool.not_false, ne_eq, not_true_eq_false, not_false_eq_true, List.length_cons, List.length_nil, decide_eq_true_eq, decide_eq_false_iff_not, callB, List.zip_cons_cons, List.zip_nil_right, List.zip_nil_left, List.map_cons, List.map_nil, List.size_toArray, partF, TI.agg, scal, isAgg, cellsOf, tokRo, cellOk, List.all_cons, List.all_nil, Bool.and_true, Bool.true_and, Bool.or_true, Bool.true_or, Bool.or_false, Bool.and_self, Nat.reduceLeDiff, Nat.reduceLT, Nat.lt_add_one, Nat.zero_lt_succ, range1, range2, range3, range4, Option.isSome_some, splice, fillF, List.take_zero, List.drop_zero, List.drop_succ_cons, List.take_succ_cons, List.nil_append, List.cons_append, Int.reduceEq, Int.reduceLT, Int.reduceAdd, Int.reduceSub, Int.reduceMul, T3, T22, h0, h1, h5, ints_length, ca, cb, ga, gb, c1, c2, hw]
          refine ⟨a.length - (i + 1), by omega, i + 1, rfl, rfl, by omega, by omega, ?_⟩
          rw [hc, hd, if_neg c1, if_neg c2]
    · have hl : (b.length : Int) < (a.length : Int) := by omega
      have hl' : ¬ (a.length : Int) < (b.length : Int) := by omega
      simp only [W_skip, W_region, W_seq, W_cond, W_block, W_exit, W_label, W_ret, W_range, OpsW_nil, OpsW_app, OpsW_app', OpsW_op, OpsW_guard, upd_some, upd_none, Br_W1, Br_W2, Br_O1, Br_O2, opF, evalT, evalO, ofConst, argFr, binF, intF, unF, idxN_nat, reduceIte, reduceCtorEq, Nat.reduceEqDiff, Nat.reduceAdd, Nat.reduceMul, Option.getD_some, Option.getD_none, Option.map_some, Option.map_none, Option.bind_some, Option.some.injEq, Prod.mk.injEq, List.getElem?_toArray, List.getElem?_cons_zero, List.getElem?_cons_succ, List.getElem?_nil, Nat.succ_ne_zero, and_self, true_and, and_true, true_or, or_true, false_or, or_false, exists_eq_left, exists_eq_left', exists_eq, exists_and_left, and_assoc, if_true, if_false, decide_true, decide_false, Bool.false_eq_true, beq_self_eq_true, Bool.true_beq, Bool.false_beq, Bool.not_true, Bool.not_false, ne_eq, not_true_eq_false, not_false_eq_true, List.length_cons, List.length_nil, decide_eq_true_eq, decide_eq_false_iff_not, callB, List.zip_cons_cons, List.zip_nil_right, List.zip_nil_left, List.map_cons, List.map_nil, List.size_toArray, partF, TI.agg, scal, isAgg, cellsOf, tokRo, cellOk, List.all_cons, List.all_nil, Bool.and_true, Bool.true_and, Bool.or_true, Bool.true_or, Bool.or_false, Bool.and_self, Nat.reduceLeDiff, Nat.reduceLT, Nat.lt_add_one, Nat.zero_lt_succ, range1, range2, range3, range4, Option.isSome_some, splice, fillF, List.take_zero, List.drop_zero, List.drop_succ_cons, List.take_succ_cons, List.nil_append, List.cons_append, Int.reduceEq, Int.reduceLT, Int.reduceAdd, Int.reduceSub, Int.reduceMul, T3, T22, h0, h1, h5, ints_length, ca, cb, resF, resAll, resOne, hl, hl', gt_iff_lt]
      refine ⟨1, ?_⟩
      rw [pub_int, hc, show b.drop i = [] from List.drop_eq_nil_of_le (by omega), List.drop_eq_getElem_cons (by omega : i < a.length)]
      rfl
  · by_cases cb : (i : Int) < (b.length : Int)
    · have hl' : (a.length : Int) < (b.length : Int) := by omega
      simp only [W_skip, W_region, W_seq, W_cond, W_block, W_exit, W_label, W_ret, W_range, OpsW_nil, OpsW_app, OpsW_app', OpsW_op, OpsW_guard, upd_some, upd_none, Br_W1, Br_W2, Br_O1, Br_O2, opF, evalT, evalO, ofConst, argFr, binF, intF, unF, idxN_nat, reduceIte, reduceCtorEq, Nat.reduceEqDiff, Nat.reduceAdd, Nat.reduceMul, Option.getD_some, Option.getD_none, Option.map_some, Option.map_none, Option.bind_some, Option.some.injEq, Prod.mk.injEq, List.getElem?_toArray, List.getElem?_cons_zero, List.getElem?_cons_succ, List.getElem?_nil, Nat.succ_ne_zero, and_self, true_and, and_true, true_or, or_true, false_or, or_false, exists_eq_left, exists_eq_left', exists_eq, exists_and_left, and_assoc, if_true, if_false, decide_true, decide_false, Bool.false_eq_true, beq_self_eq_true, Bool.true_beq, Bool.false_beq, Bool.not_true, Bool.not_false, ne_eq, not_true_eq_false, not_false_eq_true, List.length_cons, List.length_nil, decide_eq_true_eq, decide_eq_false_iff_not, callB, List.zip_cons_cons, List.zip_nil_right, List.zip_nil_left, List.map_cons, List.map_nil, List.size_toArray, partF, TI.agg, scal, isAgg, cellsOf, tokRo, cellOk, List.all_cons, List.all_nil, Bool.and_true, Bool.true_and, Bool.or_true, Bool.true_or, Bool.or_false, Bool.and_self, Nat.reduceLeDiff, Nat.reduceLT, Nat.lt_add_one, Nat.zero_lt_succ, range1, range2, range3, range4, Option.isSome_some, splice, fillF, List.take_zero, List.drop_zero, List.drop_succ_cons, List.take_succ_cons, List.nil_append, List.cons_append, Int.reduceEq, Int.reduceLT, Int.reduceAdd, Int.reduceSub, Int.reduceMul, T3, T22, h0, h1, h5, ints_length, ca, resF, resAll, resOne, hl', gt_iff_lt]
      refine ⟨1, ?_⟩
      rw [pub_int, hc, show a.drop i = [] from List.drop_eq_nil_of_le (by omega), List.drop_eq_getElem_cons (by omega : i < b.length)]
      rfl
    · have hl : ¬ (b.length : Int) < (a.length : Int) := by omega
      have hl' : ¬ (a.length : Int) < (b.length : Int) := by omega
      simp only [W_skip, W_region, W_seq, W_cond, W_block, W_exit, W_label, W_ret, W_range, OpsW_nil, OpsW_app, OpsW_app', OpsW_op, OpsW_guard, upd_some, upd_none, Br_W1, Br_W2, Br_O1, Br_O2, opF, evalT, evalO, ofConst, argFr, binF, intF, unF, idxN_nat, reduceIte, reduceCtorEq, Nat.reduceEqDiff, Nat.reduceAdd, Nat.reduceMul, Option.getD_some, Option.getD_none, Option.map_some, Option.map_none, Option.bind_some, Option.some.injEq, Prod.mk.injEq, List.getElem?_toArray, List.getElem?_cons_zero, List.getElem?_cons_succ, List.getElem?_nil, Nat.succ_ne_zero, and_self, true_and, and_true, true_or, or_true, false_or, or_false, exists_eq_left, exists_eq_left', exists_eq, exists_and_left, and_assoc, if_true, if_false, decide_true, decide_false, Bool.false_eq_true, beq_self_eq_true, Bool.true_beq, Bool.false_beq, Bool.not_true, Bool.not_false, ne_eq, not_true_eq_false, not_false_eq_true, List.length_cons, List.length_nil, decide_eq_true_eq, decide_eq_false_iff_not, callB, List.zip_cons_cons, List.zip_nil_right, List.zip_nil_left, List.map_cons, List.map_nil, List.size_toArray, partF, TI.agg, scal, isAgg, cellsOf, tokRo, cellOk, List.all_cons, List.all_nil, Bool.and_true, Bool.true_and, Bool.or_true, Bool.true_or, Bool.or_false, Bool.and_self, Nat.reduceLeDiff, Nat.reduceLT, Nat.lt_add_one, Nat.zero_lt_succ, range1, range2, range3, range4, Option.isSome_some, splice, fillF, List.take_zero, List.drop_zero, List.drop_succ_cons, List.take_succ_cons, List.nil_append, List.cons_append, Int.reduceEq, Int.reduceLT, Int.reduceAdd, Int.reduceSub, Int.reduceMul, T3, T22, h0, h1, h5, ints_length, ca, resF, resAll, resOne, hl, hl', gt_iff_lt]
      refine ⟨1, ?_⟩
      rw [pub_int, hc, show b.drop i = [] from List.drop_eq_nil_of_le (by omega), show a.drop i = [] from List.drop_eq_nil_of_le (by omega)]
      rfl


theorem number_W (f : Func) (hf : f = Go.Proofs.Try.f19 ∨ f = Go.Proofs.Try.f21) (m : Int) : BodyW EE 10 [.tmp 2] (code f) [.int .i64 m] [] fun p st1 => ∃ n, pub st1 n p = some (.int .i64 (if m < 1 ∨ m > 65535 then 65535 else m)) := by
  rcases hf with rfl | rfl
  · unfold BodyW code Go.Proofs.Try.f19
    by_cases h1 : m < 1
    · simp only [W_skip, W_region, W_seq, W_cond, W_block, W_exit, W_label, W_ret, W_range, OpsW_nil, OpsW_app, OpsW_app', OpsW_op, OpsW_guard, upd_some, upd_none, Br_W1, Br_W2, Br_O1, Br_O2, opF, evalT, evalO, ofConst, argFr, binF, intF, unF, idxN_nat, reduceIte, reduceCtorEq, Nat.reduceEqDiff, Nat.reduceAdd, Nat.reduceMul, Option.getD_some, Option.getD_none, Option.map_some, Option.map_none, Option.bind_some, Option.some.injEq, Prod.mk.injEq, List.getElem?_toArray, List.getElem?_cons_zero, List.getElem?_cons_succ, List.getElem?_nil, Nat.succ_ne_zero, and_self, true_and, and_true, true_or, or_true, false_or, or_false, exists_eq_left, exists_eq_left', exists_eq, exists_and_left, and_assoc, if_true, if_false, decide_true, decide_false, Bool.false_eq_true, beq_self_eq_true, Bool.true_beq, Bool.false_beq, Bool.not_true, Bool.not_false, ne_eq, not_true_eq_false, not_false_eq_true, List.length_cons, List.length_nil, decide_eq_true_eq, decide_eq_false_iff_not, callB, List.zip_cons_cons, List.zip_nil_right, List.zip_nil_left, List.map_cons, List.map_nil, List.size_toArray, partF, TI.agg, scal, isAgg, cellsOf, tokRo, cellOk, List.all_cons, List.all_nil, Bool.and_true, Bool.true_and, Bool.or_true, Bool.true_or, Bool.or_false, Bool.and_self, Nat.reduceLeDiff, Nat.reduceLT, Nat.lt_add_one, Nat.zero_lt_succ, range1, range2, range3, range4, Option.isSome_some, splice, fillF, List.take_zero, List.drop_zero, List.drop_succ_cons, List.take_succ_cons, List.nil_append, List.cons_append, Int.reduceEq, Int.reduceLT, Int.reduceAdd, Int.reduceSub, Int.reduceMul, T3, h1, resF, resAll, resOne]
      exact ⟨1, pub_int _ _ _ _⟩
    by_cases h2 : m > 65535
    · simp only [W_skip, W_region, W_seq, W_cond, W_block, W_exit, W_label, W_ret, W_range, OpsW_nil, OpsW_app, OpsW_app', OpsW_op, OpsW_guard, upd_some, upd_none, Br_W1, Br_W2, Br_O1, Br_O2, opF, evalT, evalO, ofConst, argFr, binF, intF, unF, idxN_nat, reduceIte, reduceCtorEq, Nat.reduceEqDiff, Nat.reduceAdd, Nat.reduceMul, Option.getD_some, Option.getD_none, Option.map_some, Option.map_none, Option.bind_some, Option.some.injEq, Prod.mk.injEq, List.getElem?_toArray, List.getElem?_cons_zero, List.getElem?_cons_succ, List.getElem?_nil, Nat.succ_ne_zero, and_self, true_and, and_true, true_or, or_true, false_or, or_false, exists_eq_left, exists_eq_left', exists_eq, exists_and_left, and_assoc, if_true, if_false, decide_true, decide_false, Bool.false_eq_true, beq_self_eq_true, Bool.true_beq, Bool.false_beq, Bool.not_true, Bool.not_false, ne_eq, not_true_eq_false, not_false_eq_true, List.length_cons, List.length_nil, decide_eq_true_eq, decide_eq_false_iff_not, callB, List.zip_cons_cons, List.zip_nil_right, List.zip_nil_left, List.map_cons, List.map_nil, List.size_toArray, partF, TI.agg, scal, isAgg, cellsOf, tokRo, cellOk, List.all_cons, List.all_nil, Bool.and_true, Bool.true_and, Bool.or_true, Bool.true_or, Bool.or_false, Bool.and_self, Nat.reduceLeDiff, Nat.reduceLT, Nat.lt_add_one, Nat.zero_lt_succ, range1, range2, range3, range4, Option.isSome_some, splice, fillF, List.take_zero, List.drop_zero, List.drop_succ_cons, List.take_succ_cons, List.nil_append, List.cons_append, Int.reduceEq, Int.reduceLT, Int.reduceAdd, Int.reduceSub, Int.reduceMul, T3, h1, h2, resF, resAll, resOne]
      exact ⟨1, pub_int _ _ _ _⟩
    · simp only [W_skip, W_region, W_seq, W_cond, W_block, W_exit, W_label, W_ret, W_range, OpsW_nil, OpsW_app, OpsW_app', OpsW_op, OpsW_guard, upd_some, upd_none, Br_W1, Br_W2, Br_O1, Br_O2, opF, evalT, evalO, ofConst, argFr, binF, intF, unF, idxN_nat, reduceIte, reduceCtorEq, Nat.reduceEqDiff, Nat.reduceAdd, Nat.reduceMul, Option.getD_some, Option.getD_none, Option.map_some, Option.map_none, Option.bind_some, Option.some.injEq, Prod.mk.injEq, List.getElem?_toArray, List.getElem?_cons_zero, List.getElem?_cons_succ, List.getElem?_nil, Nat.succ_ne_zero, and_self, true_and, and_true, true_or, or_true, false_or, or_false, exists_eq_left, exists_eq_left', exists_eq, exists_and_left, and_assoc, if_true, if_false, decide_true, decide_false, Bool.false_eq_true, beq_self_eq_true, Bool.true_beq, Bool.false_beq, Bool.not_true, Bool.not_false, ne_eq, not_true_eq_false, not_false_eq_true, List.length_cons, List.length_nil, decide_eq_true_eq, decide_eq_false_iff_not, callB, List.zip_cons_cons, List.zip_nil_right, List.zip_nil_left, List.map_cons, List.map_nil, List.size_toArray, partF, TI.agg, scal, isAgg, cellsOf, tokRo, cellOk, List.all_cons, List.all_nil, Bool.and_true, Bool.true_and, Bool.or_true, Bool.true_or, Bool.or_false, Bool.and_self, Nat.reduceLeDiff, Nat.reduceLT, Nat.lt_add_one, Nat.zero_lt_succ, range1, range2, range3, range4, Option.isSome_some, splice, fillF, List.take_zero, List.drop_zero, List.drop_succ_cons, List.take_succ_cons, List.nil_append, List.cons_append, Int.reduceEq, Int.reduceLT, Int.reduceAdd, Int.reduceSub, Int.reduceMul, T3, h1, h2, resF, resAll, resOne]
      exact ⟨1, pub_int _ _ _ _⟩
  · unfold BodyW code Go.Proofs.Try.f21
    by_cases h1 : m < 1
    · simp only [W_skip, W_region, W_seq, W_cond, W_block, W_exit, W_label, W_ret, W_range, OpsW_nil, OpsW_app, OpsW_app', OpsW_op, OpsW_guard, upd_some, upd_none, Br_W1, Br_W2, Br_O1, Br_O2, opF, evalT, evalO, ofConst, argFr, binF, intF, unF, idxN_nat, reduceIte, reduceCtorEq, Nat.reduceEqDiff, Nat.reduceAdd, Nat.reduceMul, Option.getD_some, Option.getD_none, Option.map_some, Option.map_none, Option.bind_some, Option.some.injEq, Prod.mk.injEq, List.getElem?_toArray, List.getElem?_cons_zero, List.getElem?_cons_succ, List.getElem?_nil, Nat.succ_ne_zero, and_self, true_and, and_true, true_or, or_true, false_or, or_false, exists_eq_left, exists_eq_left', exists_eq, exists_and_left, and_assoc, if_true, if_false, decide_true, decide_false, Bool.false_eq_true, beq_self_eq_true, Bool.true_beq, Bool.false_beq, Bool.not_true, Bool.not_false, ne_eq, not_true_eq_false, not_false_eq_true, List.length_cons, List.length_nil, decide_eq_true_eq, decide_eq_false_iff_not, callB, List.zip_cons_cons, List.zip_nil_right, List.zip_nil_left, List.map_cons, List.map_nil, List.size_toArray, partF, TI.agg, scal, isAgg, cellsOf, tokRo, cellOk, List.all_cons, List.all_nil, Bool.and_true, Bool.true_and, Bool.or_true, Bool.true_or, Bool.or_false, Bool.and_self, Nat.reduceLeDiff, Nat.reduceLT, Nat.lt_add_one, Nat.zero_lt_succ, range1, range2, range3, range4, Option.isSome_some, splice, fillF, List.take_zero, List.drop_zero, List.drop_succ_cons, List.take_succ_cons, List.nil_append, List.cons_append, Int.reduceEq, Int.reduceLT, Int.reduceAdd, Int.reduceSub, Int.reduceMul, T3, h1, resF, resAll, resOne]
      exact ⟨1, pub_int _ _ _ _⟩
    by_cases h2 : m > 65535
    · simp only [W_skip, W_region, W_seq, W_cond, W_block, W_exit, W_label, W_ret, W_range, OpsW_nil, OpsW_app, OpsW_app', OpsW_op, OpsW_guard, upd_some, upd_none, Br_W1, Br_W2, Br_O1, Br_O2, opF, evalT, evalO, ofConst, argFr, binF, intF, unF, idxN_nat, reduceIte, reduceCtorEq, Nat.reduceEqDiff, Nat.reduceAdd, Nat.reduceMul, Option.getD_some, Option.getD_none, Option.map_some, Option.map_none, Option.bind_some, Option.some.injEq, Prod.mk.injEq, List.getElem?_toArray, List.getElem?_cons_zero, List.getElem?_cons_succ, List.getElem?_nil, Nat.succ_ne_zero, and_self, true_and, and_true, true_or, or_true, false_or, or_false, exists_eq_left, exists_eq_left', exists_eq, exists_and_left, and_assoc, if_true, if_false, decide_true, decide_false, Bool.false_eq_true, beq_self_eq_true, Bool.true_beq, Bool.false_beq, Bool.not_true, Bool.not_false, ne_eq, not_true_eq_false, not_false_eq_true, List.length_cons, List.length_nil, decide_eq_true_eq, decide_eq_false_iff_not, callB, List.zip_cons_cons, List.zip_nil_right, List.zip_nil_left, List.map_cons, List.map_nil, List.size_toArray, partF, TI.agg, scal, isAgg, cellsOf, tokRo, cellOk, List.all_cons, List.all_nil, Bool.and_true, Bool.true_and, Bool.or_true, Bool.true_or, Bool.or_false, Bool.and_self, Nat.reduceLeDiff, Nat.reduceLT, Nat.lt_add_one, Nat.zero_lt_succ, range1, range2, range3, range4, Option.isSome_some, splice, fillF, List.take_zero, List.drop_zero, List.drop_succ_cons, List.take_succ_cons, List.nil_append, List.cons_append, Int.reduceEq, Int.reduceLT, Int.reduceAdd, Int.reduceSub, Int.reduceMul, T3, h1, h2, resF, resAll, resOne]
      exact ⟨1, pub_int _ _ _ _⟩
    · simp only [W_skip, W_region, W_seq, W_cond, W_block, W_exit, W_label, W_ret, W_range, OpsW_nil, OpsW_app, OpsW_app', OpsW_op, OpsW_guard, upd_some, upd_none, Br_W1, Br_W2, Br_O1, Br_O2, opF, evalT, evalO, ofConst, argFr, binF, intF, unF, idxN_nat, reduceIte, reduceCtorEq, Nat.reduceEqDiff, Nat.reduceAdd, Nat.reduceMul, Option.getD_some, Option.getD_none, Option.map_some, Option.map_none, Option.bind_some, Option.some.injEq, Prod.mk.injEq, List.getElem?_toArray, List.getElem?_cons_zero, List.getElem?_cons_succ, List.getElem?_nil, Nat.succ_ne_zero, and_self, true_and, and_true, true_or, or_true, false_or, or_false, exists_eq_left, exists_eq_left', exists_eq, exists_and_left, and_assoc, if_true, if_false, decide_true, decide_false, Bool.false_eq_true, beq_self_eq_true, Bool.true_beq, Bool.false_beq, Bool.not_true, Bool.not_false, ne_eq, not_true_eq_false, not_false_eq_true, List.length_cons, List.length_nil, decide_eq_true_eq, decide_eq_false_iff_not, callB, List.zip_cons_cons, List.zip_nil_right, List.zip_nil_left, List.map_cons, List.map_nil, List.size_toArray, partF, TI.agg, scal, isAgg, cellsOf, tokRo, cellOk, List.all_cons, List.all_nil, Bool.and_true, Bool.true_and, Bool.or_true, Bool.true_or, Bool.or_false, Bool.and_self, Nat.reduceLeDiff, Nat.reduceLT, Nat.lt_add_one, Nat.zero_lt_succ, range1, range2, range3, range4, Option.isSome_some, splice, fillF, List.take_zero, List.drop_zero, List.drop_succ_cons, List.take_succ_cons, List.nil_append, List.cons_append, Int.reduceEq, Int.reduceLT, Int.reduceAdd, Int.reduceSub, Int.reduceMul, T3, h1, h2, resF, resAll, resOne]
      exact ⟨1, pub_int _ _ _ _⟩
def number (m : Int) : Int := if m < 1 ∨ m > 65535 then 65535 else m
theorem number_range (m : Int) : 1 ≤ number m ∧ number m ≤ 65535 := by unfold number; split <;> omega
theorem number_plain (m : Int) : Plain EE 19 [.int .i64 m] (.int .i64 (number m)) := plain_of_W ok ok19 (by simp) (number_W _ (.inl rfl) m)
theorem common_plain (m : Int) : Plain EE 21 [.int .i64 m] (.int .i64 (number m)) := plain_of_W ok ok21 (by simp) (number_W _ (.inr rfl) m)

def weight (n : Int) : Int := if n < 0 ∨ n > 65535 then 0 else n
theorem weight_range (n : Int) : 0 ≤ weight n ∧ weight n ≤ 65535 := by unfold weight; split <;> omega
theorem weight_plain (m : Int) : Plain EE 26 [.int .i64 m] (.int .i64 (weight m)) := by
  refine plain_of_W ok ok26 (by simp) ?_
  unfold BodyW code Go.Proofs.Try.f26 weight
  by_cases h1 : m < 0
  · simp only [W_skip, W_region, W_seq, W_cond, W_block, W_exit, W_label, W_ret, W_range, OpsW_nil, OpsW_app, OpsW_app', OpsW_op, OpsW_guard, upd_some, upd_none, Br_W1, Br_W2, Br_O1, Br_O2, opF, evalT, evalO, ofConst, argFr, binF, intF, unF, idxN_nat, reduceIte, reduceCtorEq, Nat.reduceEqDiff, Nat.reduceAdd, Nat.reduceMul, Option.getD_some, Option.getD_none, Option.map_some, Option.map_none, Option.bind_some, Option.some.injEq, Prod.mk.injEq, List.getElem?_toArray, List.getElem?_cons_zero, List.getElem?_cons_succ, List.getElem?_nil, Nat.succ_ne_zero, and_self, true_and, and_true, true_or, or_true, false_or, or_false, exists_eq_left, exists_eq_left', exists_eq, exists_and_left, and_assoc, if_true, if_false, decide_true, decide_false, Bool.false_eq_true, beq_self_eq_true, Bool.true_beq, Bool.false_beq, Bool.not_true, Bool.not_false, ne_eq, not_true_eq_false, not_false_eq_true, List.length_cons, List.length_nil, decide_eq_true_eq, decide_eq_false_iff_not, callB, List.zip_cons_cons, List.zip_nil_right, List.zip_nil_left, List.map_cons, List.map_nil, List.size_toArray, partF, TI.agg, scal, isAgg, cellsOf, tokRo, cellOk, List.all_cons, List.all_nil, Bool.and_true, Bool.true_and, Bool.or_true, Bool.true_or, Bool.or_false, Bool.and_self, Nat.reduceLeDiff, Nat.reduceLT, Nat.lt_add_one, Nat.zero_lt_succ, range1, range2, range3, range4, Option.isSome_some, splice, fillF, List.take_zero, List.drop_zero, List.drop_succ_cons, List.take_succ_cons, List.nil_append, List.cons_append, Int.reduceEq, Int.reduceLT, Int.reduceAdd, Int.reduceSub, Int.reduceMul, T3, h1, resF, resAll, resOne]
    exact ⟨1, pub_int _ _ _ _⟩
  by_cases h2 : m > 65535
  · simp only [W_skip, W_region, W_seq, W_cond, W_block, W_exit, W_label, W_ret, W_range, OpsW_nil, OpsW_app, OpsW_app', OpsW_op, OpsW_guard, upd_some, upd_none, Br_W1, Br_W2, Br_O1, Br_O2, opF, evalT, evalO, ofConst, argFr, binF, intF, unF, idxN_nat, reduceIte, reduceCtorEq, Nat.reduceEqDiff, Nat.reduceAdd, Nat.reduceMul, Option.getD_some, Option.getD_none, Option.map_some, Option.map_none, Option.bind_some, Option.some.injEq, Prod.mk.injEq, List.getElem?_toArray, List.getElem?_cons_zero, List.getElem?_cons_succ, List.getElem?_nil, Nat.succ_ne_zero, and_self, true_and, and_true, true_or, or_true, false_or, or_false, exists_eq_left, exists_eq_left', exists_eq, exists_and_left, and_assoc, if_true, if_false, decide_true, decide_false, Bool.false_eq_true, beq_self_eq_true, Bool.true_beq, Bool.false_beq, Bool.not_true, Bool.not_false, ne_eq, not_true_eq_false, not_false_eq_true, List.length_cons, List.length_nil, decide_eq_true_eq, decide_eq_false_iff_not, callB, List.zip_cons_cons, List.zip_nil_right, List.zip_nil_left, List.map_cons, List.map_nil, List.size_toArray, partF, TI.agg, scal, isAgg, cellsOf, tokRo, cellOk, List.all_cons, List.all_nil, Bool.and_true, Bool.true_and, Bool.or_true, Bool.true_or, Bool.or_false, Bool.and_self, Nat.reduceLeDiff, Nat.reduceLT, Nat.lt_add_one, Nat.zero_lt_succ, range1, range2, range3, range4, Option.isSome_some, splice, fillF, List.take_zero, List.drop_zero, List.drop_succ_cons, List.take_succ_cons, List.nil_append, List.cons_append, Int.reduceEq, Int.reduceLT, Int.reduceAdd, Int.reduceSub, Int.reduceMul, T3, h1, h2, resF, resAll, resOne]
    exact ⟨1, pub_int _ _ _ _⟩
  · simp only [W_skip, W_region, W_seq, W_cond, W_block, W_exit, W_label, W_ret, W_range, OpsW_nil, OpsW_app, OpsW_app', OpsW_op, OpsW_guard, upd_some, upd_none, Br_W1, Br_W2, Br_O1, Br_O2, opF, evalT, evalO, ofConst, argFr, binF, intF, unF, idxN_nat, reduceIte, reduceCtorEq, Nat.reduceEqDiff, Nat.reduceAdd, Nat.reduceMul, Option.getD_some, Option.getD_none, Option.map_some, Option.map_none, Option.bind_some, Option.some.injEq, Prod.mk.injEq, List.getElem?_toArray, List.getElem?_cons_zero, List.getElem?_cons_succ, List.getElem?_nil, Nat.succ_ne_zero, and_self, true_and, and_true, true_or, or_true, false_or, or_false, exists_eq_left, exists_eq_left', exists_eq, exists_and_left, and_assoc, if_true, if_false, decide_true, decide_false, Bool.false_eq_true, beq_self_eq_true, Bool.true_beq, Bool.false_beq, Bool.not_true, Bool.not_false, ne_eq, not_true_eq_false, not_false_eq_true, List.length_cons, List.length_nil, decide_eq_true_eq, decide_eq_false_iff_not, callB, List.zip_cons_cons, List.zip_nil_right, List.zip_nil_left, List.map_cons, List.map_nil, List.size_toArray, partF, TI.agg, scal, isAgg, cellsOf, tokRo, cellOk, List.all_cons, List.all_nil, Bool.and_true, Bool.true_and, Bool.or_true, Bool.true_or, Bool.or_false, Bool.and_self, Nat.reduceLeDiff, Nat.reduceLT, Nat.lt_add_one, Nat.zero_lt_succ, range1, range2, range3, range4, Option.isSome_some, splice, fillF, List.take_zero, List.drop_zero, List.drop_succ_cons, List.take_succ_cons, List.nil_append, List.cons_append, Int.reduceEq, Int.reduceLT, Int.reduceAdd, Int.reduceSub, Int.reduceMul, T3, h1, h2, resF, resAll, resOne]
    exact ⟨1, pub_int _ _ _ _⟩

def order (a b : Int) : Int := if a < b then -1 else if a > b then 1 else 0
theorem order_plain (a b : Int) : Plain EE 28 [.int .i64 a, .int .i64 b] (.int .i64 (order a b)) := by
  refine plain_of_W ok ok28 (by simp) ?_
  unfold BodyW code Go.Proofs.Try.f28 order
  by_cases h1 : a < b
  · simp only [W_skip, W_region, W_seq, W_cond, W_block, W_exit, W_label, W_ret, W_range, OpsW_nil, OpsW_app, OpsW_app', OpsW_op, OpsW_guard, upd_some, upd_none, Br_W1, Br_W2, Br_O1, Br_O2, opF, evalT, evalO, ofConst, argFr, binF, intF, unF, idxN_nat, reduceIte, reduceCtorEq, Nat.reduceEqDiff, Nat.reduceAdd, Nat.reduceMul, Option.getD_some, Option.getD_none, Option.map_some, Option.map_none, Option.bind_some, Option.some.injEq, Prod.mk.injEq, List.getElem?_toArray, List.getElem?_cons_zero, List.getElem?_cons_succ, List.getElem?_nil, Nat.succ_ne_zero, and_self, true_and, and_true, true_or, or_true, false_or, or_false, exists_eq_left, exists_eq_left', exists_eq, exists_and_left, and_assoc, if_true, if_false, decide_true, decide_false, Bool.false_eq_true, beq_self_eq_true, Bool.true_beq, Bool.false_beq, Bool.not_true, Bool.not_false, ne_eq, not_true_eq_false, not_false_eq_true, List.length_cons, List.length_nil, decide_eq_true_eq, decide_eq_false_iff_not, callB, List.zip_cons_cons, List.zip_nil_right, List.zip_nil_left, List.map_cons, List.map_nil, List.size_toArray, partF, TI.agg, scal, isAgg, cellsOf, tokRo, cellOk, List.all_cons, List.all_nil, Bool.and_true, Bool.true_and, Bool.or_true, Bool.true_or, Bool.or_false, Bool.and_self, Nat.reduceLeDiff, Nat.reduceLT, Nat.lt_add_one, Nat.zero_lt_succ, range1, range2, range3, range4, Option.isSome_some, splice, fillF, List.take_zero, List.drop_zero, List.drop_succ_cons, List.take_succ_cons, List.nil_append, List.cons_append, Int.reduceEq, Int.reduceLT, Int.reduceAdd, Int.reduceSub, Int.reduceMul, T3, T4, h1, resF, resAll, resOne]
    exact ⟨1, pub_int _ _ _ _⟩
  by_cases h2 : a > b
  · simp only [W_skip, W_region, W_seq, W_cond, W_block, W_exit, W_label, W_ret, W_range, OpsW_nil, OpsW_app, OpsW_app', OpsW_op, OpsW_guard, upd_some, upd_none, Br_W1, Br_W2, Br_O1, Br_O2, opF, evalT, evalO, ofConst, argFr, binF, intF, unF, idxN_nat, reduceIte, reduceCtorEq, Nat.reduceEqDiff, Nat.reduceAdd, Nat.reduceMul, Option.getD_some, Option.getD_none, Option.map_some, Option.map_none, Option.bind_some, Option.some.injEq, Prod.mk.injEq, List.getElem?_toArray, List.getElem?_cons_zero, List.getElem?_cons_succ, List.getElem?_nil, Nat.succ_ne_zero, and_self, true_and, and_true, true_or, or_true, false_or, or_false, exists_eq_left, exists_eq_left', exists_eq, exists_and_left, and_assoc, if_true, if_false, decide_true, decide_false, Bool.false_eq_true, beq_self_eq_true, Bool.true_beq, Bool.false_beq, Bool.not_true, Bool.not_false, ne_eq, not_true_eq_false, not_false_eq_true, List.length_cons, List.length_nil, decide_eq_true_eq, decide_eq_false_iff_not, callB, List.zip_cons_cons, List.zip_nil_right, List.zip_nil_left, List.map_cons, List.map_nil, List.size_toArray, partF, TI.agg, scal, isAgg, cellsOf, tokRo, cellOk, List.all_cons, List.all_nil, Bool.and_true, Bool.true_and, Bool.or_true, Bool.true_or, Bool.or_false, Bool.and_self, Nat.reduceLeDiff, Nat.reduceLT, Nat.lt_add_one, Nat.zero_lt_succ, range1, range2, range3, range4, Option.isSome_some, splice, fillF, List.take_zero, List.drop_zero, List.drop_succ_cons, List.take_succ_cons, List.nil_append, List.cons_append, Int.reduceEq, Int.reduceLT, Int.reduceAdd, Int.reduceSub, Int.reduceMul, T3, T4, h1, h2, resF, resAll, resOne]
    exact ⟨1, pub_int _ _ _ _⟩
  · simp only [W_skip, W_region, W_seq, W_cond, W_block, W_exit, W_label, W_ret, W_range, OpsW_nil, OpsW_app, OpsW_app', OpsW_op, OpsW_guard, upd_some, upd_none, Br_W1, Br_W2, Br_O1, Br_O2, opF, evalT, evalO, ofConst, argFr, binF, intF, unF, idxN_nat, reduceIte, reduceCtorEq, Nat.reduceEqDiff, Nat.reduceAdd, Nat.reduceMul, Option.getD_some, Option.getD_none, Option.map_some, Option.map_none, Option.bind_some, Option.some.injEq, Prod.mk.injEq, List.getElem?_toArray, List.getElem?_cons_zero, List.getElem?_cons_succ, List.getElem?_nil, Nat.succ_ne_zero, and_self, true_and, and_true, true_or, or_true, false_or, or_false, exists_eq_left, exists_eq_left', exists_eq, exists_and_left, and_assoc, if_true, if_false, decide_true, decide_false, Bool.false_eq_true, beq_self_eq_true, Bool.true_beq, Bool.false_beq, Bool.not_true, Bool.not_false, ne_eq, not_true_eq_false, not_false_eq_true, List.length_cons, List.length_nil, decide_eq_true_eq, decide_eq_false_iff_not, callB, List.zip_cons_cons, List.zip_nil_right, List.zip_nil_left, List.map_cons, List.map_nil, List.size_toArray, partF, TI.agg, scal, isAgg, cellsOf, tokRo, cellOk, List.all_cons, List.all_nil, Bool.and_true, Bool.true_and, Bool.or_true, Bool.true_or, Bool.or_false, Bool.and_self, Nat.reduceLeDiff, Nat.reduceLT, Nat.lt_add_one, Nat.zero_lt_succ, range1, range2, range3, range4, Option.isSome_some, splice, fillF, List.take_zero, List.drop_zero, List.drop_succ_cons, List.take_succ_cons, List.nil_append, List.cons_append, Int.reduceEq, Int.reduceLT, Int.reduceAdd, Int.reduceSub, Int.reduceMul, T3, T4, h1, h2, resF, resAll, resOne]
    exact ⟨1, pub_int _ _ _ _⟩

theorem equal_plain (a b : List Int) (ta tb : Tok) (ha : a.length < 4611686018427387904) : Plain EE 9 [.sl 1 (ints a) ta, .sl 1 (ints b) tb] (.bool (cmpL a b == 0)) := by
  refine plain_of_W ok ok9 (by simp) ?_
  unfold BodyW code Go.Proofs.Try.f9
  simp only [W_skip, W_region, W_seq, W_cond, W_block, W_exit, W_label, W_ret, W_range, OpsW_nil, OpsW_app, OpsW_app', OpsW_op, OpsW_guard, upd_some, upd_none, Br_W1, Br_W2, Br_O1, Br_O2, opF, evalT, evalO, ofConst, argFr, binF, intF, unF, idxN_nat, reduceIte, reduceCtorEq, Nat.reduceEqDiff, Nat.reduceAdd, Nat.reduceMul, Option.getD_some, Option.getD_none, Option.map_some, Option.map_none, Option.bind_some, Option.some.injEq, Prod.mk.injEq, List.getElem?_toArray, List.getElem?_cons_zero, List.getElem?_cons_succ, List.getElem?_nil, Nat.succ_ne_zero, and_self, true_and, and_true, true_or, or_true, false_or, or_false, exists_eq_left, exists_eq_left', exists_eq, exists_and_left, and_assoc, if_true, if_false, decide_true, decide_false, Bool.false_eq_true, beq_self_eq_true, Bool.true_beq, Bool.false_beq, Bool.not_true, Bool.not_false, ne_eq, not_true_eq_false, not_false_eq_true, List.length_cons, List.length_nil, decide_eq_true_eq, decide_eq_false_iff_not, callB, List.zip_cons_cons, List.zip_nil_right, List.zip_nil_left, List.map_cons, List.map_nil, List.size_toArray, partF, TI.agg, scal, isAgg, cellsOf, tokRo, cellOk, List.all_cons, List.all_nil, Bool.and_true, Bool.true_and, Bool.or_true, Bool.true_or, Bool.or_false, Bool.and_self, Nat.reduceLeDiff, Nat.reduceLT, Nat.lt_add_one, Nat.zero_lt_succ, range1, range2, range3, range4, Option.isSome_some, splice, fillF, List.take_zero, List.drop_zero, List.drop_succ_cons, List.take_succ_cons, List.nil_append, List.cons_append, Int.reduceEq, Int.reduceLT, Int.reduceAdd, Int.reduceSub, Int.reduceMul, T3, T4, T22]
  refine OpsW_pl (compare_plain a b _ _ ha) rfl rfl (by simp only [W_skip, W_region, W_seq, W_cond, W_block, W_exit, W_label, W_ret, W_range, OpsW_nil, OpsW_app, OpsW_app', OpsW_op, OpsW_guard, upd_some, upd_none, Br_W1, Br_W2, Br_O1, Br_O2, opF, evalT, evalO, ofConst, argFr, binF, intF, unF, idxN_nat, reduceIte, reduceCtorEq, Nat.reduceEqDiff, Nat.reduceAdd, Nat.reduceMul, Option.getD_some, Option.getD_none, Option.map_some, Option.map_none, Option.bind_some, Option.some.injEq, Prod.mk.injEq, List.getElem?_toArray, List.getElem?_cons_zero, List.getElem?_cons_succ, List.getElem?_nil, Nat.succ_ne_zero, and_self, true_and, and_true, true_or, or_true, false_or, or_false, exists_eq_left, exists_eq_left', exists_eq, exists_and_left, and_assoc, if_true, if_false, decide_true, decide_false, Bool.false_eq_true, beq_self_eq_true, Bool.true_beq, Bool.false_beq, Bool.not_true, Bool.not_false, ne_eq, not_true_eq_false, not_false_eq_true, List.length_cons, List.length_nil, decide_eq_true_eq, decide_eq_false_iff_not, callB, List.zip_cons_cons, List.zip_nil_right, List.zip_nil_left, List.map_cons, List.map_nil, List.size_toArray, partF, TI.agg, scal, isAgg, cellsOf, tokRo, cellOk, List.all_cons, List.all_nil, Bool.and_true, Bool.true_and, Bool.or_true, Bool.true_or, Bool.or_false, Bool.and_self, Nat.reduceLeDiff, Nat.reduceLT, Nat.lt_add_one, Nat.zero_lt_succ, range1, range2, range3, range4, Option.isSome_some, splice, fillF, List.take_zero, List.drop_zero, List.drop_succ_cons, List.take_succ_cons, List.nil_append, List.cons_append, Int.reduceEq, Int.reduceLT, Int.reduceAdd, Int.reduceSub, Int.reduceMul, callArgs, strips, strip_sl, strip_int, strip_bool, strip_str, T22] <;> rfl) ?_
  simp only [W_skip, W_region, W_seq, W_cond, W_block, W_exit, W_label, W_ret, W_range, OpsW_nil, OpsW_app, OpsW_app', OpsW_op, OpsW_guard, upd_some, upd_none, Br_W1, Br_W2, Br_O1, Br_O2, opF, evalT, evalO, ofConst, argFr, binF, intF, unF, idxN_nat, reduceIte, reduceCtorEq, Nat.reduceEqDiff, Nat.reduceAdd, Nat.reduceMul, Option.getD_some, Option.getD_none, Option.map_some, Option.map_none, Option.bind_some, Option.some.injEq, Prod.mk.injEq, List.getElem?_toArray, List.getElem?_cons_zero, List.getElem?_cons_succ, List.getElem?_nil, Nat.succ_ne_zero, and_self, true_and, and_true, true_or, or_true, false_or, or_false, exists_eq_left, exists_eq_left', exists_eq, exists_and_left, and_assoc, if_true, if_false, decide_true, decide_false, Bool.false_eq_true, beq_self_eq_true, Bool.true_beq, Bool.false_beq, Bool.not_true, Bool.not_false, ne_eq, not_true_eq_false, not_false_eq_true, List.length_cons, List.length_nil, decide_eq_true_eq, decide_eq_false_iff_not, callB, List.zip_cons_cons, List.zip_nil_right, List.zip_nil_left, List.map_cons, List.map_nil, List.size_toArray, partF, TI.agg, scal, isAgg, cellsOf, tokRo, cellOk, List.all_cons, List.all_nil, Bool.and_true, Bool.true_and, Bool.or_true, Bool.true_or, Bool.or_false, Bool.and_self, Nat.reduceLeDiff, Nat.reduceLT, Nat.lt_add_one, Nat.zero_lt_succ, range1, range2, range3, range4, Option.isSome_some, splice, fillF, List.take_zero, List.drop_zero, List.drop_succ_cons, List.take_succ_cons, List.nil_append, List.cons_append, Int.reduceEq, Int.reduceLT, Int.reduceAdd, Int.reduceSub, Int.reduceMul, T3, T4, T22, resF, resAll, resOne]
  exact ⟨1, pub_bool _ _ _⟩

/-- codepoint.Compare. -/
def cmpC (a b : List Int) : Int := cmpL a b
theorem compareC_plain (a b : List Int) (ta tb : Tok) (ha : a.length < 4611686018427387904) (hb : b.length < 4611686018427387904) : Plain EE 27 [.sl 1 (ints a) ta, .sl 1 (ints b) tb] (.int .i64 (cmpL a b)) := by
  refine plain_of_W ok ok27 (by simp) ?_
  unfold BodyW code Go.Proofs.Try.f27
  have hmin : ∃ m : Nat, (if (b.length : Int) < (a.length : Int) then (b.length : Int) else (a.length : Int)) = (m : Int) ∧ m ≤ a.length ∧ m ≤ b.length ∧ (m = a.length ∨ m = b.length) := by
    split
    · exact ⟨b.length, rfl, by omega, by omega, .inr rfl⟩
    · exact ⟨a.length, rfl, by omega, by omega, .inl rfl⟩
  obtain ⟨m, hm, hma, hmb, hmm⟩ := hmin
  simp only [W_skip, W_region, W_seq, W_cond, W_block, W_exit, W_label, W_ret, W_range, OpsW_nil, OpsW_app, OpsW_app', OpsW_op, OpsW_guard, upd_some, upd_none, Br_W1, Br_W2, Br_O1, Br_O2, opF, evalT, evalO, ofConst, argFr, binF, intF, unF, idxN_nat, reduceIte, reduceCtorEq, Nat.reduceEqDiff, Nat.reduceAdd, Nat.reduceMul, Option.getD_some, Option.getD_none, Option.map_some, Option.map_none, Option.bind_some, Option.some.injEq, Prod.mk.injEq, List.getElem?_toArray, List.getElem?_cons_zero, List.getElem?_cons_succ, List.getElem?_nil, Nat.succ_ne_zero, and_self, true_and, and_true, true_or, or_true, false_or, or_false, exists_eq_left, exists_eq_left', exists_eq, exists_and_left, and_assoc, if_true, if_false, decide_true, decide_false, Bool.false_eq_true, beq_self_eq_true, Bool.true_beq, Bool.false_beq, Bool.not_true, Bool.not_false, ne_eq, not_true_eq_false, not_false_eq_true, List.length_cons, List.length_nil, decide_eq_true_eq, decide_eq_false_iff_not, callB, List.zip_cons_cons, List.zip_nil_right, List.zip_nil_left, List.map_cons, List.map_nil, List.size_toArray, partF, TI.agg, scal, isAgg, cellsOf, tokRo, cellOk, List.all_cons, List.all_nil, Bool.and_true, Bool.true_and, Bool.or_true, Bool.true_or, Bool.or_false, Bool.and_self, Nat.reduceLeDiff, Nat.reduceLT, Nat.lt_add_one, Nat.zero_lt_succ, range1, range2, range3, range4, Option.isSome_some, splice, fillF, List.take_zero, List.drop_zero, List.drop_succ_cons, List.take_succ_cons, List.nil_append, List.cons_append, Int.reduceEq, Int.reduceLT, Int.reduceAdd, Int.reduceSub, Int.reduceMul, T3, T22, ints_length, hm]
  refine W_loop (fun n fr st => ∃ i : Nat, fr 0 = .sl 1 (ints a) ta ∧ fr 1 = .sl 1 (ints b) tb ∧ fr 10 = .int .i64 m ∧ fr 11 = .int .i64 i ∧ st = [] ∧ n = m - i ∧ i ≤ m ∧ cmpL a b = cmpL (a.drop i) (b.drop i)) ?_ m _ _ ⟨0, by simp [upd, argFr]⟩
  rintro n fr st ⟨i, h0, h1, h10, h11, rfl, rfl, hi, hc⟩
  by_cases c : (i : Int) < (m : Int)
  · have ia : i < a.length := by omega
    have ib : i < b.length := by omega
    have ga := ints_get a i ia
    have gb := ints_get b i ib
    have hd := cmpL_drop ia ib
    have hw : IntKind.i64.wrap ((i : Int) + 1) = ((i + 1 : Nat) : Int) := by rw [wrap_small (by omega) (by omega)]; rfl
    by_cases e : a[i] = b[i]
    · have e' : (a[i] != b[i]) = false := by simp [e]
      simp only [W_skip, W_region, W_seq, W_cond, W_block, W_exit, W_label, W_ret, W_range, OpsW_nil, OpsW_app, OpsW_app', OpsW_op, OpsW_guard, upd_some, upd_none, Br_W1, Br_W2, Br_O1, Br_O2, opF, evalT, evalO, ofConst, argFr, binF, intF, unF, idxN_nat, reduceIte, reduceCtorEq, Nat.reduceEqDiff, Nat.reduceAdd, Nat.reduceMul, Option.getD_some, Option.getD_none, Option.map_some, Option.map_none, Option.bind_some, Option.some.injEq, Prod.mk.injEq, List.getElem?_toArray, List.getElem?_cons_zero, List.getElem?_cons_succ, List.getElem?_nil, Nat.succ_ne_zero, and_self, true_and, and_true, true_or, or_true, false_or, or_false, exists_eq_left, exists_eq_left', exists_eq, exists_and_left, and_assoc, if_true, if_false, decide_true, decide_false, Bool.false_eq_true, beq_self_eq_true, Bool.true_beq, Bool.false_beq, Bool.not_true, Bool.not_false, ne_eq, not_true_eq_false, not_false_eq_true, List.length_cons, List.length_nil, decide_eq_true_eq, decide_eq_false_iff_not, callB, List.zip_cons_cons, List.zip_nil_right, List.zip_nil_left, List.map_cons, List.map_nil, List.size_toArray, partF, TI.agg, scal, isAgg, cellsOf, tokRo, cellOk, List.all_cons, List.all_nil, Bool.and_true, Bool.true_and, Bool.or_true, Bool.true_or, Bool.or_false, Bool.and_self, Nat.reduceLeDiff, Nat.reduceLT, Nat.lt_add_one, Nat.zero_lt_succ, range1, range2, range3, range4, Option.isSome_some, splice, fillF, List.take_zero, List.drop_zero, List.drop_succ_cons, List.take_succ_cons, List.nil_append, List.cons_append, Int.reduceEq, Int.reduceLT, Int.reduceAdd, Int.reduceSub, Int.reduceMul, T3, T22, h0, h1, h10, h11, ints_length, c, ga, gb, e', hw]
      refine ⟨m - (i + 1), by omega, i + 1, rfl, rfl, by omega, ?_⟩
      rw [hc, hd, if_neg (by omega), if_neg (by omega)]
    · have e' : (a[i] != b[i]) = true := by simp [e]
      simp only [W_skip, W_region, W_seq, W_cond, W_block, W_exit, W_label, W_ret, W_range, OpsW_nil, OpsW_app, OpsW_app', OpsW_op, OpsW_guard, upd_some, upd_none, Br_W1, Br_W2, Br_O1, Br_O2, opF, evalT, evalO, ofConst, argFr, binF, intF, unF, idxN_nat, reduceIte, reduceCtorEq, Nat.reduceEqDiff, Nat.reduceAdd, Nat.reduceMul, Option.getD_some, Option.getD_none, Option.map_some, Option.map_none, Option.bind_some, Option.some.injEq, Prod.mk.injEq, List.getElem?_toArray, List.getElem?_cons_zero, List.getElem?_cons_succ, List.getElem?_nil, Nat.succ_ne_zero, and_self, true_and, and_true, true_or, or_true, false_or, or_false, exists_eq_left, exists_eq_left', exists_eq, exists_and_left, and_assoc, if_true, if_false, decide_true, decide_false, Bool.false_eq_true, beq_self_eq_true, Bool.true_beq, Bool.false_beq, Bool.not_true, Bool.not_false, ne_eq, not_true_eq_false, not_false_eq_true, List.length_cons, List.length_nil, decide_eq_true_eq, decide_eq_false_iff_not, callB, List.zip_cons_cons, List.zip_nil_right, List.zip_nil_left, List.map_cons, List.map_nil, List.size_toArray, partF, TI.agg, scal, isAgg, cellsOf, tokRo, cellOk, List.all_cons, List.all_nil, Bool.and_true, Bool.true_and, Bool.or_true, Bool.true_or, Bool.or_false, Bool.and_self, Nat.reduceLeDiff, Nat.reduceLT, Nat.lt_add_one, Nat.zero_lt_succ, range1, range2, range3, range4, Option.isSome_some, splice, fillF, List.take_zero, List.drop_zero, List.drop_succ_cons, List.take_succ_cons, List.nil_append, List.cons_append, Int.reduceEq, Int.reduceLT, Int.reduceAdd, Int.reduceSub, Int.reduceMul, T3, T22, h0, h1, h10, h11, ints_length, c, ga, gb, e']
      refine OpsW_pl (order_plain a[i] b[i]) rfl rfl (by simp only [W_skip, W_region, W_seq, W_cond, W_block, W_exit, W_label, W_ret, W_range, OpsW_nil, OpsW_app, OpsW_app', OpsW_op, OpsW_guard, upd_some, upd_none, Br_W1, Br_W2, Br_O1, Br_O2, opF, evalT, evalO, ofConst, argFr, binF, intF, unF, idxN_nat, reduceIte, reduceCtorEq, Nat.reduceEqDiff, Nat.reduceAdd, Nat.reduceMul, Option.getD_some, Option.getD_none, Option.map_some, Option.map_none, Option.bind_some, Option.some.injEq, Prod.mk.injEq, List.getElem?_toArray, List.getElem?_cons_zero, List.getElem?_cons_succ, List.getElem?_nil, Nat.succ_ne_zero, and_self, true_and, and_true, true_or, or_true, false_or, or_false, exists_eq_left, exists_eq_left', exists_eq, exists_and_left, and_assoc, if_true, if_false, decide_true, decide_false, Bool.false_eq_true, beq_self_eq_true, Bool.true_beq, Bool.false_beq, Bool.not_true, Bool.not_false, ne_eq, not_true_eq_false, not_false_eq_true, List.length_cons, List.length_nil, decide_eq_true_eq, decide_eq_false_iff_not, callB, List.zip_cons_cons, List.zip_nil_right, List.zip_nil_left, List.map_cons, List.map_nil, List.size_toArray, partF, TI.agg, scal, isAgg, cellsOf, tokRo, cellOk, List.all_cons, List.all_nil, Bool.and_true, Bool.true_and, Bool.or_true, Bool.true_or, Bool.or_false, Bool.and_self, Nat.reduceLeDiff, Nat.reduceLT, Nat.lt_add_one, Nat.zero_lt_succ, range1, range2, range3, range4, Option.isSome_some, splice, fillF, List.take_zero, List.drop_zero, List.drop_succ_cons, List.take_succ_cons, List.nil_append, List.cons_append, Int.reduceEq, Int.reduceLT, Int.reduceAdd, Int.reduceSub, Int.reduceMul, callArgs, strips, strip_sl, strip_int, strip_bool, strip_str, T3, T22] <;> rfl) ?_
      simp only [W_skip, W_region, W_seq, W_cond, W_block, W_exit, W_label, W_ret, W_range, OpsW_nil, OpsW_app, OpsW_app', OpsW_op, OpsW_guard, upd_some, upd_none, Br_W1, Br_W2, Br_O1, Br_O2, opF, evalT, evalO, ofConst, argFr, binF, intF, unF, idxN_nat, reduceIte, reduceCtorEq, Nat.reduceEqDiff, Nat.reduceAdd, Nat.reduceMul, Option.getD_some, Option.getD_none, Option.map_some, Option.map_none, Option.bind_some, Option.some.injEq, Prod.mk.injEq, List.getElem?_toArray, List.getElem?_cons_zero, List.getElem?_cons_succ, List.getElem?_nil, Nat.succ_ne_zero, and_self, true_and, and_true, true_or, or_true, false_or, or_false, exists_eq_left, exists_eq_left', exists_eq, exists_and_left, and_assoc, if_true, if_false, decide_true, decide_false, Bool.false_eq_true, beq_self_eq_true, Bool.true_beq, Bool.false_beq, Bool.not_true, Bool.not_false, ne_eq, not_true_eq_false, not_false_eq_true, List.length_cons, List.length_nil, decide_eq_true_eq, decide_eq_false_iff_not, callB, List.zip_cons_cons, List.zip_nil_right, List.zip_nil_left, List.map_cons, List.map_nil, List.size_toArray, partF, TI.agg, scal, isAgg, cellsOf, tokRo, cellOk, List.all_cons, List.all_nil, Bool.and_true, Bool.true_and, Bool.or_true, Bool.true_or, Bool.or_false, Bool.and_self, Nat.reduceLeDiff, Nat.reduceLT, Nat.lt_add_one, Nat.zero_lt_succ, range1, range2, range3, range4, Option.isSome_some, splice, fillF, List.take_zero, List.drop_zero, List.drop_succ_cons, List.take_succ_cons, List.nil_append, List.cons_append, Int.reduceEq, Int.reduceLT, Int.reduceAdd, Int.reduceSub, Int.reduceMul, T3, T4, T22, resF, resAll, resOne]
      refine ⟨1, ?_⟩
      rw [pub_int, hc, hd]
      unfold order
      by_cases c1 : a[i] < b[i]
      · rw [if_pos c1, if_pos c1]
      · have c2 : a[i] > b[i] := by omega
        rw [if_neg c1, if_neg c1, if_pos c2, if_pos c2]
  · have hmi : i = m := by omega
    subst hmi
    simp only [W_skip, W_region, W_seq, W_cond, W_block, W_exit, W_label, W_ret, W_range, OpsW_nil, OpsW_app, OpsW_app', OpsW_op, OpsW_guard, upd_some, upd_none, Br_W1, Br_W2, Br_O1, Br_O2, opF, evalT, evalO, ofConst, argFr, binF, intF, unF, idxN_nat, reduceIte, reduceCtorEq, Nat.reduceEqDiff, Nat.reduceAdd, Nat.reduceMul, Option.getD_some, Option.getD_none, Option.map_some, Option.map_none, Option.bind_some, Option.some.injEq, Prod.mk.injEq, List.getElem?_toArray, List.getElem?_cons_zero, List.getElem?_cons_succ, List.getElem?_nil, Nat.succ_ne_zero, and_self, true_and, and_true, true_or, or_true, false_or, or_false, exists_eq_left, exists_eq_left', exists_eq, exists_and_left, and_assoc, if_true, if_false, decide_true, decide_false, Bool.false_eq_true, beq_self_eq_true, Bool.true_beq, Bool.false_beq, Bool.not_true, Bool.not_false, ne_eq, not_true_eq_false, not_false_eq_true, List.length_cons, List.length_nil, decide_eq_true_eq, decide_eq_false_iff_not, callB, List.zip_cons_cons, List.zip_nil_right, List.zip_nil_left, List.map_cons, List.map_nil, List.size_toArray, partF, TI.agg, scal, isAgg, cellsOf, tokRo, cellOk, List.all_cons, List.all_nil, Bool.and_true, Bool.true_and, Bool.or_true, Bool.true_or, Bool.or_false, Bool.and_self, Nat.reduceLeDiff, Nat.reduceLT, Nat.lt_add_one, Nat.zero_lt_succ, range1, range2, range3, range4, Option.isSome_some, splice, fillF, List.take_zero, List.drop_zero, List.drop_succ_cons, List.take_succ_cons, List.nil_append, List.cons_append, Int.reduceEq, Int.reduceLT, Int.reduceAdd, Int.reduceSub, Int.reduceMul, T3, T22, h0, h1, h10, h11, ints_length, c]
    refine OpsW_pl (order_plain a.length b.length) rfl rfl (by simp only [W_skip, W_region, W_seq, W_cond, W_block, W_exit, W_label, W_ret, W_range, OpsW_nil, OpsW_app, OpsW_app', OpsW_op, OpsW_guard, upd_some, upd_none, Br_W1, Br_W2, Br_O1, Br_O2, opF, evalT, evalO, ofConst, argFr, binF, intF, unF, idxN_nat, reduceIte, reduceCtorEq, Nat.reduceEqDiff, Nat.reduceAdd, Nat.reduceMul, Option.getD_some, Option.getD_none, Option.map_some, Option.map_none, Option.bind_some, Option.some.injEq, Prod.mk.injEq, List.getElem?_toArray, List.getElem?_cons_zero, List.getElem?_cons_succ, List.getElem?_nil, Nat.succ_ne_zero, and_self, true_and, and_true, true_or, or_true, false_or, or_false, exists_eq_left, exists_eq_left', exists_eq, exists_and_left, and_assoc, if_true, if_false, decide_true, decide_false, Bool.false_eq_true, beq_self_eq_true, Bool.true_beq, Bool.false_beq, Bool.not_true, Bool.not_false, ne_eq, not_true_eq_false, not_false_eq_true, List.length_cons, List.length_nil, decide_eq_true_eq, decide_eq_false_iff_not, callB, List.zip_cons_cons, List.zip_nil_right, List.zip_nil_left, List.map_cons, List.map_nil, List.size_toArray, partF, TI.agg, scal, isAgg, cellsOf, tokRo, cellOk, List.all_cons, List.all_nil, Bool.and_true, Bool.true_and, Bool.or_true, Bool.true_or, Bool.or_false, Bool.and_self, Nat.reduceLeDiff, Nat.reduceLT, Nat.lt_add_one, Nat.zero_lt_succ, range1, range2, range3, range4, Option.isSome_some, splice, fillF, List.take_zero, List.drop_zero, List.drop_succ_cons, List.take_succ_cons, List.nil_append, List.cons_append, Int.reduceEq, Int.reduceLT, Int.reduceAdd, Int.reduceSub, Int.reduceMul, callArgs, strips, strip_sl, strip_int, strip_bool, strip_str, T3, T22] <;> rfl) ?_
    simp only [W_skip, W_region, W_seq, W_cond, W_block, W_exit, W_label, W_ret, W_range, OpsW_nil, OpsW_app, OpsW_app', OpsW_op, OpsW_guard, upd_some, upd_none, Br_W1, Br_W2, Br_O1, Br_O2, opF, evalT, evalO, ofConst, argFr, binF, intF, unF, idxN_nat, reduceIte, reduceCtorEq, Nat.reduceEqDiff, Nat.reduceAdd, Nat.reduceMul, Option.getD_some, Option.getD_none, Option.map_some, Option.map_none, Option.bind_some, Option.some.injEq, Prod.mk.injEq, List.getElem?_toArray, List.getElem?_cons_zero, List.getElem?_cons_succ, List.getElem?_nil, Nat.succ_ne_zero, and_self, true_and, and_true, true_or, or_true, false_or, or_false, exists_eq_left, exists_eq_left', exists_eq, exists_and_left, and_assoc, if_true, if_false, decide_true, decide_false, Bool.false_eq_true, beq_self_eq_true, Bool.true_beq, Bool.false_beq, Bool.not_true, Bool.not_false, ne_eq, not_true_eq_false, not_false_eq_true, List.length_cons, List.length_nil, decide_eq_true_eq, decide_eq_false_iff_not, callB, List.zip_cons_cons, List.zip_nil_right, List.zip_nil_left, List.map_cons, List.map_nil, List.size_toArray, partF, TI.agg, scal, isAgg, cellsOf, tokRo, cellOk, List.all_cons, List.all_nil, Bool.and_true, Bool.true_and, Bool.or_true, Bool.true_or, Bool.or_false, Bool.and_self, Nat.reduceLeDiff, Nat.reduceLT, Nat.lt_add_one, Nat.zero_lt_succ, range1, range2, range3, range4, Option.isSome_some, splice, fillF, List.take_zero, List.drop_zero, List.drop_succ_cons, List.take_succ_cons, List.nil_append, List.cons_append, Int.reduceEq, Int.reduceLT, Int.reduceAdd, Int.reduceSub, Int.reduceMul, T3, T4, T22, resF, resAll, resOne]
    refine ⟨1, ?_⟩
    rw [pub_int, hc]
    unfold order
    by_cases ca : i < a.length
    · rw [show b.drop i = [] from List.drop_eq_nil_of_le (by omega), List.drop_eq_getElem_cons ca, if_neg (by omega), if_pos (by omega)]
      rfl
    · by_cases cb : i < b.length
      · rw [show a.drop i = [] from List.drop_eq_nil_of_le (by omega), List.drop_eq_getElem_cons cb, if_pos (by omega)]
        rfl
      · rw [show b.drop i = [] from List.drop_eq_nil_of_le (by omega), show a.drop i = [] from List.drop_eq_nil_of_le (by omega), if_neg (by omega), if_neg (by omega)]
        rfl

theorem cmpL_eq : ∀ (a b : List Int), cmpL a b = 0 ↔ a = b
  | [], [] => by simp [cmpL]
  | [], _ :: _ => by simp [cmpL]
  | _ :: _, [] => by simp [cmpL]
  | x :: xs, y :: ys => by
    have := cmpL_eq xs ys
    simp only [cmpL, List.cons.injEq]
    by_cases h1 : x < y
    · rw [if_pos h1]; constructor
      · intro h; omega
      · rintro ⟨rfl, _⟩; omega
    · by_cases h2 : x > y
      · rw [if_neg h1, if_pos h2]; constructor
        · intro h; omega
        · rintro ⟨rfl, _⟩; omega
      · rw [if_neg h1, if_neg h2, this]
        have : x = y := by omega
        simp [this]

theorem equalC_plain (a b : List Int) (ta tb : Tok) (ha : a.length < 4611686018427387904) (hb : b.length < 4611686018427387904) : Plain EE 23 [.sl 1 (ints a) ta, .sl 1 (ints b) tb] (.bool (decide (a = b))) := by
  refine plain_of_W ok ok23 (by simp) ?_
  unfold BodyW code Go.Proofs.Try.f23
  by_cases hl : a.length = b.length
  · have hl' : ((a.length : Int) == (b.length : Int)) = true := by simp [hl]
    simp only [W_skip, W_region, W_seq, W_cond, W_block, W_exit, W_label, W_ret, W_range, OpsW_nil, OpsW_app, OpsW_app', OpsW_op, OpsW_guard, upd_some, upd_none, Br_W1, Br_W2, Br_O1, Br_O2, opF, evalT, evalO, ofConst, argFr, binF, intF, unF, idxN_nat, reduceIte, reduceCtorEq, Nat.reduceEqDiff, Nat.reduceAdd, Nat.reduceMul, Option.getD_some, Option.getD_none, Option.map_some, Option.map_none, Option.bind_some, Option.some.injEq, Prod.mk.injEq, List.getElem?_toArray, List.getElem?_cons_zero, List.getElem?_cons_succ, List.getElem?_nil, Nat.succ_ne_zero, and_self, true_and, and_true, true_or, or_true, false_or, or_false, exists_eq_left, exists_eq_left', exists_eq, exists_and_left, and_assoc, if_true, if_false, decide_true, decide_false, Bool.false_eq_true, beq_self_eq_true, Bool.true_beq, Bool.false_beq, Bool.not_true, Bool.not_false, ne_eq, not_true_eq_false, not_false_eq_true, List.length_cons, List.length_nil, decide_eq_true_eq, decide_eq_false_iff_not, callB, List.zip_cons_cons, List.zip_nil_right, List.zip_nil_left, List.map_cons, List.map_nil, List.size_toArray, partF, TI.agg, scal, isAgg, cellsOf, tokRo, cellOk, List.all_cons, List.all_nil, Bool.and_true, Bool.true_and, Bool.or_true, Bool.true_or, Bool.or_false, Bool.and_self, Nat.reduceLeDiff, Nat.reduceLT, Nat.lt_add_one, Nat.zero_lt_succ, range1, range2, range3, range4, Option.isSome_some, splice, fillF, List.take_zero, List.drop_zero, List.drop_succ_cons, List.take_succ_cons, List.nil_append, List.cons_append, Int.reduceEq, Int.reduceLT, Int.reduceAdd, Int.reduceSub, Int.reduceMul, T3, T4, T22, ints_length, hl']
    refine OpsW_pl (compareC_plain a b _ _ ha hb) rfl rfl (by simp only [W_skip, W_region, W_seq, W_cond, W_block, W_exit, W_label, W_ret, W_range, OpsW_nil, OpsW_app, OpsW_app', OpsW_op, OpsW_guard, upd_some, upd_none, Br_W1, Br_W2, Br_O1, Br_O2, opF, evalT, evalO, ofConst, argFr, binF, intF, unF, idxN_nat, reduceIte, reduceCtorEq, Nat.reduceEqDiff, Nat.reduceAdd, Nat.reduceMul, Option.getD_some, Option.getD_none, Option.map_some, Option.map_none, Option.bind_some, Option.some.injEq, Prod.mk.injEq, List.getElem?_toArray, List.getElem?_cons_zero, List.getElem?_cons_succ, List.getElem?_nil, Nat.succ_ne_zero, and_self, true_and, and_true, true_or, or_true, false_or, or_false, exists_eq_left, exists_eq_left', exists_eq, exists_and_left, and_assoc, if_true, if_false, decide_true, decide_false, Bool.false_eq_true, beq_self_eq_true, Bool.true_beq, Bool.false_beq, Bool.not_true, Bool.not_false, ne_eq, not_true_eq_false, not_false_eq_true, List.length_cons, List.length_nil, decide_eq_true_eq, decide_eq_false_iff_not, callB, List.zip_cons_cons, List.zip_nil_right, List.zip_nil_left, List.map_cons, List.map_nil, List.size_toArray, partF, TI.agg, scal, isAgg, cellsOf, tokRo, cellOk, List.all_cons, List.all_nil, Bool.and_true, Bool.true_and, Bool.or_true, Bool.true_or, Bool.or_false, Bool.and_self, Nat.reduceLeDiff, Nat.reduceLT, Nat.lt_add_one, Nat.zero_lt_succ, range1, range2, range3, range4, Option.isSome_some, splice, fillF, List.take_zero, List.drop_zero, List.drop_succ_cons, List.take_succ_cons, List.nil_append, List.cons_append, Int.reduceEq, Int.reduceLT, Int.reduceAdd, Int.reduceSub, Int.reduceMul, callArgs, strips, strip_sl, strip_int, strip_bool, strip_str, T3, T22] <;> rfl) ?_
    simp only [W_skip, W_region, W_seq, W_cond, W_block, W_exit, W_label, W_ret, W_range, OpsW_nil, OpsW_app, OpsW_app', OpsW_op, OpsW_guard, upd_some, upd_none, Br_W1, Br_W2, Br_O1, Br_O2, opF, evalT, evalO, ofConst, argFr, binF, intF, unF, idxN_nat, reduceIte, reduceCtorEq, Nat.reduceEqDiff, Nat.reduceAdd, Nat.reduceMul, Option.getD_some, Option.getD_none, Option.map_some, Option.map_none, Option.bind_some, Option.some.injEq, Prod.mk.injEq, List.getElem?_toArray, List.getElem?_cons_zero, List.getElem?_cons_succ, List.getElem?_nil, Nat.succ_ne_zero, and_self, true_and, and_true, true_or, or_true, false_or, or_false, exists_eq_left, exists_eq_left', exists_eq, exists_and_left, and_assoc, if_true, if_false, decide_true, decide_false, Bool.false_eq_true, beq_self_eq_true, Bool.true_beq, Bool.false_beq, Bool.not_true, Bool.not_false, ne_eq, not_true_eq_false, not_false_eq_true, List.length_cons, List.length_nil, decide_eq_true_eq, decide_eq_false_iff_not, callB, List.zip_cons_cons, List.zip_nil_right, List.zip_nil_left, List.map_cons, List.map_nil, List.size_toArray, partF, TI.agg, scal, isAgg, cellsOf, tokRo, cellOk, List.all_cons, List.all_nil, Bool.and_true, Bool.true_and, Bool.or_true, Bool.true_or, Bool.or_false, Bool.and_self, Nat.reduceLeDiff, Nat.reduceLT, Nat.lt_add_one, Nat.zero_lt_succ, range1, range2, range3, range4, Option.isSome_some, splice, fillF, List.take_zero, List.drop_zero, List.drop_succ_cons, List.take_succ_cons, List.nil_append, List.cons_append, Int.reduceEq, Int.reduceLT, Int.reduceAdd, Int.reduceSub, Int.reduceMul, T3, T4, T22, resF, resAll, resOne]
    refine ⟨1, ?_⟩
    rw [pub_bool]
    by_cases e : a = b
    · rw [(cmpL_eq a b).2 e]; simp [e]
    · have : cmpL a b ≠ 0 := fun h => e ((cmpL_eq a b).1 h)
      simp [this, e]
  · have hl' : ((a.length : Int) == (b.length : Int)) = false := by simp; omega
    simp only [W_skip, W_region, W_seq, W_cond, W_block, W_exit, W_label, W_ret, W_range, OpsW_nil, OpsW_app, OpsW_app', OpsW_op, OpsW_guard, upd_some, upd_none, Br_W1, Br_W2, Br_O1, Br_O2, opF, evalT, evalO, ofConst, argFr, binF, intF, unF, idxN_nat, reduceIte, reduceCtorEq, Nat.reduceEqDiff, Nat.reduceAdd, Nat.reduceMul, Option.getD_some, Option.getD_none, Option.map_some, Option.map_none, Option.bind_some, Option.some.injEq, Prod.mk.injEq, List.getElem?_toArray, List.getElem?_cons_zero, List.getElem?_cons_succ, List.getElem?_nil, Nat.succ_ne_zero, and_self, true_and, and_true, true_or, or_true, false_or, or_false, exists_eq_left, exists_eq_left', exists_eq, exists_and_left, and_assoc, if_true, if_false, decide_true, decide_false, Bool.false_eq_true, beq_self_eq_true, Bool.true_beq, Bool.false_beq, Bool.not_true, Bool.not_false, ne_eq, not_true_eq_false, not_false_eq_true, List.length_cons, List.length_nil, decide_eq_true_eq, decide_eq_false_iff_not, callB, List.zip_cons_cons, List.zip_nil_right, List.zip_nil_left, List.map_cons, List.map_nil, List.size_toArray, partF, TI.agg, scal, isAgg, cellsOf, tokRo, cellOk, List.all_cons, List.all_nil, Bool.and_true, Bool.true_and, Bool.or_true, Bool.true_or, Bool.or_false, Bool.and_self, Nat.reduceLeDiff, Nat.reduceLT, Nat.lt_add_one, Nat.zero_lt_succ, range1, range2, range3, range4, Option.isSome_some, splice, fillF, List.take_zero, List.drop_zero, List.drop_succ_cons, List.take_succ_cons, List.nil_append, List.cons_append, Int.reduceEq, Int.reduceLT, Int.reduceAdd, Int.reduceSub, Int.reduceMul, T3, T4, T22, ints_length, hl', resF, resAll, resOne]
    refine ⟨1, ?_⟩
    have : a ≠ b := fun e => hl (by rw [e])
    rw [pub_bool]; simp [this]
end Go.Pv.Kp
