/-
  Keypack (5): the reference's Pack.
-/
import Derived.Test.YtbfmlkdpeaeblaaKpD
set_option linter.all false
set_option linter.unusedSimpArgs false
set_option linter.unusedVariables false
namespace Go.Pv.Kp
open Go.Pv

/-- The runs of a list in which no number is out of range. -/
def runsP (m : Int) : Nat → List Int → List (Nat × Int × Bool)
  | c, [] => [(c, 0, true)]
  | c, n :: l => if n = m then runsP m (c + 1) l else (c, n, false) :: runsP m 0 l
theorem runsL_eq (m : Int) : ∀ (l : List Int) (c : Nat), runsL m c l = runsP m c (plainL l)
  | [], c => rfl
  | n :: l, c => by
    simp only [plainL, List.map_cons, runsL, runsP]
    split
    · exact runsL_eq m l (c + 1)
    · congr 1; exact runsL_eq m l 0

def cnt (m : Int) : List Int → Nat
  | [] => 0
  | x :: xs => if x = m then cnt m xs + 1 else 0
theorem cnt_le (m : Int) : ∀ (l : List Int), cnt m l ≤ l.length
  | [] => Nat.le_refl _
  | x :: xs => by
    have := cnt_le m xs
    unfold cnt
    split
    · simp; omega
    · simp
theorem cnt_head {m : Int} : ∀ (l : List Int) (x : Int) (xs : List Int), l.drop (cnt m l) = x :: xs → x ≠ m
  | [], x, xs, h => by simp at h
  | y :: ys, x, xs, h => by
    unfold cnt at h
    split at h
    · rw [List.drop_succ_cons] at h; exact cnt_head ys x xs h
    · rename_i hy
      simp at h
      rw [← h.1]; exact hy
theorem runs_cnt (m : Int) : ∀ (l : List Int) (c : Nat), runsP m c l = runsP m (c + cnt m l) (l.drop (cnt m l))
  | [], c => by simp [cnt]
  | x :: xs, c => by
    unfold cnt
    split
    · rename_i h
      rw [List.drop_succ_cons, runsP, if_pos h, runs_cnt m xs (c + 1)]
      congr 1; omega
    · simp

def packP (m : Int) (c : Nat) (l : List Int) : List Int := (runsP m c l).flatMap (emit m)
theorem packL_eq (cm : Int) (l : List Int) : packL cm l = packP (number cm) 0 (plainL l) := by unfold packL packP; rw [runsL_eq]
theorem packP_nil (m : Int) : packP m 0 [] = [] := by simp [packP, runsP, emit]
theorem packP_elem (m : Int) {x : Int} (xs : List Int) (h : x ≠ m) : packP m 0 (x :: xs) = (if x < m then [x] else [x + 14]) ++ packP m 0 xs := by
  simp only [packP, runsP, if_neg h, List.flatMap_cons, emit]
  simp
/-- What stands for a run, before the element behind it. -/
def runPart (m : Int) (k : Nat) (l : List Int) : List Int :=
  List.replicate (k / 8) (m + 7) ++ (if k % 8 > 0 then (if l = [] ∨ l.headD 0 < m then [m + (k % 8 : Nat) - 1] else [m + 15 - (k % 8 : Nat)]) else [])
theorem packP_run (m : Int) (k : Nat) : ∀ (l : List Int), (∀ x xs, l = x :: xs → x ≠ m) → packP m k l = runPart m k l ++ packP m 0 l
  | [], _ => by simp [packP, runsP, emit, runPart]
  | x :: xs, h => by
    have hx := h x xs rfl
    rw [packP_elem m xs hx]
    simp only [packP, runsP, if_neg hx, List.flatMap_cons, emit, runPart]
    simp
theorem packP_cnt (m : Int) (l : List Int) : packP m 0 l = runPart m (cnt m l) (l.drop (cnt m l)) ++ packP m 0 (l.drop (cnt m l)) := by
  rw [← packP_run m (cnt m l) _ (fun x xs h => cnt_head l x xs h)]
  unfold packP
  rw [runs_cnt m l 0, Nat.zero_add]

theorem append_sl {st : Store} {o : List Int} {p : PV} (h : OutSt st o p) (x : Int) (hl : o.length + 1 ≤ LIM) :
    ∃ t st', appendF EE st 3 p [[.int .i64 x]] 1 = some (.sl 1 (ints (o ++ [x])) t, st') ∧ OutSt st' (o ++ [x]) (.sl 1 (ints (o ++ [x])) t) := by
  obtain ⟨p', st', e, ho, _⟩ := append_out h [x] (by simp) (by simpa using hl)
  obtain ⟨t, rfl⟩ := ho.sl
  exact ⟨t, st', e, ho⟩
theorem cnt_drop {m : Int} {l : List Int} {i k : Nat} (h : i + k < l.length) (e : l[i + k] = m) : cnt m (l.drop (i + k)) = cnt m (l.drop (i + (k + 1))) + 1 := by
  rw [List.drop_eq_getElem_cons h, cnt, if_pos e]; rfl
theorem cnt_stop {m : Int} {l : List Int} {i k : Nat} (h : i + k < l.length) (e : l[i + k] ≠ m) : cnt m (l.drop (i + k)) = 0 := by
  rw [List.drop_eq_getElem_cons h, cnt, if_neg e]

set_option maxHeartbeats 4000000 in
theorem refPack_plain (l : List Int) (t : Tok) (cm : Int) (hl : l.length ≤ 1000) : Plain EE 11 [.sl 1 (ints l) t, .int .i64 cm] (outV (packL cm l)) := by
  refine plain_of_W ok ok11 (by simp) ?_
  have hm := number_range cm
  unfold BodyW
  have e0 : code Go.Proofs.Try.f11 = code Go.Proofs.Try.f11 := rfl
  conv at e0 => rhs; simp only [code, Go.Proofs.Try.f11, Option.getD_some]
  rw [e0]
  simp only [W_skip, W_region, W_seq, W_cond, W_block, W_exit, W_label, W_ret, W_range, OpsW_nil, OpsW_app, OpsW_app', OpsW_op, OpsW_guard, upd_some, upd_none, Br_W1, Br_W2, Br_O1, Br_O2, opF, evalT, evalO, ofConst, argFr, binF, intF, unF, idxN_nat, reduceIte, reduceCtorEq, Nat.reduceEqDiff, Nat.reduceAdd, Nat.reduceMul, Option.getD_some, Option.getD_none, Option.map_some, Option.map_none, Option.bind_some, Option.some.injEq, Prod.mk.injEq, List.getElem?_toArray, List.getElem?_cons_zero, List.getElem?_cons_succ, List.getElem?_nil, Nat.succ_ne_zero, and_self, true_and, and_true, true_or, or_true, false_or, or_false, exists_eq_left, exists_eq_left', exists_eq, exists_and_left, and_assoc, if_true, if_false, decide_true, decide_false, Bool.false_eq_true, beq_self_eq_true, Bool.true_beq, Bool.false_beq, Bool.not_true, Bool.not_false, ne_eq, not_true_eq_false, not_false_eq_true, List.length_cons, List.length_nil, decide_eq_true_eq, decide_eq_false_iff_not, callB, List.zip_cons_cons, List.zip_nil_right, List.zip_nil_left, List.map_cons, List.map_nil, List.size_toArray, partF, TI.agg, scal, isAgg, cellsOf, tokRo, cellOk, List.all_cons, List.all_nil, Bool.and_true, Bool.true_and, Bool.or_true, Bool.true_or, Bool.or_false, Bool.and_self, Nat.reduceLeDiff, Nat.reduceLT, Nat.lt_add_one, Nat.zero_lt_succ, range1, range2, range3, range4, Option.isSome_some, splice, fillF, List.take_zero, List.drop_zero, List.drop_succ_cons, List.take_succ_cons, List.nil_append, List.cons_append, Int.reduceEq, Int.reduceLT, Int.reduceAdd, Int.reduceSub, Int.reduceMul, T3, T4, T22, T41]
  refine OpsW_pl (common_plain cm) rfl rfl (by simp only [W_skip, W_region, W_seq, W_cond, W_block, W_exit, W_label, W_ret, W_range, OpsW_nil, OpsW_app, OpsW_app', OpsW_op, OpsW_guard, upd_some, upd_none, Br_W1, Br_W2, Br_O1, Br_O2, opF, evalT, evalO, ofConst, argFr, binF, intF, unF, idxN_nat, reduceIte, reduceCtorEq, Nat.reduceEqDiff, Nat.reduceAdd, Nat.reduceMul, Option.getD_some, Option.getD_none, Option.map_some, Option.map_none, Option.bind_some, Option.some.injEq, Prod.mk.injEq, List.getElem?_toArray, List.getElem?_cons_zero, List.getElem?_cons_succ, List.getElem?_nil, Nat.succ_ne_zero, and_self, true_and, and_true, true_or, or_true, false_or, or_false, exists_eq_left, exists_eq_left', exists_eq, exists_and_left, and_assoc, if_true, if_false, decide_true, decide_false, Bool.false_eq_true, beq_self_eq_true, Bool.true_beq, Bool.false_beq, Bool.not_true, Bool.not_false, ne_eq, not_true_eq_false, not_false_eq_true, List.length_cons, List.length_nil, decide_eq_true_eq, decide_eq_false_iff_not, callB, List.zip_cons_cons, List.zip_nil_right, List.zip_nil_left, List.map_cons, List.map_nil, List.size_toArray, partF, TI.agg, scal, isAgg, cellsOf, tokRo, cellOk, List.all_cons, List.all_nil, Bool.and_true, Bool.true_and, Bool.or_true, Bool.true_or, Bool.or_false, Bool.and_self, Nat.reduceLeDiff, Nat.reduceLT, Nat.lt_add_one, Nat.zero_lt_succ, range1, range2, range3, range4, Option.isSome_some, splice, fillF, List.take_zero, List.drop_zero, List.drop_succ_cons, List.take_succ_cons, List.nil_append, List.cons_append, Int.reduceEq, Int.reduceLT, Int.reduceAdd, Int.reduceSub, Int.reduceMul, callArgs, strips, strip_sl, strip_int, strip_bool, strip_str, T3, T22] <;> rfl) ?_
  simp only [W_skip, W_region, W_seq, W_cond, W_block, W_exit, W_label, W_ret, W_range, OpsW_nil, OpsW_app, OpsW_app', OpsW_op, OpsW_guard, upd_some, upd_none, Br_W1, Br_W2, Br_O1, Br_O2, opF, evalT, evalO, ofConst, argFr, binF, intF, unF, idxN_nat, reduceIte, reduceCtorEq, Nat.reduceEqDiff, Nat.reduceAdd, Nat.reduceMul, Option.getD_some, Option.getD_none, Option.map_some, Option.map_none, Option.bind_some, Option.some.injEq, Prod.mk.injEq, List.getElem?_toArray, List.getElem?_cons_zero, List.getElem?_cons_succ, List.getElem?_nil, Nat.succ_ne_zero, and_self, true_and, and_true, true_or, or_true, false_or, or_false, exists_eq_left, exists_eq_left', exists_eq, exists_and_left, and_assoc, if_true, if_false, decide_true, decide_false, Bool.false_eq_true, beq_self_eq_true, Bool.true_beq, Bool.false_beq, Bool.not_true, Bool.not_false, ne_eq, not_true_eq_false, not_false_eq_true, List.length_cons, List.length_nil, decide_eq_true_eq, decide_eq_false_iff_not, callB, List.zip_cons_cons, List.zip_nil_right, List.zip_nil_left, List.map_cons, List.map_nil, List.size_toArray, partF, TI.agg, scal, isAgg, cellsOf, tokRo, cellOk, List.all_cons, List.all_nil, Bool.and_true, Bool.true_and, Bool.or_true, Bool.true_or, Bool.or_false, Bool.and_self, Nat.reduceLeDiff, Nat.reduceLT, Nat.lt_add_one, Nat.zero_lt_succ, range1, range2, range3, range4, Option.isSome_some, splice, fillF, List.take_zero, List.drop_zero, List.drop_succ_cons, List.take_succ_cons, List.nil_append, List.cons_append, Int.reduceEq, Int.reduceLT, Int.reduceAdd, Int.reduceSub, Int.reduceMul, T3, T4, T22, T41]
  refine OpsW_pl (plain_plain l _ (by omega)) rfl rfl (by simp only [W_skip, W_region, W_seq, W_cond, W_block, W_exit, W_label, W_ret, W_range, OpsW_nil, OpsW_app, OpsW_app', OpsW_op, OpsW_guard, upd_some, upd_none, Br_W1, Br_W2, Br_O1, Br_O2, opF, evalT, evalO, ofConst, argFr, binF, intF, unF, idxN_nat, reduceIte, reduceCtorEq, Nat.reduceEqDiff, Nat.reduceAdd, Nat.reduceMul, Option.getD_some, Option.getD_none, Option.map_some, Option.map_none, Option.bind_some, Option.some.injEq, Prod.mk.injEq, List.getElem?_toArray, List.getElem?_cons_zero, List.getElem?_cons_succ, List.getElem?_nil, Nat.succ_ne_zero, and_self, true_and, and_true, true_or, or_true, false_or, or_false, exists_eq_left, exists_eq_left', exists_eq, exists_and_left, and_assoc, if_true, if_false, decide_true, decide_false, Bool.false_eq_true, beq_self_eq_true, Bool.true_beq, Bool.false_beq, Bool.not_true, Bool.not_false, ne_eq, not_true_eq_false, not_false_eq_true, List.length_cons, List.length_nil, decide_eq_true_eq, decide_eq_false_iff_not, callB, List.zip_cons_cons, List.zip_nil_right, List.zip_nil_left, List.map_cons, List.map_nil, List.size_toArray, partF, TI.agg, scal, isAgg, cellsOf, tokRo, cellOk, List.all_cons, List.all_nil, Bool.and_true, Bool.true_and, Bool.or_true, Bool.true_or, Bool.or_false, Bool.and_self, Nat.reduceLeDiff, Nat.reduceLT, Nat.lt_add_one, Nat.zero_lt_succ, range1, range2, range3, range4, Option.isSome_some, splice, fillF, List.take_zero, List.drop_zero, List.drop_succ_cons, List.take_succ_cons, List.nil_append, List.cons_append, Int.reduceEq, Int.reduceLT, Int.reduceAdd, Int.reduceSub, Int.reduceMul, callArgs, strips, strip_sl, strip_int, strip_bool, strip_str, T3, T22] <;> rfl) ?_
  simp only [W_skip, W_region, W_seq, W_cond, W_block, W_exit, W_label, W_ret, W_range, OpsW_nil, OpsW_app, OpsW_app', OpsW_op, OpsW_guard, upd_some, upd_none, Br_W1, Br_W2, Br_O1, Br_O2, opF, evalT, evalO, ofConst, argFr, binF, intF, unF, idxN_nat, reduceIte, reduceCtorEq, Nat.reduceEqDiff, Nat.reduceAdd, Nat.reduceMul, Option.getD_some, Option.getD_none, Option.map_some, Option.map_none, Option.bind_some, Option.some.injEq, Prod.mk.injEq, List.getElem?_toArray, List.getElem?_cons_zero, List.getElem?_cons_succ, List.getElem?_nil, Nat.succ_ne_zero, and_self, true_and, and_true, true_or, or_true, false_or, or_false, exists_eq_left, exists_eq_left', exists_eq, exists_and_left, and_assoc, if_true, if_false, decide_true, decide_false, Bool.false_eq_true, beq_self_eq_true, Bool.true_beq, Bool.false_beq, Bool.not_true, Bool.not_false, ne_eq, not_true_eq_false, not_false_eq_true, List.length_cons, List.length_nil, decide_eq_true_eq, decide_eq_false_iff_not, callB, List.zip_cons_cons, List.zip_nil_right, List.zip_nil_left, List.map_cons, List.map_nil, List.size_toArray, partF, TI.agg, scal, isAgg, cellsOf, tokRo, cellOk, List.all_cons, List.all_nil, Bool.and_true, Bool.true_and, Bool.or_true, Bool.true_or, Bool.or_false, Bool.and_self, Nat.reduceLeDiff, Nat.reduceLT, Nat.lt_add_one, Nat.zero_lt_succ, range1, range2, range3, range4, Option.isSome_some, splice, fillF, List.take_zero, List.drop_zero, List.drop_succ_cons, List.take_succ_cons, List.nil_append, List.cons_append, Int.reduceEq, Int.reduceLT, Int.reduceAdd, Int.reduceSub, Int.reduceMul, T3, T4, T22, T41]
  have hL : (plainL l).length ≤ 1000 := by simpa [plainL] using hl
  have hR : ∀ x ∈ plainL l, 0 ≤ x ∧ x ≤ 65535 := by
    intro x hx
    obtain ⟨n, _, rfl⟩ := List.mem_map.1 hx
    exact weight_range n
  rw [packL_eq]
  generalize hLL : plainL l = L at hL hR ⊢
  generalize hmm : number cm = m at hm ⊢
  unfold outV
  generalize hto : (if L = [] then Tok.full else Tok.ro) = tk
  refine W_loop (fun n fr st => ∃ (i : Nat) (o : List Int) (p : PV), fr 0 = .sl 1 (ints L) tk ∧ fr 1 = .int .i64 m ∧ fr 5 = p ∧ OutSt st o p ∧ fr 6 = .int .i64 i ∧ i ≤ L.length ∧ packP m 0 L = o ++ packP m 0 (L.drop i) ∧ o.length ≤ i ∧ n = L.length - i) ?_ L.length _ _
    ⟨0, [], .sl 1 [] .full, by simp [upd], by simp [upd], by simp [upd], OutSt.nil, by simp [upd], by simp, by simp, by simp, by simp⟩
  rintro n fr st ⟨i, o, p, f0, f1, f5, ho, f6, hi, hpk, hol, rfl⟩
  by_cases ci : (i : Int) < (L.length : Int)
  · have ia : i < L.length := by omega
    simp only [W_skip, W_region, W_seq, W_cond, W_block, W_exit, W_label, W_ret, W_range, OpsW_nil, OpsW_app, OpsW_app', OpsW_op, OpsW_guard, upd_some, upd_none, Br_W1, Br_W2, Br_O1, Br_O2, opF, evalT, evalO, ofConst, argFr, binF, intF, unF, idxN_nat, reduceIte, reduceCtorEq, Nat.reduceEqDiff, Nat.reduceAdd, Nat.reduceMul, Option.getD_some, Option.getD_none, Option.map_some, Option.map_none, Option.bind_some, Option.some.injEq, Prod.mk.injEq, List.getElem?_toArray, List.getElem?_cons_zero, List.getElem?_cons_succ, List.getElem?_nil, Nat.succ_ne_zero, and_self, true_and, and_true, true_or, or_true, false_or, or_false, exists_eq_left, exists_eq_left', exists_eq, exists_and_left, and_assoc, if_true, if_false, decide_true, decide_false, Bool.false_eq_true, beq_self_eq_true, Bool.true_beq, Bool.false_beq, Bool.not_true, Bool.not_false, ne_eq, not_true_eq_false, not_false_eq_true, List.length_cons, List.length_nil, decide_eq_true_eq, decide_eq_false_iff_not, callB, List.zip_cons_cons, List.zip_nil_right, List.zip_nil_left, List.map_cons, List.map_nil, List.size_toArray, partF, TI.agg, scal, isAgg, cellsOf, tokRo, cellOk, List.all_cons, List.all_nil, Bool.and_true, Bool.true_and, Bool.or_true, Bool.true_or, Bool.or_false, Bool.and_self, Nat.reduceLeDiff, Nat.reduceLT, Nat.lt_add_one, Nat.zero_lt_succ, range1, range2, range3, range4, Option.isSome_some, splice, fillF, List.take_zero, List.drop_zero, List.drop_succ_cons, List.take_succ_cons, List.nil_append, List.cons_append, Int.reduceEq, Int.reduceLT, Int.reduceAdd, Int.reduceSub, Int.reduceMul, T3, T4, T22, T41, f0, f1, f5, f6, ints_length, ci]
    refine W_loop (fun n fr' st' => ∃ (k : Nat), fr' 0 = .sl 1 (ints L) tk ∧ fr' 1 = .int .i64 m ∧ fr' 5 = p ∧ st' = st ∧ fr' 6 = .int .i64 i ∧ fr' 7 = .int .i64 k ∧ i + k ≤ L.length ∧ cnt m (L.drop i) = k + cnt m (L.drop (i + k)) ∧ n = L.length - (i + k)) ?_ (L.length - i) _ _
      ⟨0, by simp [upd, f0], by simp [upd, f1], by simp [upd, f5], rfl, by simp [upd, f6], by simp [upd], by omega, by simp, rfl⟩
    rintro n fr' st' ⟨k, g0, g1, g5, rfl, g6, g7, hik, hc, rfl⟩
    have hwik : IntKind.i64.wrap ((i : Int) + (k : Int)) = ((i + k : Nat) : Int) := by rw [wrap_small (by omega) (by omega)]; rfl
    have hwk : IntKind.i64.wrap ((k : Int) + 1) = ((k + 1 : Nat) : Int) := by rw [wrap_small (by omega) (by omega)]; rfl
    -- behind the run
    by_cases cik : ((i + k : Nat) : Int) < (L.length : Int)
    · have ika : i + k < L.length := by omega
      have ga := ints_get L (i + k) ika
      by_cases e : L[i + k] = m
      · have e' : (L[i + k] == m) = true := by simp [e]
        simp only [W_skip, W_region, W_seq, W_cond, W_block, W_exit, W_label, W_ret, W_range, OpsW_nil, OpsW_app, OpsW_app', OpsW_op, OpsW_guard, upd_some, upd_none, Br_W1, Br_W2, Br_O1, Br_O2, opF, evalT, evalO, ofConst, argFr, binF, intF, unF, idxN_nat, reduceIte, reduceCtorEq, Nat.reduceEqDiff, Nat.reduceAdd, Nat.reduceMul, Option.getD_some, Option.getD_none, Option.map_some, Option.map_none, Option.bind_some, Option.some.injEq, Prod.mk.injEq, List.getElem?_toArray, List.getElem?_cons_zero, List.getElem?_cons_succ, List.getElem?_nil, Nat.succ_ne_zero, and_self, true_and, and_true, true_or, or_true, false_or, or_false, exists_eq_left, exists_eq_left', exists_eq, exists_and_left, and_assoc, if_true, if_false, decide_true, decide_false, Bool.false_eq_true, beq_self_eq_true, Bool.true_beq, Bool.false_beq, Bool.not_true, Bool.not_false, ne_eq, not_true_eq_false, not_false_eq_true, List.length_cons, List.length_nil, decide_eq_true_eq, decide_eq_false_iff_not, callB, List.zip_cons_cons, List.zip_nil_right, List.zip_nil_left, List.map_cons, List.map_nil, List.size_toArray, partF, TI.agg, scal, isAgg, cellsOf, tokRo, cellOk, List.all_cons, List.all_nil, Bool.and_true, Bool.true_and, Bool.or_true, Bool.true_or, Bool.or_false, Bool.and_self, Nat.reduceLeDiff, Nat.reduceLT, Nat.lt_add_one, Nat.zero_lt_succ, range1, range2, range3, range4, Option.isSome_some, splice, fillF, List.take_zero, List.drop_zero, List.drop_succ_cons, List.take_succ_cons, List.nil_append, List.cons_append, Int.reduceEq, Int.reduceLT, Int.reduceAdd, Int.reduceSub, Int.reduceMul, T3, T4, T22, T41, g0, g1, g5, g6, g7, ints_length, hwik, hwk, cik, ga, e']
        exact ⟨L.length - (i + (k + 1)), by omega, k + 1, rfl, by omega, by rw [hc, cnt_drop ika e]; omega, rfl⟩
      · have e' : (L[i + k] == m) = false := by simp [e]
        rw [cnt_stop ika e] at hc
        by_cases k0 : (k : Int) > 0
        · simp only [W_skip, W_region, W_seq, W_cond, W_block, W_exit, W_label, W_ret, W_range, OpsW_nil, OpsW_app, OpsW_app', OpsW_op, OpsW_guard, upd_some, upd_none, Br_W1, Br_W2, Br_O1, Br_O2, opF, evalT, evalO, ofConst, argFr, binF, intF, unF, idxN_nat, reduceIte, reduceCtorEq, Nat.reduceEqDiff, Nat.reduceAdd, Nat.reduceMul, Option.getD_some, Option.getD_none, Option.map_some, Option.map_none, Option.bind_some, Option.some.injEq, Prod.mk.injEq, List.getElem?_toArray, List.getElem?_cons_zero, List.getElem?_cons_succ, List.getElem?_nil, Nat.succ_ne_zero, and_self, true_and, and_true, true_or, or_true, false_or, or_false, exists_eq_left, exists_eq_left', exists_eq, exists_and_left, and_assoc, if_true, if_false, decide_true, decide_false, Bool.false_eq_true, beq_self_eq_true, Bool.true_beq, Bool.false_beq, Bool.not_true, Bool.not_false, ne_eq, not_true_eq_false, not_false_eq_true, List.length_cons, List.length_nil, decide_eq_true_eq, decide_eq_false_iff_not, callB, List.zip_cons_cons, List.zip_nil_right, List.zip_nil_left, List.map_cons, List.map_nil, List.size_toArray, partF, TI.agg, scal, isAgg, cellsOf, tokRo, cellOk, List.all_cons, List.all_nil, Bool.and_true, Bool.true_and, Bool.or_true, Bool.true_or, Bool.or_false, Bool.and_self, Nat.reduceLeDiff, Nat.reduceLT, Nat.lt_add_one, Nat.zero_lt_succ, range1, range2, range3, range4, Option.isSome_some, splice, fillF, List.take_zero, List.drop_zero, List.drop_succ_cons, List.take_succ_cons, List.nil_append, List.cons_append, Int.reduceEq, Int.reduceLT, Int.reduceAdd, Int.reduceSub, Int.reduceMul, T3, T4, T22, T41, g0, g1, g5, g6, g7, ints_length, hwik, hwk, cik, ga, e', k0]
          have hq : ((k : Int).tdiv 8) = ((k / 8 : Nat) : Int) := rfl
          have hr : ((k : Int).tmod 8) = ((k % 8 : Nat) : Int) := rfl
          have hk8 : k / 8 ≤ k := Nat.div_le_self _ _
          have hwq : IntKind.i64.wrap ((k / 8 : Nat) : Int) = ((k / 8 : Nat) : Int) := wrap_small (by omega) (by omega)
          have hw7 : IntKind.i64.wrap (m + 7) = m + 7 := wrap_small (by omega) (by omega)
          have hcc : cnt m (L.drop i) = k := by omega
          have hpr := packP_cnt m (L.drop i)
          rw [hcc, List.drop_drop] at hpr
          refine W_loop (fun n fr2 st2 => ∃ (b : Nat) (p2 : PV), fr2 0 = .sl 1 (ints L) tk ∧ fr2 1 = .int .i64 m ∧ fr2 5 = p2 ∧ OutSt st2 (o ++ List.replicate b (m + 7)) p2 ∧ fr2 6 = .int .i64 i ∧ fr2 7 = .int .i64 k ∧ fr2 8 = .int .i64 b ∧ b ≤ k / 8 ∧ n = k / 8 - b) ?_ (k / 8) _ _
            ⟨0, p, by simp [upd, g0], by simp [upd, g1], by simp [upd, g5], by simpa using ho, by simp [upd, g6], by simp [upd, g7], by simp [upd], by omega, by omega⟩
          rintro n fr2 st2 ⟨b, p2, d0, d1, d5, ho2, d6, d7, d8, hb, rfl⟩
          by_cases cb : (b : Int) < ((k / 8 : Nat) : Int)
          · have hwb : IntKind.i64.wrap ((b : Int) + 1) = ((b + 1 : Nat) : Int) := by rw [wrap_small (by omega) (by omega)]; rfl
            obtain ⟨t2, st3, a1, a2⟩ := append_sl ho2 (m + 7) (by simp; unfold LIM; omega)
            rw [List.append_assoc, ← List.replicate_succ'] at a1 a2
            simp only [W_skip, W_region, W_seq, W_cond, W_block, W_exit, W_label, W_ret, W_range, OpsW_nil, OpsW_app, OpsW_app', OpsW_op, OpsW_guard, upd_some, upd_none, Br_W1, Br_W2, Br_O1, Br_O2, opF, evalT, evalO, ofConst, argFr, binF, intF, unF, idxN_nat, reduceIte, reduceCtorEq, Nat.reduceEqDiff, Nat.reduceAdd, Nat.reduceMul, Option.getD_some, Option.getD_none, Option.map_some, Option.map_none, Option.bind_some, Option.some.injEq, Prod.mk.injEq, List.getElem?_toArray, List.getElem?_cons_zero, List.getElem?_cons_succ, List.getElem?_nil, Nat.succ_ne_zero, and_self, true_and, and_true, true_or, or_true, false_or, or_false, exists_eq_left, exists_eq_left', exists_eq, exists_and_left, and_assoc, if_true, if_false, decide_true, decide_false, Bool.false_eq_true, beq_self_eq_true, Bool.true_beq, Bool.false_beq, Bool.not_true, Bool.not_false, ne_eq, not_true_eq_false, not_false_eq_true, List.length_cons, List.length_nil, decide_eq_true_eq, decide_eq_false_iff_not, callB, List.zip_cons_cons, List.zip_nil_right, List.zip_nil_left, List.map_cons, List.map_nil, List.size_toArray, partF, TI.agg, scal, isAgg, cellsOf, tokRo, cellOk, List.all_cons, List.all_nil, Bool.and_true, Bool.true_and, Bool.or_true, Bool.true_or, Bool.or_false, Bool.and_self, Nat.reduceLeDiff, Nat.reduceLT, Nat.lt_add_one, Nat.zero_lt_succ, range1, range2, range3, range4, Option.isSome_some, splice, fillF, List.take_zero, List.drop_zero, List.drop_succ_cons, List.take_succ_cons, List.nil_append, List.cons_append, Int.reduceEq, Int.reduceLT, Int.reduceAdd, Int.reduceSub, Int.reduceMul, T3, T4, T22, T41, d0, d1, d5, d6, d7, d8, hq, hwq, cb, hw7, a1, hwb]
            exact ⟨k / 8 - (b + 1), by omega, b + 1, a2, rfl, by omega, rfl⟩
          · have hbk : b = k / 8 := by omega
            subst hbk
            have hdl : L.drop (i + k) ≠ [] := by rw [List.drop_eq_getElem_cons ika]; exact List.cons_ne_nil _ _
            have hdh : (L.drop (i + k)).headD 0 = L[i + k] := by rw [List.drop_eq_getElem_cons ika]; rfl
            have hne : (((i + k : Nat) : Int) == (L.length : Int)) = false := by simp; omega
            have hm8 : k % 8 < 8 := Nat.mod_lt _ (by omega)
            have w1 : IntKind.i64.wrap (m + ((k % 8 : Nat) : Int)) = m + ((k % 8 : Nat) : Int) := wrap_small (by omega) (by omega)
            have w2 : IntKind.i64.wrap (m + ((k % 8 : Nat) : Int) - 1) = m + ((k % 8 : Nat) : Int) - 1 := wrap_small (by omega) (by omega)
            have w3 : IntKind.i64.wrap (m + 15) = m + 15 := wrap_small (by omega) (by omega)
            have w4 : IntKind.i64.wrap (m + 15 - ((k % 8 : Nat) : Int)) = m + 15 - ((k % 8 : Nat) : Int) := wrap_small (by omega) (by omega)
            by_cases cr : ((k % 8 : Nat) : Int) > 0
            · have cr' : k % 8 > 0 := by omega
              by_cases cx : L[i + k] < m
              · obtain ⟨t2, st3, a1, a2⟩ := append_sl ho2 (m + ((k % 8 : Nat) : Int) - 1) (by simp; unfold LIM; omega)
                simp only [W_skip, W_region, W_seq, W_cond, W_block, W_exit, W_label, W_ret, W_range, OpsW_nil, OpsW_app, OpsW_app', OpsW_op, OpsW_guard, upd_some, upd_none, Br_W1, Br_W2, Br_O1, Br_O2, opF, evalT, evalO, ofConst, argFr, binF, intF, unF, idxN_nat, reduceIte, reduceCtorEq, Nat.reduceEqDiff, Nat.reduceAdd, Nat.reduceMul, Option.getD_some, Option.getD_none, Option.map_some, Option.map_none, Option.bind_some, Option.some.injEq, Prod.mk.injEq, List.getElem?_toArray, List.getElem?_cons_zero, List.getElem?_cons_succ, List.getElem?_nil, Nat.succ_ne_zero, and_self, true_and, and_true, true_or, or_true, false_or, or_false, exists_eq_left, exists_eq_left', exists_eq, exists_and_left, and_assoc, if_true, if_false, decide_true, decide_false, Bool.false_eq_true, beq_self_eq_true, Bool.true_beq, Bool.false_beq, Bool.not_true, Bool.not_false, ne_eq, not_true_eq_false, not_false_eq_true, List.length_cons, List.length_nil, decide_eq_true_eq, decide_eq_false_iff_not, callB, List.zip_cons_cons, List.zip_nil_right, List.zip_nil_left, List.map_cons, List.map_nil, List.size_toArray, partF, TI.agg, scal, isAgg, cellsOf, tokRo, cellOk, List.all_cons, List.all_nil, Bool.and_true, Bool.true_and, Bool.or_true, Bool.true_or, Bool.or_false, Bool.and_self, Nat.reduceLeDiff, Nat.reduceLT, Nat.lt_add_one, Nat.zero_lt_succ, range1, range2, range3, range4, Option.isSome_some, splice, fillF, List.take_zero, List.drop_zero, List.drop_succ_cons, List.take_succ_cons, List.nil_append, List.cons_append, Int.reduceEq, Int.reduceLT, Int.reduceAdd, Int.reduceSub, Int.reduceMul, T3, T4, T22, T41, d0, d1, d5, d6, d7, d8, hq, hr, hwq, hwik, cb, cr, ints_length, hne, ga, cx, w1, w2, a1]
                refine ⟨L.length - (i + k), by omega, i + k, _, a2, rfl, by omega, ?_, by simp; omega, rfl⟩
                rw [hpk, hpr, runPart, if_pos cr', hdh, if_pos (.inr cx)]
                simp
              · obtain ⟨t2, st3, a1, a2⟩ := append_sl ho2 (m + 15 - ((k % 8 : Nat) : Int)) (by simp; unfold LIM; omega)
                simp only [W_skip, W_region, W_seq, W_cond, W_block, W_exit, W_label, W_ret, W_range, OpsW_nil, OpsW_app, OpsW_app', OpsW_op, OpsW_guard, upd_some, upd_none, Br_W1, Br_W2, Br_O1, Br_O2, opF, evalT, evalO, ofConst, argFr, binF, intF, unF, idxN_nat, reduceIte, reduceCtorEq, Nat.reduceEqDiff, Nat.reduceAdd, Nat.reduceMul, Option.getD_some, Option.getD_none, Option.map_some, Option.map_none, Option.bind_some, Option.some.injEq, Prod.mk.injEq, List.getElem?_toArray, List.getElem?_cons_zero, List.getElem?_cons_succ, List.getElem?_nil, Nat.succ_ne_zero, and_self, true_and, and_true, true_or, or_true, false_or, or_false, exists_eq_left, exists_eq_left', exists_eq, exists_and_left, and_assoc, if_true, if_false, decide_true, decide_false, Bool.false_eq_true, beq_self_eq_true, Bool.true_beq, Bool.false_beq, Bool.not_true, Bool.not_false, ne_eq, not_true_eq_false, not_false_eq_true, List.length_cons, List.length_nil, decide_eq_true_eq, decide_eq_false_iff_not, callB, List.zip_cons_cons, List.zip_nil_right, List.zip_nil_left, List.map_cons, List.map_nil, List.size_toArray, partF, TI.agg, scal, isAgg, cellsOf, tokRo, cellOk, List.all_cons, List.all_nil, Bool.and_true, Bool.true_and, Bool.or_true, Bool.true_or, Bool.or_false, Bool.and_self, Nat.reduceLeDiff, Nat.reduceLT, Nat.lt_add_one, Nat.zero_lt_succ, range1, range2, range3, range4, Option.isSome_some, splice, fillF, List.take_zero, List.drop_zero, List.drop_succ_cons, List.take_succ_cons, List.nil_append, List.cons_append, Int.reduceEq, Int.reduceLT, Int.reduceAdd, Int.reduceSub, Int.reduceMul, T3, T4, T22, T41, d0, d1, d5, d6, d7, d8, hq, hr, hwq, hwik, cb, cr, ints_length, hne, ga, cx, w3, w4, a1]
                refine ⟨L.length - (i + k), by omega, i + k, _, a2, rfl, by omega, ?_, by simp; omega, rfl⟩
                rw [hpk, hpr, runPart, if_pos cr', hdh, if_neg (by rintro (q | q); exact hdl q; exact cx q)]
                simp
            · have cr' : ¬ k % 8 > 0 := by omega
              simp only [W_skip, W_region, W_seq, W_cond, W_block, W_exit, W_label, W_ret, W_range, OpsW_nil, OpsW_app, OpsW_app', OpsW_op, OpsW_guard, upd_some, upd_none, Br_W1, Br_W2, Br_O1, Br_O2, opF, evalT, evalO, ofConst, argFr, binF, intF, unF, idxN_nat, reduceIte, reduceCtorEq, Nat.reduceEqDiff, Nat.reduceAdd, Nat.reduceMul, Option.getD_some, Option.getD_none, Option.map_some, Option.map_none, Option.bind_some, Option.some.injEq, Prod.mk.injEq, List.getElem?_toArray, List.getElem?_cons_zero, List.getElem?_cons_succ, List.getElem?_nil, Nat.succ_ne_zero, and_self, true_and, and_true, true_or, or_true, false_or, or_false, exists_eq_left, exists_eq_left', exists_eq, exists_and_left, and_assoc, if_true, if_false, decide_true, decide_false, Bool.false_eq_true, beq_self_eq_true, Bool.true_beq, Bool.false_beq, Bool.not_true, Bool.not_false, ne_eq, not_true_eq_false, not_false_eq_true, List.length_cons, List.length_nil, decide_eq_true_eq, decide_eq_false_iff_not, callB, List.zip_cons_cons, List.zip_nil_right, List.zip_nil_left, List.map_cons, List.map_nil, List.size_toArray, partF, TI.agg, scal, isAgg, cellsOf, tokRo, cellOk, List.all_cons, List.all_nil, Bool.and_true, Bool.true_and, Bool.or_true, Bool.true_or, Bool.or_false, Bool.and_self, Nat.reduceLeDiff, Nat.reduceLT, Nat.lt_add_one, Nat.zero_lt_succ, range1, range2, range3, range4, Option.isSome_some, splice, fillF, List.take_zero, List.drop_zero, List.drop_succ_cons, List.take_succ_cons, List.nil_append, List.cons_append, Int.reduceEq, Int.reduceLT, Int.reduceAdd, Int.reduceSub, Int.reduceMul, T3, T4, T22, T41, d0, d1, d5, d6, d7, d8, hq, hr, hwq, hwik, cb, cr, ints_length, hne]
              refine ⟨L.length - (i + k), by omega, i + k, o ++ List.replicate (k / 8) (m + 7), ho2, rfl, by omega, ?_, by simp; omega, rfl⟩
              rw [hpk, hpr, runPart, if_neg cr']
              simp
        · have hk0 : k = 0 := by omega
          subst hk0
          have e2 : L[i] ≠ m := by simpa using e
          have gi := ints_get L i ia
          have hd := packP_elem m (L.drop (i + 1)) e2
          rw [← List.drop_eq_getElem_cons ia] at hd
          have hwi : IntKind.i64.wrap ((i : Int) + 1) = ((i + 1 : Nat) : Int) := by rw [wrap_small (by omega) (by omega)]; rfl
          have hr := hR L[i] (List.getElem_mem ia)
          have hwx : IntKind.i64.wrap (L[i] + 14) = L[i] + 14 := wrap_small (by omega) (by omega)
          by_cases cx : L[i] < m
          · obtain ⟨t2, st2, a1, a2⟩ := append_sl ho L[i] (by unfold LIM; omega)
            simp only [W_skip, W_region, W_seq, W_cond, W_block, W_exit, W_label, W_ret, W_range, OpsW_nil, OpsW_app, OpsW_app', OpsW_op, OpsW_guard, upd_some, upd_none, Br_W1, Br_W2, Br_O1, Br_O2, opF, evalT, evalO, ofConst, argFr, binF, intF, unF, idxN_nat, reduceIte, reduceCtorEq, Nat.reduceEqDiff, Nat.reduceAdd, Nat.reduceMul, Option.getD_some, Option.getD_none, Option.map_some, Option.map_none, Option.bind_some, Option.some.injEq, Prod.mk.injEq, List.getElem?_toArray, List.getElem?_cons_zero, List.getElem?_cons_succ, List.getElem?_nil, Nat.succ_ne_zero, and_self, true_and, and_true, true_or, or_true, false_or, or_false, exists_eq_left, exists_eq_left', exists_eq, exists_and_left, and_assoc, if_true, if_false, decide_true, decide_false, Bool.false_eq_true, beq_self_eq_true, Bool.true_beq, Bool.false_beq, Bool.not_true, Bool.not_false, ne_eq, not_true_eq_false, not_false_eq_true, List.length_cons, List.length_nil, decide_eq_true_eq, decide_eq_false_iff_not, callB, List.zip_cons_cons, List.zip_nil_right, List.zip_nil_left, List.map_cons, List.map_nil, List.size_toArray, partF, TI.agg, scal, isAgg, cellsOf, tokRo, cellOk, List.all_cons, List.all_nil, Bool.and_true, Bool.true_and, Bool.or_true, Bool.true_or, Bool.or_false, Bool.and_self, Nat.reduceLeDiff, Nat.reduceLT, Nat.lt_add_one, Nat.zero_lt_succ, range1, range2, range3, range4, Option.isSome_some, splice, fillF, List.take_zero, List.drop_zero, List.drop_succ_cons, List.take_succ_cons, List.nil_append, List.cons_append, Int.reduceEq, Int.reduceLT, Int.reduceAdd, Int.reduceSub, Int.reduceMul, T3, T4, T22, T41, g0, g1, g5, g6, g7, ints_length, hwik, hwk, cik, ga, gi, e', k0, cx, a1, hwi]
            refine ⟨L.length - (i + 1), by omega, i + 1, o ++ [L[i]], a2, rfl, by omega, ?_, by simp; omega, rfl⟩
            rw [hpk, hd, if_pos cx, List.append_assoc]
          · obtain ⟨t2, st2, a1, a2⟩ := append_sl ho (L[i] + 14) (by unfold LIM; omega)
            simp only [W_skip, W_region, W_seq, W_cond, W_block, W_exit, W_label, W_ret, W_range, OpsW_nil, OpsW_app, OpsW_app', OpsW_op, OpsW_guard, upd_some, upd_none, Br_W1, Br_W2, Br_O1, Br_O2, opF, evalT, evalO, ofConst, argFr, binF, intF, unF, idxN_nat, reduceIte, reduceCtorEq, Nat.reduceEqDiff, Nat.reduceAdd, Nat.reduceMul, Option.getD_some, Option.getD_none, Option.map_some, Option.map_none, Option.bind_some, Option.some.injEq, Prod.mk.injEq, List.getElem?_toArray, List.getElem?_cons_zero, List.getElem?_cons_succ, List.getElem?_nil, Nat.succ_ne_zero, and_self, true_and, and_true, true_or, or_true, false_or, or_false, exists_eq_left, exists_eq_left', exists_eq, exists_and_left, and_assoc, if_true, if_false, decide_true, decide_false, Bool.false_eq_true, beq_self_eq_true, Bool.true_beq, Bool.false_beq, Bool.not_true, Bool.not_false, ne_eq, not_true_eq_false, not_false_eq_true, List.length_cons, List.length_nil, decide_eq_true_eq, decide_eq_false_iff_not, callB, List.zip_cons_cons, List.zip_nil_right, List.zip_nil_left, List.map_cons, List.map_nil, List.size_toArray, partF, TI.agg, scal, isAgg, cellsOf, tokRo, cellOk, List.all_cons, List.all_nil, Bool.and_true, Bool.true_and, Bool.or_true, Bool.true_or, Bool.or_false, Bool.and_self, Nat.reduceLeDiff, Nat.reduceLT, Nat.lt_add_one, Nat.zero_lt_succ, range1, range2, range3, range4, Option.isSome_some, splice, fillF, List.take_zero, List.drop_zero, List.drop_succ_cons, List.take_succ_cons, List.nil_append, List.cons_append, Int.reduceEq, Int.reduceLT, Int.reduceAdd, Int.reduceSub, Int.reduceMul, T3, T4, T22, T41, g0, g1, g5, g6, g7, ints_length, hwik, hwk, cik, ga, gi, e', k0, cx, a1, hwi, hwx]
            refine ⟨L.length - (i + 1), by omega, i + 1, o ++ [L[i] + 14], a2, rfl, by omega, ?_, by simp; omega, rfl⟩
            rw [hpk, hd, if_neg cx, List.append_assoc]
    · have hc0 : cnt m (L.drop (i + k)) = 0 := by rw [show L.drop (i + k) = [] from List.drop_eq_nil_of_le (by omega)]; rfl
      rw [hc0] at hc
      have k0 : (k : Int) > 0 := by omega
      simp only [W_skip, W_region, W_seq, W_cond, W_block, W_exit, W_label, W_ret, W_range, OpsW_nil, OpsW_app, OpsW_app', OpsW_op, OpsW_guard, upd_some, upd_none, Br_W1, Br_W2, Br_O1, Br_O2, opF, evalT, evalO, ofConst, argFr, binF, intF, unF, idxN_nat, reduceIte, reduceCtorEq, Nat.reduceEqDiff, Nat.reduceAdd, Nat.reduceMul, Option.getD_some, Option.getD_none, Option.map_some, Option.map_none, Option.bind_some, Option.some.injEq, Prod.mk.injEq, List.getElem?_toArray, List.getElem?_cons_zero, List.getElem?_cons_succ, List.getElem?_nil, Nat.succ_ne_zero, and_self, true_and, and_true, true_or, or_true, false_or, or_false, exists_eq_left, exists_eq_left', exists_eq, exists_and_left, and_assoc, if_true, if_false, decide_true, decide_false, Bool.false_eq_true, beq_self_eq_true, Bool.true_beq, Bool.false_beq, Bool.not_true, Bool.not_false, ne_eq, not_true_eq_false, not_false_eq_true, List.length_cons, List.length_nil, decide_eq_true_eq, decide_eq_false_iff_not, callB, List.zip_cons_cons, List.zip_nil_right, List.zip_nil_left, List.map_cons, List.map_nil, List.size_toArray, partF, TI.agg, scal, isAgg, cellsOf, tokRo, cellOk, List.all_cons, List.all_nil, Bool.and_true, Bool.true_and, Bool.or_true, Bool.true_or, Bool.or_false, Bool.and_self, Nat.reduceLeDiff, Nat.reduceLT, Nat.lt_add_one, Nat.zero_lt_succ, range1, range2, range3, range4, Option.isSome_some, splice, fillF, List.take_zero, List.drop_zero, List.drop_succ_cons, List.take_succ_cons, List.nil_append, List.cons_append, Int.reduceEq, Int.reduceLT, Int.reduceAdd, Int.reduceSub, Int.reduceMul, T3, T4, T22, T41, g0, g1, g5, g6, g7, ints_length, hwik, hwk, cik, k0]
      have hq : ((k : Int).tdiv 8) = ((k / 8 : Nat) : Int) := rfl
      have hr : ((k : Int).tmod 8) = ((k % 8 : Nat) : Int) := rfl
      have hk8 : k / 8 ≤ k := Nat.div_le_self _ _
      have hwq : IntKind.i64.wrap ((k / 8 : Nat) : Int) = ((k / 8 : Nat) : Int) := wrap_small (by omega) (by omega)
      have hw7 : IntKind.i64.wrap (m + 7) = m + 7 := wrap_small (by omega) (by omega)
      have hcc : cnt m (L.drop i) = k := by omega
      have hpr := packP_cnt m (L.drop i)
      rw [hcc, List.drop_drop] at hpr
      refine W_loop (fun n fr2 st2 => ∃ (b : Nat) (p2 : PV), fr2 0 = .sl 1 (ints L) tk ∧ fr2 1 = .int .i64 m ∧ fr2 5 = p2 ∧ OutSt st2 (o ++ List.replicate b (m + 7)) p2 ∧ fr2 6 = .int .i64 i ∧ fr2 7 = .int .i64 k ∧ fr2 8 = .int .i64 b ∧ b ≤ k / 8 ∧ n = k / 8 - b) ?_ (k / 8) _ _
        ⟨0, p, by simp [upd, g0], by simp [upd, g1], by simp [upd, g5], by simpa using ho, by simp [upd, g6], by simp [upd, g7], by simp [upd], by omega, by omega⟩
      rintro n fr2 st2 ⟨b, p2, d0, d1, d5, ho2, d6, d7, d8, hb, rfl⟩
      by_cases cb : (b : Int) < ((k / 8 : Nat) : Int)
      · have hwb : IntKind.i64.wrap ((b : Int) + 1) = ((b + 1 : Nat) : Int) := by rw [wrap_small (by omega) (by omega)]; rfl
        obtain ⟨t2, st3, a1, a2⟩ := append_sl ho2 (m + 7) (by simp; unfold LIM; omega)
        rw [List.append_assoc, ← List.replicate_succ'] at a1 a2
        simp only [W_skip, W_region, W_seq, W_cond, W_block, W_exit, W_label, W_ret, W_range, OpsW_nil, OpsW_app, OpsW_app', OpsW_op, OpsW_guard, upd_some, upd_none, Br_W1, Br_W2, Br_O1, Br_O2, opF, evalT, evalO, ofConst, argFr, binF, intF, unF, idxN_nat, reduceIte, reduceCtorEq, Nat.reduceEqDiff, Nat.reduceAdd, Nat.reduceMul, Option.getD_some, Option.getD_none, Option.map_some, Option.map_none, Option.bind_some, Option.some.injEq, Prod.mk.injEq, List.getElem?_toArray, List.getElem?_cons_zero, List.getElem?_cons_succ, List.getElem?_nil, Nat.succ_ne_zero, and_self, true_and, and_true, true_or, or_true, false_or, or_false, exists_eq_left, exists_eq_left', exists_eq, exists_and_left, and_assoc, if_true, if_false, decide_true, decide_false, Bool.false_eq_true, beq_self_eq_true, Bool.true_beq, Bool.false_beq, Bool.not_true, Bool.not_false, ne_eq, not_true_eq_false, not_false_eq_true, List.length_cons, List.length_nil, decide_eq_true_eq, decide_eq_false_iff_not, callB, List.zip_cons_cons, List.zip_nil_right, List.zip_nil_left, List.map_cons, List.map_nil, List.size_toArray, partF, TI.agg, scal, isAgg, cellsOf, tokRo, cellOk, List.all_cons, List.all_nil, Bool.and_true, Bool.true_and, Bool.or_true, Bool.true_or, Bool.or_false, Bool.and_self, Nat.reduceLeDiff, Nat.reduceLT, Nat.lt_add_one, Nat.zero_lt_succ, range1, range2, range3, range4, Option.isSome_some, splice, fillF, List.take_zero, List.drop_zero, List.drop_succ_cons, List.take_succ_cons, List.nil_append, List.cons_append, Int.reduceEq, Int.reduceLT, Int.reduceAdd, Int.reduceSub, Int.reduceMul, T3, T4, T22, T41, d0, d1, d5, d6, d7, d8, hq, hwq, cb, hw7, a1, hwb]
        exact ⟨k / 8 - (b + 1), by omega, b + 1, a2, rfl, by omega, rfl⟩
      · have hbk : b = k / 8 := by omega
        subst hbk
        have hdl : L.drop (i + k) = [] := List.drop_eq_nil_of_le (by omega)
        have hne : (((i + k : Nat) : Int) == (L.length : Int)) = true := by simp; omega
        have hm8 : k % 8 < 8 := Nat.mod_lt _ (by omega)
        have w1 : IntKind.i64.wrap (m + ((k % 8 : Nat) : Int)) = m + ((k % 8 : Nat) : Int) := wrap_small (by omega) (by omega)
        have w2 : IntKind.i64.wrap (m + ((k % 8 : Nat) : Int) - 1) = m + ((k % 8 : Nat) : Int) - 1 := wrap_small (by omega) (by omega)
        by_cases cr : ((k % 8 : Nat) : Int) > 0
        · have cr' : k % 8 > 0 := by omega
          obtain ⟨t2, st3, a1, a2⟩ := append_sl ho2 (m + ((k % 8 : Nat) : Int) - 1) (by simp; unfold LIM; omega)
          simp only [W_skip, W_region, W_seq, W_cond, W_block, W_exit, W_label, W_ret, W_range, OpsW_nil, OpsW_app, OpsW_app', OpsW_op, OpsW_guard, upd_some, upd_none, Br_W1, Br_W2, Br_O1, Br_O2, opF, evalT, evalO, ofConst, argFr, binF, intF, unF, idxN_nat, reduceIte, reduceCtorEq, Nat.reduceEqDiff, Nat.reduceAdd, Nat.reduceMul, Option.getD_some, Option.getD_none, Option.map_some, Option.map_none, Option.bind_some, Option.some.injEq, Prod.mk.injEq, List.getElem?_toArray, List.getElem?_cons_zero, List.getElem?_cons_succ, List.getElem?_nil, Nat.succ_ne_zero, and_self, true_and, and_true, true_or, or_true, false_or, or_false, exists_eq_left, exists_eq_left', exists_eq, exists_and_left, and_assoc, if_true, if_false, decide_true, decide_false, Bool.false_eq_true, beq_self_eq_true, Bool.true_beq, Bool.false_beq, Bool.not_true, Bool.not_false, ne_eq, not_true_eq_false, not_false_eq_true, List.length_cons, List.length_nil, decide_eq_true_eq, decide_eq_false_iff_not, callB, List.zip_cons_cons, List.zip_nil_right, List.zip_nil_left, List.map_cons, List.map_nil, List.size_toArray, partF, TI.agg, scal, isAgg, cellsOf, tokRo, cellOk, List.all_cons, List.all_nil, Bool.and_true, Bool.true_and, Bool.or_true, Bool.true_or, Bool.or_false, Bool.and_self, Nat.reduceLeDiff, Nat.reduceLT, Nat.lt_add_one, Nat.zero_lt_succ, range1, range2, range3, range4, Option.isSome_some, splice, fillF, List.take_zero, List.drop_zero, List.drop_succ_cons, List.take_succ_cons, List.nil_append, List.cons_append, Int.reduceEq, Int.reduceLT, Int.reduceAdd, Int.reduceSub, Int.reduceMul, T3, T4, T22, T41, d0, d1, d5, d6, d7, d8, hq, hr, hwq, hwik, cb, cr, ints_length, hne, w1, w2, a1]
          refine ⟨L.length - (i + k), by omega, i + k, _, a2, rfl, by omega, ?_, by simp; omega, rfl⟩
          rw [hpk, hpr, runPart, if_pos cr', if_pos (.inl hdl)]
          simp
        · have cr' : ¬ k % 8 > 0 := by omega
          simp only [W_skip, W_region, W_seq, W_cond, W_block, W_exit, W_label, W_ret, W_range, OpsW_nil, OpsW_app, OpsW_app', OpsW_op, OpsW_guard, upd_some, upd_none, Br_W1, Br_W2, Br_O1, Br_O2, opF, evalT, evalO, ofConst, argFr, binF, intF, unF, idxN_nat, reduceIte, reduceCtorEq, Nat.reduceEqDiff, Nat.reduceAdd, Nat.reduceMul, Option.getD_some, Option.getD_none, Option.map_some, Option.map_none, Option.bind_some, Option.some.injEq, Prod.mk.injEq, List.getElem?_toArray, List.getElem?_cons_zero, List.getElem?_cons_succ, List.getElem?_nil, Nat.succ_ne_zero, and_self, true_and, and_true, true_or, or_true, false_or, or_false, exists_eq_left, exists_eq_left', exists_eq, exists_and_left, and_assoc, if_true, if_false, decide_true, decide_false, Bool.false_eq_true, beq_self_eq_true, Bool.true_beq, Bool.false_beq, Bool.not_true, Bool.not_false, ne_eq, not_true_eq_false, not_false_eq_true, List.length_cons, List.length_nil, decide_eq_true_eq, decide_eq_false_iff_not, callB, List.zip_cons_cons, List.zip_nil_right, List.zip_nil_left, List.map_cons, List.map_nil, List.size_toArray, partF, TI.agg, scal, isAgg, cellsOf, tokRo, cellOk, List.all_cons, List.all_nil, Bool.and_true, Bool.true_and, Bool.or_true, Bool.true_or, Bool.or_false, Bool.and_self, Nat.reduceLeDiff, Nat.reduceLT, Nat.lt_add_one, Nat.zero_lt_succ, range1, range2, range3, range4, Option.isSome_some, splice, fillF, List.take_zero, List.drop_zero, List.drop_succ_cons, List.take_succ_cons, List.nil_append, List.cons_append, Int.reduceEq, Int.reduceLT, Int.reduceAdd, Int.reduceSub, Int.reduceMul, T3, T4, T22, T41, d0, d1, d5, d6, d7, d8, hq, hr, hwq, hwik, cb, cr, ints_length, hne]
          refine ⟨L.length - (i + k), by omega, i + k, o ++ List.replicate (k / 8) (m + 7), ho2, rfl, by omega, ?_, by simp; omega, rfl⟩
          rw [hpk, hpr, runPart, if_neg cr']
          simp
  · have hil : i = L.length := by omega
    have hd : L.drop i = [] := List.drop_eq_nil_of_le (by omega)
    rw [hd, packP_nil, List.append_nil] at hpk
    simp only [W_skip, W_region, W_seq, W_cond, W_block, W_exit, W_label, W_ret, W_range, OpsW_nil, OpsW_app, OpsW_app', OpsW_op, OpsW_guard, upd_some, upd_none, Br_W1, Br_W2, Br_O1, Br_O2, opF, evalT, evalO, ofConst, argFr, binF, intF, unF, idxN_nat, reduceIte, reduceCtorEq, Nat.reduceEqDiff, Nat.reduceAdd, Nat.reduceMul, Option.getD_some, Option.getD_none, Option.map_some, Option.map_none, Option.bind_some, Option.some.injEq, Prod.mk.injEq, List.getElem?_toArray, List.getElem?_cons_zero, List.getElem?_cons_succ, List.getElem?_nil, Nat.succ_ne_zero, and_self, true_and, and_true, true_or, or_true, false_or, or_false, exists_eq_left, exists_eq_left', exists_eq, exists_and_left, and_assoc, if_true, if_false, decide_true, decide_false, Bool.false_eq_true, beq_self_eq_true, Bool.true_beq, Bool.false_beq, Bool.not_true, Bool.not_false, ne_eq, not_true_eq_false, not_false_eq_true, List.length_cons, List.length_nil, decide_eq_true_eq, decide_eq_false_iff_not, callB, List.zip_cons_cons, List.zip_nil_right, List.zip_nil_left, List.map_cons, List.map_nil, List.size_toArray, partF, TI.agg, scal, isAgg, cellsOf, tokRo, cellOk, List.all_cons, List.all_nil, Bool.and_true, Bool.true_and, Bool.or_true, Bool.true_or, Bool.or_false, Bool.and_self, Nat.reduceLeDiff, Nat.reduceLT, Nat.lt_add_one, Nat.zero_lt_succ, range1, range2, range3, range4, Option.isSome_some, splice, fillF, List.take_zero, List.drop_zero, List.drop_succ_cons, List.take_succ_cons, List.nil_append, List.cons_append, Int.reduceEq, Int.reduceLT, Int.reduceAdd, Int.reduceSub, Int.reduceMul, T3, T4, T22, T41, f0, f1, f5, f6, ints_length, ci, resF, resAll, resOne]
    rw [hpk]
    exact ⟨1, ho.pub⟩
end Go.Pv.Kp
