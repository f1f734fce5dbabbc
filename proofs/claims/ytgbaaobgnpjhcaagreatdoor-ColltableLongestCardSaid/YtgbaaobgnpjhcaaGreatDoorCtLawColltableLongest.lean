/-
  Collation tables (41): which data is small; the third law: the longest match.
-/
import Derived.Test.YtgbaaobgnpjhcaaGreatDoorCtZn
import Derived.Test.YtgbaaobgnpjhcaaGreatDoorCtT
import Derived.Test.YtgbaaobgnpjhcaaGreatDoorRows
import Derived.LaidLaws
import Derived.Deep.DeepLaidRun
import Derived.Handed
import Derived.ProofKit
import Derived.Test.YtgbaaobgnpjhcaaGreatDoorCards
import Derived.Test.YtgbaaobgnpjhcaaGreatDoorTie
import Derived.SevenTiedAt
set_option linter.all false
set_option linter.unusedSimpArgs false
set_option linter.unusedVariables false
section
namespace Go.Pv.Ct
open Go.Pv Go.Proofs
set_option maxRecDepth 20000

theorem s20_plain (l : List Span) (t : Tok) : Plain EE 69 [.sl 3 (spR l) t] (.bool (decide (l.length ≤ 16))) := by
  refine plain_of_W ok ok69 (by simp) ?_
  unfold BodyW
  have e0 : code Go.Proofs.Tryz.f69 = code Go.Proofs.Tryz.f69 := rfl
  conv at e0 => rhs; simp only [code, Go.Proofs.Tryz.f69, Option.getD_some]
  rw [e0]
  clear e0
  have h : decide ((l.length : Int) ≤ 16) = decide (l.length ≤ 16) := by congr 1; exact propext ⟨fun h => by omega, fun h => by omega⟩
  simp only [W_region, W_seq, W_ret, OpsW_nil, OpsW_op, upd_some, opF, evalT, evalO, ofConst, argFr, binF, intF, reduceCtorEq, Nat.reduceEqDiff, Nat.reduceAdd, Option.getD_some, Option.map_some, Option.some.injEq, List.getElem?_cons_zero, true_and, or_true, exists_eq_left', if_true, if_false, List.length_cons, List.length_nil, callB, List.zip_cons_cons, List.zip_nil_right, List.map_cons, List.map_nil, List.size_toArray, T30, spR_length, h, resF, resAll, resOne]
  exact ⟨1, pub_bool _ _ _⟩
theorem s02_plain (l : List Rg) (b : Bool) : Plain EE 71 [.agg [.sl 2 (rgR l) (tk b)]] (.bool (decide (l.length ≤ 12))) := by
  refine plain_of_W ok ok71 (by simp) ?_
  unfold BodyW
  have e0 : code Go.Proofs.Tryz.f71 = code Go.Proofs.Tryz.f71 := rfl
  conv at e0 => rhs; simp only [code, Go.Proofs.Tryz.f71, Option.getD_some]
  rw [e0]
  clear e0
  have h : decide ((l.length : Int) ≤ 12) = decide (l.length ≤ 12) := by congr 1; exact propext ⟨fun h => by omega, fun h => by omega⟩
  simp only [W_region, W_seq, W_ret, OpsW_nil, OpsW_op, upd_some, opF, evalT, evalO, ofConst, argFr, binF, intF, reduceCtorEq, Nat.reduceEqDiff, Nat.reduceAdd, Option.getD_some, Option.getD_none, Option.map_some, Option.some.injEq, List.getElem?_cons_zero, List.getElem?_cons_succ, List.getElem?_nil, Nat.succ_ne_zero, and_self, true_and, or_true, exists_eq_left', if_true, if_false, Bool.false_eq_true, List.length_cons, List.length_nil, callB, List.zip_cons_cons, List.zip_nil_right, List.map_cons, List.map_nil, List.size_toArray, partF, TI.agg, scal, isAgg, cellsOf, Bool.or_true, Nat.reduceLeDiff, List.take_zero, List.drop_zero, List.take_succ_cons, List.nil_append, T32, T34, rgR_length, h, resF, resAll, resOne]
  exact ⟨1, pub_bool _ _ _⟩
def okM (m : Mp) : Bool := decide (m.to.length ≤ 65) && decide (m.tag.length ≤ 40)
def small11 (l : List Mp) : Bool := (l.take 30).all okM && decide (l.length ≤ 20)
set_option maxHeartbeats 4000000 in
theorem s11_plain (l : List Mp) (t : Tok) (hl : l.length < 9223372036854775808) : Plain EE 70 [.sl 3 (mpR l) t] (.bool (small11 l)) := by
  refine plain_of_W ok ok70 (by simp) ?_
  unfold BodyW
  have e0 : code Go.Proofs.Tryz.f70 = code Go.Proofs.Tryz.f70 := rfl
  conv at e0 => rhs; simp only [code, Go.Proofs.Tryz.f70, Option.getD_some]
  rw [e0]
  clear e0
  have h20 : decide ((l.length : Int) ≤ 20) = decide (l.length ≤ 20) := by congr 1; exact propext ⟨fun h => by omega, fun h => by omega⟩
  simp only [W_region, W_seq, W_block, W_ret, OpsW_nil, OpsW_op, upd_some, opF, evalT, evalO, ofConst, binF, intF, reduceCtorEq, Nat.reduceEqDiff, Nat.reduceAdd, true_and, or_true, or_false, if_true, if_false, List.length_cons, List.length_nil, callB, List.zip_cons_cons, List.zip_nil_right, List.map_cons, List.map_nil, List.size_toArray, T31]
  refine W_loop (fun n fr st => ∃ i : Nat, fr 0 = .sl 3 (mpR l) t ∧ fr 3 = .int .i64 i ∧ i ≤ l.length ∧ i ≤ 30 ∧ (l.take i).all okM = true ∧ n = l.length - i) ?_ l.length _ _
    ⟨0, by simp [upd, argFr], by simp [upd], by omega, by omega, by simp, by omega⟩
  rintro n fr st ⟨i, f0, f3, hi, hi30, hall, rfl⟩
  have fin : (¬ i < l.length ∨ ¬ i < 30) → small11 l = decide (l.length ≤ 20) := by
    intro h
    unfold small11
    rcases h with q | q
    · rw [List.take_of_length_le (by omega)] at hall
      rw [List.take_of_length_le (by omega), hall]; rfl
    · have : i = 30 := by omega
      subst this
      rw [hall]; rfl
  by_cases ci : (i : Int) < (l.length : Int)
  · have ia : i < l.length := by omega
    have ga := mpR_get l i ia
    have hw : IntKind.i64.wrap ((i : Int) + 1) = ((i + 1 : Nat) : Int) := by rw [wrap_small (by omega) (by omega)]; rfl
    by_cases c30 : (i : Int) < 30
    · have bad : okM l[i] = false → small11 l = false := by
        intro h
        unfold small11
        have : (l.take 30).all okM = false := by
          rw [← Bool.not_eq_true, List.all_eq_true]
          intro q
          have := q l[i] (List.mem_take_iff_getElem.2 ⟨i, by omega, by simp⟩)
          rw [h] at this; cases this
        rw [this]; rfl
      by_cases c1 : (l[i].to.length : Int) > 65
      · simp only [W_skip, W_region, W_seq, W_cond, W_block, W_ret, OpsW_nil, OpsW_op, OpsW_guard, upd_some, Br_W1, Br_O1, Br_O2, opF, evalT, evalO, ofConst, binF, intF, idxN_nat, reduceCtorEq, Nat.reduceEqDiff, Nat.reduceAdd, Option.map_some, Option.bind_some, Option.some.injEq, List.getElem?_toArray, List.getElem?_cons_zero, List.getElem?_cons_succ, Nat.succ_ne_zero, true_and, or_true, exists_eq_left', exists_and_left, if_true, if_false, decide_true, Bool.false_eq_true, beq_self_eq_true, Bool.true_beq, List.length_cons, List.length_nil, callB, List.zip_cons_cons, List.zip_nil_right, List.map_cons, List.map_nil, List.size_toArray, partF, TI.agg, Nat.reduceLeDiff, List.take_zero, List.drop_zero, List.drop_succ_cons, List.take_succ_cons, T31, T37, T110, f0, f3, mpR_length, ci, c30, ga, ints_length, c1, resF, resAll, resOne]
        exact ⟨1, by rw [pub_bool, bad (by simp [okM]; omega)]⟩
      · by_cases c2 : (l[i].tag.length : Int) > 40
        · simp only [W_skip, W_region, W_seq, W_cond, W_block, W_ret, OpsW_nil, OpsW_op, OpsW_guard, upd_some, Br_W1, Br_O1, opF, evalT, evalO, ofConst, binF, intF, idxN_nat, reduceCtorEq, Nat.reduceEqDiff, Nat.reduceAdd, Option.map_some, Option.bind_some, Option.some.injEq, List.getElem?_toArray, List.getElem?_cons_zero, List.getElem?_cons_succ, Nat.succ_ne_zero, true_and, or_true, exists_eq_left', exists_and_left, if_true, if_false, decide_true, decide_false, Bool.false_eq_true, beq_self_eq_true, List.length_cons, List.length_nil, callB, List.zip_cons_cons, List.zip_nil_right, List.map_cons, List.map_nil, List.size_toArray, partF, TI.agg, Nat.reduceLeDiff, List.take_zero, List.drop_zero, List.drop_succ_cons, List.take_succ_cons, T9, T31, T37, T110, f0, f3, mpR_length, ci, c30, ga, ints_length, c1, c2, resF, resAll, resOne]
          exact ⟨1, by rw [pub_bool, bad (by simp [okM]; omega)]⟩
        · simp only [W_skip, W_region, W_seq, W_cond, W_block, OpsW_nil, OpsW_op, OpsW_guard, upd_some, Br_W1, Br_W2, Br_O1, opF, evalT, evalO, ofConst, binF, intF, idxN_nat, reduceCtorEq, Nat.reduceEqDiff, Nat.reduceAdd, Option.map_some, Option.bind_some, List.getElem?_toArray, List.getElem?_cons_zero, List.getElem?_cons_succ, Nat.succ_ne_zero, true_and, exists_and_left, if_true, if_false, decide_true, decide_false, Bool.false_eq_true, beq_self_eq_true, List.length_cons, List.length_nil, callB, List.zip_cons_cons, List.zip_nil_right, List.map_cons, List.map_nil, List.size_toArray, partF, TI.agg, Nat.reduceLeDiff, List.take_zero, List.drop_zero, List.drop_succ_cons, List.take_succ_cons, T9, T31, T37, T110, f0, f3, mpR_length, ci, c30, ga, ints_length, c1, c2, hw]
          refine ⟨l.length - (i + 1), by omega, i + 1, rfl, by omega, by omega, ?_, rfl⟩
          rw [List.take_succ_eq_append_getElem ia, List.all_append, hall]
          simp [okM]; omega
    · simp only [W_region, W_seq, W_cond, W_block, W_exit, OpsW_nil, OpsW_op, OpsW_guard, upd_some, Br_W2, Br_O1, opF, evalT, evalO, ofConst, binF, intF, reduceCtorEq, Nat.reduceEqDiff, Nat.reduceAdd, Option.map_some, Option.bind_some, Option.some.injEq, List.getElem?_toArray, List.getElem?_cons_zero, List.getElem?_cons_succ, Nat.succ_ne_zero, exists_eq_left', exists_and_left, if_true, if_false, decide_true, decide_false, beq_self_eq_true, List.length_cons, List.length_nil, callB, List.zip_cons_cons, List.zip_nil_right, List.map_cons, List.map_nil, List.size_toArray, partF, TI.agg, List.drop_zero, T31, T37, T110, f0, f3, mpR_length, ci, c30, h20, resF, resAll, resOne]
      exact ⟨1, by rw [pub_bool, fin (.inr (by omega))]⟩
  · simp only [W_region, W_seq, W_cond, W_block, W_exit, OpsW_nil, OpsW_op, OpsW_guard, upd_some, Br_W2, Br_O2, opF, evalT, evalO, ofConst, binF, intF, reduceCtorEq, Nat.reduceEqDiff, Nat.reduceAdd, Option.map_some, Option.bind_some, Option.some.injEq, List.getElem?_toArray, List.getElem?_cons_zero, List.getElem?_cons_succ, Nat.succ_ne_zero, exists_eq_left', exists_and_left, if_true, if_false, decide_false, Bool.false_eq_true, Bool.false_beq, Bool.not_true, List.length_cons, List.length_nil, callB, List.zip_cons_cons, List.zip_nil_right, List.map_cons, List.map_nil, List.size_toArray, partF, TI.agg, List.drop_zero, T31, T37, T110, f0, f3, mpR_length, ci, h20, resF, resAll, resOne]
    exact ⟨1, by rw [pub_bool, fin (.inl (by omega))]⟩
def small21 (n : Nrm) : Bool := decide (n.cls.length ≤ 16) && (small11 n.dec && decide (n.exc.length ≤ 12))
theorem s21_plain (n : Nrm) (hl : n.dec.length < 9223372036854775808) : Plain EE 40 [.agg n.cells] (.bool (small21 n)) := by
  refine plain_of_W ok ok40 (by simp) ?_
  unfold BodyW
  have e0 : code Go.Proofs.Tryz.f40 = code Go.Proofs.Tryz.f40 := rfl
  conv at e0 => rhs; simp only [code, Go.Proofs.Tryz.f40, Option.getD_some]
  rw [e0]
  clear e0
  unfold small21
  simp only [W_region, W_seq, W_ret, OpsW_nil, OpsW_op, upd_some, opF, evalT, evalO, ofConst, argFr, reduceCtorEq, Nat.reduceEqDiff, Nat.reduceAdd, Option.getD_some, Option.getD_none, Option.map_some, List.getElem?_cons_zero, List.getElem?_cons_succ, List.getElem?_nil, Nat.succ_ne_zero, and_self, true_and, or_true, if_true, if_false, Bool.false_eq_true, List.length_cons, List.length_nil, partF, TI.agg, scal, isAgg, cellsOf, Bool.or_true, Nat.reduceLeDiff, List.take_zero, List.drop_zero, List.take_succ_cons, List.nil_append, T30, T36, Nrm.cells]
  refine OpsW_pl (s20_plain n.cls _) rfl rfl (by simp only [upd_some, evalT, evalO, ofConst, argFr, Nat.reduceEqDiff, Option.getD_none, Option.some.injEq, List.getElem?_cons_succ, List.getElem?_nil, if_true, if_false, List.zip_cons_cons, List.zip_nil_right, List.map_cons, List.map_nil, callArgs, strips, strip_sl, stripT_tk] <;> rfl) ?_
  cases h1 : decide (n.cls.length ≤ 16) with
  | false =>
    simp only [OpsW_nil, OpsW_op, OpsW_guard, upd_some, Br_O2, opF, evalT, evalO, ofConst, argFr, Nat.reduceEqDiff, Option.getD_none, Option.map_some, Option.bind_some, Option.some.injEq, List.getElem?_toArray, List.getElem?_cons_zero, List.getElem?_cons_succ, List.getElem?_nil, exists_eq_left', if_true, if_false, Bool.false_eq_true, Bool.false_beq, Bool.not_true, Bool.false_and, resF, resAll, resOne]
    exact ⟨1, pub_bool _ _ _⟩
  | true =>
    simp only [OpsW_op, OpsW_guard, upd_some, Br_O1, opF, evalT, evalO, argFr, Nat.reduceEqDiff, Nat.reduceAdd, Option.getD_none, Option.map_some, Option.bind_some, List.getElem?_toArray, List.getElem?_cons_zero, List.getElem?_cons_succ, List.getElem?_nil, Nat.succ_ne_zero, if_true, if_false, Bool.false_eq_true, beq_self_eq_true, List.length_cons, List.length_nil, partF, TI.agg, Bool.true_and, Nat.reduceLeDiff, List.take_zero, List.drop_zero, List.drop_succ_cons, List.take_succ_cons, T31, T36]
    refine OpsW_pl (s11_plain n.dec _ hl) rfl rfl (by simp only [upd_some, evalT, evalO, ofConst, argFr, Nat.reduceEqDiff, Option.getD_none, Option.some.injEq, List.getElem?_cons_succ, List.getElem?_nil, if_true, if_false, List.zip_cons_cons, List.zip_nil_right, List.map_cons, List.map_nil, callArgs, strips, strip_sl, stripT_tk] <;> rfl) ?_
    cases h2 : small11 n.dec with
    | false =>
      simp only [OpsW_nil, OpsW_op, OpsW_guard, upd_some, Br_O2, opF, evalT, evalO, ofConst, argFr, Nat.reduceEqDiff, Option.getD_none, Option.map_some, Option.bind_some, Option.some.injEq, List.getElem?_toArray, List.getElem?_cons_zero, List.getElem?_cons_succ, List.getElem?_nil, exists_eq_left', if_true, if_false, Bool.false_eq_true, Bool.false_beq, Bool.not_true, Bool.false_and, resF, resAll, resOne]
      exact ⟨1, pub_bool _ _ _⟩
    | true =>
      simp only [OpsW_op, OpsW_guard, upd_some, Br_O1, opF, evalT, evalO, ofConst, argFr, Nat.reduceEqDiff, Nat.reduceAdd, Option.getD_none, Option.map_some, Option.bind_some, List.getElem?_toArray, List.getElem?_cons_zero, List.getElem?_cons_succ, List.getElem?_nil, Nat.succ_ne_zero, if_true, if_false, beq_self_eq_true, List.length_cons, List.length_nil, partF, TI.agg, Bool.true_and, Nat.reduceLeDiff, List.take_zero, List.drop_zero, List.drop_succ_cons, List.take_succ_cons, T34, T36]
      refine OpsW_pl (s02_plain n.exc n.c) rfl rfl (by simp only [upd_some, evalT, evalO, ofConst, argFr, Nat.reduceEqDiff, Option.getD_none, List.getElem?_cons_succ, List.getElem?_nil, if_true, if_false, List.zip_cons_cons, List.zip_nil_right, List.map_cons, List.map_nil, callArgs, strips, strip_set'] <;> rfl) ?_
      simp only [OpsW_nil, OpsW_op, upd_some, opF, evalT, evalO, ofConst, argFr, Nat.reduceEqDiff, Option.getD_none, Option.map_some, Option.some.injEq, List.getElem?_cons_succ, List.getElem?_nil, exists_eq_left', if_true, if_false, resF, resAll, resOne]
      exact ⟨1, pub_bool _ _ _⟩
/-- Data, a collation and a text. -/
structure Cs where
  n : Nrm
  c : Coll
  text : List Int
def Cs.cells (x : Cs) : List PV := [.sl 3 (spR x.n.cls) (tk x.n.a), .sl 3 (mpR x.n.dec) (tk x.n.b), .sl 2 (rgR x.n.exc) (tk x.n.c), .sl 2 (entR x.c.ents) (tk x.c.a), .sl 3 (grpR x.c.grps) (tk x.c.b), .int .i64 x.c.base, .int .i64 x.c.second, .int .i64 x.c.third, .sl 1 (ints x.text) .ro]
theorem strip_cs (x : Cs) : strip1 (.agg x.cells) = some (.agg x.cells) := by
  cases ha : x.n.a <;> cases hb : x.n.b <;> cases hc : x.n.c <;> cases hd : x.c.a <;> cases he : x.c.b <;> simp [strip1, share, Cs.cells, ha, hb, hc, hd, he, tk, tokRo, cellOk]
def fewB (x : Cs) : Bool := small21 x.n && (smallC x.c && decide (x.text.length ≤ 12))
/-- What is known of each argument. -/
structure CsFits (x : Cs) : Prop where
  dec : x.n.dec.length < 9223372036854775808
  coll : Fits x.c
  codes : In64L x.text
theorem few_plain (x : Cs) (hx : CsFits x) : Plain EE 16 [.agg x.cells] (.bool (fewB x)) := by
  refine plain_of_W ok ok16 (by simp) ?_
  unfold BodyW
  have e0 : code Go.Proofs.Tryz.f16 = code Go.Proofs.Tryz.f16 := rfl
  conv at e0 => rhs; simp only [code, Go.Proofs.Tryz.f16, Option.getD_some]
  rw [e0]
  clear e0
  have h12 : decide ((x.text.length : Int) ≤ 12) = decide (x.text.length ≤ 12) := by congr 1; exact propext ⟨fun h => by omega, fun h => by omega⟩
  unfold fewB
  simp only [W_region, W_seq, W_ret, OpsW_nil, OpsW_op, upd_some, opF, evalT, evalO, ofConst, argFr, reduceCtorEq, Nat.reduceEqDiff, Nat.reduceAdd, Option.getD_some, Option.getD_none, Option.map_some, List.getElem?_cons_zero, List.getElem?_cons_succ, List.getElem?_nil, Nat.succ_ne_zero, and_self, true_and, or_true, if_true, if_false, List.length_cons, List.length_nil, partF, TI.agg, scal, isAgg, cellsOf, Bool.or_true, Nat.reduceLeDiff, List.take_zero, List.drop_zero, List.take_succ_cons, List.nil_append, T36, T39, Cs.cells]
  refine OpsW_pl (s21_plain x.n hx.dec) rfl rfl (by simp only [upd_some, evalT, evalO, ofConst, argFr, Nat.reduceEqDiff, Option.getD_none, Option.some.injEq, List.getElem?_cons_succ, List.getElem?_nil, if_true, if_false, List.zip_cons_cons, List.zip_nil_right, List.map_cons, List.map_nil, callArgs, strips, strip_nrm'] <;> rfl) ?_
  cases h1 : small21 x.n with
  | false =>
    simp only [OpsW_nil, OpsW_op, OpsW_guard, upd_some, Br_O2, opF, evalT, evalO, ofConst, argFr, Nat.reduceEqDiff, Option.getD_none, Option.map_some, Option.bind_some, Option.some.injEq, List.getElem?_toArray, List.getElem?_cons_zero, List.getElem?_cons_succ, List.getElem?_nil, exists_eq_left', if_true, if_false, Bool.false_eq_true, Bool.false_beq, Bool.not_true, Bool.false_and, resF, resAll, resOne]
    exact ⟨1, pub_bool _ _ _⟩
  | true =>
    simp only [OpsW_op, OpsW_guard, upd_some, Br_O1, opF, evalT, evalO, argFr, Nat.reduceEqDiff, Nat.reduceAdd, Option.getD_none, Option.map_some, Option.bind_some, List.getElem?_toArray, List.getElem?_cons_zero, List.getElem?_cons_succ, List.getElem?_nil, Nat.succ_ne_zero, if_true, if_false, beq_self_eq_true, List.length_cons, List.length_nil, partF, TI.agg, Bool.true_and, Nat.reduceLeDiff, List.take_zero, List.drop_zero, List.drop_succ_cons, List.take_succ_cons, T25, T39]
    refine OpsW_pl (small_plain x.c hx.coll.ents) rfl rfl (by simp only [upd_some, evalT, evalO, ofConst, argFr, Nat.reduceEqDiff, Option.getD_none, Option.some.injEq, List.getElem?_cons_succ, List.getElem?_nil, if_true, if_false, List.zip_cons_cons, List.zip_nil_right, List.map_cons, List.map_nil, callArgs, strips, strip_coll'] <;> rfl) ?_
    cases h2 : smallC x.c with
    | false =>
      simp only [OpsW_nil, OpsW_op, OpsW_guard, upd_some, Br_O2, opF, evalT, evalO, ofConst, argFr, Nat.reduceEqDiff, Option.getD_none, Option.map_some, Option.bind_some, Option.some.injEq, List.getElem?_toArray, List.getElem?_cons_zero, List.getElem?_cons_succ, List.getElem?_nil, exists_eq_left', if_true, if_false, Bool.false_eq_true, Bool.false_beq, Bool.not_true, Bool.false_and, resF, resAll, resOne]
      exact ⟨1, pub_bool _ _ _⟩
    | true =>
      simp only [OpsW_nil, OpsW_op, OpsW_guard, upd_some, Br_O1, opF, evalT, evalO, ofConst, argFr, binF, intF, Nat.reduceEqDiff, Nat.reduceAdd, Option.getD_none, Option.map_some, Option.bind_some, Option.some.injEq, List.getElem?_toArray, List.getElem?_cons_zero, List.getElem?_cons_succ, List.getElem?_nil, Nat.succ_ne_zero, exists_eq_left', if_true, if_false, Bool.false_eq_true, beq_self_eq_true, List.length_cons, List.length_nil, callB, List.zip_cons_cons, List.zip_nil_right, List.map_cons, List.map_nil, List.size_toArray, partF, TI.agg, Bool.true_and, Nat.reduceLeDiff, List.take_zero, List.drop_zero, List.drop_succ_cons, List.take_succ_cons, T37, T39, ints_length, h12, resF, resAll, resOne]
      exact ⟨1, pub_bool _ _ _⟩
/-- What few lets in. -/
structure Few (x : Cs) : Prop where
  n : NFits x.n
  els : ElsOk x.c
  len : x.text.length ≤ 12
theorem few_of {x : Cs} (h : fewB x = true) : Few x := by
  simp only [fewB, small21, small11, Bool.and_eq_true, decide_eq_true_eq] at h
  obtain ⟨⟨h1, ⟨h2, h3⟩, h4⟩, h5, h6⟩ := h
  refine ⟨⟨by omega, by omega, fun m hm => ?_, h4⟩, small_els h5, h6⟩
  rw [List.take_of_length_le (by omega)] at h2
  have := List.all_eq_true.1 h2 m hm
  simp only [okM, Bool.and_eq_true, decide_eq_true_eq] at this
  omega
end Go.Pv.Ct
end
section
namespace Go.Pv.Ct
open Go.Pv Go.ChangeShapes Go.WideShapes Go.ChangeAt Go.RowKit Go.Proofs Go.Proofs.YtgbaaobgnpjhcaaGreatDoor
set_option maxRecDepth 100000

def laidL : List (String × DataW Unit) := [("math/bits.deBruijn32tab", Rows.laid_math_bits_deBruijn32tab), ("math/bits.deBruijn64tab", Rows.laid_math_bits_deBruijn64tab), ("internal/strconv.uint64pow10", Rows.laid_internal_strconv_uint64pow10), ("unicodetext/ordering.ranges", Rows.laid_unicodetext_ordering_ranges)]
theorem laidOut : laidOutB Tryz.prog = true := by kernel_rfl
theorem own : ownKnob Tryz.prog.godebug = none := by kernel_rfl

/-- An array of numbers is what it reads as. -/
theorem arr_ints {H : Type} {enc : TypeId × Value → H} {P : Program} {w : World} {base : Nat} {sp : Nat → Bool} {held : Bool} {fuel n : Nat} {t et : TypeId} {k : IntKind} {cs : List Value} {zs : List Int} {p : List MemPlace}
    (ht : P.underlying t = some (.array n et)) (he : P.underlying et = some (.int k)) (hc : P.cellsOf et = 1) (hn : zs.length = n) (hct : P.cellsOf t = n)
    (h : DataW.trod enc P w base sp held fuel t cs = some (.agg (zs.map fun z => .lit (.int k z)), p)) : cs = zs.map fun z => .int k z := by
  obtain ⟨xs, m, _, hx, hl, hxl, hi⟩ := DataW.trod_array ht h
  injection hx with hx _
  injection hx with hx
  apply List.ext_getElem
  · rw [hl, hct, List.length_map, hn]
  · intro i h1 h2
    have hin : i < n := by rw [hl, hct] at h1; exact h1
    have h3 := hi i hin
    rw [hc, Nat.mul_one] at h3
    have h4 : (cs.drop i).take 1 = [cs[i]] := by rw [List.drop_eq_getElem_cons h1]; rfl
    rw [h4, show xs[i]? = some (xs[i]'(by omega)) from List.getElem?_eq_getElem _] at h3
    obtain ⟨s, e1, e2, _⟩ := DataW.trod_int he h3
    have h5 := congrArg (fun l => l[i]?) hx
    simp only [List.getElem?_map] at h5
    rw [show xs[i]? = some (xs[i]'(by omega)) from List.getElem?_eq_getElem _, show zs[i]? = some (zs[i]'(by omega)) from List.getElem?_eq_getElem _] at h5
    simp only [Option.map_some, Option.some.injEq] at h5
    rw [e2] at h5
    injection e1 with e1
    rw [e1, List.getElem_map]
    simpa using h5.symm
/-- An array of pairs of numbers. -/
theorem arr_pairs {H : Type} {enc : TypeId × Value → H} {P : Program} {w : World} {base : Nat} {sp : Nat → Bool} {held : Bool} {fuel : Nat} {t et it : TypeId} {k : IntKind} {cs : List Value} {a0 a1 b0 b1 c0 c1 d0 d1 : Int} {p : List MemPlace} {fs : Array Field} {x y : Field}
    (ht : P.underlying t = some (.array 4 et)) (he : P.underlying et = some (.struct fs)) (hfs : fs = #[x, y]) (hx0 : x.offset = 0) (hy1 : y.offset = 1) (hxt : x.type = it) (hyt : y.type = it) (hi : P.underlying it = some (.int k)) (hci : P.cellsOf it = 1) (hc : P.cellsOf et = 2) (hct : P.cellsOf t = 8)
    (h : DataW.trod enc P w base sp held fuel t cs = some (.agg [.agg [.lit (.int k a0), .lit (.int k a1)], .agg [.lit (.int k b0), .lit (.int k b1)], .agg [.lit (.int k c0), .lit (.int k c1)], .agg [.lit (.int k d0), .lit (.int k d1)]], p)) :
    cs = [.int k a0, .int k a1, .int k b0, .int k b1, .int k c0, .int k c1, .int k d0, .int k d1] := by
  subst hfs
  obtain ⟨xs, m, _, hx, hl, hxl, hxs⟩ := DataW.trod_array ht h
  injection hx with hx _
  injection hx with hx
  have pair : ∀ (u v : Value) (q : DataW H × List MemPlace) (n0 n1 : Int), q.1 = .agg [.lit (.int k n0), .lit (.int k n1)] → DataW.trod enc P w base sp held m et [u, v] = some q → u = .int k n0 ∧ v = .int k n1 := by
    intro u v q n0 n1 hq hd
    obtain ⟨ys, m', _, hy, _, hyl, hys⟩ := DataW.trod_struct he hd
    have e0 := hys 0 x rfl
    have e1 := hys 1 y rfl
    rw [hx0, hxt, hci] at e0
    rw [hy1, hyt, hci] at e1
    simp only [List.drop_zero, List.take_succ_cons, List.take_zero, List.drop_succ_cons] at e0 e1
    have l2 : ys.length = 2 := hyl
    obtain ⟨y0, y1, rfl⟩ : ∃ y0 y1, ys = [y0, y1] := by
      match ys, l2 with
      | [y0, y1], _ => exact ⟨y0, y1, rfl⟩
    obtain ⟨s0, f0, g0, _⟩ := DataW.trod_int hi e0
    obtain ⟨s1, f1, g1, _⟩ := DataW.trod_int hi e1
    rw [hy] at hq
    injection f0 with f0
    injection f1 with f1
    simp only [List.map_cons, List.map_nil, g0, g1] at hq
    simp at hq
    rw [f0, f1, hq.1, hq.2]
    exact ⟨rfl, rfl⟩
  rw [hct] at hl
  obtain ⟨u0, u1, u2, u3, u4, u5, u6, u7, rfl⟩ : ∃ u0 u1 u2 u3 u4 u5 u6 u7, cs = [u0, u1, u2, u3, u4, u5, u6, u7] := by
    match cs, hl with
    | [u0, u1, u2, u3, u4, u5, u6, u7], _ => exact ⟨u0, u1, u2, u3, u4, u5, u6, u7, rfl⟩
  obtain ⟨x0, x1, x2, x3, rfl⟩ : ∃ x0 x1 x2 x3, xs = [x0, x1, x2, x3] := by
    match xs, hxl with
    | [x0, x1, x2, x3], _ => exact ⟨x0, x1, x2, x3, rfl⟩
  simp only [List.map_cons, List.map_nil, List.cons.injEq, and_true] at hx
  have h0 := hxs 0 (by omega)
  have h1 := hxs 1 (by omega)
  have h2 := hxs 2 (by omega)
  have h3 := hxs 3 (by omega)
  rw [hc] at h0 h1 h2 h3
  obtain ⟨rfl, rfl⟩ := pair u0 u1 x0 a0 a1 hx.1.symm h0
  obtain ⟨rfl, rfl⟩ := pair u2 u3 x1 b0 b1 hx.2.1.symm h1
  obtain ⟨rfl, rfl⟩ := pair u4 u5 x2 c0 c1 hx.2.2.1.symm h2
  obtain ⟨rfl, rfl⟩ := pair u6 u7 x3 d0 d1 hx.2.2.2.symm h3
  rfl
theorem heap_of_var {P : Program} {W : World} {name : String} {g : Nat} {cs : Array Value} (hn : P.globalNamed name = some g) (h : W.var? P name = some cs) : ∃ e fz, W.heap[g]? = some (.cells cs e fz) := by
  unfold World.var? at h
  rw [hn] at h
  simp only [Option.bind_some] at h
  split at h
  · rename_i c e fz hh
    cases h
    exact ⟨e, fz, hh⟩
  · cases h

theorem rel_of_laid {W : World} (h : laidMet Tryz.prog laidL W) (ι : Nat → Value) : Rel GG (K0 W) ι [] W := by
  obtain ⟨ps, h1, _⟩ := h
  obtain ⟨_, _, _, _, _, _, _, _, _, _, ⟨_, _, _, _, _, _, _, _, _, _, ⟨g, t, cs, fuel, p, q, hg, ht, hv, hd, ⟨g', t', cs', fuel', p', q', hg', ht', hv', hd', _, _⟩, _⟩, _⟩, _⟩ := h1
  obtain rfl := Option.some.inj ((show Tryz.prog.globalNamed "internal/strconv.uint64pow10" = some 2 by kernel_rfl).symm.trans hg)
  obtain rfl := Option.some.inj ((show (Tryz.prog.globals[2]?).map (·.type) = some 208 by kernel_rfl).symm.trans ht)
  obtain rfl := Option.some.inj ((show Tryz.prog.globalNamed "unicodetext/ordering.ranges" = some 0 by kernel_rfl).symm.trans hg')
  obtain rfl := Option.some.inj ((show (Tryz.prog.globals[0]?).map (·.type) = some 168 by kernel_rfl).symm.trans ht')
  have hd1 : DataW.trod (fun _ => ()) Tryz.prog W 0 (fun _ => true) false fuel 208 cs.toList = some (.agg (Lib.pow10Tab.map fun z => .lit (.int .u64 z)), p) := hd
  have c1 := arr_ints (k := .u64) Tryz.underlying208 Tryz.underlying192 (by kernel_rfl) Lib.pow10Tab_length (by kernel_rfl) hd1
  have c2 := arr_pairs Tryz.underlying168 Tryz.underlying119 rfl rfl rfl rfl rfl Tryz.underlying3 (by kernel_rfl) (by kernel_rfl) (by kernel_rfl) hd'
  obtain ⟨e1, fz1, w1⟩ := heap_of_var hg hv
  obtain ⟨e2, fz2, w2⟩ := heap_of_var hg' hv'
  refine rel1 ι W (fun g => ?_)
  by_cases g0 : g = 0
  · subst g0
    refine .inr ⟨rangesV, cs', e2, fz2, rfl, w2, ?_, fun i p hp => ?_⟩
    · rw [← Array.length_toList, c2]; rfl
    · have hi : i < 8 := (List.getElem?_eq_some_iff.1 hp).1
      rw [← Array.getElem?_toList, c2]
      match i, hi, hp with
      | 0, _, hp => cases hp; exact ⟨_, rfl, rfl, .int _ _⟩
      | 1, _, hp => cases hp; exact ⟨_, rfl, rfl, .int _ _⟩
      | 2, _, hp => cases hp; exact ⟨_, rfl, rfl, .int _ _⟩
      | 3, _, hp => cases hp; exact ⟨_, rfl, rfl, .int _ _⟩
      | 4, _, hp => cases hp; exact ⟨_, rfl, rfl, .int _ _⟩
      | 5, _, hp => cases hp; exact ⟨_, rfl, rfl, .int _ _⟩
      | 6, _, hp => cases hp; exact ⟨_, rfl, rfl, .int _ _⟩
      | 7, _, hp => cases hp; exact ⟨_, rfl, rfl, .int _ _⟩
      | i + 8, hi, _ => omega
  by_cases g2 : g = 2
  · subst g2
    refine .inr ⟨pow10V, cs, e1, fz1, rfl, w1, ?_, fun i p hp => ?_⟩
    · rw [← Array.length_toList, c1]; simp [pow10V]
    · rw [← Array.getElem?_toList, c1, List.getElem?_map]
      unfold pow10V at hp
      rw [List.getElem?_map] at hp
      obtain ⟨z, hz, rfl⟩ := Option.map_eq_some_iff.1 hp
      rw [hz]
      exact ⟨_, rfl, rfl, .int _ _⟩
  · left
    show (if g = 0 then PV.rptr rangesV else if g = 2 then PV.rptr pow10V else .bad) = .bad
    rw [if_neg g0, if_neg g2]

def withCells (h : Array Go.Obj) (b : Nat) (cs : Array Value) : Array Go.Obj := h.modify b fun
  | .cells _ t frozen => .cells cs t frozen
  | o => o
/-- The world at the start, the four variables laid. -/
noncomputable def laidWorld (os : Os) : World :=
  let w0 := World.holding Tryz.prog os ⟨#[], #[], []⟩
  { w0 with heap := withCells (withCells (withCells (withCells w0.heap 0 #[.int .i64 4352, .int .i64 4370, .int .i64 4449, .int .i64 4469, .int .i64 4520, .int .i64 4546, .int .i64 44032, .int .i64 55203]) 2 #[.int .u64 1, .int .u64 10, .int .u64 100, .int .u64 1000, .int .u64 10000, .int .u64 100000, .int .u64 1000000, .int .u64 10000000, .int .u64 100000000, .int .u64 1000000000, .int .u64 10000000000, .int .u64 100000000000, .int .u64 1000000000000, .int .u64 10000000000000, .int .u64 100000000000000, .int .u64 1000000000000000, .int .u64 10000000000000000, .int .u64 100000000000000000, .int .u64 1000000000000000000, .int .u64 10000000000000000000]) 3 #[.int .u8 0, .int .u8 1, .int .u8 28, .int .u8 2, .int .u8 29, .int .u8 14, .int .u8 24, .int .u8 3, .int .u8 30, .int .u8 22, .int .u8 20, .int .u8 15, .int .u8 25, .int .u8 17, .int .u8 4, .int .u8 8, .int .u8 31, .int .u8 27, .int .u8 13, .int .u8 23, .int .u8 21, .int .u8 19, .int .u8 16, .int .u8 7, .int .u8 26, .int .u8 12, .int .u8 18, .int .u8 6, .int .u8 11, .int .u8 5, .int .u8 10, .int .u8 9]) 4 #[.int .u8 0, .int .u8 1, .int .u8 56, .int .u8 2, .int .u8 57, .int .u8 49, .int .u8 28, .int .u8 3, .int .u8 61, .int .u8 58, .int .u8 42, .int .u8 50, .int .u8 38, .int .u8 29, .int .u8 17, .int .u8 4, .int .u8 62, .int .u8 47, .int .u8 59, .int .u8 36, .int .u8 45, .int .u8 43, .int .u8 51, .int .u8 22, .int .u8 53, .int .u8 39, .int .u8 33, .int .u8 30, .int .u8 24, .int .u8 18, .int .u8 12, .int .u8 5, .int .u8 63, .int .u8 55, .int .u8 48, .int .u8 27, .int .u8 60, .int .u8 41, .int .u8 37, .int .u8 16, .int .u8 46, .int .u8 35, .int .u8 44, .int .u8 21, .int .u8 52, .int .u8 32, .int .u8 23, .int .u8 11, .int .u8 54, .int .u8 26, .int .u8 40, .int .u8 15, .int .u8 34, .int .u8 20, .int .u8 31, .int .u8 10, .int .u8 25, .int .u8 14, .int .u8 19, .int .u8 9, .int .u8 13, .int .u8 8, .int .u8 7, .int .u8 6] }
theorem laid_met (os : Os) (args : Array Value) : laidMet Tryz.prog laidL ((laidWorld os).forCall (fun _ _ => 0) ⟨#[], args, []⟩).memory :=
  laidMet_of_run3 8 (by kernel_rfl) (by kernel_rfl) (by kernel_rfl)

/-- A structure that came in. -/
theorem arg_struct {H : Type} {enc : TypeId × Value → H} {P : Program} {W : World} {base : Nat} {t : TypeId} {fs : Array Field} {v : Value} {d : DataW H} {ps : List MemPlace} {sp : Nat → Bool} {held : Bool} {sh : Sh} (hok : sh.okB P t = true) (hu : P.underlying t = some (.struct fs))
    (hv : Value.okWide P W .any base t v) (h : DataW.Trod enc P W 0 sp held t v d ps) : ∃ qs, sh.Typed qs ∧ TRel (K0 W) (.agg qs) v := by
  obtain ⟨cs, rfl, _⟩ := okWide_struct hu hv
  obtain ⟨fuel, hf⟩ := h
  obtain ⟨qs, h1, h2, h3, h4⟩ := open_sh sh t fuel _ _ hok hf
  refine ⟨qs, h1, .agg qs cs (by simpa [Value.cells] using h2) (fun i v hv => h3 v ?_) (fun i p v hp hv => h4 i p v hp ?_)⟩
  · simpa [Value.cells] using Array.mem_of_getElem? hv
  · simpa [Value.cells] using hv
/-- A slice that came in. -/
theorem arg_slice {H : Type} {enc : TypeId × Value → H} {P : Program} {W : World} {base : Nat} {t e : TypeId} {v : Value} {d : DataW H} {ps : List MemPlace} {sp : Nat → Bool} {held : Bool} {sh : Sh} (hok : sh.okB P t = true) (hu : P.underlying t = some (.slice e))
    (hv : Value.okWide P W .any base t v) (h : DataW.Trod enc P W 0 sp held t v d ps) : ∃ qs, sh.Typed qs ∧ ∀ q, qs = [q] → TRel (K0 W) q v := by
  obtain ⟨a, n, c, rfl⟩ := okWide_slice hu hv
  obtain ⟨fuel, hf⟩ := h
  obtain ⟨qs, h1, h2, h3, h4⟩ := open_sh sh t fuel _ _ hok hf
  exact ⟨qs, h1, fun q e => h4 0 q _ (by rw [e]; rfl) rfl⟩
theorem shInts_ok : shInts.okB Tryz.prog 37 = true := by kernel_rfl
end Go.Pv.Ct
end
section
namespace Go.Pv.Ct
open Go.Pv Go.Proofs

def shSpan : Sh := .strct (.cons 0 1 3 shInt (.cons 1 1 3 shInt (.cons 2 1 3 shInt .nil)))
def shMp : Sh := .strct (.cons 0 1 3 shInt (.cons 1 1 37 shInts (.cons 2 1 9 .str .nil)))
def shRg : Sh := .strct (.cons 0 1 3 shInt (.cons 1 1 3 shInt .nil))
def shSet : Sh := .strct (.cons 0 1 32 (.slice 119 2 shRg) .nil)
def shNorm : Sh := .strct (.cons 0 1 30 (.slice 66 3 shSpan) (.cons 1 1 31 (.slice 110 3 shMp) (.cons 2 1 34 shSet .nil)))
def shCase : Sh := .strct (.cons 0 3 36 shNorm (.cons 3 5 25 shColl (.cons 8 1 37 shInts .nil)))
theorem shCase_ok : shCase.okB Go.Proofs.Tryz.prog 39 = true := by kernel_rfl
theorem span_of {ps : List PV} (h : shSpan.Typed ps) : ∃ e : Span, ps = e.cells ∧ True := by
  simp only [shSpan, Sh.Typed, FS.Typed] at h
  obtain ⟨a, b, rfl, _, ha, c, d, rfl, _, hc, e, f, rfl, _, he, rfl⟩ := h
  obtain ⟨n1, rfl, h1⟩ := int_of ha
  obtain ⟨n2, rfl, h2⟩ := int_of hc
  obtain ⟨n3, rfl, h3⟩ := int_of he
  exact ⟨⟨n1, n2, n3⟩, rfl, trivial⟩
theorem mp_of {ps : List PV} (h : shMp.Typed ps) : ∃ e : Mp, ps = e.cells ∧ e.to.length ≤ maxLen := by
  simp only [shMp, Sh.Typed, FS.Typed] at h
  obtain ⟨a, b, rfl, _, ha, c, d, rfl, _, hc, e, f, rfl, _, ⟨s, rfl, hs⟩, rfl⟩ := h
  obtain ⟨n1, rfl, h1⟩ := int_of ha
  obtain ⟨l2, rfl, h2, _⟩ := ints_of hc
  exact ⟨⟨n1, l2, s, false⟩, rfl, h2⟩
theorem rg_of {ps : List PV} (h : shRg.Typed ps) : ∃ e : Rg, ps = e.cells ∧ True := by
  simp only [shRg, Sh.Typed, FS.Typed] at h
  obtain ⟨a, b, rfl, _, ha, c, d, rfl, _, hc, rfl⟩ := h
  obtain ⟨n1, rfl, h1⟩ := int_of ha
  obtain ⟨n2, rfl, h2⟩ := int_of hc
  exact ⟨⟨n1, n2⟩, rfl, trivial⟩
structure NrmOk (n : Nrm) : Prop where
  cls : n.cls.length ≤ maxLen
  dec : n.dec.length ≤ maxLen
  exc : n.exc.length ≤ maxLen
theorem nrm_of {ps : List PV} (h : shNorm.Typed ps) : ∃ n : Nrm, ps = n.cells ∧ NrmOk n := by
  simp only [shNorm, shSet, Sh.Typed, FS.Typed] at h
  obtain ⟨a, b, rfl, _, ⟨r1, rfl, l1, t1⟩, c, d, rfl, _, ⟨r2, rfl, l2, t2⟩, e, f, rfl, _, ⟨e', f', rfl, _, ⟨r3, rfl, l3, t3⟩, rfl⟩, rfl⟩ := h
  obtain ⟨x1, rfl, p1⟩ := rows_of (F := Span.cells) (fun r hr => span_of hr) r1 t1
  obtain ⟨x2, rfl, p2⟩ := rows_of (F := Mp.cells) (fun r hr => mp_of hr) r2 t2
  obtain ⟨x3, rfl, p3⟩ := rows_of (F := Rg.cells) (fun r hr => rg_of hr) r3 t3
  exact ⟨⟨x1, x2, x3, false, false, false⟩, rfl, by simpa using l1, by simpa using l2, by simpa using l3⟩
theorem case_of {ps : List PV} (h : shCase.Typed ps) : ∃ x : Cs, ps = x.cells ∧ CsFits x := by
  simp only [shCase, Sh.Typed, FS.Typed] at h
  obtain ⟨a, b, rfl, _, ha, c, d, rfl, _, hc, e, f, rfl, _, he, rfl⟩ := h
  obtain ⟨n, rfl, h1⟩ := nrm_of ha
  obtain ⟨cc, rfl, h2⟩ := coll_of hc
  obtain ⟨l, rfl, h3, h4⟩ := ints_of he
  have hm : maxLen = 9223372036854775807 := rfl
  exact ⟨⟨n, cc, l⟩, rfl, by have := h1.dec; show n.dec.length < _; omega, h2.fits, h4⟩
end Go.Pv.Ct
end
section
namespace Go.Pv.Ct
open Go.Pv Go.Proofs
set_option maxRecDepth 20000

theorem scan_codes (d : Coll) (cls : List Span) : ∀ (rest codes left : List Int) (g : Int), codes.length ≤ (scanM d cls codes left g rest).1.length ∧ ((scanM d cls codes left g rest).1.length = codes.length → scanM d cls codes left g rest = (codes, left ++ rest))
  | [], codes, left, g => ⟨Nat.le_refl _, fun _ => by simp [scanM]⟩
  | c :: rest, codes, left, g => by
    unfold scanM
    split
    · exact ⟨Nat.le_refl _, fun _ => rfl⟩
    · split
      · obtain ⟨h1, h2⟩ := scan_codes d cls rest (codes ++ [c]) left g
        rw [List.length_append, List.length_singleton] at h1
        exact ⟨by omega, fun e => by omega⟩
      · obtain ⟨h1, h2⟩ := scan_codes d cls rest codes (left ++ [c]) (if classL cls c > g then classL cls c else g)
        exact ⟨h1, fun e => by rw [h2 e]; simp⟩
theorem fnd_len8 {c : Coll} {codes : List Int} {x : Entry} (h : fndC (dataC c) codes = some x) : codes.length ≤ 8 := by
  unfold fndC at h
  have h1 := List.mem_of_find?_eq_some h
  have h2 : x.codes = codes := by simpa using List.find?_some h
  unfold dataC at h1
  split at h1
  · rename_i hc
    have := (valid_of hc).ent x h1
    unfold entErr at this
    split at this
    · omega
    · rw [← h2]; omega
  · simp [dflt] at h1
theorem longK_more {c : Coll} {text : List Int} : ∀ k, 8 ≤ k → k ≤ text.length → longK (dataC c) text k = longK (dataC c) text 8
  | k, h8, hk => by
    induction k with
    | zero => omega
    | succ k ih =>
      rcases Nat.lt_or_eq_of_le h8 with q | q
      · rw [longK]
        have : ¬ (fndC (dataC c) (text.take (k + 1))).isSome = true := by
          intro hs
          obtain ⟨x, hx⟩ := Option.isSome_iff_exists.1 hs
          have := fnd_len8 hx
          rw [List.length_take] at this
          omega
        rw [if_neg this]
        exact ih (by omega) (by omega)
      · rw [← q]
theorem long_k0 (c : Coll) (text : List Int) : longK (dataC c) text text.length = k0M (dataC c) text := by
  unfold k0M
  rcases Nat.lt_or_ge text.length 8 with q | q
  · rw [Nat.min_eq_left (by omega)]
  · rw [Nat.min_eq_right q]; exact longK_more _ q (Nat.le_refl _)
set_option maxHeartbeats 16000000 in
theorem longest2 (x : Cs) (hx : CsFits x) (hf : Few x) (hne : x.text ≠ []) (fr : Fr) (st : Store) (f1 : fr 1 = .optr 0 9 0) (s0 : st[0]? = some (.cells x.cells)) (f3 : fr 3 = .int .i64 (k0M (dataC x.c) x.text : Nat)) :
    W EE 118 (part [true, true, true, true] (code Go.Proofs.Tryz.f6)) fr st (EndW EE [.tmp 2] fun p st1 => ∃ n, pub st1 n p = some (.bool true)) := by
  have e1 : part [true, true, true, true] (code Go.Proofs.Tryz.f6) = part [true, true, true, true] (code Go.Proofs.Tryz.f6) := rfl
  conv at e1 => rhs; simp only [part, code, Go.Proofs.Tryz.f6, Option.getD_some]
  rw [e1]
  clear e1
  have hl := hf.len
  have hlp : 0 < x.text.length := List.length_pos_iff.2 hne
  obtain ⟨hn, he, _⟩ := hf
  have hL : LIM = 4294967296 := rfl
  obtain ⟨mi1, mi2⟩ := match_in (dataC x.c) (clsN x.n).1 x.text hne
  have hkl := k0_le (dataC x.c) x.text
  have hS : StepL x.n x.c x.text = stepM1 (dataC x.c) (clsN x.n).1 x.text := by rw [StepL, if_neg hne]
  simp only [W_region, W_seq, W_cond, W_ret, OpsW_nil, OpsW_op, OpsW_guard, upd_some, opF, evalT, evalO, ofConst, binF, intF, Nat.reduceEqDiff, Nat.reduceAdd, Option.map_some, Option.map_none, Option.bind_some, List.getElem?_toArray, List.getElem?_cons_zero, List.getElem?_cons_succ, Nat.succ_ne_zero, if_true, if_false, Bool.false_eq_true, ne_eq, List.length_cons, List.length_nil, callB, List.zip_cons_cons, List.zip_nil_right, List.map_cons, List.map_nil, List.size_toArray, partF, TI.agg, Nat.reduceLeDiff, List.take_zero, List.drop_zero, List.drop_succ_cons, List.take_succ_cons, W_regionD, xrE, T25, T36, T37, T39, f1, s0, Cs.cells]
  refine OpsW_pl (Step_plain x.n x.c x.text false hn hx.coll he (by omega) hx.codes) rfl rfl (by simp only [upd_some, evalT, evalO, ofConst, Nat.reduceEqDiff, Option.some.injEq, if_true, if_false, List.zip_cons_cons, List.zip_nil_right, List.map_cons, List.map_nil, callArgs, strips, strip_sl, strip_nrm', strip_coll'] <;> rfl) ?_
  rw [hS]
  generalize hs : stepM1 (dataC x.c) (clsN x.n).1 x.text = s at *
  -- what is known of the step
  have facts : (s.left.length : Int) = (x.text.length : Int) - s.k ∧ (k0M (dataC x.c) x.text : Int) ≤ s.k ∧ 1 ≤ s.k ∧ s.k ≤ x.text.length ∧
      (k0M (dataC x.c) x.text = 0 → s.k = 1 ∧ s.left = x.text.drop 1 ∧ s.els = implL (dataC x.c) (x.text.headD 0)) ∧
      (k0M (dataC x.c) x.text ≠ 0 → s.k = k0M (dataC x.c) x.text → s.left = x.text.drop (k0M (dataC x.c) x.text) ∧ s.els = (fndR (dataC x.c) (x.text.take (k0M (dataC x.c) x.text))).1) := by
    subst hs
    unfold stepM1
    by_cases h0 : k0M (dataC x.c) x.text = 0
    · have hm : matchM (dataC x.c) (clsN x.n).1 x.text = ((x.text.take 1, x.text.drop 1), false) := by rw [matchM, if_pos h0]
      rw [hm]
      simp only [Bool.false_eq_true, if_false, List.length_drop]
      refine ⟨by omega, by omega, by omega, by omega, fun _ => ⟨trivial, trivial, trivial⟩, fun h => absurd h0 h⟩
    · have hm : matchM (dataC x.c) (clsN x.n).1 x.text = (scanM (dataC x.c) (clsN x.n).1 (x.text.take (k0M (dataC x.c) x.text)) [] 0 (x.text.drop (k0M (dataC x.c) x.text)), true) := by rw [matchM, if_neg h0]
      rw [hm] at mi2 ⊢
      obtain ⟨c1, c2⟩ := scan_codes (dataC x.c) (clsN x.n).1 (x.text.drop (k0M (dataC x.c) x.text)) (x.text.take (k0M (dataC x.c) x.text)) [] 0
      rw [List.length_take] at c1 c2
      simp only at mi2
      simp only [if_true]
      refine ⟨by omega, by omega, by omega, by omega, fun h => absurd h h0, fun _ hk => ?_⟩
      have := c2 (by omega)
      rw [this]
      simp
  obtain ⟨k1, k2, k3, k4, k5, k6⟩ := facts
  have hw : IntKind.i64.wrap ((x.text.length : Int) - s.k) = (s.left.length : Int) := by rw [wrap_small (by omega) (by omega)]; omega
  have hq1 : ((s.left.length : Int) != (s.left.length : Int)) = false := by simp
  have hq2 : ¬ s.k < (k0M (dataC x.c) x.text : Int) := by omega
  by_cases h0 : k0M (dataC x.c) x.text = 0
  · obtain ⟨a1, a2, a3⟩ := k5 h0
    have c0 : (((k0M (dataC x.c) x.text : Nat) : Int) == 0) = true := by rw [h0]; rfl
    have hx0 : idxN (.int .i64 0) = some 0 := rfl
    have hx1 : idxN (.int .i64 1) = some 1 := rfl
    have l1 : 1 ≤ x.text.length := hlp
    have htk : List.take x.text.length (ints x.text) = ints x.text := by rw [ints_take, List.take_length]
    have hg : (ints x.text)[0]? = some [.int .i64 (x.text.headD 0)] := by
      cases ht : x.text with
      | nil => exact absurd ht hne
      | cons y ys => rfl
    have hk1 : (s.k == 1) = true := by simp [a1]
    simp only [W_skip, W_seq, W_ret, OpsW_nil, OpsW_op, OpsW_guard, upd_some, Br_W1, Br_W2, Br_O1, opF, evalT, evalO, ofConst, binF, intF, Nat.reduceEqDiff, Nat.reduceAdd, Option.map_some, Option.map_none, Option.bind_some, List.getElem?_toArray, List.getElem?_cons_zero, List.getElem?_cons_succ, Nat.succ_ne_zero, and_self, if_true, if_false, decide_false, Bool.false_eq_true, beq_self_eq_true, ne_eq, not_true_eq_false, List.length_cons, List.length_nil, partF, TI.agg, List.take_zero, List.drop_zero, List.drop_succ_cons, List.take_succ_cons, W_regionD, xrE, T3, T37, T39, f1, f3, s0, Cs.cells, elP, ints_length, hw, hq1, hq2, c0, hk1, hx1, sliceF, l1, Nat.le_refl, htk, ints_drop]
    refine OpsW_pl (equal_plain s.left (x.text.drop 1) _ _ (by omega)) rfl rfl (by simp only [upd_some, evalT, evalO, ofConst, Nat.reduceEqDiff, Option.some.injEq, if_true, if_false, List.zip_cons_cons, List.zip_nil_right, List.map_cons, List.map_nil, callArgs, strips, strip_sl, stripT] <;> rfl) ?_
    have he1 : (cmpL s.left (x.text.drop 1) == 0) = true := by rw [a2, beq_iff_eq, cmpL_eq]
    simp only [OpsW_op, OpsW_guard, upd_some, Br_O1, opF, evalT, evalO, ofConst, Nat.reduceEqDiff, Nat.reduceAdd, Option.map_some, Option.bind_some, List.getElem?_toArray, List.getElem?_cons_zero, List.getElem?_cons_succ, Nat.succ_ne_zero, if_true, if_false, Bool.false_eq_true, beq_self_eq_true, List.length_cons, List.length_nil, partF, TI.agg, Nat.reduceLeDiff, List.take_zero, List.drop_zero, List.drop_succ_cons, List.take_succ_cons, T3, T25, T37, T39, he1, f1, s0, Cs.cells, hx0, hg]
    refine OpsW_pl (Implicit_plain x.c (x.text.headD 0) hx.coll) rfl rfl (by simp only [upd_some, evalT, evalO, ofConst, Nat.reduceEqDiff, Option.some.injEq, if_true, if_false, List.zip_cons_cons, List.zip_nil_right, List.map_cons, List.map_nil, callArgs, strips, strip_int, strip_coll'] <;> rfl) ?_
    simp only [OpsW_guard, upd_some, Br_O1, Nat.reduceEqDiff, Option.bind_some, List.getElem?_toArray, List.getElem?_cons_zero, List.getElem?_cons_succ, if_true, if_false, beq_self_eq_true, implP]
    refine OpsW_pl (same_plain s.els (implL (dataC x.c) (x.text.headD 0)) _ _ (by rw [a3]; unfold implL; split <;> simp)) rfl rfl (by simp only [upd_some, evalT, evalO, ofConst, Nat.reduceEqDiff, Option.some.injEq, if_true, if_false, List.zip_cons_cons, List.zip_nil_right, List.map_cons, List.map_nil, callArgs, strips, strip_sl, stripT] <;> rfl) ?_
    have he2 : sameB s.els (implL (dataC x.c) (x.text.headD 0)) = true := by rw [a3]; exact sameB_refl _
    simp only [OpsW_op, OpsW_guard, upd_some, Br_O1, opF, evalT, evalO, ofConst, Nat.reduceEqDiff, Option.bind_some, List.getElem?_toArray, List.getElem?_cons_zero, List.getElem?_cons_succ, if_true, if_false, beq_self_eq_true, he2]
    refine OpsW_pl alive_plain rfl rfl rfl ?_
    simp only [OpsW_nil, OpsW_op, upd_some, opF, evalT, evalO, ofConst, reduceCtorEq, Nat.reduceEqDiff, Option.map_some, Option.some.injEq, true_and, or_true, exists_eq_left', if_true, if_false, resF, resAll, resOne, EndW]
    exact ⟨1, by rw [pub_bool]⟩
  · have c0 : (((k0M (dataC x.c) x.text : Nat) : Int) == 0) = false := by simp; omega
    by_cases ck : s.k > (k0M (dataC x.c) x.text : Int)
    · simp only [W_skip, W_region, W_seq, W_ret, OpsW_nil, OpsW_op, OpsW_guard, upd_some, Br_W1, Br_W2, Br_O1, opF, evalT, evalO, ofConst, binF, intF, Nat.reduceEqDiff, Nat.reduceAdd, Option.map_some, Option.bind_some, List.getElem?_toArray, List.getElem?_cons_zero, List.getElem?_cons_succ, if_true, if_false, decide_true, decide_false, Bool.false_eq_true, beq_self_eq_true, List.length_cons, List.length_nil, Nat.reduceLeDiff, List.take_zero, List.drop_zero, List.drop_succ_cons, List.take_succ_cons, f1, f3, s0, Cs.cells, elP, ints_length, hw, hq1, hq2, c0, ck]
      refine OpsW_pl alive_plain rfl rfl rfl ?_
      simp only [OpsW_nil, OpsW_op, upd_some, opF, evalT, evalO, reduceCtorEq, Nat.reduceEqDiff, Option.map_some, Option.some.injEq, true_and, or_true, exists_eq_left', if_true, if_false, resF, resAll, resOne, EndW]
      exact ⟨1, by rw [pub_bool]⟩
    · obtain ⟨a2, a3⟩ := k6 h0 (by omega)
      generalize hkk : k0M (dataC x.c) x.text = kk at *
      have hkey : Keyed (x.text.take kk) := ⟨by rw [List.length_take]; omega, fun n hn => hx.codes n (List.mem_of_mem_take hn)⟩
      have htk : List.take x.text.length (ints x.text) = ints x.text := by rw [ints_take, List.take_length]
      simp only [W_skip, OpsW_nil, OpsW_op, OpsW_guard, upd_some, Br_W2, Br_O1, opF, evalT, evalO, ofConst, binF, intF, idxN_nat, Nat.reduceEqDiff, Nat.reduceAdd, Option.map_some, Option.bind_some, List.getElem?_toArray, List.getElem?_cons_zero, List.getElem?_cons_succ, and_self, if_true, if_false, decide_false, Bool.false_eq_true, beq_self_eq_true, not_true_eq_false, List.length_cons, List.length_nil, Nat.reduceLeDiff, List.take_zero, List.drop_zero, List.drop_succ_cons, List.take_succ_cons, T3, f1, f3, s0, Cs.cells, elP, ints_length, hw, hq1, hq2, c0, ck, sliceF, hkl, Nat.le_refl, Nat.zero_le, ints_take]
      refine OpsW_pl (Find_plain x.c (x.text.take kk) _ hx.coll he hkey) rfl rfl (by simp only [upd_some, evalT, evalO, ofConst, Nat.reduceEqDiff, Option.some.injEq, if_true, if_false, List.zip_cons_cons, List.zip_nil_right, List.map_cons, List.map_nil, callArgs, strips, strip_sl, strip_coll', stripT] <;> rfl) ?_
      simp only [OpsW_nil, OpsW_op, upd_some, opF, evalT, evalO, idxN_nat, Nat.reduceEqDiff, Nat.reduceAdd, Option.map_some, List.getElem?_cons_zero, List.getElem?_cons_succ, and_self, if_true, if_false, Bool.false_eq_true, not_true_eq_false, List.length_cons, List.length_nil, List.take_zero, List.drop_zero, List.drop_succ_cons, List.take_succ_cons, T3, f1, f3, s0, Cs.cells, elP, ints_length, hkl, Nat.le_refl, htk, ints_drop]
      refine OpsW_pl (equal_plain s.left (x.text.drop kk) _ _ (by omega)) rfl rfl (by simp only [upd_some, evalT, evalO, ofConst, Nat.reduceEqDiff, Option.some.injEq, if_true, if_false, List.zip_cons_cons, List.zip_nil_right, List.map_cons, List.map_nil, callArgs, strips, strip_sl, stripT] <;> rfl) ?_
      have he1 : (cmpL s.left (x.text.drop kk) == 0) = true := by rw [a2, beq_iff_eq, cmpL_eq]
      simp only [OpsW_op, OpsW_guard, upd_some, Br_O1, opF, evalT, evalO, Nat.reduceEqDiff, Option.bind_some, List.getElem?_toArray, List.getElem?_cons_zero, List.getElem?_cons_succ, if_true, if_false, beq_self_eq_true, he1]
      refine OpsW_pl (same_plain s.els (fndR (dataC x.c) (x.text.take kk)).1 _ _ (by have := els_len he (clsN x.n).1 x.text; rw [hs] at this; omega)) rfl rfl (by simp only [upd_some, evalT, evalO, ofConst, Nat.reduceEqDiff, Option.some.injEq, if_true, if_false, List.zip_cons_cons, List.zip_nil_right, List.map_cons, List.map_nil, callArgs, strips, strip_sl, stripT] <;> rfl) ?_
      have he2 : sameB s.els (fndR (dataC x.c) (x.text.take kk)).1 = true := by rw [a3]; exact sameB_refl _
      simp only [OpsW_op, OpsW_guard, upd_some, Br_O1, opF, evalT, evalO, ofConst, Nat.reduceEqDiff, Option.bind_some, List.getElem?_toArray, List.getElem?_cons_zero, List.getElem?_cons_succ, if_true, if_false, beq_self_eq_true, he2]
      refine OpsW_pl alive_plain rfl rfl rfl ?_
      simp only [OpsW_nil, OpsW_op, upd_some, opF, evalT, evalO, ofConst, reduceCtorEq, Nat.reduceEqDiff, Option.map_some, Option.some.injEq, true_and, or_true, exists_eq_left', if_true, if_false, resF, resAll, resOne, EndW]
      exact ⟨1, by rw [pub_bool]⟩
theorem strip_cs' (x : Cs) : strip1 (.agg [.sl 3 (spR x.n.cls) (tk x.n.a), .sl 3 (mpR x.n.dec) (tk x.n.b), .sl 2 (rgR x.n.exc) (tk x.n.c), .sl 2 (entR x.c.ents) (tk x.c.a), .sl 3 (grpR x.c.grps) (tk x.c.b), .int .i64 x.c.base, .int .i64 x.c.second, .int .i64 x.c.third, .sl 1 (ints x.text) .ro]) =
    some (.agg [.sl 3 (spR x.n.cls) (tk x.n.a), .sl 3 (mpR x.n.dec) (tk x.n.b), .sl 2 (rgR x.n.exc) (tk x.n.c), .sl 2 (entR x.c.ents) (tk x.c.a), .sl 3 (grpR x.c.grps) (tk x.c.b), .int .i64 x.c.base, .int .i64 x.c.second, .int .i64 x.c.third, .sl 1 (ints x.text) .ro]) := strip_cs x
set_option maxHeartbeats 16000000 in
theorem longest_plain (x : Cs) (hx : CsFits x) : Plain EE 6 [.agg x.cells] (.bool true) := by
  refine plain_of_W ok ok6 (by simp) ?_
  unfold BodyW
  have e0 : code Go.Proofs.Tryz.f6 = code Go.Proofs.Tryz.f6 := rfl
  conv at e0 => rhs; simp only [code, Go.Proofs.Tryz.f6, Option.getD_some]
  rw [e0]
  clear e0
  have e1 : part [true, true, true, true] (code Go.Proofs.Tryz.f6) = part [true, true, true, true] (code Go.Proofs.Tryz.f6) := rfl
  conv at e1 => rhs; simp only [part, code, Go.Proofs.Tryz.f6, Option.getD_some]
  rw [← e1]
  clear e1
  simp only [W_region, W_seq, W_cond, W_block, OpsW_nil, OpsW_op, upd_some, opF, evalT, evalO, ofConst, argFr, reduceCtorEq, Nat.reduceEqDiff, Nat.reduceAdd, Option.getD_some, Option.getD_none, Option.map_some, List.getElem?_cons_zero, List.getElem?_cons_succ, List.getElem?_nil, and_self, or_false, if_true, if_false, List.length_cons, List.length_nil, partF, TI.agg, scal, isAgg, cellsOf, Bool.or_true, Nat.reduceLeDiff, List.take_zero, List.drop_zero, List.take_succ_cons, List.nil_append, T39, Cs.cells]
  refine OpsW_pl (few_plain x hx) rfl rfl (by simp only [upd_some, evalT, evalO, ofConst, argFr, Nat.reduceEqDiff, Option.getD_none, Option.some.injEq, List.getElem?_cons_succ, List.getElem?_nil, if_true, if_false, List.zip_cons_cons, List.zip_nil_right, List.map_cons, List.map_nil, callArgs, strips, strip_cs'] <;> rfl) ?_
  cases hfb : fewB x with
  | false =>
    simp only [W_region, W_seq, W_ret, OpsW_nil, OpsW_op, OpsW_guard, upd_some, Br_W1, Br_O2, opF, evalT, evalO, ofConst, argFr, unF, reduceCtorEq, Nat.reduceEqDiff, Option.getD_none, Option.map_some, Option.bind_some, List.getElem?_toArray, List.getElem?_cons_zero, List.getElem?_cons_succ, List.getElem?_nil, true_and, or_true, if_true, if_false, Bool.true_beq, Bool.not_false]
    refine OpsW_pl alive_plain rfl rfl rfl ?_
    simp only [OpsW_nil, OpsW_op, upd_some, opF, evalT, evalO, argFr, Nat.reduceEqDiff, Option.getD_none, Option.map_some, Option.some.injEq, List.getElem?_cons_succ, List.getElem?_nil, exists_eq_left', if_true, if_false, resF, resAll, resOne]
    exact ⟨1, by rw [pub_bool]⟩
  | true =>
    have hf := few_of hfb
    by_cases hne : x.text = []
    · have c0 : ((x.text.length : Int) == 0) = true := by rw [hne]; rfl
      simp only [W_region, W_seq, W_ret, OpsW_nil, OpsW_op, OpsW_guard, upd_some, Br_W1, Br_O1, opF, evalT, evalO, ofConst, argFr, binF, intF, unF, reduceCtorEq, Nat.reduceEqDiff, Nat.reduceAdd, Option.getD_none, Option.map_some, Option.bind_some, List.getElem?_toArray, List.getElem?_cons_zero, List.getElem?_cons_succ, List.getElem?_nil, Nat.succ_ne_zero, true_and, or_true, if_true, if_false, Bool.false_eq_true, beq_self_eq_true, Bool.not_true, List.length_cons, List.length_nil, callB, List.zip_cons_cons, List.zip_nil_right, List.map_cons, List.map_nil, List.size_toArray, partF, TI.agg, Nat.reduceLeDiff, List.take_zero, List.drop_zero, List.drop_succ_cons, List.take_succ_cons, T37, T39, ints_length, c0]
      refine OpsW_pl alive_plain rfl rfl rfl ?_
      simp only [OpsW_nil, OpsW_op, upd_some, opF, evalT, evalO, argFr, Nat.reduceEqDiff, Option.getD_none, Option.map_some, Option.some.injEq, List.getElem?_cons_succ, List.getElem?_nil, exists_eq_left', if_true, if_false, resF, resAll, resOne]
      exact ⟨1, by rw [pub_bool]⟩
    · have hlp : 0 < x.text.length := List.length_pos_iff.2 hne
      have hl := hf.len
      have c0 : ((x.text.length : Int) == 0) = false := by simp; omega
      simp only [W_skip, OpsW_nil, OpsW_op, OpsW_guard, upd_some, Br_W2, Br_O1, opF, evalT, evalO, ofConst, argFr, binF, intF, unF, Nat.reduceEqDiff, Nat.reduceAdd, Option.getD_none, Option.map_some, Option.bind_some, List.getElem?_toArray, List.getElem?_cons_zero, List.getElem?_cons_succ, List.getElem?_nil, Nat.succ_ne_zero, if_true, if_false, Bool.false_eq_true, beq_self_eq_true, Bool.not_true, List.length_cons, List.length_nil, callB, List.zip_cons_cons, List.zip_nil_right, List.map_cons, List.map_nil, List.size_toArray, partF, TI.agg, Nat.reduceLeDiff, List.take_zero, List.drop_zero, List.drop_succ_cons, List.take_succ_cons, T37, T39, ints_length, c0]
      refine W_loop (fun n fr st => ∃ k : Nat, fr 1 = .optr 0 9 0 ∧ fr 3 = .int .i64 (longK (dataC x.c) x.text k : Nat) ∧ fr 4 = .int .i64 ((k + 1 : Nat) : Int) ∧ st = [.cells x.cells] ∧ k ≤ x.text.length ∧ n = x.text.length - k) ?_ x.text.length _ _
        ⟨0, by simp [upd], by simp [upd]; rfl, by simp [upd], rfl, by omega, by omega⟩
      rintro n fr st ⟨k, f1, f3, f4, rfl, hk, rfl⟩
      by_cases ck : ((k + 1 : Nat) : Int) ≤ (x.text.length : Int)
      · have kl : k + 1 ≤ x.text.length := by omega
        have hw : IntKind.i64.wrap (((k + 1 : Nat) : Int) + 1) = ((k + 1 + 1 : Nat) : Int) := by rw [wrap_small (by omega) (by omega)]; rfl
        have hkey : Keyed (x.text.take (k + 1)) := ⟨by rw [List.length_take]; omega, fun n hn => hx.codes n (List.mem_of_mem_take hn)⟩
        have hlk : longK (dataC x.c) x.text (k + 1) = if (fndC (dataC x.c) (x.text.take (k + 1))).isSome then k + 1 else longK (dataC x.c) x.text k := by rw [longK]
        simp only [W_skip, W_region, W_seq, W_cond, W_block, OpsW_nil, OpsW_op, upd_some, Br_W1, opF, evalT, evalO, ofConst, binF, intF, idxN_nat, Nat.reduceEqDiff, Nat.reduceAdd, Option.map_some, Option.map_none, List.getElem?_cons_zero, List.getElem?_cons_succ, Nat.succ_ne_zero, and_self, exists_and_left, if_true, if_false, decide_true, Bool.false_eq_true, ne_eq, not_true_eq_false, List.length_cons, List.length_nil, callB, List.zip_cons_cons, List.zip_nil_right, List.map_cons, List.map_nil, List.size_toArray, partF, TI.agg, Nat.reduceLeDiff, List.take_zero, List.drop_zero, List.drop_succ_cons, List.take_succ_cons, W_regionD, xrE, T3, T25, T37, T39, f1, f4, Cs.cells, ints_length, ck, sliceF, kl, Nat.le_refl, Nat.zero_le, ints_take]
        refine OpsW_pl (Find_plain x.c (x.text.take (k + 1)) _ hx.coll hf.els hkey) rfl rfl (by simp only [upd_some, evalT, evalO, ofConst, Nat.reduceEqDiff, Option.some.injEq, if_true, if_false, List.zip_cons_cons, List.zip_nil_right, List.map_cons, List.map_nil, callArgs, strips, strip_sl, strip_coll', stripT] <;> rfl) ?_
        rw [fndR_snd]
        cases hs : (fndC (dataC x.c) (x.text.take (k + 1))).isSome with
        | true =>
          rw [hs, if_pos rfl] at hlk
          simp only [W_region, OpsW_nil, OpsW_op, upd_some, Br_W1, opF, evalT, evalO, Nat.reduceEqDiff, Option.map_some, List.getElem?_cons_zero, List.getElem?_cons_succ, true_and, if_true, if_false, f1, f3, f4, hw]
          exact ⟨x.text.length - (k + 1), by omega, k + 1, by rw [hlk], rfl, by omega, rfl⟩
        | false =>
          rw [hs] at hlk
          simp only [Bool.false_eq_true, if_false] at hlk
          simp only [W_skip, OpsW_nil, OpsW_op, upd_some, Br_W2, opF, evalT, evalO, Nat.reduceEqDiff, Option.map_some, List.getElem?_cons_zero, List.getElem?_cons_succ, true_and, if_true, if_false, f1, f3, f4, hw]
          exact ⟨x.text.length - (k + 1), by omega, k + 1, by rw [hlk], rfl, by omega, rfl⟩
      · have hkl : k = x.text.length := by omega
        subst hkl
        rw [long_k0] at f3
        simp only [W_region, W_seq, W_cond, W_block, W_exit, OpsW_nil, OpsW_op, upd_some, Br_W2, opF, evalT, evalO, ofConst, binF, intF, Nat.reduceEqDiff, Nat.reduceAdd, Option.map_some, Option.map_none, List.getElem?_cons_zero, List.getElem?_cons_succ, Nat.succ_ne_zero, exists_and_left, if_true, if_false, decide_false, Bool.false_eq_true, ne_eq, List.length_cons, List.length_nil, callB, List.zip_cons_cons, List.zip_nil_right, List.map_cons, List.map_nil, List.size_toArray, partF, TI.agg, Nat.reduceLeDiff, List.take_zero, List.drop_zero, List.drop_succ_cons, List.take_succ_cons, W_regionD, xrE, T25, T37, T39, f1, f4, Cs.cells, ints_length, ck]
        have := longest2 x hx hf hne
        simp only [Cs.cells] at this
        exact this _ _ (by simp [upd, f1]) rfl (by simp [upd, f3])
end Go.Pv.Ct
end
section
namespace Go.Proofs.YtgbaaobgnpjhcaaGreatDoor.colltableLongest
open Go Go.ChangeShapes Go.WideShapes Go.ChangeAt Go.RowKit Go.Pv Go.Pv.Ct
set_option maxRecDepth 100000
theorem lifted (os : Os) (started : os.Started) (H : Type) (enc : TypeId × Value → H) :
    ReturnsInHanded {} Tryz.checked os 6 .any (fun w args => (Rows.colltableLongestSpec.pre enc Tryz.prog Tryz.f6 Rows.colltableLongestRow.domain false w args ∧ laidMet Tryz.prog Rows.colltableLongestRow.laid w) ∧ sizedMet enc Tryz.prog Tryz.f6 (OpenSpec.ofChange Rows.colltableLongestSpec) false w args)
      (Rows.colltableLongestSpec.post enc Tryz.prog Tryz.f6 false true false false) := by
  refine returnsInHanded_of_change_and (C := Tryz.checked) (X := fun w _ => laidMet Tryz.prog Rows.colltableLongestRow.laid w) (fun _ _ _ hh h => h.of_heap hh) own started (by kernel_rfl) Tryz.func6
    (ChangeSpec.witness_at (enc := enc) (C := Tryz.checked) (os := os) (X := fun w _ => laidMet Tryz.prog Rows.colltableLongestRow.laid w) false (laidWorld os) #[.agg #[.slice none 0 0, .slice none 0 0, .slice none 0 0, .slice none 0 0, .slice none 0 0, .int .i64 0, .int .i64 0, .int .i64 0, .slice none 0 0]] 8 rfl (by kernel_rfl) (by kernel_rfl) (by kernel_rfl) (by kernel_rfl) (by kernel_rfl) (laid_met os _)) ?_
  intro W base args ds gs before hval0 hW hcnd _ hL _
  have hval : ∀ (j : Nat) t v, Tryz.f6.params[j]? = some t → args[j]? = some v → Value.okWide Tryz.prog W .any base t v := hval0
  have hW' := hW
  obtain ⟨p, q, hA0, hV, rfl, hfz, hnd⟩ := hW
  have hA : DataW.TrodAll enc Tryz.prog W 0 (fun _ => true) true Tryz.f6.params.toList args.toList ds p := hA0
  rw [Tryz.params6] at hA hval
  obtain ⟨v0, vs0, d0, ds0, p0, q0, hargs, rfl, rfl, h0, r0⟩ := trodAll_cons hA
  obtain ⟨rfl, rfl, rfl⟩ := trodAll_nil r0
  obtain rfl : args = #[v0] := by cases args; simp_all
  obtain ⟨rfl, rfl⟩ := trodVars_none hV
  have k0 := h0
  have lt0 : ∀ x ∈ p0, x.block < W.heap.size := by obtain ⟨m, hm⟩ := k0; exact DataW.trod_lt m _ _ _ hm
  obtain ⟨ps0, ty0, rel0⟩ := arg_struct shCase_ok Tryz.underlying39 (hval 0 39 v0 rfl rfl) h0
  obtain ⟨x0, rfl, o0⟩ := case_of ty0
  clear hA0 hval0
  refine (plain_calls1 (E := EE) (longest_plain x0 o0) (rel_of_laid hL _) rfl (fun i p u hp hu => ?_)).mono fun e W' ⟨he, bel⟩ => ?_
  · match i, hp, hu with
    | 0, hp, hu => simp at hp hu; subst hp hu; exact rel0
    | i + 1, hp, hu => simp at hp
  · subst he
    exact ⟨_, rfl, _, _, _, [], _, [], hW', trodAll_mk1 (shut_bool Tryz.underlying4 _), (trodAll_cons_mk (Below.trod laidOut (by kernel_rfl) (of_decide_eq_true (by kernel_rfl)) k0 bel lt0) trodAll_mk0), rfl, bel.frame _, fun h => by cases h⟩
theorem over : Rows.colltableLongestRow.holds Tryz.pinned (OpenSpec.ofChange Rows.colltableLongestSpec) :=
  OpenClaim.holds_of_wide 6 Tryz.f6 rfl rfl rfl rfl rfl rfl rfl ⟨rfl, rfl, rfl, rfl, rfl⟩ rfl rfl rfl rfl rfl (by kernel_rfl) Tryz.func6 (by kernel_rfl)
    (of_decide_eq_true (by kernel_rfl)) (by unfold Func.isWrapper; first | (rw [if_pos (by decide +kernel)]; kernel_rfl) | (rw [if_neg (by decide +kernel)]; exact ⟨rfl, rfl⟩))
    (fun os started H enc _ => lifted os started H enc)
theorem card : Rows.ColltableLongestCardSaid :=
  Claim7.holds_tied_plain_at .later [] [.data, .data, .data, .data] true Rows.colltableLongestCard.stood.harness false
    over (fun _ h => by cases h) (by kernel_rfl) (fun _ h => by cases h) colltableLongest_row_tie rfl ⟨rfl, rfl⟩ (by kernel_rfl) rfl
    (fun f fn hf hfn => by
      obtain rfl : f = 6 := Option.some.inj ((show Tryz.prog.funcNamed "unicodetext/unicodetextlaw43.ColltableLongest" = some 6 by kernel_rfl).symm.trans hf) |>.symm
      obtain rfl : fn = Tryz.f6 := (Option.some.inj (Tryz.func6.symm.trans hfn)).symm
      exact ⟨by kernel_rfl, fun j t ht => by
        rw [Tryz.params6] at ht
        have hall : [39].all (fun t => !Tryz.prog.wantsStandIn t) = true := by kernel_rfl
        have hm : t ∈ ([39] : List Nat) := by
          obtain ⟨hj, rfl⟩ := Array.getElem?_eq_some_iff.1 ht
          simpa using Array.getElem_mem hj
        have := List.all_eq_true.1 hall t hm
        have e : Tryz.prog.wantsStandIn t = false := by simpa using this
        exact e⟩)
    (by kernel_rfl)
end Go.Proofs.YtgbaaobgnpjhcaaGreatDoor.colltableLongest
namespace Go.Proofs.YtgbaaobgnpjhcaaGreatDoor
/-- The tied card, under a short name, for the claim. -/
theorem colltableLongestCard_holds : Rows.ColltableLongestCardSaid := colltableLongest.card
#print axioms colltableLongestCard_holds
end Go.Proofs.YtgbaaobgnpjhcaaGreatDoor
end
