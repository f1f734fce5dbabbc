/-
  Keypack (4): Pack (2).
-/
import Derived.Test.YtbfmlkdpeaeblaaKpC
set_option linter.all false
set_option linter.unusedSimpArgs false
set_option linter.unusedVariables false
namespace Go.Pv.Kp
open Go.Pv

theorem emit_length (m : Int) (x : Nat × Int × Bool) (h : x.1 ≤ 1000) : (emit m x).length ≤ 200 := by
  unfold emit
  have h1 : (if x.1 % 8 > 0 then (if x.2.2 = true ∨ x.2.1 < m then [m + (x.1 % 8 : Nat) - 1] else [m + 15 - (x.1 % 8 : Nat)]) else ([] : List Int)).length ≤ 1 := by
    split
    · split <;> simp
    · simp
  have h2 : (if x.2.2 = true then [] else if x.2.1 < m then [x.2.1] else [x.2.1 + 14]).length ≤ 1 := by
    split
    · simp
    · split <;> simp
  rw [List.length_append, List.length_append, List.length_replicate]
  have : x.1 / 8 ≤ 125 := by omega
  omega

noncomputable def PackA : Code := rfA (code Go.Proofs.Try.f10)
noncomputable def PackB : Code := rfB (code Go.Proofs.Try.f10)
theorem okA : okC EE.pl 75 false PackA = true := by kernel_rfl
theorem okB : okC EE.pl 75 false PackB = true := by kernel_rfl

/-- What the loop over the runs keeps. -/
def PackJ (m : Int) (frL : Fr) (d : List (Nat × Int × Bool)) (st : Store) : Prop :=
  ∃ p, st[0]? = some (.cells [.int .i64 m]) ∧ st[1]? = some (.cells [p]) ∧ OutSt st (d.flatMap (emit m)) p ∧ st[4]? = some (.loop frL [14] PackA PackB 75 0 none) ∧ (d.flatMap (emit m)).length ≤ d.length * 200

theorem pack_round (m : Int) (hm : 1 ≤ m ∧ m ≤ 65535) (frL : Fr) (f5 : frL 5 = .optr 0 1 0) (f6 : frL 6 = .optr 1 1 0) (d : List (Nat × Int × Bool)) (hd : d.length ≤ 1000) (x : Nat × Int × Bool) (hx : x.1 ≤ 1000) (hx1 : 0 ≤ x.2.1) (hx2 : x.2.1 ≤ 65535) (st : Store) (hJ : PackJ m frL d st) :
    ∃ st', YSpec EE 4 [runV x] st (.bool true) st' ∧ PackJ m frL (d ++ [x]) st' ∧ st.length ≤ st'.length ∧ ∀ (j : Nat) (cs : List PV), ¬ j = 1 → st[j]? = some (.cells cs) → st'[j]? = some (.cells cs) := by
  obtain ⟨p, s0, s1, ho, s4, hlen⟩ := hJ
  have hy : YSpecQ EE 4 [runV x] st fun v st' => v = .bool true ∧ PackJ m frL (d ++ [x]) st' ∧ st.length ≤ st'.length ∧ ∀ (j : Nat) (cs : List PV), ¬ j = 1 → st[j]? = some (.cells cs) → st'[j]? = some (.cells cs) := by
    refine yspecQ_of_W ok s4 okA okB rfl ?_
    unfold RoundW
    have e0 : PackA = PackA := rfl
    conv at e0 => rhs; simp only [PackA, rfA, findRF, code, Go.Proofs.Try.f10, Option.getD_some, Option.map_some, Option.orElse_none, Option.orElse_some, Option.orElse]
    rw (occs := .pos [1]) [e0]
    obtain ⟨c, nx, en⟩ := x
    have l4 := get_lt s4
    simp only [W_skip, W_region, W_seq, W_cond, W_block, W_exit, W_label, W_ret, W_range, OpsW_nil, OpsW_app, OpsW_app', OpsW_op, OpsW_guard, upd_some, upd_none, Br_W1, Br_W2, Br_O1, Br_O2, opF, evalT, evalO, ofConst, argFr, binF, intF, unF, idxN_nat, reduceIte, reduceCtorEq, Nat.reduceEqDiff, Nat.reduceAdd, Nat.reduceMul, Option.getD_some, Option.getD_none, Option.map_some, Option.map_none, Option.bind_some, Option.some.injEq, Prod.mk.injEq, List.getElem?_toArray, List.getElem?_cons_zero, List.getElem?_cons_succ, List.getElem?_nil, Nat.succ_ne_zero, and_self, true_and, and_true, true_or, or_true, false_or, or_false, exists_eq_left, exists_eq_left', exists_eq, exists_and_left, and_assoc, if_true, if_false, decide_true, decide_false, Bool.false_eq_true, beq_self_eq_true, Bool.true_beq, Bool.false_beq, Bool.not_true, Bool.not_false, ne_eq, not_true_eq_false, not_false_eq_true, List.length_cons, List.length_nil, decide_eq_true_eq, decide_eq_false_iff_not, callB, List.zip_cons_cons, List.zip_nil_right, List.zip_nil_left, List.map_cons, List.map_nil, List.size_toArray, partF, TI.agg, scal, isAgg, cellsOf, tokRo, cellOk, List.all_cons, List.all_nil, Bool.and_true, Bool.true_and, Bool.or_true, Bool.true_or, Bool.or_false, Bool.and_self, Nat.reduceLeDiff, Nat.reduceLT, Nat.lt_add_one, Nat.zero_lt_succ, range1, range2, range3, range4, Option.isSome_some, splice, fillF, List.take_zero, List.drop_zero, List.drop_succ_cons, List.take_succ_cons, List.nil_append, List.cons_append, Int.reduceEq, Int.reduceLT, Int.reduceAdd, Int.reduceSub, Int.reduceMul, T3, T4, T22, T41, setPs, runV, get_last, set_last]
    refine ⟨get_app s4, ?_⟩
    -- the body, over the store in which the loop is busy
    have hst4 : (st ++ [Ob.cells [.int .i64 (c : Int), .int .i64 nx, .bool en]])[4]? = some (.loop frL [14] PackA PackB 75 0 none) := get_app s4
    have l4' : 4 < (st ++ [Ob.cells [.int .i64 (c : Int), .int .i64 nx, .bool en]]).length := get_lt hst4
    have keep : ∀ (j : Nat) (cs : List PV), (st ++ [Ob.cells [.int .i64 (c : Int), .int .i64 nx, .bool en]])[j]? = some (.cells cs) → ((st ++ [Ob.cells [.int .i64 (c : Int), .int .i64 nx, .bool en]]).set 4 (.loop frL [14] PackA PackB 75 2 none))[j]? = some (.cells cs) := by
      intro j cs h
      have : 4 ≠ j := fun q => by subst q; rw [hst4] at h; cases h
      rw [get_set_ne _ this]; exact h
    have ho1 : OutSt ((st ++ [Ob.cells [.int .i64 (c : Int), .int .i64 nx, .bool en]]).set 4 (.loop frL [14] PackA PackB 75 2 none)) (d.flatMap (emit m)) p := by
      refine ho.calm (fun i n hi => ?_)
      have : 4 ≠ i := fun q => by subst q; rw [s4] at hi; cases hi
      rw [get_set_ne _ this]; exact get_app hi
    have body := pack_body m hm c nx en hx ⟨hx1, hx2⟩ st.length (by omega) (upd (upd frL (some 14) (.agg [.int .i64 (c : Int), .int .i64 nx, .bool en])) (some 7) (.optr st.length 3 0)) _ _ p ho1 (by unfold LIM; omega)
      (by simp [upd, f5]) (by simp [upd, f6]) (by simp [upd]) (keep 0 _ (get_app s0)) (keep 1 _ (get_app s1)) (keep st.length _ (get_last _ _))
    refine W.mono _ _ _ (fun e fr2 st2 q => ?_) _ _ body
    obtain ⟨rfl, p', t1, to, tk⟩ := q
    have t4 : st2[4]? = some (.loop frL [14] PackA PackB 75 2 none) := tk.2 4 _ (by omega) (get_set_eq l4' _) (by simp)
    refine ⟨t4, ⟨p', ?_, ?_, ?_, get_set_eq (get_lt t4) _, ?_⟩, ?_, fun j cs hj hjc => ?_⟩
    · rw [get_set_ne _ (by omega)]; exact tk.cells (by omega) (keep 0 _ (get_app s0))
    · rw [get_set_ne _ (by omega)]; exact t1
    · rw [List.flatMap_append, List.flatMap_singleton]
      refine to.calm (fun i n hi => ?_)
      have : 4 ≠ i := fun q => by subst q; rw [t4] at hi; cases hi
      rw [get_set_ne _ this]; exact hi
    · rw [List.flatMap_append, List.flatMap_singleton, List.length_append, List.length_append]
      have := emit_length m (c, nx, en) hx
      simp only [List.length_cons, List.length_nil]
      omega
    · have := tk.1
      simp at this ⊢; omega
    · have : 4 ≠ j := fun q => by subst q; rw [s4] at hjc; cases hjc
      rw [get_set_ne _ this]
      exact tk.cells hj (keep j _ (get_app hjc))
  obtain ⟨v, st', h1, rfl, h2⟩ := hy
  exact ⟨st', h1, h2⟩

/-- A list, packed. -/
def packL (cm : Int) (l : List Int) : List Int := (runsL (number cm) 0 l).flatMap (emit (number cm))

theorem PackJ.more {m frL d st} (h : PackJ m frL d st) (cs : List PV) : PackJ m frL d (st ++ [.cells cs]) := by
  obtain ⟨p, s0, s1, ho, s4, hlen⟩ := h
  exact ⟨p, get_app s0, get_app s1, ho.calm fun i n hi => get_app hi, get_app s4, hlen⟩
theorem PackJ.turn {m frL d st} (h : PackJ m frL d st) {j : Nat} {cs cs' : List PV} (h0 : j ≠ 0) (h1 : ¬ j = 1) (hj : st[j]? = some (.cells cs)) : PackJ m frL d (st.set j (.cells cs')) := by
  obtain ⟨p, s0, s1, ho, s4, hlen⟩ := h
  refine ⟨p, by rw [get_set_ne _ h0]; exact s0, by rw [get_set_ne _ h1]; exact s1, ho.calm fun i n hi => ?_, ?_, hlen⟩
  · have : j ≠ i := fun q => by subst q; rw [hj] at hi; cases hi
    rw [get_set_ne _ this]; exact hi
  · have : j ≠ 4 := fun q => by subst q; rw [hj] at s4; cases s4
    rw [get_set_ne _ this]; exact s4

theorem pack_range (l : List Int) (t : Tok) (cm : Int) (hl : l.length ≤ 1000) (frL : Fr) (f5 : frL 5 = .optr 0 1 0) (f6 : frL 6 = .optr 1 1 0) (f13 : frL 13 = .fn 25 [.optr 2 1 0, .optr 3 1 0]) (Q : Exit → Fr → Store → Prop)
    (k : ∀ p st2, st2[1]? = some (.cells [p]) → OutSt st2 (packL cm l) p → Q .normal frL st2) :
    RangeW EE 75 (.tmp 13) [14] PackA PackB frL [.cells [.int .i64 (number cm)], .cells [.sl 1 [] .full], .cells [.sl 1 (ints l) t], .cells [.int .i64 (number cm)]] Q := by
  unfold RangeW
  simp only [evalO, f13, List.length_cons, List.length_nil, List.cons_append, List.nil_append]
  have hm := number_range cm
  obtain ⟨v, st1, h1, h2⟩ := runs1_spec l t (number cm) (by omega) 4 2 3 (PackJ (number cm) frL) (fun j => j ≤ 1)
    (fun d x st hd hx hx1 hx2 hJ => by
      obtain ⟨st', y1, y2, y3, y4⟩ := pack_round (number cm) hm frL f5 f6 d (by omega) x (by omega) hx1 hx2 st hJ
      exact ⟨st', y1, y2, y3, fun j cs hj => y4 j cs (by omega)⟩) (by omega) (by omega)
    [.cells [.int .i64 (number cm)], .cells [.sl 1 [] .full], .cells [.sl 1 (ints l) t], .cells [.int .i64 (number cm)], .loop frL [14] PackA PackB 75 0 none]
    (by intro j h; simp; omega) ⟨_, rfl, rfl, OutSt.nil, rfl, by simp⟩ (fun d st cs h => h.more cs) (fun d st j cs cs' hj hJ hjc => hJ.turn (by omega) (by omega) hjc) rfl rfl
  · refine ⟨v, st1, h1, ?_⟩
    obtain ⟨p, s0, s1, ho, s4, _⟩ := h2
    refine ⟨_, _, _, _, _, 0, none, s4, by omega, k p _ ?_ ?_⟩
    · rw [get_set_ne _ (by omega)]; exact s1
    · refine ho.calm fun i n hi => ?_
      have : 4 ≠ i := fun q => by subst q; rw [s4] at hi; cases hi
      exact (get_set_ne _ this).trans hi

theorem pack_plain (l : List Int) (t : Tok) (cm : Int) (hl : l.length ≤ 1000) : Plain EE 10 [.sl 1 (ints l) t, .int .i64 cm] (outV (packL cm l)) := by
  refine plain_of_W ok ok10 (by simp) ?_
  have hm := number_range cm
  unfold BodyW
  have e0 : code Go.Proofs.Try.f10 = code Go.Proofs.Try.f10 := rfl
  conv at e0 => rhs; simp only [code, Go.Proofs.Try.f10, Option.getD_some]
  rw [e0]
  simp only [W_skip, W_region, W_seq, W_cond, W_block, W_exit, W_label, W_ret, W_range, OpsW_nil, OpsW_app, OpsW_app', OpsW_op, OpsW_guard, upd_some, upd_none, Br_W1, Br_W2, Br_O1, Br_O2, opF, evalT, evalO, ofConst, argFr, binF, intF, unF, idxN_nat, reduceIte, reduceCtorEq, Nat.reduceEqDiff, Nat.reduceAdd, Nat.reduceMul, Option.getD_some, Option.getD_none, Option.map_some, Option.map_none, Option.bind_some, Option.some.injEq, Prod.mk.injEq, List.getElem?_toArray, List.getElem?_cons_zero, List.getElem?_cons_succ, List.getElem?_nil, Nat.succ_ne_zero, and_self, true_and, and_true, true_or, or_true, false_or, or_false, exists_eq_left, exists_eq_left', exists_eq, exists_and_left, and_assoc, if_true, if_false, decide_true, decide_false, Bool.false_eq_true, beq_self_eq_true, Bool.true_beq, Bool.false_beq, Bool.not_true, Bool.not_false, ne_eq, not_true_eq_false, not_false_eq_true, List.length_cons, List.length_nil, decide_eq_true_eq, decide_eq_false_iff_not, callB, List.zip_cons_cons, List.zip_nil_right, List.zip_nil_left, List.map_cons, List.map_nil, List.size_toArray, partF, TI.agg, scal, isAgg, cellsOf, tokRo, cellOk, List.all_cons, List.all_nil, Bool.and_true, Bool.true_and, Bool.or_true, Bool.true_or, Bool.or_false, Bool.and_self, Nat.reduceLeDiff, Nat.reduceLT, Nat.lt_add_one, Nat.zero_lt_succ, range1, range2, range3, range4, Option.isSome_some, splice, fillF, List.take_zero, List.drop_zero, List.drop_succ_cons, List.take_succ_cons, List.nil_append, List.cons_append, Int.reduceEq, Int.reduceLT, Int.reduceAdd, Int.reduceSub, Int.reduceMul, T3, T4, T22, T41]
  refine OpsW_pl (number_plain cm) rfl rfl (by simp only [W_skip, W_region, W_seq, W_cond, W_block, W_exit, W_label, W_ret, W_range, OpsW_nil, OpsW_app, OpsW_app', OpsW_op, OpsW_guard, upd_some, upd_none, Br_W1, Br_W2, Br_O1, Br_O2, opF, evalT, evalO, ofConst, argFr, binF, intF, unF, idxN_nat, reduceIte, reduceCtorEq, Nat.reduceEqDiff, Nat.reduceAdd, Nat.reduceMul, Option.getD_some, Option.getD_none, Option.map_some, Option.map_none, Option.bind_some, Option.some.injEq, Prod.mk.injEq, List.getElem?_toArray, List.getElem?_cons_zero, List.getElem?_cons_succ, List.getElem?_nil, Nat.succ_ne_zero, and_self, true_and, and_true, true_or, or_true, false_or, or_false, exists_eq_left, exists_eq_left', exists_eq, exists_and_left, and_assoc, if_true, if_false, decide_true, decide_false, Bool.false_eq_true, beq_self_eq_true, Bool.true_beq, Bool.false_beq, Bool.not_true, Bool.not_false, ne_eq, not_true_eq_false, not_false_eq_true, List.length_cons, List.length_nil, decide_eq_true_eq, decide_eq_false_iff_not, callB, List.zip_cons_cons, List.zip_nil_right, List.zip_nil_left, List.map_cons, List.map_nil, List.size_toArray, partF, TI.agg, scal, isAgg, cellsOf, tokRo, cellOk, List.all_cons, List.all_nil, Bool.and_true, Bool.true_and, Bool.or_true, Bool.true_or, Bool.or_false, Bool.and_self, Nat.reduceLeDiff, Nat.reduceLT, Nat.lt_add_one, Nat.zero_lt_succ, range1, range2, range3, range4, Option.isSome_some, splice, fillF, List.take_zero, List.drop_zero, List.drop_succ_cons, List.take_succ_cons, List.nil_append, List.cons_append, Int.reduceEq, Int.reduceLT, Int.reduceAdd, Int.reduceSub, Int.reduceMul, callArgs, strips, strip_sl, strip_int, strip_bool, strip_str, T3, T22] <;> rfl) ?_
  simp only [W_skip, W_region, W_seq, W_cond, W_block, W_exit, W_label, W_ret, W_range, OpsW_nil, OpsW_app, OpsW_app', OpsW_op, OpsW_guard, upd_some, upd_none, Br_W1, Br_W2, Br_O1, Br_O2, opF, evalT, evalO, ofConst, argFr, binF, intF, unF, idxN_nat, reduceIte, reduceCtorEq, Nat.reduceEqDiff, Nat.reduceAdd, Nat.reduceMul, Option.getD_some, Option.getD_none, Option.map_some, Option.map_none, Option.bind_some, Option.some.injEq, Prod.mk.injEq, List.getElem?_toArray, List.getElem?_cons_zero, List.getElem?_cons_succ, List.getElem?_nil, Nat.succ_ne_zero, and_self, true_and, and_true, true_or, or_true, false_or, or_false, exists_eq_left, exists_eq_left', exists_eq, exists_and_left, and_assoc, if_true, if_false, decide_true, decide_false, Bool.false_eq_true, beq_self_eq_true, Bool.true_beq, Bool.false_beq, Bool.not_true, Bool.not_false, ne_eq, not_true_eq_false, not_false_eq_true, List.length_cons, List.length_nil, decide_eq_true_eq, decide_eq_false_iff_not, callB, List.zip_cons_cons, List.zip_nil_right, List.zip_nil_left, List.map_cons, List.map_nil, List.size_toArray, partF, TI.agg, scal, isAgg, cellsOf, tokRo, cellOk, List.all_cons, List.all_nil, Bool.and_true, Bool.true_and, Bool.or_true, Bool.true_or, Bool.or_false, Bool.and_self, Nat.reduceLeDiff, Nat.reduceLT, Nat.lt_add_one, Nat.zero_lt_succ, range1, range2, range3, range4, Option.isSome_some, splice, fillF, List.take_zero, List.drop_zero, List.drop_succ_cons, List.take_succ_cons, List.nil_append, List.cons_append, Int.reduceEq, Int.reduceLT, Int.reduceAdd, Int.reduceSub, Int.reduceMul, T3, T4, T22, T41, List.set_cons_zero]
  refine OpsW_sp (runs_spec l t (number cm) _) rfl rfl rfl (by simp only [W_skip, W_region, W_seq, W_cond, W_block, W_exit, W_label, W_ret, W_range, OpsW_nil, OpsW_app, OpsW_app', OpsW_op, OpsW_guard, upd_some, upd_none, Br_W1, Br_W2, Br_O1, Br_O2, opF, evalT, evalO, ofConst, argFr, binF, intF, unF, idxN_nat, reduceIte, reduceCtorEq, Nat.reduceEqDiff, Nat.reduceAdd, Nat.reduceMul, Option.getD_some, Option.getD_none, Option.map_some, Option.map_none, Option.bind_some, Option.some.injEq, Prod.mk.injEq, List.getElem?_toArray, List.getElem?_cons_zero, List.getElem?_cons_succ, List.getElem?_nil, Nat.succ_ne_zero, and_self, true_and, and_true, true_or, or_true, false_or, or_false, exists_eq_left, exists_eq_left', exists_eq, exists_and_left, and_assoc, if_true, if_false, decide_true, decide_false, Bool.false_eq_true, beq_self_eq_true, Bool.true_beq, Bool.false_beq, Bool.not_true, Bool.not_false, ne_eq, not_true_eq_false, not_false_eq_true, List.length_cons, List.length_nil, decide_eq_true_eq, decide_eq_false_iff_not, callB, List.zip_cons_cons, List.zip_nil_right, List.zip_nil_left, List.map_cons, List.map_nil, List.size_toArray, partF, TI.agg, scal, isAgg, cellsOf, tokRo, cellOk, List.all_cons, List.all_nil, Bool.and_true, Bool.true_and, Bool.or_true, Bool.true_or, Bool.or_false, Bool.and_self, Nat.reduceLeDiff, Nat.reduceLT, Nat.lt_add_one, Nat.zero_lt_succ, range1, range2, range3, range4, Option.isSome_some, splice, fillF, List.take_zero, List.drop_zero, List.drop_succ_cons, List.take_succ_cons, List.nil_append, List.cons_append, Int.reduceEq, Int.reduceLT, Int.reduceAdd, Int.reduceSub, Int.reduceMul, callArgs, strips, strip_sl, strip_int, strip_bool, strip_str, T3, T22, List.append_nil] <;> rfl) ?_
  simp only [W_skip, W_region, W_seq, W_cond, W_block, W_exit, W_label, W_ret, W_range, OpsW_nil, OpsW_app, OpsW_app', OpsW_op, OpsW_guard, upd_some, upd_none, Br_W1, Br_W2, Br_O1, Br_O2, opF, evalT, evalO, ofConst, argFr, binF, intF, unF, idxN_nat, reduceIte, reduceCtorEq, Nat.reduceEqDiff, Nat.reduceAdd, Nat.reduceMul, Option.getD_some, Option.getD_none, Option.map_some, Option.map_none, Option.bind_some, Option.some.injEq, Prod.mk.injEq, List.getElem?_toArray, List.getElem?_cons_zero, List.getElem?_cons_succ, List.getElem?_nil, Nat.succ_ne_zero, and_self, true_and, and_true, true_or, or_true, false_or, or_false, exists_eq_left, exists_eq_left', exists_eq, exists_and_left, and_assoc, if_true, if_false, decide_true, decide_false, Bool.false_eq_true, beq_self_eq_true, Bool.true_beq, Bool.false_beq, Bool.not_true, Bool.not_false, ne_eq, not_true_eq_false, not_false_eq_true, List.length_cons, List.length_nil, decide_eq_true_eq, decide_eq_false_iff_not, callB, List.zip_cons_cons, List.zip_nil_right, List.zip_nil_left, List.map_cons, List.map_nil, List.size_toArray, partF, TI.agg, scal, isAgg, cellsOf, tokRo, cellOk, List.all_cons, List.all_nil, Bool.and_true, Bool.true_and, Bool.or_true, Bool.true_or, Bool.or_false, Bool.and_self, Nat.reduceLeDiff, Nat.reduceLT, Nat.lt_add_one, Nat.zero_lt_succ, range1, range2, range3, range4, Option.isSome_some, splice, fillF, List.take_zero, List.drop_zero, List.drop_succ_cons, List.take_succ_cons, List.nil_append, List.cons_append, Int.reduceEq, Int.reduceLT, Int.reduceAdd, Int.reduceSub, Int.reduceMul, T3, T4, T22, T41, List.length_append]
  refine pack_range l t cm hl _ (by simp [upd]) (by simp [upd]) (by simp [upd]) _ (fun p st2 s1 ho => ?_)
  simp only [W_skip, W_region, W_seq, W_cond, W_block, W_exit, W_label, W_ret, W_range, OpsW_nil, OpsW_app, OpsW_app', OpsW_op, OpsW_guard, upd_some, upd_none, Br_W1, Br_W2, Br_O1, Br_O2, opF, evalT, evalO, ofConst, argFr, binF, intF, unF, idxN_nat, reduceIte, reduceCtorEq, Nat.reduceEqDiff, Nat.reduceAdd, Nat.reduceMul, Option.getD_some, Option.getD_none, Option.map_some, Option.map_none, Option.bind_some, Option.some.injEq, Prod.mk.injEq, List.getElem?_toArray, List.getElem?_cons_zero, List.getElem?_cons_succ, List.getElem?_nil, Nat.succ_ne_zero, and_self, true_and, and_true, true_or, or_true, false_or, or_false, exists_eq_left, exists_eq_left', exists_eq, exists_and_left, and_assoc, if_true, if_false, decide_true, decide_false, Bool.false_eq_true, beq_self_eq_true, Bool.true_beq, Bool.false_beq, Bool.not_true, Bool.not_false, ne_eq, not_true_eq_false, not_false_eq_true, List.length_cons, List.length_nil, decide_eq_true_eq, decide_eq_false_iff_not, callB, List.zip_cons_cons, List.zip_nil_right, List.zip_nil_left, List.map_cons, List.map_nil, List.size_toArray, partF, TI.agg, scal, isAgg, cellsOf, tokRo, cellOk, List.all_cons, List.all_nil, Bool.and_true, Bool.true_and, Bool.or_true, Bool.true_or, Bool.or_false, Bool.and_self, Nat.reduceLeDiff, Nat.reduceLT, Nat.lt_add_one, Nat.zero_lt_succ, range1, range2, range3, range4, Option.isSome_some, splice, fillF, List.take_zero, List.drop_zero, List.drop_succ_cons, List.take_succ_cons, List.nil_append, List.cons_append, Int.reduceEq, Int.reduceLT, Int.reduceAdd, Int.reduceSub, Int.reduceMul, T3, T4, T22, T41, s1, resF, resAll, resOne]
  exact ⟨1, ho.pub⟩
end Go.Pv.Kp
