/-
  Collation tables (15): the check of classes.
-/
import Derived.Test.YtgbaaobgnpjhcaaGreatDoorCtN
import Derived.Test.YtgbaaobgnpjhcaaGreatDoorPvAny
import Derived.Test.YtgbaaobgnpjhcaaGreatDoorPvWb
import Derived.WalkKit
import Derived.ProofKit
import Derived.OpenShut
import Derived.ShutString
import Derived.ChangeOld
import Derived.Below
import Derived.SizedLaws
import Derived.BigCall
import Derived.Lib.ItoaLen
import Derived.Lib.SmallJoins
import Derived.Lib.AppendIntMem
set_option linter.all false
set_option linter.unusedSimpArgs false
set_option linter.unusedVariables false
section
namespace Go.Pv.Ct
open Go.Pv
set_option maxRecDepth 20000

/-- The same, with one region looked at in every order. -/
noncomputable def EX : Env := { EE with xr := fun i => i == 10 }
theorem okX : EnvOk EX where
  types t ti h := ok.types t ti h
  mixed := ok.mixed
  eqs t h := ok.eqs t h
theorem okX93 : FnOk EX 93 77 [.tmp 2] (code Go.Proofs.Tryz.f93) where
  ex := ⟨Go.Proofs.Tryz.f93, Go.Proofs.Tryz.func93, by kernel_rfl, by kernel_rfl, by kernel_rfl, by kernel_rfl⟩
  code := by kernel_rfl
  res := by kernel_rfl
theorem X3 : EX.T 3 = some ⟨.int .i64, 1, [.int .i64 0]⟩ := T3
theorem X4 : EX.T 4 = some ⟨.bool, 1, [.bool false]⟩ := T4
theorem X27 : EX.T 27 = some ⟨.int .i64, 1, [.int .i64 0]⟩ := T27
theorem X30 : EX.T 30 = some ⟨.slice 66, 1, [.sl 3 [] .full]⟩ := T30
theorem X66 : EX.T 66 = some ⟨.strct [(0, 3), (1, 3), (2, 3)], 3, [.int .i64 0, .int .i64 0, .int .i64 0]⟩ := T66
theorem xrX : EX.xr 10 = true := rfl

def spBad (s : Span) : Bool := decide (s.lo < 0) || decide (s.lo > s.hi) || decide (s.hi > 1114111) || decide (s.v < 1) || decide (s.v > 254)
def spAdj (a b : Span) : Bool := decide (a.hi ≥ b.lo) || (IntKind.i64.wrap (a.hi + 1) == b.lo && a.v == b.v)
def spOrd : List Span → Bool
  | a :: b :: l => spAdj a b || spOrd (b :: l)
  | _ => false
theorem spOrd_drop {l : List Span} {i : Nat} (h : i + 1 < l.length) : spOrd (l.drop i) = (spAdj l[i] l[i + 1] || spOrd (l.drop (i + 1))) := by
  rw [List.drop_eq_getElem_cons (by omega : i < l.length), List.drop_eq_getElem_cons h, spOrd]
/-- The error of classes. -/
def ordErr (l : List Span) : Int := if l.any spBad then 1 else if spOrd l then 4 else if l.any korB then 11 else 0

/-- What holds in the region that takes two neighbours, whatever has been done of it. -/
structure RI (f0 : Fr) (s0 : Store) (vals : Nat → PV) (z a b : List PV) (L : Nat → Bool) (fr : Fr) (st : Store) : Prop where
  keep : ∀ t, t ≠ 6 → t ≠ 7 → (t < 46 ∨ 55 ≤ t) → fr t = f0 t
  tmp : ∀ k, k < 9 → L k = true → fr (46 + k) = vals k
  c9 : L 11 = true → L 9 = true
  c10 : L 12 = true → L 10 = true
  p : ∃ i j : Nat, i ≠ j ∧ (L 9 = true → fr 6 = .optr i 3 0 ∧ st[i]? = some (.cells (if L 11 then a else z))) ∧ (L 10 = true → fr 7 = .optr j 3 0 ∧ st[j]? = some (.cells (if L 12 then b else z)))
theorem RI.start {f0 : Fr} {s0 : Store} {vals z a b} : RI f0 s0 vals z a b (fun _ => false) f0 s0 :=
  ⟨fun _ _ _ _ => rfl, fun _ _ h => by simp at h, fun h => by simp at h, fun h => by simp at h, 0, 1, by decide, fun h => by simp at h, fun h => by simp at h⟩
theorem RI.put {f0 : Fr} {s0 : Store} {vals z a b L fr st} (h : RI f0 s0 vals z a b L fr st) {k : Nat} (hk : k < 9) {v : PV} (hv : v = vals k) {d : Nat} (hd : d = 46 + k) : RI f0 s0 vals z a b (adds L k) (upd fr (some d) v) st := by
  subst hd hv
  obtain ⟨h1, h2, c9, c10, i, j, h3, h4, h5⟩ := h
  refine ⟨fun t a b c => ?_, fun m hm hL => ?_, fun q => ?_, fun q => ?_, i, j, h3, fun q => ?_, fun q => ?_⟩
  · rw [upd_some, if_neg (by omega)]; exact h1 t a b c
  · rw [upd_some]
    by_cases e : m = k
    · subst e; rw [if_pos rfl]
    · rw [if_neg (by omega)]; exact h2 m hm (by rw [adds_ne e] at hL; exact hL)
  · rw [adds_ne (by omega)] at q ⊢; exact c9 q
  · rw [adds_ne (by omega)] at q ⊢; exact c10 q
  · rw [adds_ne (by omega)] at q; rw [adds_ne (by omega), upd_some, if_neg (by omega)]; exact h4 q
  · rw [adds_ne (by omega)] at q; rw [adds_ne (by omega), upd_some, if_neg (by omega)]; exact h5 q
theorem RI.alloc6 {f0 : Fr} {s0 : Store} {vals z a b L fr st} (h : RI f0 s0 vals z a b L fr st) (h9 : L 9 = false) (h11 : L 11 = false) : RI f0 s0 vals z a b (adds L 9) (upd fr (some 6) (.optr st.length 3 0)) (st ++ [.cells z]) := by
  obtain ⟨h1, h2, c9, c10, i, j, h3, h4, h5⟩ := h
  refine ⟨fun t a b c => ?_, fun m hm hL => ?_, fun q => adds_eq, fun q => ?_, st.length, if L 10 then j else st.length + 1, ?_, fun q => ?_, fun q => ?_⟩
  · rw [upd_some, if_neg (by omega)]; exact h1 t a b c
  · rw [upd_some, if_neg (by omega)]; exact h2 m hm (by rw [adds_ne (by omega)] at hL; exact hL)
  · rw [adds_ne (by omega)] at q ⊢; exact c10 q
  · split
    · rename_i e; have := get_lt (h5 e).2; omega
    · omega
  · rw [adds_ne (by omega), upd_some, if_pos rfl, h11]; exact ⟨rfl, by simp⟩
  · rw [adds_ne (by omega)] at q; rw [adds_ne (by omega), upd_some, if_neg (by omega), if_pos q]; exact ⟨(h5 q).1, get_app (h5 q).2⟩
theorem RI.alloc7 {f0 : Fr} {s0 : Store} {vals z a b L fr st} (h : RI f0 s0 vals z a b L fr st) (h9 : L 10 = false) (h11 : L 12 = false) : RI f0 s0 vals z a b (adds L 10) (upd fr (some 7) (.optr st.length 3 0)) (st ++ [.cells z]) := by
  obtain ⟨h1, h2, c9, c10, i, j, h3, h4, h5⟩ := h
  refine ⟨fun t a b c => ?_, fun m hm hL => ?_, fun q => ?_, fun q => adds_eq, if L 9 then i else st.length + 1, st.length, ?_, fun q => ?_, fun q => ?_⟩
  · rw [upd_some, if_neg (by omega)]; exact h1 t a b c
  · rw [upd_some, if_neg (by omega)]; exact h2 m hm (by rw [adds_ne (by omega)] at hL; exact hL)
  · rw [adds_ne (by omega)] at q ⊢; exact c9 q
  · split
    · rename_i e; have := get_lt (h4 e).2; omega
    · omega
  · rw [adds_ne (by omega)] at q; rw [adds_ne (by omega), upd_some, if_neg (by omega), if_pos q]; exact ⟨(h4 q).1, get_app (h4 q).2⟩
  · rw [adds_ne (by omega), upd_some, if_pos rfl, h11]; exact ⟨rfl, by simp⟩
theorem RI.store6 {f0 : Fr} {s0 : Store} {vals z a b L fr st} (h : RI f0 s0 vals z a b L fr st) (h9 : L 9 = true) : ∃ i, fr 6 = .optr i 3 0 ∧ (∃ c, c.length = c.length ∧ st[i]? = some (.cells c) ∧ (c = a ∨ c = z)) ∧ RI f0 s0 vals z a b (adds L 11) fr (st.set i (.cells a)) := by
  obtain ⟨h1, h2, c9, c10, i, j, h3, h4, h5⟩ := h
  refine ⟨i, (h4 h9).1, ⟨_, rfl, (h4 h9).2, by split <;> simp⟩, h1, fun m hm hL => h2 m hm (by rw [adds_ne (by omega)] at hL; exact hL), fun q => by rw [adds_ne (by omega)]; exact h9, fun q => by rw [adds_ne (by omega)] at q ⊢; exact c10 q, i, j, h3, fun q => ⟨(h4 h9).1, ?_⟩, fun q => ?_⟩
  · rw [adds_eq, if_pos rfl, get_set_eq (get_lt (h4 h9).2)]
  · rw [adds_ne (by omega)] at q
    rw [adds_ne (by omega), get_set_ne _ h3]
    exact h5 q
theorem RI.store7 {f0 : Fr} {s0 : Store} {vals z a b L fr st} (h : RI f0 s0 vals z a b L fr st) (h9 : L 10 = true) : ∃ i, fr 7 = .optr i 3 0 ∧ (∃ c, c.length = c.length ∧ st[i]? = some (.cells c) ∧ (c = b ∨ c = z)) ∧ RI f0 s0 vals z a b (adds L 12) fr (st.set i (.cells b)) := by
  obtain ⟨h1, h2, c9, c10, i, j, h3, h4, h5⟩ := h
  refine ⟨j, (h5 h9).1, ⟨_, rfl, (h5 h9).2, by split <;> simp⟩, h1, fun m hm hL => h2 m hm (by rw [adds_ne (by omega)] at hL; exact hL), fun q => by rw [adds_ne (by omega)] at q ⊢; exact c9 q, fun q => by rw [adds_ne (by omega)]; exact h9, i, j, h3, fun q => ?_, fun q => ⟨(h5 h9).1, ?_⟩⟩
  · rw [adds_ne (by omega)] at q
    rw [adds_ne (by omega), get_set_ne _ (Ne.symm h3)]
    exact h4 q
  · rw [adds_eq, if_pos rfl, get_set_eq (get_lt (h5 h9).2)]

theorem AnyW_gen {E : Env} {ops : Array Oper} {KK : Fr → Store → Prop} {n : Nat} {a : Array Bool} {fr : Fr} {st : Store} (Q : Fr → Prop) (hq : Q fr) (h : ∀ fr, Q fr → AnyW E ops KK n a fr st) : AnyW E ops KK n a fr st := h fr hq
theorem specQ_X {f : FuncId} {args : List PV} {st : Store} {Q : PV → Store → Prop} (h : SpecQ EE f args st Q) : SpecQ EX f args st Q := h
set_option maxHeartbeats 8000000 in
theorem ordChk3 (l : List Span) (t : Tok) (hl : l.length < 9223372036854775808) (h1 : l.any spBad = false) (h2 : spOrd l = false) (fr : Fr) (st : Store) (f0 : fr 0 = .sl 3 (spR l) t) :
    W EX 77 (part [true, true, true] (code Go.Proofs.Tryz.f93)) fr st (EndW EX [.tmp 2] fun p st1 => ∃ n, pub st1 n p = some (.int .i64 (ordErr l))) := by
  have e1 : part [true, true, true] (code Go.Proofs.Tryz.f93) = part [true, true, true] (code Go.Proofs.Tryz.f93) := rfl
  conv at e1 => rhs; simp only [part, code, Go.Proofs.Tryz.f93, Option.getD_some]
  rw [e1]
  clear e1
  have hn : ordErr l = if l.any korB then 11 else 0 := by
    rw [ordErr, h1, h2]; rfl
  obtain ⟨r, st1, hs, rfl, hg⟩ := specQ_X (cfS_spec l t 124 korB st rfl korean_plain hl)
  simp only [W_skip, W_region, W_seq, W_cond, W_block, W_exit, W_label, W_ret, W_range, OpsW_nil, OpsW_app, OpsW_app', OpsW_op, OpsW_guard, upd_some, upd_none, Br_W1, Br_W2, Br_O1, Br_O2, opF, evalT, evalO, ofConst, argFr, binF, intF, unF, idxN_nat, reduceIte, reduceCtorEq, Nat.reduceEqDiff, Nat.reduceAdd, Nat.reduceMul, Option.getD_some, Option.getD_none, Option.map_some, Option.map_none, Option.bind_some, Option.some.injEq, Prod.mk.injEq, List.getElem?_toArray, List.getElem?_cons_zero, List.getElem?_cons_succ, List.getElem?_nil, Nat.succ_ne_zero, and_self, true_and, and_true, true_or, or_true, false_or, or_false, exists_eq_left, exists_eq_left', exists_eq, exists_and_left, and_assoc, if_true, if_false, decide_true, decide_false, Bool.false_eq_true, beq_self_eq_true, Bool.true_beq, Bool.false_beq, Bool.not_true, Bool.not_false, ne_eq, not_true_eq_false, not_false_eq_true, List.length_cons, List.length_nil, decide_eq_true_eq, decide_eq_false_iff_not, callB, List.zip_cons_cons, List.zip_nil_right, List.zip_nil_left, List.map_cons, List.map_nil, List.size_toArray, partF, TI.agg, scal, isAgg, cellsOf, tokRo, cellOk, List.all_cons, List.all_nil, Bool.and_true, Bool.true_and, Bool.or_true, Bool.true_or, Bool.or_false, Bool.and_self, Nat.reduceLeDiff, Nat.reduceLT, Nat.lt_add_one, Nat.zero_lt_succ, range1, range2, range3, range4, Option.isSome_some, splice, fillF, List.take_zero, List.drop_zero, List.drop_succ_cons, List.take_succ_cons, List.nil_append, List.cons_append, Int.reduceEq, Int.reduceLT, Int.reduceAdd, Int.reduceSub, Int.reduceMul, W_regionD, xrE, OpsW_eqnil, OpsW_neqnil, NilW_sl, List.set_cons_zero, List.set_cons_succ, List.headD_cons, T3, T4, T27, T30, T66, T150, X3, X4, X27, X30, X66, spR_length, f0]
  refine OpsW_sp hs (by simp only [W_skip, W_region, W_seq, W_cond, W_block, W_exit, W_label, W_ret, W_range, OpsW_nil, OpsW_app, OpsW_app', OpsW_op, OpsW_guard, upd_some, upd_none, Br_W1, Br_W2, Br_O1, Br_O2, opF, evalT, evalO, ofConst, argFr, binF, intF, unF, idxN_nat, reduceIte, reduceCtorEq, Nat.reduceEqDiff, Nat.reduceAdd, Nat.reduceMul, Option.getD_some, Option.getD_none, Option.map_some, Option.map_none, Option.bind_some, Option.some.injEq, Prod.mk.injEq, List.getElem?_toArray, List.getElem?_cons_zero, List.getElem?_cons_succ, List.getElem?_nil, Nat.succ_ne_zero, and_self, true_and, and_true, true_or, or_true, false_or, or_false, exists_eq_left, exists_eq_left', exists_eq, exists_and_left, and_assoc, if_true, if_false, decide_true, decide_false, Bool.false_eq_true, beq_self_eq_true, Bool.true_beq, Bool.false_beq, Bool.not_true, Bool.not_false, ne_eq, not_true_eq_false, not_false_eq_true, List.length_cons, List.length_nil, decide_eq_true_eq, decide_eq_false_iff_not, callB, List.zip_cons_cons, List.zip_nil_right, List.zip_nil_left, List.map_cons, List.map_nil, List.size_toArray, partF, TI.agg, scal, isAgg, cellsOf, tokRo, cellOk, List.all_cons, List.all_nil, Bool.and_true, Bool.true_and, Bool.or_true, Bool.true_or, Bool.or_false, Bool.and_self, Nat.reduceLeDiff, Nat.reduceLT, Nat.lt_add_one, Nat.zero_lt_succ, range1, range2, range3, range4, Option.isSome_some, splice, fillF, List.take_zero, List.drop_zero, List.drop_succ_cons, List.take_succ_cons, List.nil_append, List.cons_append, Int.reduceEq, Int.reduceLT, Int.reduceAdd, Int.reduceSub, Int.reduceMul, W_regionD, xrE, OpsW_eqnil, OpsW_neqnil, NilW_sl, List.set_cons_zero, List.set_cons_succ, List.headD_cons, T3, T4, T27, T30, T66, T150] <;> rfl) rfl rfl (by simp only [W_skip, W_region, W_seq, W_cond, W_block, W_exit, W_label, W_ret, W_range, OpsW_nil, OpsW_app, OpsW_app', OpsW_op, OpsW_guard, upd_some, upd_none, Br_W1, Br_W2, Br_O1, Br_O2, opF, evalT, evalO, ofConst, argFr, binF, intF, unF, idxN_nat, reduceIte, reduceCtorEq, Nat.reduceEqDiff, Nat.reduceAdd, Nat.reduceMul, Option.getD_some, Option.getD_none, Option.map_some, Option.map_none, Option.bind_some, Option.some.injEq, Prod.mk.injEq, List.getElem?_toArray, List.getElem?_cons_zero, List.getElem?_cons_succ, List.getElem?_nil, Nat.succ_ne_zero, and_self, true_and, and_true, true_or, or_true, false_or, or_false, exists_eq_left, exists_eq_left', exists_eq, exists_and_left, and_assoc, if_true, if_false, decide_true, decide_false, Bool.false_eq_true, beq_self_eq_true, Bool.true_beq, Bool.false_beq, Bool.not_true, Bool.not_false, ne_eq, not_true_eq_false, not_false_eq_true, List.length_cons, List.length_nil, decide_eq_true_eq, decide_eq_false_iff_not, callB, List.zip_cons_cons, List.zip_nil_right, List.zip_nil_left, List.map_cons, List.map_nil, List.size_toArray, partF, TI.agg, scal, isAgg, cellsOf, tokRo, cellOk, List.all_cons, List.all_nil, Bool.and_true, Bool.true_and, Bool.or_true, Bool.true_or, Bool.or_false, Bool.and_self, Nat.reduceLeDiff, Nat.reduceLT, Nat.lt_add_one, Nat.zero_lt_succ, range1, range2, range3, range4, Option.isSome_some, splice, fillF, List.take_zero, List.drop_zero, List.drop_succ_cons, List.take_succ_cons, List.nil_append, List.cons_append, Int.reduceEq, Int.reduceLT, Int.reduceAdd, Int.reduceSub, Int.reduceMul, W_regionD, xrE, OpsW_eqnil, OpsW_neqnil, NilW_sl, List.set_cons_zero, List.set_cons_succ, List.headD_cons, T3, T4, T27, T30, T66, T150, callArgs, X30, f0] <;> rfl) ?_
  rcases Bool.eq_false_or_eq_true (l.any korB) with b | b
  · simp only [W_skip, W_region, W_seq, W_cond, W_block, W_exit, W_label, W_ret, W_range, OpsW_nil, OpsW_app, OpsW_app', OpsW_op, OpsW_guard, upd_some, upd_none, Br_W1, Br_W2, Br_O1, Br_O2, opF, evalT, evalO, ofConst, argFr, binF, intF, unF, idxN_nat, reduceIte, reduceCtorEq, Nat.reduceEqDiff, Nat.reduceAdd, Nat.reduceMul, Option.getD_some, Option.getD_none, Option.map_some, Option.map_none, Option.bind_some, Option.some.injEq, Prod.mk.injEq, List.getElem?_toArray, List.getElem?_cons_zero, List.getElem?_cons_succ, List.getElem?_nil, Nat.succ_ne_zero, and_self, true_and, and_true, true_or, or_true, false_or, or_false, exists_eq_left, exists_eq_left', exists_eq, exists_and_left, and_assoc, if_true, if_false, decide_true, decide_false, Bool.false_eq_true, beq_self_eq_true, Bool.true_beq, Bool.false_beq, Bool.not_true, Bool.not_false, ne_eq, not_true_eq_false, not_false_eq_true, List.length_cons, List.length_nil, decide_eq_true_eq, decide_eq_false_iff_not, callB, List.zip_cons_cons, List.zip_nil_right, List.zip_nil_left, List.map_cons, List.map_nil, List.size_toArray, partF, TI.agg, scal, isAgg, cellsOf, tokRo, cellOk, List.all_cons, List.all_nil, Bool.and_true, Bool.true_and, Bool.or_true, Bool.true_or, Bool.or_false, Bool.and_self, Nat.reduceLeDiff, Nat.reduceLT, Nat.lt_add_one, Nat.zero_lt_succ, range1, range2, range3, range4, Option.isSome_some, splice, fillF, List.take_zero, List.drop_zero, List.drop_succ_cons, List.take_succ_cons, List.nil_append, List.cons_append, Int.reduceEq, Int.reduceLT, Int.reduceAdd, Int.reduceSub, Int.reduceMul, W_regionD, xrE, OpsW_eqnil, OpsW_neqnil, NilW_sl, List.set_cons_zero, List.set_cons_succ, List.headD_cons, T3, T4, T27, T30, T66, T150, X3, X4, X27, X30, X66, b, resF, resAll, resOne, EndW]
    exact ⟨1, by rw [pub_int, hn, b]; rfl⟩
  · simp only [W_skip, W_region, W_seq, W_cond, W_block, W_exit, W_label, W_ret, W_range, OpsW_nil, OpsW_app, OpsW_app', OpsW_op, OpsW_guard, upd_some, upd_none, Br_W1, Br_W2, Br_O1, Br_O2, opF, evalT, evalO, ofConst, argFr, binF, intF, unF, idxN_nat, reduceIte, reduceCtorEq, Nat.reduceEqDiff, Nat.reduceAdd, Nat.reduceMul, Option.getD_some, Option.getD_none, Option.map_some, Option.map_none, Option.bind_some, Option.some.injEq, Prod.mk.injEq, List.getElem?_toArray, List.getElem?_cons_zero, List.getElem?_cons_succ, List.getElem?_nil, Nat.succ_ne_zero, and_self, true_and, and_true, true_or, or_true, false_or, or_false, exists_eq_left, exists_eq_left', exists_eq, exists_and_left, and_assoc, if_true, if_false, decide_true, decide_false, Bool.false_eq_true, beq_self_eq_true, Bool.true_beq, Bool.false_beq, Bool.not_true, Bool.not_false, ne_eq, not_true_eq_false, not_false_eq_true, List.length_cons, List.length_nil, decide_eq_true_eq, decide_eq_false_iff_not, callB, List.zip_cons_cons, List.zip_nil_right, List.zip_nil_left, List.map_cons, List.map_nil, List.size_toArray, partF, TI.agg, scal, isAgg, cellsOf, tokRo, cellOk, List.all_cons, List.all_nil, Bool.and_true, Bool.true_and, Bool.or_true, Bool.true_or, Bool.or_false, Bool.and_self, Nat.reduceLeDiff, Nat.reduceLT, Nat.lt_add_one, Nat.zero_lt_succ, range1, range2, range3, range4, Option.isSome_some, splice, fillF, List.take_zero, List.drop_zero, List.drop_succ_cons, List.take_succ_cons, List.nil_append, List.cons_append, Int.reduceEq, Int.reduceLT, Int.reduceAdd, Int.reduceSub, Int.reduceMul, W_regionD, xrE, OpsW_eqnil, OpsW_neqnil, NilW_sl, List.set_cons_zero, List.set_cons_succ, List.headD_cons, T3, T4, T27, T30, T66, T150, X3, X4, X27, X30, X66, b, resF, resAll, resOne, EndW]
    exact ⟨1, by rw [pub_int, hn, b]; rfl⟩
set_option maxHeartbeats 8000000 in
theorem ordChk2 (l : List Span) (t : Tok) (hl : l.length < 9223372036854775808) (h1 : l.any spBad = false) (fr : Fr) (st : Store) (f0 : fr 0 = .sl 3 (spR l) t) :
    W EX 77 (part [true, true] (code Go.Proofs.Tryz.f93)) fr st (EndW EX [.tmp 2] fun p st1 => ∃ n, pub st1 n p = some (.int .i64 (ordErr l))) := by
  have e1 : part [true, true] (code Go.Proofs.Tryz.f93) = part [true, true] (code Go.Proofs.Tryz.f93) := rfl
  conv at e1 => rhs; simp only [part, code, Go.Proofs.Tryz.f93, Option.getD_some]
  rw [e1]
  clear e1
  have e1 : part [true, true, true] (code Go.Proofs.Tryz.f93) = part [true, true, true] (code Go.Proofs.Tryz.f93) := rfl
  conv at e1 => rhs; simp only [part, code, Go.Proofs.Tryz.f93, Option.getD_some]
  rw [← e1]
  clear e1
  have hn : spOrd l = true → ordErr l = 4 := by
    intro h
    rw [ordErr, h1, h]; rfl
  simp only [W_skip, W_region, W_seq, W_cond, W_block, W_exit, W_label, W_ret, W_range, OpsW_nil, OpsW_app, OpsW_app', OpsW_op, OpsW_guard, upd_some, upd_none, Br_W1, Br_W2, Br_O1, Br_O2, opF, evalT, evalO, ofConst, argFr, binF, intF, unF, idxN_nat, reduceIte, reduceCtorEq, Nat.reduceEqDiff, Nat.reduceAdd, Nat.reduceMul, Option.getD_some, Option.getD_none, Option.map_some, Option.map_none, Option.bind_some, Option.some.injEq, Prod.mk.injEq, List.getElem?_toArray, List.getElem?_cons_zero, List.getElem?_cons_succ, List.getElem?_nil, Nat.succ_ne_zero, and_self, true_and, and_true, true_or, or_true, false_or, or_false, exists_eq_left, exists_eq_left', exists_eq, exists_and_left, and_assoc, if_true, if_false, decide_true, decide_false, Bool.false_eq_true, beq_self_eq_true, Bool.true_beq, Bool.false_beq, Bool.not_true, Bool.not_false, ne_eq, not_true_eq_false, not_false_eq_true, List.length_cons, List.length_nil, decide_eq_true_eq, decide_eq_false_iff_not, callB, List.zip_cons_cons, List.zip_nil_right, List.zip_nil_left, List.map_cons, List.map_nil, List.size_toArray, partF, TI.agg, scal, isAgg, cellsOf, tokRo, cellOk, List.all_cons, List.all_nil, Bool.and_true, Bool.true_and, Bool.or_true, Bool.true_or, Bool.or_false, Bool.and_self, Nat.reduceLeDiff, Nat.reduceLT, Nat.lt_add_one, Nat.zero_lt_succ, range1, range2, range3, range4, Option.isSome_some, splice, fillF, List.take_zero, List.drop_zero, List.drop_succ_cons, List.take_succ_cons, List.nil_append, List.cons_append, Int.reduceEq, Int.reduceLT, Int.reduceAdd, Int.reduceSub, Int.reduceMul, W_regionD, xrE, OpsW_eqnil, OpsW_neqnil, NilW_sl, List.set_cons_zero, List.set_cons_succ, List.headD_cons, T3, T4, T27, T30, T66, T150, X3, X4, X27, X30, X66]
  refine W_loop (fun n fr st => ∃ (i : Nat), fr 0 = .sl 3 (spR l) t ∧ fr 5 = .int .i64 ((i : Int) + 1) ∧ i ≤ l.length ∧ spOrd l = spOrd (l.drop i) ∧ n = l.length - i) ?_ l.length _ _
    ⟨0, by simp [upd, f0], by simp [upd], by omega, by simp, by omega⟩
  clear f0 fr st
  rintro n fr st ⟨i, f0, f5, hi, hc, rfl⟩
  by_cases ci : (i : Int) + 1 < (l.length : Int)
  · have ia : i < l.length := by omega
    have ib : i + 1 < l.length := by omega
    have ga := spR_get l i ia
    have gb := spR_get l (i + 1) ib
    have hd := spOrd_drop ib
    have hx : idxN (.int .i64 ((i : Int) + 1)) = some (i + 1) := idxN_nat (i + 1)
    have hw0 : IntKind.i64.wrap ((i : Int) + 1 - 1) = ((i : Nat) : Int) := by rw [show (i : Int) + 1 - 1 = i by omega]; exact wrap_small (by omega) (by omega)
    have hw : IntKind.i64.wrap ((i : Int) + 1 + 1) = ((i + 1 : Nat) : Int) + 1 := by rw [wrap_small (by omega) (by omega)]; omega
    simp only [W_skip, W_region, W_seq, W_cond, W_block, W_exit, W_label, W_ret, W_range, OpsW_nil, OpsW_app, OpsW_app', OpsW_op, OpsW_guard, upd_some, upd_none, Br_W1, Br_W2, Br_O1, Br_O2, opF, evalT, evalO, ofConst, argFr, binF, intF, unF, idxN_nat, reduceIte, reduceCtorEq, Nat.reduceEqDiff, Nat.reduceAdd, Nat.reduceMul, Option.getD_some, Option.getD_none, Option.map_some, Option.map_none, Option.bind_some, Option.some.injEq, Prod.mk.injEq, List.getElem?_toArray, List.getElem?_cons_zero, List.getElem?_cons_succ, List.getElem?_nil, Nat.succ_ne_zero, and_self, true_and, and_true, true_or, or_true, false_or, or_false, exists_eq_left, exists_eq_left', exists_eq, exists_and_left, and_assoc, if_true, if_false, decide_true, decide_false, Bool.false_eq_true, beq_self_eq_true, Bool.true_beq, Bool.false_beq, Bool.not_true, Bool.not_false, ne_eq, not_true_eq_false, not_false_eq_true, List.length_cons, List.length_nil, decide_eq_true_eq, decide_eq_false_iff_not, callB, List.zip_cons_cons, List.zip_nil_right, List.zip_nil_left, List.map_cons, List.map_nil, List.size_toArray, partF, TI.agg, scal, isAgg, cellsOf, tokRo, cellOk, List.all_cons, List.all_nil, Bool.and_true, Bool.true_and, Bool.or_true, Bool.true_or, Bool.or_false, Bool.and_self, Nat.reduceLeDiff, Nat.reduceLT, Nat.lt_add_one, Nat.zero_lt_succ, range1, range2, range3, range4, Option.isSome_some, splice, fillF, List.take_zero, List.drop_zero, List.drop_succ_cons, List.take_succ_cons, List.nil_append, List.cons_append, Int.reduceEq, Int.reduceLT, Int.reduceAdd, Int.reduceSub, Int.reduceMul, W_regionD, xrE, OpsW_eqnil, OpsW_neqnil, NilW_sl, List.set_cons_zero, List.set_cons_succ, List.headD_cons, T3, T4, T27, T30, T66, T150, X3, X4, X27, X30, X66, spR_length, f0, f5, ci, W_regionX, xrX]
    refine AnyW_gen (fun f => f 0 = .sl 3 (spR l) t ∧ f 5 = .int .i64 ((i : Int) + 1)) ⟨by simp [upd, f0], by simp [upd, f5]⟩ ?_
    clear f0 f5 fr
    rintro fr ⟨f0, f5⟩
    refine AnyW_steps (by kernel_rfl) (RI fr st (fun k => ([.sl 3 (spR l) t, .int .i64 ((i : Int) + 1), .int .i64 i, .rptr l[i].cells, .agg l[i].cells, .sl 3 (spR l) t, .int .i64 ((i : Int) + 1), .rptr l[i + 1].cells, .agg l[i + 1].cells] : List PV).getD k .bad) [.int .i64 0, .int .i64 0, .int .i64 0] l[i].cells l[i + 1].cells) ?_ ?_ .start
    · rintro L f s k o hI ⟨ho, hL, hp⟩
      have g0 : f 0 = .sl 3 (spR l) t := by rw [hI.keep 0 (by omega) (by omega) (by omega)]; exact f0
      have g5 : f 5 = .int .i64 ((i : Int) + 1) := by rw [hI.keep 5 (by omega) (by omega) (by omega)]; exact f5
      have hk : k < 13 := (Array.getElem?_eq_some_iff.1 ho).1
      have ga' : (spR l)[i]? = some l[i].cells := ga
      have gb' : (spR l)[i + 1]? = some l[i + 1].cells := gb
      have la : l[i].cells.length = 3 := rfl
      have lb : l[i + 1].cells.length = 3 := rfl
      match k, hk with
      | k + 13, hk => omega
      | 0, _ =>
        simp only [List.getElem?_toArray, List.getElem?_cons_zero, List.getElem?_cons_succ, Option.some.injEq] at ho
        subst ho
        simp only [W_skip, W_region, W_seq, W_cond, W_block, W_exit, W_label, W_ret, W_range, OpsW_nil, OpsW_app, OpsW_app', OpsW_op, OpsW_guard, upd_some, upd_none, Br_W1, Br_W2, Br_O1, Br_O2, opF, evalT, evalO, ofConst, argFr, binF, intF, unF, idxN_nat, reduceIte, reduceCtorEq, Nat.reduceEqDiff, Nat.reduceAdd, Nat.reduceMul, Option.getD_some, Option.getD_none, Option.map_some, Option.map_none, Option.bind_some, Option.some.injEq, Prod.mk.injEq, List.getElem?_toArray, List.getElem?_cons_zero, List.getElem?_cons_succ, List.getElem?_nil, Nat.succ_ne_zero, and_self, true_and, and_true, true_or, or_true, false_or, or_false, exists_eq_left, exists_eq_left', exists_eq, exists_and_left, and_assoc, if_true, if_false, decide_true, decide_false, Bool.false_eq_true, beq_self_eq_true, Bool.true_beq, Bool.false_beq, Bool.not_true, Bool.not_false, ne_eq, not_true_eq_false, not_false_eq_true, List.length_cons, List.length_nil, decide_eq_true_eq, decide_eq_false_iff_not, callB, List.zip_cons_cons, List.zip_nil_right, List.zip_nil_left, List.map_cons, List.map_nil, List.size_toArray, partF, TI.agg, scal, isAgg, cellsOf, tokRo, cellOk, List.all_cons, List.all_nil, Bool.and_true, Bool.true_and, Bool.or_true, Bool.true_or, Bool.or_false, Bool.and_self, Nat.reduceLeDiff, Nat.reduceLT, Nat.lt_add_one, Nat.zero_lt_succ, range1, range2, range3, range4, Option.isSome_some, splice, fillF, List.take_zero, List.drop_zero, List.drop_succ_cons, List.take_succ_cons, List.nil_append, List.cons_append, Int.reduceEq, Int.reduceLT, Int.reduceAdd, Int.reduceSub, Int.reduceMul, W_regionD, xrE, OpsW_eqnil, OpsW_neqnil, NilW_sl, List.set_cons_zero, List.set_cons_succ, List.headD_cons, T3, T4, T27, T30, T66, T150, X3, X4, X27, X30, X66, g0]
        exact hI.put (by omega) rfl rfl
      | 1, _ =>
        simp only [List.getElem?_toArray, List.getElem?_cons_zero, List.getElem?_cons_succ, Option.some.injEq] at ho
        subst ho
        simp only [W_skip, W_region, W_seq, W_cond, W_block, W_exit, W_label, W_ret, W_range, OpsW_nil, OpsW_app, OpsW_app', OpsW_op, OpsW_guard, upd_some, upd_none, Br_W1, Br_W2, Br_O1, Br_O2, opF, evalT, evalO, ofConst, argFr, binF, intF, unF, idxN_nat, reduceIte, reduceCtorEq, Nat.reduceEqDiff, Nat.reduceAdd, Nat.reduceMul, Option.getD_some, Option.getD_none, Option.map_some, Option.map_none, Option.bind_some, Option.some.injEq, Prod.mk.injEq, List.getElem?_toArray, List.getElem?_cons_zero, List.getElem?_cons_succ, List.getElem?_nil, Nat.succ_ne_zero, and_self, true_and, and_true, true_or, or_true, false_or, or_false, exists_eq_left, exists_eq_left', exists_eq, exists_and_left, and_assoc, if_true, if_false, decide_true, decide_false, Bool.false_eq_true, beq_self_eq_true, Bool.true_beq, Bool.false_beq, Bool.not_true, Bool.not_false, ne_eq, not_true_eq_false, not_false_eq_true, List.length_cons, List.length_nil, decide_eq_true_eq, decide_eq_false_iff_not, callB, List.zip_cons_cons, List.zip_nil_right, List.zip_nil_left, List.map_cons, List.map_nil, List.size_toArray, partF, TI.agg, scal, isAgg, cellsOf, tokRo, cellOk, List.all_cons, List.all_nil, Bool.and_true, Bool.true_and, Bool.or_true, Bool.true_or, Bool.or_false, Bool.and_self, Nat.reduceLeDiff, Nat.reduceLT, Nat.lt_add_one, Nat.zero_lt_succ, range1, range2, range3, range4, Option.isSome_some, splice, fillF, List.take_zero, List.drop_zero, List.drop_succ_cons, List.take_succ_cons, List.nil_append, List.cons_append, Int.reduceEq, Int.reduceLT, Int.reduceAdd, Int.reduceSub, Int.reduceMul, W_regionD, xrE, OpsW_eqnil, OpsW_neqnil, NilW_sl, List.set_cons_zero, List.set_cons_succ, List.headD_cons, T3, T4, T27, T30, T66, T150, X3, X4, X27, X30, X66, g5]
        exact hI.put (by omega) rfl rfl
      | 2, _ =>
        simp only [List.getElem?_toArray, List.getElem?_cons_zero, List.getElem?_cons_succ, Option.some.injEq] at ho
        subst ho
        have t1 : f 47 = .int .i64 ((i : Int) + 1) := hI.tmp 1 (by omega) (hp ⟨1, .data⟩ (by simp) rfl)
        simp only [W_skip, W_region, W_seq, W_cond, W_block, W_exit, W_label, W_ret, W_range, OpsW_nil, OpsW_app, OpsW_app', OpsW_op, OpsW_guard, upd_some, upd_none, Br_W1, Br_W2, Br_O1, Br_O2, opF, evalT, evalO, ofConst, argFr, binF, intF, unF, idxN_nat, reduceIte, reduceCtorEq, Nat.reduceEqDiff, Nat.reduceAdd, Nat.reduceMul, Option.getD_some, Option.getD_none, Option.map_some, Option.map_none, Option.bind_some, Option.some.injEq, Prod.mk.injEq, List.getElem?_toArray, List.getElem?_cons_zero, List.getElem?_cons_succ, List.getElem?_nil, Nat.succ_ne_zero, and_self, true_and, and_true, true_or, or_true, false_or, or_false, exists_eq_left, exists_eq_left', exists_eq, exists_and_left, and_assoc, if_true, if_false, decide_true, decide_false, Bool.false_eq_true, beq_self_eq_true, Bool.true_beq, Bool.false_beq, Bool.not_true, Bool.not_false, ne_eq, not_true_eq_false, not_false_eq_true, List.length_cons, List.length_nil, decide_eq_true_eq, decide_eq_false_iff_not, callB, List.zip_cons_cons, List.zip_nil_right, List.zip_nil_left, List.map_cons, List.map_nil, List.size_toArray, partF, TI.agg, scal, isAgg, cellsOf, tokRo, cellOk, List.all_cons, List.all_nil, Bool.and_true, Bool.true_and, Bool.or_true, Bool.true_or, Bool.or_false, Bool.and_self, Nat.reduceLeDiff, Nat.reduceLT, Nat.lt_add_one, Nat.zero_lt_succ, range1, range2, range3, range4, Option.isSome_some, splice, fillF, List.take_zero, List.drop_zero, List.drop_succ_cons, List.take_succ_cons, List.nil_append, List.cons_append, Int.reduceEq, Int.reduceLT, Int.reduceAdd, Int.reduceSub, Int.reduceMul, W_regionD, xrE, OpsW_eqnil, OpsW_neqnil, NilW_sl, List.set_cons_zero, List.set_cons_succ, List.headD_cons, T3, T4, T27, T30, T66, T150, X3, X4, X27, X30, X66, t1, hw0]
        exact hI.put (by omega) rfl rfl
      | 3, _ =>
        simp only [List.getElem?_toArray, List.getElem?_cons_zero, List.getElem?_cons_succ, Option.some.injEq] at ho
        subst ho
        have t0 : f 46 = .sl 3 (spR l) t := hI.tmp 0 (by omega) (hp ⟨0, .data⟩ (by simp) rfl)
        have t2 : f 48 = .int .i64 i := hI.tmp 2 (by omega) (hp ⟨2, .data⟩ (by simp) rfl)
        simp only [W_skip, W_region, W_seq, W_cond, W_block, W_exit, W_label, W_ret, W_range, OpsW_nil, OpsW_app, OpsW_app', OpsW_op, OpsW_guard, upd_some, upd_none, Br_W1, Br_W2, Br_O1, Br_O2, opF, evalT, evalO, ofConst, argFr, binF, intF, unF, idxN_nat, reduceIte, reduceCtorEq, Nat.reduceEqDiff, Nat.reduceAdd, Nat.reduceMul, Option.getD_some, Option.getD_none, Option.map_some, Option.map_none, Option.bind_some, Option.some.injEq, Prod.mk.injEq, List.getElem?_toArray, List.getElem?_cons_zero, List.getElem?_cons_succ, List.getElem?_nil, Nat.succ_ne_zero, and_self, true_and, and_true, true_or, or_true, false_or, or_false, exists_eq_left, exists_eq_left', exists_eq, exists_and_left, and_assoc, if_true, if_false, decide_true, decide_false, Bool.false_eq_true, beq_self_eq_true, Bool.true_beq, Bool.false_beq, Bool.not_true, Bool.not_false, ne_eq, not_true_eq_false, not_false_eq_true, List.length_cons, List.length_nil, decide_eq_true_eq, decide_eq_false_iff_not, callB, List.zip_cons_cons, List.zip_nil_right, List.zip_nil_left, List.map_cons, List.map_nil, List.size_toArray, partF, TI.agg, scal, isAgg, cellsOf, tokRo, cellOk, List.all_cons, List.all_nil, Bool.and_true, Bool.true_and, Bool.or_true, Bool.true_or, Bool.or_false, Bool.and_self, Nat.reduceLeDiff, Nat.reduceLT, Nat.lt_add_one, Nat.zero_lt_succ, range1, range2, range3, range4, Option.isSome_some, splice, fillF, List.take_zero, List.drop_zero, List.drop_succ_cons, List.take_succ_cons, List.nil_append, List.cons_append, Int.reduceEq, Int.reduceLT, Int.reduceAdd, Int.reduceSub, Int.reduceMul, W_regionD, xrE, OpsW_eqnil, OpsW_neqnil, NilW_sl, List.set_cons_zero, List.set_cons_succ, List.headD_cons, T3, T4, T27, T30, T66, T150, X3, X4, X27, X30, X66, t0, t2, ga']
        exact hI.put (by omega) rfl rfl
      | 4, _ =>
        simp only [List.getElem?_toArray, List.getElem?_cons_zero, List.getElem?_cons_succ, Option.some.injEq] at ho
        subst ho
        have t3 : f 49 = .rptr l[i].cells := hI.tmp 3 (by omega) (hp ⟨3, .data⟩ (by simp) rfl)
        simp only [W_skip, W_region, W_seq, W_cond, W_block, W_exit, W_label, W_ret, W_range, OpsW_nil, OpsW_app, OpsW_app', OpsW_op, OpsW_guard, upd_some, upd_none, Br_W1, Br_W2, Br_O1, Br_O2, opF, evalT, evalO, ofConst, argFr, binF, intF, unF, idxN_nat, reduceIte, reduceCtorEq, Nat.reduceEqDiff, Nat.reduceAdd, Nat.reduceMul, Option.getD_some, Option.getD_none, Option.map_some, Option.map_none, Option.bind_some, Option.some.injEq, Prod.mk.injEq, List.getElem?_toArray, List.getElem?_cons_zero, List.getElem?_cons_succ, List.getElem?_nil, Nat.succ_ne_zero, and_self, true_and, and_true, true_or, or_true, false_or, or_false, exists_eq_left, exists_eq_left', exists_eq, exists_and_left, and_assoc, if_true, if_false, decide_true, decide_false, Bool.false_eq_true, beq_self_eq_true, Bool.true_beq, Bool.false_beq, Bool.not_true, Bool.not_false, ne_eq, not_true_eq_false, not_false_eq_true, List.length_cons, List.length_nil, decide_eq_true_eq, decide_eq_false_iff_not, callB, List.zip_cons_cons, List.zip_nil_right, List.zip_nil_left, List.map_cons, List.map_nil, List.size_toArray, partF, TI.agg, scal, isAgg, cellsOf, tokRo, cellOk, List.all_cons, List.all_nil, Bool.and_true, Bool.true_and, Bool.or_true, Bool.true_or, Bool.or_false, Bool.and_self, Nat.reduceLeDiff, Nat.reduceLT, Nat.lt_add_one, Nat.zero_lt_succ, range1, range2, range3, range4, Option.isSome_some, splice, fillF, List.take_zero, List.drop_zero, List.drop_succ_cons, List.take_succ_cons, List.nil_append, List.cons_append, Int.reduceEq, Int.reduceLT, Int.reduceAdd, Int.reduceSub, Int.reduceMul, W_regionD, xrE, OpsW_eqnil, OpsW_neqnil, NilW_sl, List.set_cons_zero, List.set_cons_succ, List.headD_cons, T3, T4, T27, T30, T66, T150, X3, X4, X27, X30, X66, t3, Span.cells]
        exact hI.put (by omega) rfl rfl
      | 5, _ =>
        simp only [List.getElem?_toArray, List.getElem?_cons_zero, List.getElem?_cons_succ, Option.some.injEq] at ho
        subst ho
        simp only [W_skip, W_region, W_seq, W_cond, W_block, W_exit, W_label, W_ret, W_range, OpsW_nil, OpsW_app, OpsW_app', OpsW_op, OpsW_guard, upd_some, upd_none, Br_W1, Br_W2, Br_O1, Br_O2, opF, evalT, evalO, ofConst, argFr, binF, intF, unF, idxN_nat, reduceIte, reduceCtorEq, Nat.reduceEqDiff, Nat.reduceAdd, Nat.reduceMul, Option.getD_some, Option.getD_none, Option.map_some, Option.map_none, Option.bind_some, Option.some.injEq, Prod.mk.injEq, List.getElem?_toArray, List.getElem?_cons_zero, List.getElem?_cons_succ, List.getElem?_nil, Nat.succ_ne_zero, and_self, true_and, and_true, true_or, or_true, false_or, or_false, exists_eq_left, exists_eq_left', exists_eq, exists_and_left, and_assoc, if_true, if_false, decide_true, decide_false, Bool.false_eq_true, beq_self_eq_true, Bool.true_beq, Bool.false_beq, Bool.not_true, Bool.not_false, ne_eq, not_true_eq_false, not_false_eq_true, List.length_cons, List.length_nil, decide_eq_true_eq, decide_eq_false_iff_not, callB, List.zip_cons_cons, List.zip_nil_right, List.zip_nil_left, List.map_cons, List.map_nil, List.size_toArray, partF, TI.agg, scal, isAgg, cellsOf, tokRo, cellOk, List.all_cons, List.all_nil, Bool.and_true, Bool.true_and, Bool.or_true, Bool.true_or, Bool.or_false, Bool.and_self, Nat.reduceLeDiff, Nat.reduceLT, Nat.lt_add_one, Nat.zero_lt_succ, range1, range2, range3, range4, Option.isSome_some, splice, fillF, List.take_zero, List.drop_zero, List.drop_succ_cons, List.take_succ_cons, List.nil_append, List.cons_append, Int.reduceEq, Int.reduceLT, Int.reduceAdd, Int.reduceSub, Int.reduceMul, W_regionD, xrE, OpsW_eqnil, OpsW_neqnil, NilW_sl, List.set_cons_zero, List.set_cons_succ, List.headD_cons, T3, T4, T27, T30, T66, T150, X3, X4, X27, X30, X66, g0]
        exact hI.put (by omega) rfl rfl
      | 6, _ =>
        simp only [List.getElem?_toArray, List.getElem?_cons_zero, List.getElem?_cons_succ, Option.some.injEq] at ho
        subst ho
        simp only [W_skip, W_region, W_seq, W_cond, W_block, W_exit, W_label, W_ret, W_range, OpsW_nil, OpsW_app, OpsW_app', OpsW_op, OpsW_guard, upd_some, upd_none, Br_W1, Br_W2, Br_O1, Br_O2, opF, evalT, evalO, ofConst, argFr, binF, intF, unF, idxN_nat, reduceIte, reduceCtorEq, Nat.reduceEqDiff, Nat.reduceAdd, Nat.reduceMul, Option.getD_some, Option.getD_none, Option.map_some, Option.map_none, Option.bind_some, Option.some.injEq, Prod.mk.injEq, List.getElem?_toArray, List.getElem?_cons_zero, List.getElem?_cons_succ, List.getElem?_nil, Nat.succ_ne_zero, and_self, true_and, and_true, true_or, or_true, false_or, or_false, exists_eq_left, exists_eq_left', exists_eq, exists_and_left, and_assoc, if_true, if_false, decide_true, decide_false, Bool.false_eq_true, beq_self_eq_true, Bool.true_beq, Bool.false_beq, Bool.not_true, Bool.not_false, ne_eq, not_true_eq_false, not_false_eq_true, List.length_cons, List.length_nil, decide_eq_true_eq, decide_eq_false_iff_not, callB, List.zip_cons_cons, List.zip_nil_right, List.zip_nil_left, List.map_cons, List.map_nil, List.size_toArray, partF, TI.agg, scal, isAgg, cellsOf, tokRo, cellOk, List.all_cons, List.all_nil, Bool.and_true, Bool.true_and, Bool.or_true, Bool.true_or, Bool.or_false, Bool.and_self, Nat.reduceLeDiff, Nat.reduceLT, Nat.lt_add_one, Nat.zero_lt_succ, range1, range2, range3, range4, Option.isSome_some, splice, fillF, List.take_zero, List.drop_zero, List.drop_succ_cons, List.take_succ_cons, List.nil_append, List.cons_append, Int.reduceEq, Int.reduceLT, Int.reduceAdd, Int.reduceSub, Int.reduceMul, W_regionD, xrE, OpsW_eqnil, OpsW_neqnil, NilW_sl, List.set_cons_zero, List.set_cons_succ, List.headD_cons, T3, T4, T27, T30, T66, T150, X3, X4, X27, X30, X66, g5]
        exact hI.put (by omega) rfl rfl
      | 7, _ =>
        simp only [List.getElem?_toArray, List.getElem?_cons_zero, List.getElem?_cons_succ, Option.some.injEq] at ho
        subst ho
        have t5 : f 51 = .sl 3 (spR l) t := hI.tmp 5 (by omega) (hp ⟨5, .data⟩ (by simp) rfl)
        have t6 : f 52 = .int .i64 ((i : Int) + 1) := hI.tmp 6 (by omega) (hp ⟨6, .data⟩ (by simp) rfl)
        simp only [W_skip, W_region, W_seq, W_cond, W_block, W_exit, W_label, W_ret, W_range, OpsW_nil, OpsW_app, OpsW_app', OpsW_op, OpsW_guard, upd_some, upd_none, Br_W1, Br_W2, Br_O1, Br_O2, opF, evalT, evalO, ofConst, argFr, binF, intF, unF, idxN_nat, reduceIte, reduceCtorEq, Nat.reduceEqDiff, Nat.reduceAdd, Nat.reduceMul, Option.getD_some, Option.getD_none, Option.map_some, Option.map_none, Option.bind_some, Option.some.injEq, Prod.mk.injEq, List.getElem?_toArray, List.getElem?_cons_zero, List.getElem?_cons_succ, List.getElem?_nil, Nat.succ_ne_zero, and_self, true_and, and_true, true_or, or_true, false_or, or_false, exists_eq_left, exists_eq_left', exists_eq, exists_and_left, and_assoc, if_true, if_false, decide_true, decide_false, Bool.false_eq_true, beq_self_eq_true, Bool.true_beq, Bool.false_beq, Bool.not_true, Bool.not_false, ne_eq, not_true_eq_false, not_false_eq_true, List.length_cons, List.length_nil, decide_eq_true_eq, decide_eq_false_iff_not, callB, List.zip_cons_cons, List.zip_nil_right, List.zip_nil_left, List.map_cons, List.map_nil, List.size_toArray, partF, TI.agg, scal, isAgg, cellsOf, tokRo, cellOk, List.all_cons, List.all_nil, Bool.and_true, Bool.true_and, Bool.or_true, Bool.true_or, Bool.or_false, Bool.and_self, Nat.reduceLeDiff, Nat.reduceLT, Nat.lt_add_one, Nat.zero_lt_succ, range1, range2, range3, range4, Option.isSome_some, splice, fillF, List.take_zero, List.drop_zero, List.drop_succ_cons, List.take_succ_cons, List.nil_append, List.cons_append, Int.reduceEq, Int.reduceLT, Int.reduceAdd, Int.reduceSub, Int.reduceMul, W_regionD, xrE, OpsW_eqnil, OpsW_neqnil, NilW_sl, List.set_cons_zero, List.set_cons_succ, List.headD_cons, T3, T4, T27, T30, T66, T150, X3, X4, X27, X30, X66, t5, t6, hx, gb']
        exact hI.put (by omega) rfl rfl
      | 8, _ =>
        simp only [List.getElem?_toArray, List.getElem?_cons_zero, List.getElem?_cons_succ, Option.some.injEq] at ho
        subst ho
        have t7 : f 53 = .rptr l[i + 1].cells := hI.tmp 7 (by omega) (hp ⟨7, .data⟩ (by simp) rfl)
        simp only [W_skip, W_region, W_seq, W_cond, W_block, W_exit, W_label, W_ret, W_range, OpsW_nil, OpsW_app, OpsW_app', OpsW_op, OpsW_guard, upd_some, upd_none, Br_W1, Br_W2, Br_O1, Br_O2, opF, evalT, evalO, ofConst, argFr, binF, intF, unF, idxN_nat, reduceIte, reduceCtorEq, Nat.reduceEqDiff, Nat.reduceAdd, Nat.reduceMul, Option.getD_some, Option.getD_none, Option.map_some, Option.map_none, Option.bind_some, Option.some.injEq, Prod.mk.injEq, List.getElem?_toArray, List.getElem?_cons_zero, List.getElem?_cons_succ, List.getElem?_nil, Nat.succ_ne_zero, and_self, true_and, and_true, true_or, or_true, false_or, or_false, exists_eq_left, exists_eq_left', exists_eq, exists_and_left, and_assoc, if_true, if_false, decide_true, decide_false, Bool.false_eq_true, beq_self_eq_true, Bool.true_beq, Bool.false_beq, Bool.not_true, Bool.not_false, ne_eq, not_true_eq_false, not_false_eq_true, List.length_cons, List.length_nil, decide_eq_true_eq, decide_eq_false_iff_not, callB, List.zip_cons_cons, List.zip_nil_right, List.zip_nil_left, List.map_cons, List.map_nil, List.size_toArray, partF, TI.agg, scal, isAgg, cellsOf, tokRo, cellOk, List.all_cons, List.all_nil, Bool.and_true, Bool.true_and, Bool.or_true, Bool.true_or, Bool.or_false, Bool.and_self, Nat.reduceLeDiff, Nat.reduceLT, Nat.lt_add_one, Nat.zero_lt_succ, range1, range2, range3, range4, Option.isSome_some, splice, fillF, List.take_zero, List.drop_zero, List.drop_succ_cons, List.take_succ_cons, List.nil_append, List.cons_append, Int.reduceEq, Int.reduceLT, Int.reduceAdd, Int.reduceSub, Int.reduceMul, W_regionD, xrE, OpsW_eqnil, OpsW_neqnil, NilW_sl, List.set_cons_zero, List.set_cons_succ, List.headD_cons, T3, T4, T27, T30, T66, T150, X3, X4, X27, X30, X66, t7, Span.cells]
        exact hI.put (by omega) rfl rfl
      | 9, _ =>
        simp only [List.getElem?_toArray, List.getElem?_cons_zero, List.getElem?_cons_succ, Option.some.injEq] at ho
        subst ho
        simp only [W_skip, W_region, W_seq, W_cond, W_block, W_exit, W_label, W_ret, W_range, OpsW_nil, OpsW_app, OpsW_app', OpsW_op, OpsW_guard, upd_some, upd_none, Br_W1, Br_W2, Br_O1, Br_O2, opF, evalT, evalO, ofConst, argFr, binF, intF, unF, idxN_nat, reduceIte, reduceCtorEq, Nat.reduceEqDiff, Nat.reduceAdd, Nat.reduceMul, Option.getD_some, Option.getD_none, Option.map_some, Option.map_none, Option.bind_some, Option.some.injEq, Prod.mk.injEq, List.getElem?_toArray, List.getElem?_cons_zero, List.getElem?_cons_succ, List.getElem?_nil, Nat.succ_ne_zero, and_self, true_and, and_true, true_or, or_true, false_or, or_false, exists_eq_left, exists_eq_left', exists_eq, exists_and_left, and_assoc, if_true, if_false, decide_true, decide_false, Bool.false_eq_true, beq_self_eq_true, Bool.true_beq, Bool.false_beq, Bool.not_true, Bool.not_false, ne_eq, not_true_eq_false, not_false_eq_true, List.length_cons, List.length_nil, decide_eq_true_eq, decide_eq_false_iff_not, callB, List.zip_cons_cons, List.zip_nil_right, List.zip_nil_left, List.map_cons, List.map_nil, List.size_toArray, partF, TI.agg, scal, isAgg, cellsOf, tokRo, cellOk, List.all_cons, List.all_nil, Bool.and_true, Bool.true_and, Bool.or_true, Bool.true_or, Bool.or_false, Bool.and_self, Nat.reduceLeDiff, Nat.reduceLT, Nat.lt_add_one, Nat.zero_lt_succ, range1, range2, range3, range4, Option.isSome_some, splice, fillF, List.take_zero, List.drop_zero, List.drop_succ_cons, List.take_succ_cons, List.nil_append, List.cons_append, Int.reduceEq, Int.reduceLT, Int.reduceAdd, Int.reduceSub, Int.reduceMul, W_regionD, xrE, OpsW_eqnil, OpsW_neqnil, NilW_sl, List.set_cons_zero, List.set_cons_succ, List.headD_cons, T3, T4, T27, T30, T66, T150, X3, X4, X27, X30, X66]
        exact hI.alloc6 hL (by cases e : L 11 with | false => rfl | true => rw [hI.c9 e] at hL; cases hL)
      | 10, _ =>
        simp only [List.getElem?_toArray, List.getElem?_cons_zero, List.getElem?_cons_succ, Option.some.injEq] at ho
        subst ho
        simp only [W_skip, W_region, W_seq, W_cond, W_block, W_exit, W_label, W_ret, W_range, OpsW_nil, OpsW_app, OpsW_app', OpsW_op, OpsW_guard, upd_some, upd_none, Br_W1, Br_W2, Br_O1, Br_O2, opF, evalT, evalO, ofConst, argFr, binF, intF, unF, idxN_nat, reduceIte, reduceCtorEq, Nat.reduceEqDiff, Nat.reduceAdd, Nat.reduceMul, Option.getD_some, Option.getD_none, Option.map_some, Option.map_none, Option.bind_some, Option.some.injEq, Prod.mk.injEq, List.getElem?_toArray, List.getElem?_cons_zero, List.getElem?_cons_succ, List.getElem?_nil, Nat.succ_ne_zero, and_self, true_and, and_true, true_or, or_true, false_or, or_false, exists_eq_left, exists_eq_left', exists_eq, exists_and_left, and_assoc, if_true, if_false, decide_true, decide_false, Bool.false_eq_true, beq_self_eq_true, Bool.true_beq, Bool.false_beq, Bool.not_true, Bool.not_false, ne_eq, not_true_eq_false, not_false_eq_true, List.length_cons, List.length_nil, decide_eq_true_eq, decide_eq_false_iff_not, callB, List.zip_cons_cons, List.zip_nil_right, List.zip_nil_left, List.map_cons, List.map_nil, List.size_toArray, partF, TI.agg, scal, isAgg, cellsOf, tokRo, cellOk, List.all_cons, List.all_nil, Bool.and_true, Bool.true_and, Bool.or_true, Bool.true_or, Bool.or_false, Bool.and_self, Nat.reduceLeDiff, Nat.reduceLT, Nat.lt_add_one, Nat.zero_lt_succ, range1, range2, range3, range4, Option.isSome_some, splice, fillF, List.take_zero, List.drop_zero, List.drop_succ_cons, List.take_succ_cons, List.nil_append, List.cons_append, Int.reduceEq, Int.reduceLT, Int.reduceAdd, Int.reduceSub, Int.reduceMul, W_regionD, xrE, OpsW_eqnil, OpsW_neqnil, NilW_sl, List.set_cons_zero, List.set_cons_succ, List.headD_cons, T3, T4, T27, T30, T66, T150, X3, X4, X27, X30, X66]
        exact hI.alloc7 hL (by cases e : L 12 with | false => rfl | true => rw [hI.c10 e] at hL; cases hL)
      | 11, _ =>
        simp only [List.getElem?_toArray, List.getElem?_cons_zero, List.getElem?_cons_succ, Option.some.injEq] at ho
        subst ho
        have t4 : f 50 = .agg l[i].cells := hI.tmp 4 (by omega) (hp ⟨4, .data⟩ (by simp) rfl)
        obtain ⟨j, g6, ⟨c, _, gj, hc⟩, hI'⟩ := hI.store6 (hp ⟨9, .data⟩ (by simp) rfl)
        rcases hc with rfl | rfl
        · simp only [W_skip, W_region, W_seq, W_cond, W_block, W_exit, W_label, W_ret, W_range, OpsW_nil, OpsW_app, OpsW_app', OpsW_op, OpsW_guard, upd_some, upd_none, Br_W1, Br_W2, Br_O1, Br_O2, opF, evalT, evalO, ofConst, argFr, binF, intF, unF, idxN_nat, reduceIte, reduceCtorEq, Nat.reduceEqDiff, Nat.reduceAdd, Nat.reduceMul, Option.getD_some, Option.getD_none, Option.map_some, Option.map_none, Option.bind_some, Option.some.injEq, Prod.mk.injEq, List.getElem?_toArray, List.getElem?_cons_zero, List.getElem?_cons_succ, List.getElem?_nil, Nat.succ_ne_zero, and_self, true_and, and_true, true_or, or_true, false_or, or_false, exists_eq_left, exists_eq_left', exists_eq, exists_and_left, and_assoc, if_true, if_false, decide_true, decide_false, Bool.false_eq_true, beq_self_eq_true, Bool.true_beq, Bool.false_beq, Bool.not_true, Bool.not_false, ne_eq, not_true_eq_false, not_false_eq_true, List.length_cons, List.length_nil, decide_eq_true_eq, decide_eq_false_iff_not, callB, List.zip_cons_cons, List.zip_nil_right, List.zip_nil_left, List.map_cons, List.map_nil, List.size_toArray, partF, TI.agg, scal, isAgg, cellsOf, tokRo, cellOk, List.all_cons, List.all_nil, Bool.and_true, Bool.true_and, Bool.or_true, Bool.true_or, Bool.or_false, Bool.and_self, Nat.reduceLeDiff, Nat.reduceLT, Nat.lt_add_one, Nat.zero_lt_succ, range1, range2, range3, range4, Option.isSome_some, splice, fillF, List.take_zero, List.drop_zero, List.drop_succ_cons, List.take_succ_cons, List.nil_append, List.cons_append, Int.reduceEq, Int.reduceLT, Int.reduceAdd, Int.reduceSub, Int.reduceMul, W_regionD, xrE, OpsW_eqnil, OpsW_neqnil, NilW_sl, List.set_cons_zero, List.set_cons_succ, List.headD_cons, T3, T4, T27, T30, T66, T150, X3, X4, X27, X30, X66, t4, g6, gj, Span.cells]
          exact hI'
        · simp only [W_skip, W_region, W_seq, W_cond, W_block, W_exit, W_label, W_ret, W_range, OpsW_nil, OpsW_app, OpsW_app', OpsW_op, OpsW_guard, upd_some, upd_none, Br_W1, Br_W2, Br_O1, Br_O2, opF, evalT, evalO, ofConst, argFr, binF, intF, unF, idxN_nat, reduceIte, reduceCtorEq, Nat.reduceEqDiff, Nat.reduceAdd, Nat.reduceMul, Option.getD_some, Option.getD_none, Option.map_some, Option.map_none, Option.bind_some, Option.some.injEq, Prod.mk.injEq, List.getElem?_toArray, List.getElem?_cons_zero, List.getElem?_cons_succ, List.getElem?_nil, Nat.succ_ne_zero, and_self, true_and, and_true, true_or, or_true, false_or, or_false, exists_eq_left, exists_eq_left', exists_eq, exists_and_left, and_assoc, if_true, if_false, decide_true, decide_false, Bool.false_eq_true, beq_self_eq_true, Bool.true_beq, Bool.false_beq, Bool.not_true, Bool.not_false, ne_eq, not_true_eq_false, not_false_eq_true, List.length_cons, List.length_nil, decide_eq_true_eq, decide_eq_false_iff_not, callB, List.zip_cons_cons, List.zip_nil_right, List.zip_nil_left, List.map_cons, List.map_nil, List.size_toArray, partF, TI.agg, scal, isAgg, cellsOf, tokRo, cellOk, List.all_cons, List.all_nil, Bool.and_true, Bool.true_and, Bool.or_true, Bool.true_or, Bool.or_false, Bool.and_self, Nat.reduceLeDiff, Nat.reduceLT, Nat.lt_add_one, Nat.zero_lt_succ, range1, range2, range3, range4, Option.isSome_some, splice, fillF, List.take_zero, List.drop_zero, List.drop_succ_cons, List.take_succ_cons, List.nil_append, List.cons_append, Int.reduceEq, Int.reduceLT, Int.reduceAdd, Int.reduceSub, Int.reduceMul, W_regionD, xrE, OpsW_eqnil, OpsW_neqnil, NilW_sl, List.set_cons_zero, List.set_cons_succ, List.headD_cons, T3, T4, T27, T30, T66, T150, X3, X4, X27, X30, X66, t4, g6, gj, Span.cells]
          exact hI'
      | 12, _ =>
        simp only [List.getElem?_toArray, List.getElem?_cons_zero, List.getElem?_cons_succ, Option.some.injEq] at ho
        subst ho
        have t8 : f 54 = .agg l[i + 1].cells := hI.tmp 8 (by omega) (hp ⟨8, .data⟩ (by simp) rfl)
        obtain ⟨j, g6, ⟨c, _, gj, hc⟩, hI'⟩ := hI.store7 (hp ⟨10, .data⟩ (by simp) rfl)
        rcases hc with rfl | rfl
        · simp only [W_skip, W_region, W_seq, W_cond, W_block, W_exit, W_label, W_ret, W_range, OpsW_nil, OpsW_app, OpsW_app', OpsW_op, OpsW_guard, upd_some, upd_none, Br_W1, Br_W2, Br_O1, Br_O2, opF, evalT, evalO, ofConst, argFr, binF, intF, unF, idxN_nat, reduceIte, reduceCtorEq, Nat.reduceEqDiff, Nat.reduceAdd, Nat.reduceMul, Option.getD_some, Option.getD_none, Option.map_some, Option.map_none, Option.bind_some, Option.some.injEq, Prod.mk.injEq, List.getElem?_toArray, List.getElem?_cons_zero, List.getElem?_cons_succ, List.getElem?_nil, Nat.succ_ne_zero, and_self, true_and, and_true, true_or, or_true, false_or, or_false, exists_eq_left, exists_eq_left', exists_eq, exists_and_left, and_assoc, if_true, if_false, decide_true, decide_false, Bool.false_eq_true, beq_self_eq_true, Bool.true_beq, Bool.false_beq, Bool.not_true, Bool.not_false, ne_eq, not_true_eq_false, not_false_eq_true, List.length_cons, List.length_nil, decide_eq_true_eq, decide_eq_false_iff_not, callB, List.zip_cons_cons, List.zip_nil_right, List.zip_nil_left, List.map_cons, List.map_nil, List.size_toArray, partF, TI.agg, scal, isAgg, cellsOf, tokRo, cellOk, List.all_cons, List.all_nil, Bool.and_true, Bool.true_and, Bool.or_true, Bool.true_or, Bool.or_false, Bool.and_self, Nat.reduceLeDiff, Nat.reduceLT, Nat.lt_add_one, Nat.zero_lt_succ, range1, range2, range3, range4, Option.isSome_some, splice, fillF, List.take_zero, List.drop_zero, List.drop_succ_cons, List.take_succ_cons, List.nil_append, List.cons_append, Int.reduceEq, Int.reduceLT, Int.reduceAdd, Int.reduceSub, Int.reduceMul, W_regionD, xrE, OpsW_eqnil, OpsW_neqnil, NilW_sl, List.set_cons_zero, List.set_cons_succ, List.headD_cons, T3, T4, T27, T30, T66, T150, X3, X4, X27, X30, X66, t8, g6, gj, Span.cells]
          exact hI'
        · simp only [W_skip, W_region, W_seq, W_cond, W_block, W_exit, W_label, W_ret, W_range, OpsW_nil, OpsW_app, OpsW_app', OpsW_op, OpsW_guard, upd_some, upd_none, Br_W1, Br_W2, Br_O1, Br_O2, opF, evalT, evalO, ofConst, argFr, binF, intF, unF, idxN_nat, reduceIte, reduceCtorEq, Nat.reduceEqDiff, Nat.reduceAdd, Nat.reduceMul, Option.getD_some, Option.getD_none, Option.map_some, Option.map_none, Option.bind_some, Option.some.injEq, Prod.mk.injEq, List.getElem?_toArray, List.getElem?_cons_zero, List.getElem?_cons_succ, List.getElem?_nil, Nat.succ_ne_zero, and_self, true_and, and_true, true_or, or_true, false_or, or_false, exists_eq_left, exists_eq_left', exists_eq, exists_and_left, and_assoc, if_true, if_false, decide_true, decide_false, Bool.false_eq_true, beq_self_eq_true, Bool.true_beq, Bool.false_beq, Bool.not_true, Bool.not_false, ne_eq, not_true_eq_false, not_false_eq_true, List.length_cons, List.length_nil, decide_eq_true_eq, decide_eq_false_iff_not, callB, List.zip_cons_cons, List.zip_nil_right, List.zip_nil_left, List.map_cons, List.map_nil, List.size_toArray, partF, TI.agg, scal, isAgg, cellsOf, tokRo, cellOk, List.all_cons, List.all_nil, Bool.and_true, Bool.true_and, Bool.or_true, Bool.true_or, Bool.or_false, Bool.and_self, Nat.reduceLeDiff, Nat.reduceLT, Nat.lt_add_one, Nat.zero_lt_succ, range1, range2, range3, range4, Option.isSome_some, splice, fillF, List.take_zero, List.drop_zero, List.drop_succ_cons, List.take_succ_cons, List.nil_append, List.cons_append, Int.reduceEq, Int.reduceLT, Int.reduceAdd, Int.reduceSub, Int.reduceMul, W_regionD, xrE, OpsW_eqnil, OpsW_neqnil, NilW_sl, List.set_cons_zero, List.set_cons_succ, List.headD_cons, T3, T4, T27, T30, T66, T150, X3, X4, X27, X30, X66, t8, g6, gj, Span.cells]
          exact hI'
    · intro L f s hI hall
      have g0 : f 0 = .sl 3 (spR l) t := by rw [hI.keep 0 (by omega) (by omega) (by omega)]; exact f0
      have g5 : f 5 = .int .i64 ((i : Int) + 1) := by rw [hI.keep 5 (by omega) (by omega) (by omega)]; exact f5
      obtain ⟨_, _, _, _, p, q, _, h6, h7⟩ := hI
      obtain ⟨g6, s6⟩ := h6 (hall 9 (by simp))
      obtain ⟨g7, s7⟩ := h7 (hall 10 (by simp))
      rw [if_pos (hall 11 (by simp)), Span.cells] at s6
      rw [if_pos (hall 12 (by simp)), Span.cells] at s7
      by_cases c1 : l[i].hi ≥ l[i + 1].lo
      · have hs : spAdj l[i] l[i + 1] = true := by simp [spAdj, c1]
        simp only [W_skip, W_region, W_seq, W_cond, W_block, W_exit, W_label, W_ret, W_range, OpsW_nil, OpsW_app, OpsW_app', OpsW_op, OpsW_guard, upd_some, upd_none, Br_W1, Br_W2, Br_O1, Br_O2, opF, evalT, evalO, ofConst, argFr, binF, intF, unF, idxN_nat, reduceIte, reduceCtorEq, Nat.reduceEqDiff, Nat.reduceAdd, Nat.reduceMul, Option.getD_some, Option.getD_none, Option.map_some, Option.map_none, Option.bind_some, Option.some.injEq, Prod.mk.injEq, List.getElem?_toArray, List.getElem?_cons_zero, List.getElem?_cons_succ, List.getElem?_nil, Nat.succ_ne_zero, and_self, true_and, and_true, true_or, or_true, false_or, or_false, exists_eq_left, exists_eq_left', exists_eq, exists_and_left, and_assoc, if_true, if_false, decide_true, decide_false, Bool.false_eq_true, beq_self_eq_true, Bool.true_beq, Bool.false_beq, Bool.not_true, Bool.not_false, ne_eq, not_true_eq_false, not_false_eq_true, List.length_cons, List.length_nil, decide_eq_true_eq, decide_eq_false_iff_not, callB, List.zip_cons_cons, List.zip_nil_right, List.zip_nil_left, List.map_cons, List.map_nil, List.size_toArray, partF, TI.agg, scal, isAgg, cellsOf, tokRo, cellOk, List.all_cons, List.all_nil, Bool.and_true, Bool.true_and, Bool.or_true, Bool.true_or, Bool.or_false, Bool.and_self, Nat.reduceLeDiff, Nat.reduceLT, Nat.lt_add_one, Nat.zero_lt_succ, range1, range2, range3, range4, Option.isSome_some, splice, fillF, List.take_zero, List.drop_zero, List.drop_succ_cons, List.take_succ_cons, List.nil_append, List.cons_append, Int.reduceEq, Int.reduceLT, Int.reduceAdd, Int.reduceSub, Int.reduceMul, W_regionD, xrE, OpsW_eqnil, OpsW_neqnil, NilW_sl, List.set_cons_zero, List.set_cons_succ, List.headD_cons, T3, T4, T27, T30, T66, T150, X3, X4, X27, X30, X66, g0, g5, g6, g7, s6, s7, c1, resF, resAll, resOne, EndW]
        exact ⟨1, by rw [pub_int, hn (by rw [hc, hd, hs]; rfl)]⟩
      rcases Bool.eq_false_or_eq_true (IntKind.i64.wrap (l[i].hi + 1) == l[i + 1].lo) with b | b
      case inr =>
        have hs : spAdj l[i] l[i + 1] = false := by simp [spAdj, c1, b]
        simp only [W_skip, W_region, W_seq, W_cond, W_block, W_exit, W_label, W_ret, W_range, OpsW_nil, OpsW_app, OpsW_app', OpsW_op, OpsW_guard, upd_some, upd_none, Br_W1, Br_W2, Br_O1, Br_O2, opF, evalT, evalO, ofConst, argFr, binF, intF, unF, idxN_nat, reduceIte, reduceCtorEq, Nat.reduceEqDiff, Nat.reduceAdd, Nat.reduceMul, Option.getD_some, Option.getD_none, Option.map_some, Option.map_none, Option.bind_some, Option.some.injEq, Prod.mk.injEq, List.getElem?_toArray, List.getElem?_cons_zero, List.getElem?_cons_succ, List.getElem?_nil, Nat.succ_ne_zero, and_self, true_and, and_true, true_or, or_true, false_or, or_false, exists_eq_left, exists_eq_left', exists_eq, exists_and_left, and_assoc, if_true, if_false, decide_true, decide_false, Bool.false_eq_true, beq_self_eq_true, Bool.true_beq, Bool.false_beq, Bool.not_true, Bool.not_false, ne_eq, not_true_eq_false, not_false_eq_true, List.length_cons, List.length_nil, decide_eq_true_eq, decide_eq_false_iff_not, callB, List.zip_cons_cons, List.zip_nil_right, List.zip_nil_left, List.map_cons, List.map_nil, List.size_toArray, partF, TI.agg, scal, isAgg, cellsOf, tokRo, cellOk, List.all_cons, List.all_nil, Bool.and_true, Bool.true_and, Bool.or_true, Bool.true_or, Bool.or_false, Bool.and_self, Nat.reduceLeDiff, Nat.reduceLT, Nat.lt_add_one, Nat.zero_lt_succ, range1, range2, range3, range4, Option.isSome_some, splice, fillF, List.take_zero, List.drop_zero, List.drop_succ_cons, List.take_succ_cons, List.nil_append, List.cons_append, Int.reduceEq, Int.reduceLT, Int.reduceAdd, Int.reduceSub, Int.reduceMul, W_regionD, xrE, OpsW_eqnil, OpsW_neqnil, NilW_sl, List.set_cons_zero, List.set_cons_succ, List.headD_cons, T3, T4, T27, T30, T66, T150, X3, X4, X27, X30, X66, g0, g5, g6, g7, s6, s7, c1, b, hw]
        exact ⟨l.length - (i + 1), by omega, i + 1, rfl, by omega, by rw [hc, hd, hs]; rfl, rfl⟩
      rcases Bool.eq_false_or_eq_true (l[i].v == l[i + 1].v) with d | d
      · have hs : spAdj l[i] l[i + 1] = true := by simp [spAdj, b, d]
        simp only [W_skip, W_region, W_seq, W_cond, W_block, W_exit, W_label, W_ret, W_range, OpsW_nil, OpsW_app, OpsW_app', OpsW_op, OpsW_guard, upd_some, upd_none, Br_W1, Br_W2, Br_O1, Br_O2, opF, evalT, evalO, ofConst, argFr, binF, intF, unF, idxN_nat, reduceIte, reduceCtorEq, Nat.reduceEqDiff, Nat.reduceAdd, Nat.reduceMul, Option.getD_some, Option.getD_none, Option.map_some, Option.map_none, Option.bind_some, Option.some.injEq, Prod.mk.injEq, List.getElem?_toArray, List.getElem?_cons_zero, List.getElem?_cons_succ, List.getElem?_nil, Nat.succ_ne_zero, and_self, true_and, and_true, true_or, or_true, false_or, or_false, exists_eq_left, exists_eq_left', exists_eq, exists_and_left, and_assoc, if_true, if_false, decide_true, decide_false, Bool.false_eq_true, beq_self_eq_true, Bool.true_beq, Bool.false_beq, Bool.not_true, Bool.not_false, ne_eq, not_true_eq_false, not_false_eq_true, List.length_cons, List.length_nil, decide_eq_true_eq, decide_eq_false_iff_not, callB, List.zip_cons_cons, List.zip_nil_right, List.zip_nil_left, List.map_cons, List.map_nil, List.size_toArray, partF, TI.agg, scal, isAgg, cellsOf, tokRo, cellOk, List.all_cons, List.all_nil, Bool.and_true, Bool.true_and, Bool.or_true, Bool.true_or, Bool.or_false, Bool.and_self, Nat.reduceLeDiff, Nat.reduceLT, Nat.lt_add_one, Nat.zero_lt_succ, range1, range2, range3, range4, Option.isSome_some, splice, fillF, List.take_zero, List.drop_zero, List.drop_succ_cons, List.take_succ_cons, List.nil_append, List.cons_append, Int.reduceEq, Int.reduceLT, Int.reduceAdd, Int.reduceSub, Int.reduceMul, W_regionD, xrE, OpsW_eqnil, OpsW_neqnil, NilW_sl, List.set_cons_zero, List.set_cons_succ, List.headD_cons, T3, T4, T27, T30, T66, T150, X3, X4, X27, X30, X66, g0, g5, g6, g7, s6, s7, c1, b, d, resF, resAll, resOne, EndW]
        exact ⟨1, by rw [pub_int, hn (by rw [hc, hd, hs]; rfl)]⟩
      · have hs : spAdj l[i] l[i + 1] = false := by simp [spAdj, c1, b, d]
        simp only [W_skip, W_region, W_seq, W_cond, W_block, W_exit, W_label, W_ret, W_range, OpsW_nil, OpsW_app, OpsW_app', OpsW_op, OpsW_guard, upd_some, upd_none, Br_W1, Br_W2, Br_O1, Br_O2, opF, evalT, evalO, ofConst, argFr, binF, intF, unF, idxN_nat, reduceIte, reduceCtorEq, Nat.reduceEqDiff, Nat.reduceAdd, Nat.reduceMul, Option.getD_some, Option.getD_none, Option.map_some, Option.map_none, Option.bind_some, Option.some.injEq, Prod.mk.injEq, List.getElem?_toArray, List.getElem?_cons_zero, List.getElem?_cons_succ, List.getElem?_nil, Nat.succ_ne_zero, and_self, true_and, and_true, true_or, or_true, false_or, or_false, exists_eq_left, exists_eq_left', exists_eq, exists_and_left, and_assoc, if_true, if_false, decide_true, decide_false, Bool.false_eq_true, beq_self_eq_true, Bool.true_beq, Bool.false_beq, Bool.not_true, Bool.not_false, ne_eq, not_true_eq_false, not_false_eq_true, List.length_cons, List.length_nil, decide_eq_true_eq, decide_eq_false_iff_not, callB, List.zip_cons_cons, List.zip_nil_right, List.zip_nil_left, List.map_cons, List.map_nil, List.size_toArray, partF, TI.agg, scal, isAgg, cellsOf, tokRo, cellOk, List.all_cons, List.all_nil, Bool.and_true, Bool.true_and, Bool.or_true, Bool.true_or, Bool.or_false, Bool.and_self, Nat.reduceLeDiff, Nat.reduceLT, Nat.lt_add_one, Nat.zero_lt_succ, range1, range2, range3, range4, Option.isSome_some, splice, fillF, List.take_zero, List.drop_zero, List.drop_succ_cons, List.take_succ_cons, List.nil_append, List.cons_append, Int.reduceEq, Int.reduceLT, Int.reduceAdd, Int.reduceSub, Int.reduceMul, W_regionD, xrE, OpsW_eqnil, OpsW_neqnil, NilW_sl, List.set_cons_zero, List.set_cons_succ, List.headD_cons, T3, T4, T27, T30, T66, T150, X3, X4, X27, X30, X66, g0, g5, g6, g7, s6, s7, c1, b, d, hw]
        exact ⟨l.length - (i + 1), by omega, i + 1, rfl, by omega, by rw [hc, hd, hs]; rfl, rfl⟩
  · have hnil : spOrd (l.drop i) = false := by
      by_cases hz : i < l.length
      · rw [List.drop_eq_getElem_cons hz, List.drop_eq_nil_of_le (by omega)]; rfl
      · rw [List.drop_eq_nil_of_le (by omega)]; rfl
    simp only [W_skip, W_region, W_seq, W_cond, W_block, W_exit, W_label, W_ret, W_range, OpsW_nil, OpsW_app, OpsW_app', OpsW_op, OpsW_guard, upd_some, upd_none, Br_W1, Br_W2, Br_O1, Br_O2, opF, evalT, evalO, ofConst, argFr, binF, intF, unF, idxN_nat, reduceIte, reduceCtorEq, Nat.reduceEqDiff, Nat.reduceAdd, Nat.reduceMul, Option.getD_some, Option.getD_none, Option.map_some, Option.map_none, Option.bind_some, Option.some.injEq, Prod.mk.injEq, List.getElem?_toArray, List.getElem?_cons_zero, List.getElem?_cons_succ, List.getElem?_nil, Nat.succ_ne_zero, and_self, true_and, and_true, true_or, or_true, false_or, or_false, exists_eq_left, exists_eq_left', exists_eq, exists_and_left, and_assoc, if_true, if_false, decide_true, decide_false, Bool.false_eq_true, beq_self_eq_true, Bool.true_beq, Bool.false_beq, Bool.not_true, Bool.not_false, ne_eq, not_true_eq_false, not_false_eq_true, List.length_cons, List.length_nil, decide_eq_true_eq, decide_eq_false_iff_not, callB, List.zip_cons_cons, List.zip_nil_right, List.zip_nil_left, List.map_cons, List.map_nil, List.size_toArray, partF, TI.agg, scal, isAgg, cellsOf, tokRo, cellOk, List.all_cons, List.all_nil, Bool.and_true, Bool.true_and, Bool.or_true, Bool.true_or, Bool.or_false, Bool.and_self, Nat.reduceLeDiff, Nat.reduceLT, Nat.lt_add_one, Nat.zero_lt_succ, range1, range2, range3, range4, Option.isSome_some, splice, fillF, List.take_zero, List.drop_zero, List.drop_succ_cons, List.take_succ_cons, List.nil_append, List.cons_append, Int.reduceEq, Int.reduceLT, Int.reduceAdd, Int.reduceSub, Int.reduceMul, W_regionD, xrE, OpsW_eqnil, OpsW_neqnil, NilW_sl, List.set_cons_zero, List.set_cons_succ, List.headD_cons, T3, T4, T27, T30, T66, T150, X3, X4, X27, X30, X66, spR_length, f0, f5, ci]
    exact ordChk3 l t hl h1 (by rw [hc, hnil]) _ _ (by simp [upd, f0])
set_option maxHeartbeats 8000000 in
theorem ordCheck_plain (l : List Span) (t : Tok) (hl : l.length < 9223372036854775808) : Plain EE 93 [.sl 3 (spR l) t] (.int .i64 (ordErr l)) := by
  show Plain EX 93 [.sl 3 (spR l) t] (.int .i64 (ordErr l))
  refine plain_of_W okX okX93 (by simp) ?_
  unfold BodyW
  have e0 : code Go.Proofs.Tryz.f93 = code Go.Proofs.Tryz.f93 := rfl
  conv at e0 => rhs; simp only [code, Go.Proofs.Tryz.f93, Option.getD_some]
  rw [e0]
  clear e0
  have e1 : part [true, true] (code Go.Proofs.Tryz.f93) = part [true, true] (code Go.Proofs.Tryz.f93) := rfl
  conv at e1 => rhs; simp only [part, code, Go.Proofs.Tryz.f93, Option.getD_some]
  rw [← e1]
  clear e1
  simp only [W_skip, W_region, W_seq, W_cond, W_block, W_exit, W_label, W_ret, W_range, OpsW_nil, OpsW_app, OpsW_app', OpsW_op, OpsW_guard, upd_some, upd_none, Br_W1, Br_W2, Br_O1, Br_O2, opF, evalT, evalO, ofConst, argFr, binF, intF, unF, idxN_nat, reduceIte, reduceCtorEq, Nat.reduceEqDiff, Nat.reduceAdd, Nat.reduceMul, Option.getD_some, Option.getD_none, Option.map_some, Option.map_none, Option.bind_some, Option.some.injEq, Prod.mk.injEq, List.getElem?_toArray, List.getElem?_cons_zero, List.getElem?_cons_succ, List.getElem?_nil, Nat.succ_ne_zero, and_self, true_and, and_true, true_or, or_true, false_or, or_false, exists_eq_left, exists_eq_left', exists_eq, exists_and_left, and_assoc, if_true, if_false, decide_true, decide_false, Bool.false_eq_true, beq_self_eq_true, Bool.true_beq, Bool.false_beq, Bool.not_true, Bool.not_false, ne_eq, not_true_eq_false, not_false_eq_true, List.length_cons, List.length_nil, decide_eq_true_eq, decide_eq_false_iff_not, callB, List.zip_cons_cons, List.zip_nil_right, List.zip_nil_left, List.map_cons, List.map_nil, List.size_toArray, partF, TI.agg, scal, isAgg, cellsOf, tokRo, cellOk, List.all_cons, List.all_nil, Bool.and_true, Bool.true_and, Bool.or_true, Bool.true_or, Bool.or_false, Bool.and_self, Nat.reduceLeDiff, Nat.reduceLT, Nat.lt_add_one, Nat.zero_lt_succ, range1, range2, range3, range4, Option.isSome_some, splice, fillF, List.take_zero, List.drop_zero, List.drop_succ_cons, List.take_succ_cons, List.nil_append, List.cons_append, Int.reduceEq, Int.reduceLT, Int.reduceAdd, Int.reduceSub, Int.reduceMul, W_regionD, xrE, OpsW_eqnil, OpsW_neqnil, NilW_sl, List.set_cons_zero, List.set_cons_succ, List.headD_cons, T3, T4, T27, T30, T66, T150, X3, X4, X27, X30, X66, spR_length]
  refine W_loop (fun n fr st => ∃ (i : Nat), fr 0 = .sl 3 (spR l) t ∧ fr 8 = .sl 3 (spR l) t ∧ fr 9 = .int .i64 l.length ∧ fr 10 = .int .i64 i ∧ i ≤ l.length ∧ (∀ s ∈ l.take i, spBad s = false) ∧ n = l.length - i) ?_ l.length _ _
    ⟨0, by simp [upd, argFr], by simp [upd, argFr], by simp [upd], by simp [upd], by omega, by simp, by omega⟩
  rintro n fr st ⟨i, f0, f8, f9, f10, hi, hall, rfl⟩
  by_cases ci : (i : Int) < (l.length : Int)
  · have ia : i < l.length := by omega
    have ga := spR_get l i ia
    have hw : IntKind.i64.wrap ((i : Int) + 1) = ((i + 1 : Nat) : Int) := by rw [wrap_small (by omega) (by omega)]; rfl
    have bad : spBad l[i] = true → ordErr l = 1 := by
      intro h
      rw [ordErr, if_pos]
      rw [List.any_eq_true]
      exact ⟨_, List.getElem_mem ia, h⟩
    by_cases c1 : l[i].lo < 0
    · skip
      simp only [W_skip, W_region, W_seq, W_cond, W_block, W_exit, W_label, W_ret, W_range, OpsW_nil, OpsW_app, OpsW_app', OpsW_op, OpsW_guard, upd_some, upd_none, Br_W1, Br_W2, Br_O1, Br_O2, opF, evalT, evalO, ofConst, argFr, binF, intF, unF, idxN_nat, reduceIte, reduceCtorEq, Nat.reduceEqDiff, Nat.reduceAdd, Nat.reduceMul, Option.getD_some, Option.getD_none, Option.map_some, Option.map_none, Option.bind_some, Option.some.injEq, Prod.mk.injEq, List.getElem?_toArray, List.getElem?_cons_zero, List.getElem?_cons_succ, List.getElem?_nil, Nat.succ_ne_zero, and_self, true_and, and_true, true_or, or_true, false_or, or_false, exists_eq_left, exists_eq_left', exists_eq, exists_and_left, and_assoc, if_true, if_false, decide_true, decide_false, Bool.false_eq_true, beq_self_eq_true, Bool.true_beq, Bool.false_beq, Bool.not_true, Bool.not_false, ne_eq, not_true_eq_false, not_false_eq_true, List.length_cons, List.length_nil, decide_eq_true_eq, decide_eq_false_iff_not, callB, List.zip_cons_cons, List.zip_nil_right, List.zip_nil_left, List.map_cons, List.map_nil, List.size_toArray, partF, TI.agg, scal, isAgg, cellsOf, tokRo, cellOk, List.all_cons, List.all_nil, Bool.and_true, Bool.true_and, Bool.or_true, Bool.true_or, Bool.or_false, Bool.and_self, Nat.reduceLeDiff, Nat.reduceLT, Nat.lt_add_one, Nat.zero_lt_succ, range1, range2, range3, range4, Option.isSome_some, splice, fillF, List.take_zero, List.drop_zero, List.drop_succ_cons, List.take_succ_cons, List.nil_append, List.cons_append, Int.reduceEq, Int.reduceLT, Int.reduceAdd, Int.reduceSub, Int.reduceMul, W_regionD, xrE, OpsW_eqnil, OpsW_neqnil, NilW_sl, List.set_cons_zero, List.set_cons_succ, List.headD_cons, T3, T4, T27, T30, T66, T150, X3, X4, X27, X30, X66, f0, f8, f9, f10, ci, ga, c1, get_last, set_last, resF, resAll, resOne]
      exact ⟨1, by rw [pub_int, bad (by simp [spBad, c1])]⟩
    by_cases c2 : l[i].lo > l[i].hi
    · skip
      simp only [W_skip, W_region, W_seq, W_cond, W_block, W_exit, W_label, W_ret, W_range, OpsW_nil, OpsW_app, OpsW_app', OpsW_op, OpsW_guard, upd_some, upd_none, Br_W1, Br_W2, Br_O1, Br_O2, opF, evalT, evalO, ofConst, argFr, binF, intF, unF, idxN_nat, reduceIte, reduceCtorEq, Nat.reduceEqDiff, Nat.reduceAdd, Nat.reduceMul, Option.getD_some, Option.getD_none, Option.map_some, Option.map_none, Option.bind_some, Option.some.injEq, Prod.mk.injEq, List.getElem?_toArray, List.getElem?_cons_zero, List.getElem?_cons_succ, List.getElem?_nil, Nat.succ_ne_zero, and_self, true_and, and_true, true_or, or_true, false_or, or_false, exists_eq_left, exists_eq_left', exists_eq, exists_and_left, and_assoc, if_true, if_false, decide_true, decide_false, Bool.false_eq_true, beq_self_eq_true, Bool.true_beq, Bool.false_beq, Bool.not_true, Bool.not_false, ne_eq, not_true_eq_false, not_false_eq_true, List.length_cons, List.length_nil, decide_eq_true_eq, decide_eq_false_iff_not, callB, List.zip_cons_cons, List.zip_nil_right, List.zip_nil_left, List.map_cons, List.map_nil, List.size_toArray, partF, TI.agg, scal, isAgg, cellsOf, tokRo, cellOk, List.all_cons, List.all_nil, Bool.and_true, Bool.true_and, Bool.or_true, Bool.true_or, Bool.or_false, Bool.and_self, Nat.reduceLeDiff, Nat.reduceLT, Nat.lt_add_one, Nat.zero_lt_succ, range1, range2, range3, range4, Option.isSome_some, splice, fillF, List.take_zero, List.drop_zero, List.drop_succ_cons, List.take_succ_cons, List.nil_append, List.cons_append, Int.reduceEq, Int.reduceLT, Int.reduceAdd, Int.reduceSub, Int.reduceMul, W_regionD, xrE, OpsW_eqnil, OpsW_neqnil, NilW_sl, List.set_cons_zero, List.set_cons_succ, List.headD_cons, T3, T4, T27, T30, T66, T150, X3, X4, X27, X30, X66, f0, f8, f9, f10, ci, ga, c1, c2, get_last, set_last, resF, resAll, resOne]
      exact ⟨1, by rw [pub_int, bad (by simp [spBad, c1, c2])]⟩
    by_cases c3 : l[i].hi > 1114111
    · skip
      simp only [W_skip, W_region, W_seq, W_cond, W_block, W_exit, W_label, W_ret, W_range, OpsW_nil, OpsW_app, OpsW_app', OpsW_op, OpsW_guard, upd_some, upd_none, Br_W1, Br_W2, Br_O1, Br_O2, opF, evalT, evalO, ofConst, argFr, binF, intF, unF, idxN_nat, reduceIte, reduceCtorEq, Nat.reduceEqDiff, Nat.reduceAdd, Nat.reduceMul, Option.getD_some, Option.getD_none, Option.map_some, Option.map_none, Option.bind_some, Option.some.injEq, Prod.mk.injEq, List.getElem?_toArray, List.getElem?_cons_zero, List.getElem?_cons_succ, List.getElem?_nil, Nat.succ_ne_zero, and_self, true_and, and_true, true_or, or_true, false_or, or_false, exists_eq_left, exists_eq_left', exists_eq, exists_and_left, and_assoc, if_true, if_false, decide_true, decide_false, Bool.false_eq_true, beq_self_eq_true, Bool.true_beq, Bool.false_beq, Bool.not_true, Bool.not_false, ne_eq, not_true_eq_false, not_false_eq_true, List.length_cons, List.length_nil, decide_eq_true_eq, decide_eq_false_iff_not, callB, List.zip_cons_cons, List.zip_nil_right, List.zip_nil_left, List.map_cons, List.map_nil, List.size_toArray, partF, TI.agg, scal, isAgg, cellsOf, tokRo, cellOk, List.all_cons, List.all_nil, Bool.and_true, Bool.true_and, Bool.or_true, Bool.true_or, Bool.or_false, Bool.and_self, Nat.reduceLeDiff, Nat.reduceLT, Nat.lt_add_one, Nat.zero_lt_succ, range1, range2, range3, range4, Option.isSome_some, splice, fillF, List.take_zero, List.drop_zero, List.drop_succ_cons, List.take_succ_cons, List.nil_append, List.cons_append, Int.reduceEq, Int.reduceLT, Int.reduceAdd, Int.reduceSub, Int.reduceMul, W_regionD, xrE, OpsW_eqnil, OpsW_neqnil, NilW_sl, List.set_cons_zero, List.set_cons_succ, List.headD_cons, T3, T4, T27, T30, T66, T150, X3, X4, X27, X30, X66, f0, f8, f9, f10, ci, ga, c1, c2, c3, get_last, set_last, resF, resAll, resOne]
      exact ⟨1, by rw [pub_int, bad (by simp [spBad, c1, c2, c3])]⟩
    by_cases c4 : l[i].v < 1
    · skip
      simp only [W_skip, W_region, W_seq, W_cond, W_block, W_exit, W_label, W_ret, W_range, OpsW_nil, OpsW_app, OpsW_app', OpsW_op, OpsW_guard, upd_some, upd_none, Br_W1, Br_W2, Br_O1, Br_O2, opF, evalT, evalO, ofConst, argFr, binF, intF, unF, idxN_nat, reduceIte, reduceCtorEq, Nat.reduceEqDiff, Nat.reduceAdd, Nat.reduceMul, Option.getD_some, Option.getD_none, Option.map_some, Option.map_none, Option.bind_some, Option.some.injEq, Prod.mk.injEq, List.getElem?_toArray, List.getElem?_cons_zero, List.getElem?_cons_succ, List.getElem?_nil, Nat.succ_ne_zero, and_self, true_and, and_true, true_or, or_true, false_or, or_false, exists_eq_left, exists_eq_left', exists_eq, exists_and_left, and_assoc, if_true, if_false, decide_true, decide_false, Bool.false_eq_true, beq_self_eq_true, Bool.true_beq, Bool.false_beq, Bool.not_true, Bool.not_false, ne_eq, not_true_eq_false, not_false_eq_true, List.length_cons, List.length_nil, decide_eq_true_eq, decide_eq_false_iff_not, callB, List.zip_cons_cons, List.zip_nil_right, List.zip_nil_left, List.map_cons, List.map_nil, List.size_toArray, partF, TI.agg, scal, isAgg, cellsOf, tokRo, cellOk, List.all_cons, List.all_nil, Bool.and_true, Bool.true_and, Bool.or_true, Bool.true_or, Bool.or_false, Bool.and_self, Nat.reduceLeDiff, Nat.reduceLT, Nat.lt_add_one, Nat.zero_lt_succ, range1, range2, range3, range4, Option.isSome_some, splice, fillF, List.take_zero, List.drop_zero, List.drop_succ_cons, List.take_succ_cons, List.nil_append, List.cons_append, Int.reduceEq, Int.reduceLT, Int.reduceAdd, Int.reduceSub, Int.reduceMul, W_regionD, xrE, OpsW_eqnil, OpsW_neqnil, NilW_sl, List.set_cons_zero, List.set_cons_succ, List.headD_cons, T3, T4, T27, T30, T66, T150, X3, X4, X27, X30, X66, f0, f8, f9, f10, ci, ga, c1, c2, c3, c4, get_last, set_last, resF, resAll, resOne]
      exact ⟨1, by rw [pub_int, bad (by simp [spBad, c1, c2, c3, c4])]⟩
    by_cases c5 : l[i].v > 254
    · skip
      simp only [W_skip, W_region, W_seq, W_cond, W_block, W_exit, W_label, W_ret, W_range, OpsW_nil, OpsW_app, OpsW_app', OpsW_op, OpsW_guard, upd_some, upd_none, Br_W1, Br_W2, Br_O1, Br_O2, opF, evalT, evalO, ofConst, argFr, binF, intF, unF, idxN_nat, reduceIte, reduceCtorEq, Nat.reduceEqDiff, Nat.reduceAdd, Nat.reduceMul, Option.getD_some, Option.getD_none, Option.map_some, Option.map_none, Option.bind_some, Option.some.injEq, Prod.mk.injEq, List.getElem?_toArray, List.getElem?_cons_zero, List.getElem?_cons_succ, List.getElem?_nil, Nat.succ_ne_zero, and_self, true_and, and_true, true_or, or_true, false_or, or_false, exists_eq_left, exists_eq_left', exists_eq, exists_and_left, and_assoc, if_true, if_false, decide_true, decide_false, Bool.false_eq_true, beq_self_eq_true, Bool.true_beq, Bool.false_beq, Bool.not_true, Bool.not_false, ne_eq, not_true_eq_false, not_false_eq_true, List.length_cons, List.length_nil, decide_eq_true_eq, decide_eq_false_iff_not, callB, List.zip_cons_cons, List.zip_nil_right, List.zip_nil_left, List.map_cons, List.map_nil, List.size_toArray, partF, TI.agg, scal, isAgg, cellsOf, tokRo, cellOk, List.all_cons, List.all_nil, Bool.and_true, Bool.true_and, Bool.or_true, Bool.true_or, Bool.or_false, Bool.and_self, Nat.reduceLeDiff, Nat.reduceLT, Nat.lt_add_one, Nat.zero_lt_succ, range1, range2, range3, range4, Option.isSome_some, splice, fillF, List.take_zero, List.drop_zero, List.drop_succ_cons, List.take_succ_cons, List.nil_append, List.cons_append, Int.reduceEq, Int.reduceLT, Int.reduceAdd, Int.reduceSub, Int.reduceMul, W_regionD, xrE, OpsW_eqnil, OpsW_neqnil, NilW_sl, List.set_cons_zero, List.set_cons_succ, List.headD_cons, T3, T4, T27, T30, T66, T150, X3, X4, X27, X30, X66, f0, f8, f9, f10, ci, ga, c1, c2, c3, c4, c5, get_last, set_last, resF, resAll, resOne]
      exact ⟨1, by rw [pub_int, bad (by simp [spBad, c1, c2, c3, c4, c5])]⟩
    simp only [W_skip, W_region, W_seq, W_cond, W_block, W_exit, W_label, W_ret, W_range, OpsW_nil, OpsW_app, OpsW_app', OpsW_op, OpsW_guard, upd_some, upd_none, Br_W1, Br_W2, Br_O1, Br_O2, opF, evalT, evalO, ofConst, argFr, binF, intF, unF, idxN_nat, reduceIte, reduceCtorEq, Nat.reduceEqDiff, Nat.reduceAdd, Nat.reduceMul, Option.getD_some, Option.getD_none, Option.map_some, Option.map_none, Option.bind_some, Option.some.injEq, Prod.mk.injEq, List.getElem?_toArray, List.getElem?_cons_zero, List.getElem?_cons_succ, List.getElem?_nil, Nat.succ_ne_zero, and_self, true_and, and_true, true_or, or_true, false_or, or_false, exists_eq_left, exists_eq_left', exists_eq, exists_and_left, and_assoc, if_true, if_false, decide_true, decide_false, Bool.false_eq_true, beq_self_eq_true, Bool.true_beq, Bool.false_beq, Bool.not_true, Bool.not_false, ne_eq, not_true_eq_false, not_false_eq_true, List.length_cons, List.length_nil, decide_eq_true_eq, decide_eq_false_iff_not, callB, List.zip_cons_cons, List.zip_nil_right, List.zip_nil_left, List.map_cons, List.map_nil, List.size_toArray, partF, TI.agg, scal, isAgg, cellsOf, tokRo, cellOk, List.all_cons, List.all_nil, Bool.and_true, Bool.true_and, Bool.or_true, Bool.true_or, Bool.or_false, Bool.and_self, Nat.reduceLeDiff, Nat.reduceLT, Nat.lt_add_one, Nat.zero_lt_succ, range1, range2, range3, range4, Option.isSome_some, splice, fillF, List.take_zero, List.drop_zero, List.drop_succ_cons, List.take_succ_cons, List.nil_append, List.cons_append, Int.reduceEq, Int.reduceLT, Int.reduceAdd, Int.reduceSub, Int.reduceMul, W_regionD, xrE, OpsW_eqnil, OpsW_neqnil, NilW_sl, List.set_cons_zero, List.set_cons_succ, List.headD_cons, T3, T4, T27, T30, T66, T150, X3, X4, X27, X30, X66, f0, f8, f9, f10, ci, ga, hw, c1, c2, c3, c4, c5, get_last, set_last]
    refine ⟨l.length - (i + 1), by omega, i + 1, rfl, by omega, fun g hg => ?_, rfl⟩
    rw [List.take_succ_eq_append_getElem ia, List.mem_append] at hg
    rcases hg with hg | hg
    · exact hall g hg
    · simp at hg
      subst hg
      simp [spBad, c1, c2, c3, c4, c5]
  have hil : l.take i = l := List.take_of_length_le (by omega)
  rw [hil] at hall
  have h1 : l.any spBad = false := by
    rw [← Bool.not_eq_true, List.any_eq_true]
    rintro ⟨g, hg, e⟩
    rw [hall g hg] at e
    cases e
  simp only [W_skip, W_region, W_seq, W_cond, W_block, W_exit, W_label, W_ret, W_range, OpsW_nil, OpsW_app, OpsW_app', OpsW_op, OpsW_guard, upd_some, upd_none, Br_W1, Br_W2, Br_O1, Br_O2, opF, evalT, evalO, ofConst, argFr, binF, intF, unF, idxN_nat, reduceIte, reduceCtorEq, Nat.reduceEqDiff, Nat.reduceAdd, Nat.reduceMul, Option.getD_some, Option.getD_none, Option.map_some, Option.map_none, Option.bind_some, Option.some.injEq, Prod.mk.injEq, List.getElem?_toArray, List.getElem?_cons_zero, List.getElem?_cons_succ, List.getElem?_nil, Nat.succ_ne_zero, and_self, true_and, and_true, true_or, or_true, false_or, or_false, exists_eq_left, exists_eq_left', exists_eq, exists_and_left, and_assoc, if_true, if_false, decide_true, decide_false, Bool.false_eq_true, beq_self_eq_true, Bool.true_beq, Bool.false_beq, Bool.not_true, Bool.not_false, ne_eq, not_true_eq_false, not_false_eq_true, List.length_cons, List.length_nil, decide_eq_true_eq, decide_eq_false_iff_not, callB, List.zip_cons_cons, List.zip_nil_right, List.zip_nil_left, List.map_cons, List.map_nil, List.size_toArray, partF, TI.agg, scal, isAgg, cellsOf, tokRo, cellOk, List.all_cons, List.all_nil, Bool.and_true, Bool.true_and, Bool.or_true, Bool.true_or, Bool.or_false, Bool.and_self, Nat.reduceLeDiff, Nat.reduceLT, Nat.lt_add_one, Nat.zero_lt_succ, range1, range2, range3, range4, Option.isSome_some, splice, fillF, List.take_zero, List.drop_zero, List.drop_succ_cons, List.take_succ_cons, List.nil_append, List.cons_append, Int.reduceEq, Int.reduceLT, Int.reduceAdd, Int.reduceSub, Int.reduceMul, W_regionD, xrE, OpsW_eqnil, OpsW_neqnil, NilW_sl, List.set_cons_zero, List.set_cons_succ, List.headD_cons, T3, T4, T27, T30, T66, T150, X3, X4, X27, X30, X66, f0, f8, f9, f10, ci]
  exact ordChk2 l t hl h1 _ _ (by simp [upd, f0])
end Go.Pv.Ct
end
section
namespace Go.Proofs
open Go.Shelf
def Tryz.build_ren : Go.Shelf.Ren := ⟨fun | 166 => 99 | 167 => 101 | 240 => 135 | 276 => 155 | n => n, fun | 0 => 0 | 3 => 3 | 4 => 4 | 5 => 5 | 9 => 9 | 20 => 20 | 37 => 130 | 70 => 129 | 72 => 132 | 75 => 134 | 80 => 139 | 164 => 181 | n => n, fun | n => n⟩
theorem Tryz.laysB166 : Go.Proofs.Lays.n166 Tryz.prog Tryz.build_ren where
  mixed := by kernel_rfl
  f166 := Tryz.func99.trans (congrArg some (by kernel_rfl))
  f240 := Tryz.func135.trans (congrArg some (by kernel_rfl))
  f276 := Tryz.func155.trans (congrArg some (by kernel_rfl))
  t0 := Tryz.underlying0
  a0 := Tryz.isAgg0
  z0 := Tryz.sizeOf0
  v0 := Tryz.zeroValue0
  t3 := Tryz.underlying3
  a3 := Tryz.isAgg3
  z3 := Tryz.sizeOf3
  v3 := Tryz.zeroValue3
  t4 := Tryz.underlying4
  a4 := Tryz.isAgg4
  z4 := Tryz.sizeOf4
  v4 := Tryz.zeroValue4
  t9 := Tryz.underlying9
  a9 := Tryz.isAgg9
  z9 := Tryz.sizeOf9
  v9 := Tryz.zeroValue9
  t20 := Tryz.underlying20
  a20 := Tryz.isAgg20
  z20 := Tryz.sizeOf20
  v20 := Tryz.zeroValue20
  t37 := Tryz.underlying130
  a37 := Tryz.isAgg130
  z37 := Tryz.sizeOf130
  v37 := Tryz.zeroValue130
  t70 := Tryz.underlying129
  a70 := Tryz.isAgg129
  z70 := Tryz.sizeOf129
  v70 := Tryz.zeroValue129
  t72 := Tryz.underlying132
  a72 := Tryz.isAgg132
  z72 := Tryz.sizeOf132
  v72 := Tryz.zeroValue132
  t75 := Tryz.underlying134
  a75 := Tryz.isAgg134
  z75 := Tryz.sizeOf134
  v75 := Tryz.zeroValue134
  t164 := Tryz.underlying181
  a164 := Tryz.isAgg181
  z164 := Tryz.sizeOf181
  v164 := Tryz.zeroValue181
theorem Tryz.laysB167 : Go.Proofs.Lays.n167 Tryz.prog Tryz.build_ren where
  mixed := by kernel_rfl
  f167 := Tryz.func101.trans (congrArg some (by kernel_rfl))
  f240 := Tryz.func135.trans (congrArg some (by kernel_rfl))
  f276 := Tryz.func155.trans (congrArg some (by kernel_rfl))
  t0 := Tryz.underlying0
  a0 := Tryz.isAgg0
  z0 := Tryz.sizeOf0
  v0 := Tryz.zeroValue0
  t4 := Tryz.underlying4
  a4 := Tryz.isAgg4
  z4 := Tryz.sizeOf4
  v4 := Tryz.zeroValue4
  t5 := Tryz.underlying5
  a5 := Tryz.isAgg5
  z5 := Tryz.sizeOf5
  v5 := Tryz.zeroValue5
  t9 := Tryz.underlying9
  a9 := Tryz.isAgg9
  z9 := Tryz.sizeOf9
  v9 := Tryz.zeroValue9
  t20 := Tryz.underlying20
  a20 := Tryz.isAgg20
  z20 := Tryz.sizeOf20
  v20 := Tryz.zeroValue20
  t37 := Tryz.underlying130
  a37 := Tryz.isAgg130
  z37 := Tryz.sizeOf130
  v37 := Tryz.zeroValue130
  t70 := Tryz.underlying129
  a70 := Tryz.isAgg129
  z70 := Tryz.sizeOf129
  v70 := Tryz.zeroValue129
  t72 := Tryz.underlying132
  a72 := Tryz.isAgg132
  z72 := Tryz.sizeOf132
  v72 := Tryz.zeroValue132
  t75 := Tryz.underlying134
  a75 := Tryz.isAgg134
  z75 := Tryz.sizeOf134
  v75 := Tryz.zeroValue134
  t164 := Tryz.underlying181
  a164 := Tryz.isAgg181
  z164 := Tryz.sizeOf181
  v164 := Tryz.zeroValue181
theorem Tryz.buildX : Builder.Extra Tryz.prog Tryz.build_ren := {
  sizeBuilder := by kernel_rfl
  liesBuilder := by kernel_rfl
  t5 := Tryz.underlying5
  a5 := Tryz.isAgg5
  z5 := Tryz.sizeOf5
  v5 := Tryz.zeroValue5
  infoByte := by kernel_rfl
  cellsByte := by kernel_rfl
  sizeByte := by kernel_rfl
  neB5 := by decide }
end Go.Proofs
end
section
namespace Go.Pv
open Go.ChangeShapes Go.WideShapes Go.ChangeAt Go.RowKit

/-- All that lies in memory when the law begins. -/
def K0 (W : World) : Know := fun a => W.cell? a
theorem rel0 {G : Nat → PV} (hG : ∀ g, G g = .bad) (ι : Nat → Value) (W : World) : Rel G (K0 W) ι [] W :=
  ⟨fun _ _ h => h, fun g => by rw [hG]; exact .bad _, fun id o e => by simp at e, fun i j b hi => by simp at hi, fun g cs e => (by rw [hG] at e; cases e), fun g cs e => (by rw [hG] at e; cases e)⟩
/-- The same where some variables are known. -/
theorem rel1 {G : Nat → PV} (ι : Nat → Value) (W : World) (hG : ∀ g, G g = .bad ∨ ∃ cs arr e fz, G g = .rptr cs ∧ W.heap[g]? = some (.cells arr e fz) ∧ arr.size = cs.length ∧ ∀ (i : Nat) (p : PV), cs[i]? = some p → ∃ v, arr[i]? = some v ∧ v.oneCell' = true ∧ TRel (K0 W) p v) : Rel G (K0 W) ι [] W := by
  refine ⟨fun _ _ h => h, fun g => ?_, fun id o e => by simp at e, fun i j b hi => by simp at hi, fun g cs e => ?_, fun g cs e => not_owned_nil⟩
  · rcases hG g with h | ⟨cs, arr, e, fz, h, hw, hs, hv⟩
    · rw [h]; exact .bad _
    · rw [h]
      have at' : ∀ i, i < cs.length → ∃ p v, cs[i]? = some p ∧ arr[i]? = some v ∧ v.oneCell' = true ∧ TRel (K0 W) p v := by
        intro i hi
        obtain ⟨v, a, b, c⟩ := hv i cs[i] (List.getElem?_eq_getElem hi)
        exact ⟨_, v, List.getElem?_eq_getElem hi, a, b, c⟩
      refine .rptr cs g 0 (fun i => if i < cs.length then arr.getD i (.bool false) else .bool false) (fun i hi => ?_) (fun i => ?_) (fun i p hp => ?_)
      · obtain ⟨p, v, _, a, _, _⟩ := at' i hi
        simp only [if_pos hi]
        rw [Array.getD_eq_getD_getElem?, a, Nat.zero_add]
        simp [K0, World.cell?, hw, a]
      · by_cases hi : i < cs.length
        · obtain ⟨p, v, _, a, b, _⟩ := at' i hi
          simp only [if_pos hi]
          rw [Array.getD_eq_getD_getElem?, a]
          exact b
        · simp only [if_neg hi]; rfl
      · have hi : i < cs.length := (List.getElem?_eq_some_iff.1 hp).1
        obtain ⟨p', v, a0, a, _, c⟩ := at' i hi
        rw [hp] at a0
        cases a0
        simp only [if_pos hi]
        rw [Array.getD_eq_getD_getElem?, a]
        exact c
  · rcases hG g with h | ⟨cs', arr, e', fz, h, hw, hs, hv⟩
    · rw [h] at e; cases e
    · rw [h] at e; cases e; exact ⟨arr, e', fz, hw, hs⟩
/-- A variable that is known: as it is read. -/
theorem Rel.var {G : Nat → PV} {K : Know} {ι : Nat → Value} {st : Store} {w : World} (h : Rel G K ι st w) {P : Program} {name : String} {g : Nat} (hn : P.globalNamed name = some g) {cs : List PV} {vs : List Value} (hG : G g = .rptr cs) (hl : vs.length = cs.length)
    (hv : ∀ (i : Nat) (p : PV) (v : Value), cs[i]? = some p → TRel K p v → vs[i]? = some v) : w.var? P name = some vs.toArray := by
  obtain ⟨arr, e, fz, hw, hs⟩ := h.gsz g cs hG
  have hg := h.glob g
  rw [hG] at hg
  unfold World.var?
  rw [hn]
  simp only [Option.bind_some, hw, Option.some.injEq]
  cases hg with
  | rptr _ _ _ f hK h1 hr =>
    apply Array.ext
    · simp; omega
    · intro i h2 h3
      have hi : i < cs.length := by omega
      have hk := h.know _ _ (hK i hi)
      have hp : cs[i]? = some cs[i] := List.getElem?_eq_getElem hi
      have hx := hv i _ _ hp (hr i _ hp)
      have h4 : i < vs.length := by omega
      rw [Nat.zero_add] at hk
      simp [World.cell?, hw, h2] at hk
      rw [List.getElem?_eq_getElem h4] at hx
      injection hx with hx
      rw [hk]
      simpa using hx.symm
theorem plain_calls1 {E : Env} {f : FuncId} {xs : List PV} {b : Bool} (h : Plain E f xs (.bool b)) {W : World} {vs : Array Value} (hr : Rel E.G (K0 W) (fun _ => undef) [] W) (hl : xs.length = vs.size) (hx : ∀ (i : Nat) (p : PV) (u : Value), xs[i]? = some p → vs[i]? = some u → TRel (K0 W) p u) :
    Calls E.P f vs W fun e W' => e = .returned (.bool b) ∧ Below W.heap.size W W' := by
  refine (h.2 (K0 W) W vs hr ⟨hl, hx⟩).mono fun e W' q => ?_
  obtain ⟨K', rv, rfl, s, t⟩ := q
  cases t
  exact ⟨rfl, s.os, s.tape, s.output, s.size, fun k hk => s.block k hk not_owned_nil⟩

theorem plain_calls {E : Env} (hG : ∀ g, E.G g = .bad) {f : FuncId} {xs : List PV} {b : Bool} (h : Plain E f xs (.bool b)) {W : World} {vs : Array Value} (hl : xs.length = vs.size) (hx : ∀ (i : Nat) (p : PV) (u : Value), xs[i]? = some p → vs[i]? = some u → TRel (K0 W) p u) :
    Calls E.P f vs W fun e W' => e = .returned (.bool b) ∧ Below W.heap.size W W' := by
  refine (h.2 (K0 W) W vs (rel0 hG _ W) ⟨hl, hx⟩).mono fun e W' q => ?_
  obtain ⟨K', rv, rfl, s, t⟩ := q
  cases t
  exact ⟨rfl, s.os, s.tape, s.output, s.size, fun k hk => s.block k hk not_owned_nil⟩

/-- A slice of numbers that came in. -/
theorem ints_arg {W : World} {k : IntKind} {a : Option Addr} {len cap : Nat} {zs : List Int}
    (h : (a = none ∧ len = 0 ∧ cap = 0 ∧ zs = []) ∨ ∃ x, a = some x ∧ len ≤ cap ∧ cap ≤ maxLen ∧ zs.length = cap ∧ (∀ i, i < zs.length → W.cell? (x.add i) = some (.int k (zs.getD i 0)))) :
    TRel (K0 W) (.sl 1 ((zs.take len).map fun n => [.int k n]) .ro) (.slice a len cap) ∧ (zs.take len).length = len := by
  rcases h with ⟨rfl, rfl, rfl, rfl⟩ | ⟨x, rfl, hl, hm, hz, hc⟩
  · exact ⟨TRel.nilSl _ _ _ (.inl rfl), rfl⟩
  · have hlen : (zs.take len).length = len := by rw [List.length_take]; omega
    refine ⟨?_, hlen⟩
    have hn : ((zs.take len).map fun n => [PV.int k n]).length = len := by simpa using hlen
    have main : TRel (K0 W) (.sl 1 ((zs.take len).map fun n => [.int k n]) .ro) (.slice (some x) ((zs.take len).map fun n => [PV.int k n]).length cap) := by
      refine .sl 1 _ .ro (some x) cap x.block x.off (fun j _ => .int k (zs.getD j 0)) (fun j e he => ?_) (fun hne => ?_) (fun j i hj hi => ?_) (fun j i e p he hp => ?_) (fun _ _ => rfl) (by omega) hm (fun q => by cases q) (.inl rfl)
      · rw [List.getElem?_map] at he
        obtain ⟨n, _, rfl⟩ := Option.map_eq_some_iff.1 he
        rfl
      · have h0 : 0 < zs.length := by
          have : 0 < ((zs.take len).map fun n => [PV.int k n]).length := List.length_pos_iff.2 hne
          omega
        have := hc 0 h0
        simp only [Addr.add, if_true] at this
        have hs : x.spot = none := by
          unfold World.cell? at this
          split at this
          · split at this
            · cases this
            · rename_i hs; simpa using hs
          · cases this
        obtain ⟨b, o, s⟩ := x
        simp only at hs
        subst hs
        rfl
      · have hi0 : i = 0 := by omega
        subst hi0
        have hj' : j < zs.length := by omega
        have := hc j hj'
        unfold K0
        by_cases j0 : j = 0
        · subst j0
          simp only [Addr.add, if_true] at this
          have hs : x.spot = none := by
            unfold World.cell? at this
            split at this
            · split at this
              · cases this
              · rename_i hs; simpa using hs
            · cases this
          obtain ⟨b, o, s⟩ := x
          simp only at hs
          subst hs
          simpa using this
        · simp only [Addr.add, if_neg j0] at this
          simpa using this
      · rw [List.getElem?_map] at he
        obtain ⟨n, hn', rfl⟩ := Option.map_eq_some_iff.1 he
        cases i with
        | zero =>
          simp at hp
          subst hp
          have : zs[j]? = some n := by
            have hj : j < len := by
              have := (List.getElem?_eq_some_iff.1 hn').1
              omega
            rw [List.getElem?_take_of_lt hj] at hn'
            exact hn'
          rw [List.getD_eq_getElem?_getD, this]
          exact .int k n
        | succ i => simp at hp
    rw [hn] at main
    exact main
end Go.Pv
end
section
namespace Go.Pv.Ct
open Go.Pv Go.RowKit Go.Proofs
set_option maxRecDepth 20000

/-- The key: each code's digits, with a space behind. -/
def keyL (l : List Int) : List UInt8 := l.flatMap fun n => Lib.itoa n ++ [32]
theorem keyL_take (l : List Int) (k : Nat) (h : k < l.length) : keyL (l.take (k + 1)) = keyL (l.take k) ++ Lib.itoa l[k] ++ [32] := by
  rw [List.take_succ_eq_append_getElem h, keyL, keyL, List.flatMap_append]
  simp
theorem tab_of_rel {K : Know} {ι : Nat → Value} {st : Store} {w : World} (h : Rel GG K ι st w) : Lib.TabIs Tryz.prog w "internal/strconv.uint64pow10" .u64 Lib.pow10Tab := by
  refine h.var (g := 2) (cs := pow10V) (by kernel_rfl) rfl (by simp [pow10V]) (fun i p v hp ht => ?_)
  unfold pow10V at hp
  rw [List.getElem?_map] at hp ⊢
  obtain ⟨z, hz, rfl⟩ := Option.map_eq_some_iff.1 hp
  cases ht
  rw [hz]; rfl
/-- A slice of numbers, as the model has it. -/
theorem ints_cells {K : Know} {l : List Int} {t : Tok} {v : Value} (h : TRel K (.sl 1 (ints l) t) v) : ∃ A c, v = .slice A l.length c ∧ ∀ k (hk : k < l.length), ∃ b off, A = some ⟨b, off, none⟩ ∧ K ⟨b, off + k, none⟩ = some (.int .i64 l[k]) := by
  cases h with
  | sl _ _ _ A c b off f hk hA hK hv h1 hc hm hn ht =>
    refine ⟨A, c, by rw [ints_length], fun k hk' => ?_⟩
    have hne : ints l ≠ [] := by
      intro e
      have h0 : (ints l).length = 0 := by rw [e]; rfl
      rw [ints_length] at h0; omega
    refine ⟨b, off, hA hne, ?_⟩
    have he := ints_get l k hk'
    have h2 := hK k 0 (by rw [ints_length]; exact hk') (by omega)
    have h3 := hv k 0 _ _ he rfl
    rw [Nat.mul_one, Nat.add_zero] at h2
    rw [h2]
    generalize f k 0 = u at h3
    cases h3; rfl
theorem builder_below {T e : TypeId} {B b : Nat} {bs : List Value} {w w' : World} (h : Lib.IsBuilder T e B b bs w) (hb : Below w.heap.size w w') : Lib.IsBuilder T e B b bs w' := by
  have key : ∀ p, Lib.BuilderAt T e B b p bs w → Lib.BuilderAt T e B b p bs w' := by
    rintro p ⟨hB, v, hbk, hown, hne⟩
    have hlt : b < w.heap.size := (Array.getElem?_eq_some_iff.1 hbk).1
    refine ⟨hB, v, by rw [hb.block b hlt]; exact hbk, hown.kept (row := none) ⟨hb.os, hb.tape, hb.output, hb.size, fun k hk _ => hb.block k hk⟩ ?_, hne⟩
    cases v.ownBlock with
    | none => exact .inl rfl
    | some g => exact .inr (by simp)
  rcases h with h | h
  · exact .inl (key _ h)
  · exact .inr (key _ h)

set_option maxHeartbeats 4000000 in
set_option maxRecDepth 1000000 in
theorem key_calls (l : List Int) (hl : l.length ≤ 1099511627776) (hr : ∀ n ∈ l, -9223372036854775808 ≤ n ∧ n ≤ 9223372036854775807) {K : Know} {ι : Nat → Value} {st : Store} {w : World} (h : Rel GG K ι st w) {t : Tok} {v : Value} (hv : TRel K (.sl 1 (ints l) t) v) :
    Calls Tryz.prog 73 #[v] w fun e w' => e = .returned (.string ⟨(keyL l).toArray⟩) ∧ Below w.heap.size w w' := by
  obtain ⟨A, c, rfl, hc⟩ := ints_cells hv
  have htab := tab_of_rel h
  have hg2 : Tryz.prog.globalNamed "internal/strconv.uint64pow10" = some 2 := by kernel_rfl
  go_enter Tryz.func73, Tryz.ntmps73
  go_wp2
  go_loopw [8] (fun i wr => ∃ k : Nat, i = .int .i64 k ∧ k ≤ l.length ∧ Lib.IsBuilder 132 5 w.heap.size w.heap.size (Lib.byteCells (keyL (l.take k))) wr ∧ Below w.heap.size w wr ∧ (keyL (l.take k)).length ≤ 22 * k) (fun i _ => l.length - (intOf i).toNat)
  case atStart =>
    exact ⟨0, rfl, by omega, Lib.fresh_isBuilder 132 5 w, (Below.refl _ w).alloc (Nat.le_refl _) _, by simp [keyL]⟩
  case round =>
    obtain ⟨k, rfl, hk, hI, hb, hlen⟩ := hrel
    by_cases ck : k < l.length
    · obtain ⟨b, off, rfl, hK⟩ := hc k ck
      have hcell : wr.cell? ⟨b, off + k, none⟩ = some (.int .i64 l[k]) := by
        have h1 := h.know _ _ hK
        have h2 := h.know_lt hK
        rw [World.cell?_of_block (hb.block b h2)]; exact h1
      have hrk := hr _ (List.getElem_mem ck)
      have htw := Joins.tab_stays hg2 htab hb (Nat.le_refl _)
      have hil := Lib.itoa_length_le l[k] hrk.1 hrk.2
      have hsz := hb.size
      go_wp2_with (go_at_call 100; refine (Tryz.strconv_Itoa _ hrk.1 hrk.2 _ htw).mono ?_)
      rintro e W1 ⟨rfl, k1, os1, rfl⟩
      have hb1 := Lib.below_grow wr.heap.size wr (Nat.le_refl _) k1 os1
      have hI1 := builder_below hI hb1
      have hsz1 := hb1.size
      generalize Sort.grow (wr.drewN k1) os1 = W1 at hb1 hI1 hsz1 ⊢
      go_wp2_with (go_at_call 99; refine (Any.Builder_WriteString Tryz.laysB166 Tryz.buildX w.heap.size w.heap.size _ _ _ hI1 (by rw [Lib.byteCells_length]; simp only [ByteArray.size, List.size_toArray]; omega) (by omega)).mono ?_)
      rintro e W2 ⟨rfl, hI2, hb2⟩
      have hsz2 := hb2.size
      go_wp2_with (go_at_call 101; refine (Any.Builder_WriteByte Tryz.laysB167 Tryz.buildX w.heap.size w.heap.size _ 32 _ (.inr hI2) (by rw [List.length_append, Lib.byteCells_length, Lib.strCells_length]; simp only [ByteArray.size, List.size_toArray]; omega) (by omega)).mono ?_)
      rintro e W3 ⟨rfl, hI3, hb3⟩
      go_wp2
      go_roundw
      case rel =>
        have hkt := keyL_take l k ck
        have hB : Below w.heap.size w W3 := ((hb.trans (Joins.below_le hb1 hsz)).trans hb2).trans hb3
        refine ⟨k + 1, ?_, by omega, ?_, hB, ?_⟩
        · rfl
        · rw [hkt, Lib.byteCells_append, Lib.byteCells_append]; exact .inr hI3
        · rw [hkt, List.length_append, List.length_append]; simp only [List.length_cons, List.length_nil]; omega
      case measure =>
        simp only [intOf]; omega
    · have hkl : l.take k = l := List.take_of_length_le (by omega)
      rw [hkl] at hI
      have hsz := hb.size
      go_wp2_with (go_at_call 102; refine (Tryz.Builder_String_any w.heap.size w.heap.size (keyL l) _ hI (by omega)).mono ?_)
      rintro e W1 ⟨rfl, hb1⟩
      go_wp2
      go_ret
      exact ⟨rfl, hb.trans hb1⟩

theorem key_plain (l : List Int) (t : Tok) (hl : l.length ≤ 1099511627776) (hr : ∀ n ∈ l, -9223372036854775808 ≤ n ∧ n ≤ 9223372036854775807) : Plain EE 73 [.sl 1 (ints l) t] (.str (keyL l)) := by
  refine ⟨ok73.enters, fun K w vs h ha => ?_⟩
  obtain ⟨hs, hv⟩ := ha
  have hs1 : vs.size = 1 := by simpa using hs.symm
  obtain ⟨v, rfl⟩ : ∃ v, vs = #[v] := ⟨vs[0], by
    apply Array.ext
    · simp [hs1]
    · intro i h1 h2
      have : i = 0 := by simp at h2; omega
      subst this; rfl⟩
  refine (key_calls l hl hr h (hv 0 _ v rfl rfl)).mono fun e w' q => ?_
  obtain ⟨rfl, hb⟩ := q
  have hx : Rel GG K (fun _ => undef) [] w' := by
    refine ⟨fun a u e => ?_, h.glob, fun id o e => by simp at e, fun i j b hi => by simp at hi, h.gsz.keep fun b hlt _ _ => hb.block b hlt, h.gown⟩
    rw [World.cell?_of_block (hb.block a.block (h.know_lt e))]; exact h.know a u e
  exact ⟨K, _, rfl, ⟨hx, Ext.refl _ _ _, hb.os, hb.tape, hb.output, hb.size, fun b hlt _ => hb.block b hlt, fun b hq _ => hq, fun _ _ e => .inl e⟩, .str _⟩
end Go.Pv.Ct
end
section
namespace Go.Pv.Ct
open Go.Pv
set_option maxRecDepth 1000000

/-- Decimal digits, at most so many. -/
def dec : Nat → Nat → List UInt8
  | 0, _ => []
  | f + 1, u => bif Nat.ble 10 u then dec f (u / 10) ++ [UInt8.ofNat (48 + u % 10)] else [UInt8.ofNat (48 + u)]
theorem dec_eq : ∀ (f u : Nat), u < 10 ^ f → 0 < f → dec f u = Lib.decDigits u
  | 0, _, _, h => by omega
  | f + 1, u, h, _ => by
    rw [dec, Lib.decDigits]
    by_cases hu : u < 10
    · have : Nat.ble 10 u = false := by rw [← Bool.not_eq_true, Nat.ble_eq]; omega
      rw [this, dif_pos hu]; rfl
    · have hb : Nat.ble 10 u = true := by rw [Nat.ble_eq]; omega
      rw [hb, dif_neg hu]
      have h10 : u / 10 < 10 ^ f := by
        rw [Nat.div_lt_iff_lt_mul (by omega)]
        rw [Nat.pow_succ] at h
        omega
      have hf : 0 < f := by
        rcases Nat.eq_zero_or_pos f with e | e
        · subst e; simp at h10; omega
        · exact e
      rw [show (bif true then dec f (u / 10) ++ [UInt8.ofNat (48 + u % 10)] else [UInt8.ofNat (48 + u)]) = dec f (u / 10) ++ [UInt8.ofNat (48 + u % 10)] from rfl, dec_eq f _ h10 hf]
def itoaN (n : Int) : List UInt8 := if n < 0 then 45 :: dec 20 n.natAbs else dec 20 n.toNat
def small (n : Int) : Bool := decide (-9223372036854775808 ≤ n) && decide (n ≤ 9223372036854775807)
theorem itoaN_eq {n : Int} (h : small n = true) : itoaN n = Lib.itoa n := by
  simp only [small, Bool.and_eq_true, decide_eq_true_eq] at h
  unfold itoaN Lib.itoa
  have h1 : n.natAbs < 10 ^ 20 := by omega
  have h2 : n.toNat < 10 ^ 20 := by omega
  rw [dec_eq 20 _ h1 (by omega), dec_eq 20 _ h2 (by omega)]
def intsOf : List (List PV) → Option (List Int)
  | [] => some []
  | [.int .i64 n] :: es => (intsOf es).map fun l => n :: l
  | _ => none
theorem intsOf_eq : ∀ {es : List (List PV)} {l : List Int}, intsOf es = some l → es = ints l
  | [], l, h => by simp [intsOf] at h; subst h; rfl
  | x :: es, l, h => by
    unfold intsOf at h
    split at h
    · cases h; rename_i e; cases e
    · rename_i n es' e
      cases e
      obtain ⟨l', hl', rfl⟩ := Option.map_eq_some_iff.1 h
      rw [intsOf_eq hl']; rfl
    · cases h
def keyN (l : List Int) : List UInt8 := l.flatMap fun n => itoaN n ++ [32]
def keyF : List PV → Option PV
  | [.sl 1 es _] => match intsOf es with
    | some l => bif Nat.ble l.length 1099511627776 && l.all small then some (.str (keyN l)) else none
    | none => none
  | _ => none
theorem keyF_ok (xs : List PV) (v : PV) (h : keyF xs = some v) : Plain EE 73 xs v := by
  unfold keyF at h
  split at h
  · rename_i es t
    split at h
    · rename_i l hl
      cases hc : (Nat.ble l.length 1099511627776 && l.all small) with
      | false => rw [hc] at h; cases h
      | true =>
        rw [hc] at h
        simp only [cond_true, Option.some.injEq] at h
        subst h
        rw [Bool.and_eq_true, Nat.ble_eq, List.all_eq_true] at hc
        have hk : keyN l = keyL l := by
          unfold keyN keyL
          have : ∀ l' : List Int, (∀ n ∈ l', small n = true) → (l'.flatMap fun n => itoaN n ++ [32]) = l'.flatMap fun n => Lib.itoa n ++ [32] := by
            intro l'
            induction l' with
            | nil => intro _; rfl
            | cons n l' ih =>
              intro hh
              rw [List.flatMap_cons, List.flatMap_cons, ih (fun m hm => hh m (by simp [hm])), itoaN_eq (hh n (by simp))]
          exact this l hc.2
        rw [hk, intsOf_eq hl]
        refine key_plain l t hc.1 (fun n hn => ?_)
        have := hc.2 n hn
        simpa only [small, Bool.and_eq_true, decide_eq_true_eq] using this
    · cases h
  · cases h
def spansOf : List (List PV) → Option (List Span)
  | [] => some []
  | [.int .i64 a, .int .i64 b, .int .i64 c] :: es => (spansOf es).map fun l => ⟨a, b, c⟩ :: l
  | _ => none
theorem spansOf_eq : ∀ {es : List (List PV)} {l : List Span}, spansOf es = some l → es = spR l
  | [], l, h => by simp [spansOf] at h; subst h; rfl
  | x :: es, l, h => by
    unfold spansOf at h
    split at h
    · cases h; rename_i e; cases e
    · rename_i a b c es' e
      cases e
      obtain ⟨l', hl', rfl⟩ := Option.map_eq_some_iff.1 h
      rw [spansOf_eq hl']; rfl
    · cases h
def ordF : List PV → Option PV
  | [.sl 3 es _] => match spansOf es with
    | some l => bif Nat.ble l.length 1099511627776 then some (.int .i64 (ordErr l)) else none
    | none => none
  | _ => none
theorem ordF_ok (xs : List PV) (v : PV) (h : ordF xs = some v) : Plain EE 93 xs v := by
  unfold ordF at h
  split at h
  · rename_i es t
    split at h
    · rename_i l hl
      cases hc : Nat.ble l.length 1099511627776 with
      | false => rw [hc] at h; cases h
      | true =>
        rw [hc] at h
        simp only [cond_true, Option.some.injEq] at h
        subst h
        rw [Nat.ble_eq] at hc
        rw [spansOf_eq hl]
        exact ordCheck_plain l t (by omega)
    · cases h
  · cases h
def rowsOf : List (List PV) → Option (List (List Int × Bool))
  | [] => some []
  | [.sl 1 es .full] :: r => match intsOf es, rowsOf r with | some x, some l => some ((x, true) :: l) | _, _ => none
  | [.sl 1 es .ro] :: r => match intsOf es, rowsOf r with | some x, some l => some ((x, false) :: l) | _, _ => none
  | _ => none
theorem rowsOf_eq : ∀ {es : List (List PV)} {l : List (List Int × Bool)}, rowsOf es = some l → es = listR l
  | [], l, h => by simp [rowsOf] at h; subst h; rfl
  | x :: es, l, h => by
    unfold rowsOf at h
    split at h
    · cases h; rename_i e; cases e
    · rename_i a r e
      cases e
      split at h
      · rename_i x' l' h1 h2
        cases h
        rw [intsOf_eq h1, rowsOf_eq h2]; rfl
      · cases h
    · rename_i a r e
      cases e
      split at h
      · rename_i x' l' h1 h2
        cases h
        rw [intsOf_eq h1, rowsOf_eq h2]; rfl
      · cases h
    · cases h
def catF : List PV → Option PV
  | [.sl 1 rows _] => match rowsOf rows with
    | some l => bif Nat.ble l.length 1099511627776 && Nat.ble (catL l).length 4294967296 then some (.sl 1 (ints (catL l)) (tk (catL l).isEmpty)) else none
    | none => none
  | _ => none
theorem catF_ok (xs : List PV) (v : PV) (h : catF xs = some v) : Plain EE 106 xs v := by
  unfold catF at h
  split at h
  · rename_i es t
    split at h
    · rename_i l hl
      cases hc : (Nat.ble l.length 1099511627776 && Nat.ble (catL l).length 4294967296) with
      | false => rw [hc] at h; cases h
      | true =>
        rw [hc] at h
        simp only [cond_true, Option.some.injEq] at h
        subst h
        rw [Bool.and_eq_true, Nat.ble_eq, Nat.ble_eq] at hc
        rw [rowsOf_eq hl]
        exact concat_plain l t (by omega) hc.2
    · cases h
  · cases h
def ct : Cts := fun f => if f = 73 then some keyF else if f = 93 then some ordF else if f = 106 then some catF else none
theorem ctOk : CtsOk EE ct := by
  intro f g hg xs v hv
  unfold ct at hg
  split at hg
  · rename_i e; subst e; cases hg; exact keyF_ok xs v hv
  split at hg
  · rename_i e; subst e; cases hg; exact ordF_ok xs v hv
  split at hg
  · rename_i e; subst e; cases hg; exact catF_ok xs v hv
  · cases hg
theorem alive_plain : Plain EE 15 [] (.bool true) := plain_run ok tblOk ctOk 3000 (by kernel_rfl)
end Go.Pv.Ct
end
section
namespace Go.Pv
open Go.ChangeShapes Go.WideShapes Go.ChangeAt Go.RowKit

mutual
/-- A plain type's shape. -/
inductive Sh where
  | bool
  | int (k : IntKind)
  | str
  | slice (et : TypeId) (sz : Nat) (e : Sh)
  | strct (fs : FS)
inductive FS where
  | nil
  | cons (off sz : Nat) (ft : TypeId) (f : Sh) (rest : FS)
end

mutual
def Sh.okB (P : Program) : Sh → TypeId → Bool
  | .bool, t => (match P.underlying t with | some .bool => true | _ => false) && Nat.beq (P.cellsOf t) 1
  | .int k, t => (match P.underlying t with | some (.int k') => decide (k = k') | _ => false) && Nat.beq (P.cellsOf t) 1
  | .str, t => (match P.underlying t with | some .string => true | _ => false) && Nat.beq (P.cellsOf t) 1
  | .slice et sz e, t => (match P.underlying t with | some (.slice et') => Nat.beq et et' | _ => false) && (Nat.beq (P.cellsOf t) 1 && (Nat.beq (P.cellsOf et) sz && (Nat.ble 1 sz && Sh.okB P e et)))
  | .strct fs, t => (match P.underlying t with | some (.struct l) => FS.okB P fs l.toList 0 (P.cellsOf t) | _ => false)
def FS.okB (P : Program) : FS → List Field → Nat → Nat → Bool
  | .nil, [], n, N => Nat.beq n N
  | .cons off sz ft f rest, x :: l, n, N => Nat.beq x.offset off && (Nat.beq off n && (Nat.beq x.type ft && (Nat.beq (P.cellsOf ft) sz && (Sh.okB P f ft && FS.okB P rest l (n + sz) N))))
  | _, _, _, _ => false
end

theorem FS.okB_le {P : Program} : ∀ {fs : FS} {l : List Field} {n N : Nat}, fs.okB P l n N = true → n ≤ N
  | .nil, [], n, N, h => by
    simp only [FS.okB] at h
    exact Nat.le_of_eq (Nat.eq_of_beq_eq_true h)
  | .nil, _ :: _, n, N, h => by simp [FS.okB] at h
  | .cons _ _ _ _ _, [], n, N, h => by simp [FS.okB] at h
  | .cons off sz ft f rest, x :: l, n, N, h => by
    simp only [FS.okB, Bool.and_eq_true] at h
    have := FS.okB_le h.2.2.2.2.2
    omega
mutual
/-- The cells of a value of the shape. -/
def Sh.Typed : Sh → List PV → Prop
  | .bool, ps => ∃ b, ps = [.bool b]
  | .int k, ps => ∃ n, ps = [.int k n] ∧ (Lit.int k n).wf = true
  | .str, ps => ∃ s : List UInt8, ps = [.str s] ∧ s.length ≤ maxLen
  | .slice _ sz e, ps => ∃ rows : List (List PV), ps = [.sl sz rows .ro] ∧ rows.length ≤ maxLen ∧ ∀ r ∈ rows, Sh.Typed e r
  | .strct fs, ps => FS.Typed fs ps
def FS.Typed : FS → List PV → Prop
  | .nil, ps => ps = []
  | .cons _ sz _ f rest, ps => ∃ a b, ps = a ++ b ∧ a.length = sz ∧ Sh.Typed f a ∧ FS.Typed rest b
end

/-- Cells of values, one by one. -/
def CRel (K : Know) (ps : List PV) (cs : List Value) : Prop := ps.length = cs.length ∧ (∀ v ∈ cs, v.oneCell' = true) ∧ ∀ (i : Nat) (p : PV) (v : Value), ps[i]? = some p → cs[i]? = some v → TRel K p v
theorem CRel.one {K : Know} {p : PV} {v : Value} (h : TRel K p v) (h1 : v.oneCell' = true) : CRel K [p] [v] :=
  ⟨rfl, fun x hx => by simp at hx; subst hx; exact h1, fun i q u hq hu => by
    cases i with
    | zero => simp at hq hu; subst hq hu; exact h
    | succ i => simp at hq⟩
theorem CRel.append {K : Know} {ps qs : List PV} {cs ds : List Value} (h : CRel K ps cs) (h' : CRel K qs ds) : CRel K (ps ++ qs) (cs ++ ds) := by
  refine ⟨by simp [h.1, h'.1], fun v hv => ?_, fun i p v hp hv => ?_⟩
  · rcases List.mem_append.1 hv with q | q
    · exact h.2.1 v q
    · exact h'.2.1 v q
  · by_cases hi : i < ps.length
    · rw [List.getElem?_append_left hi] at hp
      rw [List.getElem?_append_left (by rw [← h.1]; exact hi)] at hv
      exact h.2.2 i p v hp hv
    · rw [List.getElem?_append_right (by omega)] at hp
      rw [List.getElem?_append_right (by rw [← h.1]; omega), ← h.1] at hv
      exact h'.2.2 _ p v hp hv

theorem list_of {α : Type} (n : Nat) (R : Nat → α → Prop) (h : ∀ i, i < n → ∃ x, R i x) : ∃ l : List α, l.length = n ∧ ∀ i x, l[i]? = some x → R i x := by
  induction n with
  | zero => exact ⟨[], rfl, fun i x h => by simp at h⟩
  | succ n ih =>
    obtain ⟨l, hl, hr⟩ := ih fun i hi => h i (by omega)
    obtain ⟨x, hx⟩ := h n (by omega)
    refine ⟨l ++ [x], by simp [hl], fun i y hy => ?_⟩
    by_cases hi : i < l.length
    · rw [List.getElem?_append_left hi] at hy; exact hr i y hy
    · rw [List.getElem?_append_right (by omega)] at hy
      have : i - l.length = 0 := by
        have := (List.getElem?_eq_some_iff.1 hy).1
        simp at this; omega
      rw [this] at hy
      simp at hy
      subst hy
      rw [show i = n by omega]; exact hx

section
variable {H : Type} {enc : TypeId × Value → H} {P : Program} {W : World} {spare : Nat → Bool} {held : Bool}

theorem spot_none {a : Addr} {v : Value} (h : W.cell? (a.add 0) = some v) : a.spot = none := by
  simp only [Addr.add, if_true] at h
  unfold World.cell? at h
  split at h
  · split at h
    · cases h
    · rename_i hs; simpa using hs
  · cases h
theorem add_at {a : Addr} (h : a.spot = none) (i : Nat) : a.add i = ⟨a.block, a.off + i, none⟩ := by
  obtain ⟨b, o, s⟩ := a
  simp only at h
  subst h
  unfold Addr.add
  split
  · rename_i e; subst e; rfl
  · rfl

/-- A slice, its elements being told. -/
theorem slice_rel {a : Addr} {len cap sz : Nat} {rows : List (List PV)} {cells : Nat → List Value} (hsz : 0 < len → 0 < sz) (hl : len ≤ cap) (hm : cap ≤ maxLen) (hrl : rows.length = len)
    (hc : ∀ i, i < len → W.cells? 0 (a.add (i * sz)) sz = some (cells i)) (hr : ∀ i r, rows[i]? = some r → CRel (K0 W) r (cells i)) : TRel (K0 W) (.sl sz rows .ro) (.slice (some a) len cap) := by
  subst hrl
  have hcl : ∀ i, i < rows.length → (cells i).length = sz := fun i hi => (World.cells?_some (hc i hi)).2.1
  have get : ∀ i j, i < rows.length → j < sz → W.cell? ((a.add (i * sz)).add j) = (cells i)[j]? := fun i j hi hj => (World.cells?_some (hc i hi)).2.2 j hj
  have hspot : 0 < rows.length → a.spot = none := by
    intro h
    have h1 := get 0 0 h (hsz h)
    rw [Nat.zero_mul] at h1
    have : (cells 0)[0]? = some ((cells 0)[0]'(by rw [hcl 0 h]; exact hsz h)) := List.getElem?_eq_getElem _
    rw [this] at h1
    have e : (a.add 0).add 0 = a.add 0 := by simp [Addr.add]
    rw [e] at h1
    exact spot_none h1
  have hat : ∀ i j, i < rows.length → (a.add (i * sz)).add j = ⟨a.block, a.off + (i * sz + j), none⟩ := by
    intro i j hi
    have hs := hspot (by omega)
    rw [add_at hs, add_at rfl, Nat.add_assoc]
  refine .sl sz rows .ro (some a) cap a.block a.off (fun i j => if i < rows.length then ((cells i)[j]?).getD (.bool false) else .bool false) (fun i r hi => ?_) (fun hne => ?_) (fun i j hi hj => ?_) (fun i j r p hi hj => ?_) (fun i j => ?_) hl hm (fun q => by cases q) (.inl rfl)
  · have hlt := (List.getElem?_eq_some_iff.1 hi).1
    rw [(hr i r hi).1, hcl i hlt]
  · have hs := hspot (List.length_pos_iff.2 hne)
    obtain ⟨b, o, s⟩ := a
    simp only at hs
    subst hs; rfl
  · unfold K0
    rw [← hat i j hi, get i j hi hj, if_pos hi]
    have : (cells i)[j]? = some ((cells i)[j]'(by rw [hcl i hi]; exact hj)) := List.getElem?_eq_getElem _
    rw [this]; rfl
  · have hlt := (List.getElem?_eq_some_iff.1 hi).1
    have hrr := hr i r hi
    have hj' := (List.getElem?_eq_some_iff.1 hj).1
    have : (cells i)[j]? = some ((cells i)[j]'(by rw [← hrr.1]; exact hj')) := List.getElem?_eq_getElem _
    rw [if_pos hlt, this]
    exact hrr.2.2 j p _ hj this
  · by_cases hlt : i < rows.length
    · rw [if_pos hlt]
      cases hx : (cells i)[j]? with
      | none => rfl
      | some v => exact (hr i rows[i] (List.getElem?_eq_getElem hlt)).2.1 v (List.mem_of_getElem? hx)
    · rw [if_neg hlt]; rfl

mutual
theorem open_sh : ∀ (sh : Sh) (t : TypeId) (fuel : Nat) (cs : List Value) (x : DataW H × List MemPlace), sh.okB P t = true → DataW.trod enc P W 0 spare held fuel t cs = some x →
    ∃ ps, sh.Typed ps ∧ CRel (K0 W) ps cs
  | .bool, t, fuel, cs, x, hok, h => by
    simp only [Sh.okB, Bool.and_eq_true] at hok
    have ht : P.underlying t = some .bool := by
      have := hok.1
      split at this
      · assumption
      · cases this
    obtain ⟨b, rfl, _⟩ := DataW.trod_bool ht h
    exact ⟨[.bool b], by simp only [Sh.Typed]; exact ⟨b, rfl⟩, .one (.bool b) rfl⟩
  | .int k, t, fuel, cs, x, hok, h => by
    simp only [Sh.okB, Bool.and_eq_true] at hok
    have ht : P.underlying t = some (.int k) := by
      have := hok.1
      split at this
      · rename_i k' e; rw [e]; simp at this; rw [this]
      · cases this
    obtain ⟨n, rfl, _, hw⟩ := DataW.trod_int ht h
    exact ⟨[.int k n], by simp only [Sh.Typed]; exact ⟨n, rfl, hw⟩, .one (.int k n) rfl⟩
  | .str, t, fuel, cs, x, hok, h => by
    simp only [Sh.okB, Bool.and_eq_true] at hok
    have ht : P.underlying t = some .string := by
      have := hok.1
      split at this
      · assumption
      · cases this
    obtain ⟨s, rfl, _, hs⟩ := DataW.trod_string ht h
    refine ⟨[.str s.data.toList], by simp only [Sh.Typed]; exact ⟨_, rfl, by simpa using hs⟩, .one ?_ rfl⟩
    have : s = bytesV s.data.toList := by cases s; simp [bytesV]
    conv => arg 3; rw [this]
    exact .str _
  | .slice et sz e, t, fuel, cs, x, hok, h => by
    simp only [Sh.okB, Bool.and_eq_true] at hok
    obtain ⟨h1, _, h3, h0, h4⟩ := hok
    have ht : P.underlying t = some (.slice et) := by
      split at h1
      · rename_i k' e; rw [e, Nat.eq_of_beq_eq_true h1]
      · cases h1
    have hsz := Nat.eq_of_beq_eq_true h3
    rcases DataW.trod_slice ht h with ⟨rfl, _⟩ | ⟨a, len, cap, elems, rest, n, _, rfl, _, _, hl, hm, hlen, hel, _, _⟩
    · exact ⟨[.sl sz [] .ro], by simp only [Sh.Typed]; exact ⟨[], rfl, by simp, fun r hr => by simp at hr⟩, .one (TRel.nilSl _ _ _ (.inl rfl)) rfl⟩
    · have each : ∀ i, i < len → ∃ q : List PV × List Value, W.cells? 0 (a.add (i * sz)) sz = some q.2 ∧ Sh.Typed e q.1 ∧ CRel (K0 W) q.1 q.2 := by
        intro i hi
        have h5 := hel i hi
        rw [show elems[i]? = some (elems[i]'(by omega)) from List.getElem?_eq_getElem _, Option.bind_eq_some_iff] at h5
        obtain ⟨ci, hci, h6⟩ := h5
        obtain ⟨r, hr1, hr2⟩ := open_sh e et n ci _ h4 h6
        exact ⟨(r, ci), by rw [← hsz]; exact hci, hr1, hr2⟩
      obtain ⟨l, hll, hlr⟩ := list_of len _ each
      refine ⟨[.sl sz (l.map (·.1)) .ro], ?_, .one ?_ rfl⟩
      · simp only [Sh.Typed]
        refine ⟨_, rfl, by simp; omega, fun r hr => ?_⟩
        obtain ⟨q, hq, rfl⟩ := List.mem_map.1 hr
        obtain ⟨i, hi⟩ := List.getElem?_of_mem hq
        exact (hlr i q hi).2.1
      · refine slice_rel (cells := fun i => ((l[i]?).map (·.2)).getD []) (fun hp => ?_) hl hm (by simp [hll]) (fun i hi => ?_) (fun i r hr => ?_)
        · exact Nat.le_of_ble_eq_true h0
        · have : l[i]? = some (l[i]'(by omega)) := List.getElem?_eq_getElem _
          rw [this]
          exact (hlr i _ this).1
        · rw [List.getElem?_map, Option.map_eq_some_iff] at hr
          obtain ⟨q, hq, rfl⟩ := hr
          rw [hq]
          exact (hlr i q hq).2.2
  | .strct fs, t, fuel, cs, x, hok, h => by
    simp only [Sh.okB] at hok
    split at hok
    · rename_i l hl
      obtain ⟨xs, n, _, _, hcs, hxl, hf⟩ := DataW.trod_struct hl h
      obtain ⟨ps, h1, h2⟩ := open_fs fs l.toList 0 (P.cellsOf t) n cs xs 0 hok (by omega) (by simp [hxl]) (fun i f hf' => by rw [Nat.zero_add]; exact hf i f (by simpa using hf')) 
      refine ⟨ps, by simp only [Sh.Typed]; exact h1, by simpa using h2⟩
    · cases hok
theorem open_fs : ∀ (fs : FS) (l : List Field) (n N : Nat) (fuel : Nat) (cs : List Value) (xs : List (DataW H × List MemPlace)) (k : Nat), fs.okB P l n N = true → cs.length = N → k + l.length ≤ xs.length →
    (∀ i f, l[i]? = some f → DataW.trod enc P W 0 spare held fuel f.type ((cs.drop f.offset).take (P.cellsOf f.type)) = xs[k + i]?) → ∃ ps, fs.Typed ps ∧ CRel (K0 W) ps (cs.drop n)
  | .nil, l, n, N, fuel, cs, xs, k, hok, hN, hk, hf => by
    cases l with
    | nil =>
      simp only [FS.okB] at hok
      have := Nat.eq_of_beq_eq_true hok
      refine ⟨[], by simp only [FS.Typed], ?_⟩
      rw [List.drop_eq_nil_of_le (by omega)]
      exact ⟨rfl, fun v hv => by simp at hv, fun i p v hp => by simp at hp⟩
    | cons x l => simp [FS.okB] at hok
  | .cons off sz ft f rest, l, n, N, fuel, cs, xs, k, hok, hN, hk, hf => by
    cases l with
    | nil => simp [FS.okB] at hok
    | cons x l =>
      simp only [FS.okB, Bool.and_eq_true] at hok
      obtain ⟨h1, h2, h3, h4, h5, h6⟩ := hok
      have h1 := Nat.eq_of_beq_eq_true h1
      have h2 := Nat.eq_of_beq_eq_true h2
      have h3 := Nat.eq_of_beq_eq_true h3
      have h4 := Nat.eq_of_beq_eq_true h4
      have hx := hf 0 x rfl
      rw [h1, h2, h3, h4, Nat.add_zero] at hx
      have hle := FS.okB_le h6
      simp only [List.length_cons] at hk
      rw [show xs[k]? = some (xs[k]'(by omega)) from List.getElem?_eq_getElem _] at hx
      obtain ⟨a, ha, ra⟩ := open_sh f ft fuel _ _ h5 hx
      obtain ⟨b, hb, rb⟩ := open_fs rest l (n + sz) N fuel cs xs (k + 1) h6 hN (by omega) (fun i g hg => by
        have := hf (i + 1) g (by simpa using hg)
        rw [this, show k + (i + 1) = k + 1 + i by omega])
      refine ⟨a ++ b, ?_, ?_⟩
      · simp only [FS.Typed]
        refine ⟨a, b, rfl, ?_, ha, hb⟩
        rw [ra.1, List.length_take, List.length_drop, hN]; omega
      · have e : cs.drop n = (cs.drop n).take sz ++ cs.drop (n + sz) := by
          rw [← List.drop_drop, List.take_append_drop]
        rw [e]
        exact ra.append rb
end
end
end Go.Pv
end
section
namespace Go.Pv.Ct
open Go.Pv
set_option maxRecDepth 20000

set_option maxHeartbeats 4000000 in
theorem checks_plain (c : Coll) (hf : Fits c) : Plain EE 3 [.agg c.cells] (.bool true) := by
  refine plain_of_W ok ok3 (by simp) ?_
  unfold BodyW
  have e0 : code Go.Proofs.Tryz.f3 = code Go.Proofs.Tryz.f3 := rfl
  conv at e0 => rhs; simp only [code, Go.Proofs.Tryz.f3, Option.getD_some]
  rw [e0]
  clear e0
  simp only [W_skip, W_region, W_seq, W_cond, W_block, W_exit, W_label, W_ret, W_range, OpsW_nil, OpsW_app, OpsW_app', OpsW_op, OpsW_guard, upd_some, upd_none, Br_W1, Br_W2, Br_O1, Br_O2, opF, evalT, evalO, ofConst, argFr, binF, intF, unF, idxN_nat, reduceIte, reduceCtorEq, Nat.reduceEqDiff, Nat.reduceAdd, Nat.reduceMul, Option.getD_some, Option.getD_none, Option.map_some, Option.map_none, Option.bind_some, Option.some.injEq, Prod.mk.injEq, List.getElem?_toArray, List.getElem?_cons_zero, List.getElem?_cons_succ, List.getElem?_nil, Nat.succ_ne_zero, and_self, true_and, and_true, true_or, or_true, false_or, or_false, exists_eq_left, exists_eq_left', exists_eq, exists_and_left, and_assoc, if_true, if_false, decide_true, decide_false, Bool.false_eq_true, beq_self_eq_true, Bool.true_beq, Bool.false_beq, Bool.not_true, Bool.not_false, ne_eq, not_true_eq_false, not_false_eq_true, List.length_cons, List.length_nil, decide_eq_true_eq, decide_eq_false_iff_not, callB, List.zip_cons_cons, List.zip_nil_right, List.zip_nil_left, List.map_cons, List.map_nil, List.size_toArray, partF, TI.agg, scal, isAgg, cellsOf, tokRo, cellOk, List.all_cons, List.all_nil, Bool.and_true, Bool.true_and, Bool.or_true, Bool.true_or, Bool.or_false, Bool.and_self, Nat.reduceLeDiff, Nat.reduceLT, Nat.lt_add_one, Nat.zero_lt_succ, range1, range2, range3, range4, Option.isSome_some, splice, fillF, List.take_zero, List.drop_zero, List.drop_succ_cons, List.take_succ_cons, List.nil_append, List.cons_append, Int.reduceEq, Int.reduceLT, Int.reduceAdd, Int.reduceSub, Int.reduceMul, W_regionD, xrE, OpsW_eqnil, OpsW_neqnil, NilW_sl, List.set_cons_zero, List.set_cons_succ, List.headD_cons, T3, T4, T9, T22, T23, T25, T27, T37, T41, T54, T68, T89, Coll.cells]
  refine OpsW_pl (small_plain c hf.ents) rfl rfl (by simp only [W_skip, W_region, W_seq, W_cond, W_block, W_exit, W_label, W_ret, W_range, OpsW_nil, OpsW_app, OpsW_app', OpsW_op, OpsW_guard, upd_some, upd_none, Br_W1, Br_W2, Br_O1, Br_O2, opF, evalT, evalO, ofConst, argFr, binF, intF, unF, idxN_nat, reduceIte, reduceCtorEq, Nat.reduceEqDiff, Nat.reduceAdd, Nat.reduceMul, Option.getD_some, Option.getD_none, Option.map_some, Option.map_none, Option.bind_some, Option.some.injEq, Prod.mk.injEq, List.getElem?_toArray, List.getElem?_cons_zero, List.getElem?_cons_succ, List.getElem?_nil, Nat.succ_ne_zero, and_self, true_and, and_true, true_or, or_true, false_or, or_false, exists_eq_left, exists_eq_left', exists_eq, exists_and_left, and_assoc, if_true, if_false, decide_true, decide_false, Bool.false_eq_true, beq_self_eq_true, Bool.true_beq, Bool.false_beq, Bool.not_true, Bool.not_false, ne_eq, not_true_eq_false, not_false_eq_true, List.length_cons, List.length_nil, decide_eq_true_eq, decide_eq_false_iff_not, callB, List.zip_cons_cons, List.zip_nil_right, List.zip_nil_left, List.map_cons, List.map_nil, List.size_toArray, partF, TI.agg, scal, isAgg, cellsOf, tokRo, cellOk, List.all_cons, List.all_nil, Bool.and_true, Bool.true_and, Bool.or_true, Bool.true_or, Bool.or_false, Bool.and_self, Nat.reduceLeDiff, Nat.reduceLT, Nat.lt_add_one, Nat.zero_lt_succ, range1, range2, range3, range4, Option.isSome_some, splice, fillF, List.take_zero, List.drop_zero, List.drop_succ_cons, List.take_succ_cons, List.nil_append, List.cons_append, Int.reduceEq, Int.reduceLT, Int.reduceAdd, Int.reduceSub, Int.reduceMul, W_regionD, xrE, OpsW_eqnil, OpsW_neqnil, NilW_sl, List.set_cons_zero, List.set_cons_succ, List.headD_cons, T3, T4, T9, T22, T23, T25, T27, T37, T41, T54, T68, T89, callArgs, strips, strip_sl, strip_int, strip_bool, strip_str, strip_coll'] <;> rfl) ?_
  rcases Bool.eq_false_or_eq_true (smallC c) with b | b
  · simp only [W_skip, W_region, W_seq, W_cond, W_block, W_exit, W_label, W_ret, W_range, OpsW_nil, OpsW_app, OpsW_app', OpsW_op, OpsW_guard, upd_some, upd_none, Br_W1, Br_W2, Br_O1, Br_O2, opF, evalT, evalO, ofConst, argFr, binF, intF, unF, idxN_nat, reduceIte, reduceCtorEq, Nat.reduceEqDiff, Nat.reduceAdd, Nat.reduceMul, Option.getD_some, Option.getD_none, Option.map_some, Option.map_none, Option.bind_some, Option.some.injEq, Prod.mk.injEq, List.getElem?_toArray, List.getElem?_cons_zero, List.getElem?_cons_succ, List.getElem?_nil, Nat.succ_ne_zero, and_self, true_and, and_true, true_or, or_true, false_or, or_false, exists_eq_left, exists_eq_left', exists_eq, exists_and_left, and_assoc, if_true, if_false, decide_true, decide_false, Bool.false_eq_true, beq_self_eq_true, Bool.true_beq, Bool.false_beq, Bool.not_true, Bool.not_false, ne_eq, not_true_eq_false, not_false_eq_true, List.length_cons, List.length_nil, decide_eq_true_eq, decide_eq_false_iff_not, callB, List.zip_cons_cons, List.zip_nil_right, List.zip_nil_left, List.map_cons, List.map_nil, List.size_toArray, partF, TI.agg, scal, isAgg, cellsOf, tokRo, cellOk, List.all_cons, List.all_nil, Bool.and_true, Bool.true_and, Bool.or_true, Bool.true_or, Bool.or_false, Bool.and_self, Nat.reduceLeDiff, Nat.reduceLT, Nat.lt_add_one, Nat.zero_lt_succ, range1, range2, range3, range4, Option.isSome_some, splice, fillF, List.take_zero, List.drop_zero, List.drop_succ_cons, List.take_succ_cons, List.nil_append, List.cons_append, Int.reduceEq, Int.reduceLT, Int.reduceAdd, Int.reduceSub, Int.reduceMul, W_regionD, xrE, OpsW_eqnil, OpsW_neqnil, NilW_sl, List.set_cons_zero, List.set_cons_succ, List.headD_cons, T3, T4, T9, T22, T23, T25, T27, T37, T41, T54, T68, T89, b]
    refine OpsW_pl (check_plain c hf) rfl rfl (by simp only [W_skip, W_region, W_seq, W_cond, W_block, W_exit, W_label, W_ret, W_range, OpsW_nil, OpsW_app, OpsW_app', OpsW_op, OpsW_guard, upd_some, upd_none, Br_W1, Br_W2, Br_O1, Br_O2, opF, evalT, evalO, ofConst, argFr, binF, intF, unF, idxN_nat, reduceIte, reduceCtorEq, Nat.reduceEqDiff, Nat.reduceAdd, Nat.reduceMul, Option.getD_some, Option.getD_none, Option.map_some, Option.map_none, Option.bind_some, Option.some.injEq, Prod.mk.injEq, List.getElem?_toArray, List.getElem?_cons_zero, List.getElem?_cons_succ, List.getElem?_nil, Nat.succ_ne_zero, and_self, true_and, and_true, true_or, or_true, false_or, or_false, exists_eq_left, exists_eq_left', exists_eq, exists_and_left, and_assoc, if_true, if_false, decide_true, decide_false, Bool.false_eq_true, beq_self_eq_true, Bool.true_beq, Bool.false_beq, Bool.not_true, Bool.not_false, ne_eq, not_true_eq_false, not_false_eq_true, List.length_cons, List.length_nil, decide_eq_true_eq, decide_eq_false_iff_not, callB, List.zip_cons_cons, List.zip_nil_right, List.zip_nil_left, List.map_cons, List.map_nil, List.size_toArray, partF, TI.agg, scal, isAgg, cellsOf, tokRo, cellOk, List.all_cons, List.all_nil, Bool.and_true, Bool.true_and, Bool.or_true, Bool.true_or, Bool.or_false, Bool.and_self, Nat.reduceLeDiff, Nat.reduceLT, Nat.lt_add_one, Nat.zero_lt_succ, range1, range2, range3, range4, Option.isSome_some, splice, fillF, List.take_zero, List.drop_zero, List.drop_succ_cons, List.take_succ_cons, List.nil_append, List.cons_append, Int.reduceEq, Int.reduceLT, Int.reduceAdd, Int.reduceSub, Int.reduceMul, W_regionD, xrE, OpsW_eqnil, OpsW_neqnil, NilW_sl, List.set_cons_zero, List.set_cons_succ, List.headD_cons, T3, T4, T9, T22, T23, T25, T27, T37, T41, T54, T68, T89, callArgs, strips, strip_sl, strip_int, strip_bool, strip_str, strip_coll'] <;> rfl) ?_
    simp only [W_skip, W_region, W_seq, W_cond, W_block, W_exit, W_label, W_ret, W_range, OpsW_nil, OpsW_app, OpsW_app', OpsW_op, OpsW_guard, upd_some, upd_none, Br_W1, Br_W2, Br_O1, Br_O2, opF, evalT, evalO, ofConst, argFr, binF, intF, unF, idxN_nat, reduceIte, reduceCtorEq, Nat.reduceEqDiff, Nat.reduceAdd, Nat.reduceMul, Option.getD_some, Option.getD_none, Option.map_some, Option.map_none, Option.bind_some, Option.some.injEq, Prod.mk.injEq, List.getElem?_toArray, List.getElem?_cons_zero, List.getElem?_cons_succ, List.getElem?_nil, Nat.succ_ne_zero, and_self, true_and, and_true, true_or, or_true, false_or, or_false, exists_eq_left, exists_eq_left', exists_eq, exists_and_left, and_assoc, if_true, if_false, decide_true, decide_false, Bool.false_eq_true, beq_self_eq_true, Bool.true_beq, Bool.false_beq, Bool.not_true, Bool.not_false, ne_eq, not_true_eq_false, not_false_eq_true, List.length_cons, List.length_nil, decide_eq_true_eq, decide_eq_false_iff_not, callB, List.zip_cons_cons, List.zip_nil_right, List.zip_nil_left, List.map_cons, List.map_nil, List.size_toArray, partF, TI.agg, scal, isAgg, cellsOf, tokRo, cellOk, List.all_cons, List.all_nil, Bool.and_true, Bool.true_and, Bool.or_true, Bool.true_or, Bool.or_false, Bool.and_self, Nat.reduceLeDiff, Nat.reduceLT, Nat.lt_add_one, Nat.zero_lt_succ, range1, range2, range3, range4, Option.isSome_some, splice, fillF, List.take_zero, List.drop_zero, List.drop_succ_cons, List.take_succ_cons, List.nil_append, List.cons_append, Int.reduceEq, Int.reduceLT, Int.reduceAdd, Int.reduceSub, Int.reduceMul, W_regionD, xrE, OpsW_eqnil, OpsW_neqnil, NilW_sl, List.set_cons_zero, List.set_cons_succ, List.headD_cons, T3, T4, T9, T22, T23, T25, T27, T37, T41, T54, T68, T89]
    refine OpsW_pl (refCheck_plain c hf) rfl rfl (by simp only [W_skip, W_region, W_seq, W_cond, W_block, W_exit, W_label, W_ret, W_range, OpsW_nil, OpsW_app, OpsW_app', OpsW_op, OpsW_guard, upd_some, upd_none, Br_W1, Br_W2, Br_O1, Br_O2, opF, evalT, evalO, ofConst, argFr, binF, intF, unF, idxN_nat, reduceIte, reduceCtorEq, Nat.reduceEqDiff, Nat.reduceAdd, Nat.reduceMul, Option.getD_some, Option.getD_none, Option.map_some, Option.map_none, Option.bind_some, Option.some.injEq, Prod.mk.injEq, List.getElem?_toArray, List.getElem?_cons_zero, List.getElem?_cons_succ, List.getElem?_nil, Nat.succ_ne_zero, and_self, true_and, and_true, true_or, or_true, false_or, or_false, exists_eq_left, exists_eq_left', exists_eq, exists_and_left, and_assoc, if_true, if_false, decide_true, decide_false, Bool.false_eq_true, beq_self_eq_true, Bool.true_beq, Bool.false_beq, Bool.not_true, Bool.not_false, ne_eq, not_true_eq_false, not_false_eq_true, List.length_cons, List.length_nil, decide_eq_true_eq, decide_eq_false_iff_not, callB, List.zip_cons_cons, List.zip_nil_right, List.zip_nil_left, List.map_cons, List.map_nil, List.size_toArray, partF, TI.agg, scal, isAgg, cellsOf, tokRo, cellOk, List.all_cons, List.all_nil, Bool.and_true, Bool.true_and, Bool.or_true, Bool.true_or, Bool.or_false, Bool.and_self, Nat.reduceLeDiff, Nat.reduceLT, Nat.lt_add_one, Nat.zero_lt_succ, range1, range2, range3, range4, Option.isSome_some, splice, fillF, List.take_zero, List.drop_zero, List.drop_succ_cons, List.take_succ_cons, List.nil_append, List.cons_append, Int.reduceEq, Int.reduceLT, Int.reduceAdd, Int.reduceSub, Int.reduceMul, W_regionD, xrE, OpsW_eqnil, OpsW_neqnil, NilW_sl, List.set_cons_zero, List.set_cons_succ, List.headD_cons, T3, T4, T9, T22, T23, T25, T27, T37, T41, T54, T68, T89, callArgs, strips, strip_sl, strip_int, strip_bool, strip_str, strip_coll'] <;> rfl) ?_
    simp only [W_skip, W_region, W_seq, W_cond, W_block, W_exit, W_label, W_ret, W_range, OpsW_nil, OpsW_app, OpsW_app', OpsW_op, OpsW_guard, upd_some, upd_none, Br_W1, Br_W2, Br_O1, Br_O2, opF, evalT, evalO, ofConst, argFr, binF, intF, unF, idxN_nat, reduceIte, reduceCtorEq, Nat.reduceEqDiff, Nat.reduceAdd, Nat.reduceMul, Option.getD_some, Option.getD_none, Option.map_some, Option.map_none, Option.bind_some, Option.some.injEq, Prod.mk.injEq, List.getElem?_toArray, List.getElem?_cons_zero, List.getElem?_cons_succ, List.getElem?_nil, Nat.succ_ne_zero, and_self, true_and, and_true, true_or, or_true, false_or, or_false, exists_eq_left, exists_eq_left', exists_eq, exists_and_left, and_assoc, if_true, if_false, decide_true, decide_false, Bool.false_eq_true, beq_self_eq_true, Bool.true_beq, Bool.false_beq, Bool.not_true, Bool.not_false, ne_eq, not_true_eq_false, not_false_eq_true, List.length_cons, List.length_nil, decide_eq_true_eq, decide_eq_false_iff_not, callB, List.zip_cons_cons, List.zip_nil_right, List.zip_nil_left, List.map_cons, List.map_nil, List.size_toArray, partF, TI.agg, scal, isAgg, cellsOf, tokRo, cellOk, List.all_cons, List.all_nil, Bool.and_true, Bool.true_and, Bool.or_true, Bool.true_or, Bool.or_false, Bool.and_self, Nat.reduceLeDiff, Nat.reduceLT, Nat.lt_add_one, Nat.zero_lt_succ, range1, range2, range3, range4, Option.isSome_some, splice, fillF, List.take_zero, List.drop_zero, List.drop_succ_cons, List.take_succ_cons, List.nil_append, List.cons_append, Int.reduceEq, Int.reduceLT, Int.reduceAdd, Int.reduceSub, Int.reduceMul, W_regionD, xrE, OpsW_eqnil, OpsW_neqnil, NilW_sl, List.set_cons_zero, List.set_cons_succ, List.headD_cons, T3, T4, T9, T22, T23, T25, T27, T37, T41, T54, T68, T89]
    refine OpsW_pl alive_plain rfl rfl rfl ?_
    simp only [W_skip, W_region, W_seq, W_cond, W_block, W_exit, W_label, W_ret, W_range, OpsW_nil, OpsW_app, OpsW_app', OpsW_op, OpsW_guard, upd_some, upd_none, Br_W1, Br_W2, Br_O1, Br_O2, opF, evalT, evalO, ofConst, argFr, binF, intF, unF, idxN_nat, reduceIte, reduceCtorEq, Nat.reduceEqDiff, Nat.reduceAdd, Nat.reduceMul, Option.getD_some, Option.getD_none, Option.map_some, Option.map_none, Option.bind_some, Option.some.injEq, Prod.mk.injEq, List.getElem?_toArray, List.getElem?_cons_zero, List.getElem?_cons_succ, List.getElem?_nil, Nat.succ_ne_zero, and_self, true_and, and_true, true_or, or_true, false_or, or_false, exists_eq_left, exists_eq_left', exists_eq, exists_and_left, and_assoc, if_true, if_false, decide_true, decide_false, Bool.false_eq_true, beq_self_eq_true, Bool.true_beq, Bool.false_beq, Bool.not_true, Bool.not_false, ne_eq, not_true_eq_false, not_false_eq_true, List.length_cons, List.length_nil, decide_eq_true_eq, decide_eq_false_iff_not, callB, List.zip_cons_cons, List.zip_nil_right, List.zip_nil_left, List.map_cons, List.map_nil, List.size_toArray, partF, TI.agg, scal, isAgg, cellsOf, tokRo, cellOk, List.all_cons, List.all_nil, Bool.and_true, Bool.true_and, Bool.or_true, Bool.true_or, Bool.or_false, Bool.and_self, Nat.reduceLeDiff, Nat.reduceLT, Nat.lt_add_one, Nat.zero_lt_succ, range1, range2, range3, range4, Option.isSome_some, splice, fillF, List.take_zero, List.drop_zero, List.drop_succ_cons, List.take_succ_cons, List.nil_append, List.cons_append, Int.reduceEq, Int.reduceLT, Int.reduceAdd, Int.reduceSub, Int.reduceMul, W_regionD, xrE, OpsW_eqnil, OpsW_neqnil, NilW_sl, List.set_cons_zero, List.set_cons_succ, List.headD_cons, T3, T4, T9, T22, T23, T25, T27, T37, T41, T54, T68, T89, resF, resAll, resOne]
    exact ⟨1, by rw [pub_bool]⟩
  · simp only [W_skip, W_region, W_seq, W_cond, W_block, W_exit, W_label, W_ret, W_range, OpsW_nil, OpsW_app, OpsW_app', OpsW_op, OpsW_guard, upd_some, upd_none, Br_W1, Br_W2, Br_O1, Br_O2, opF, evalT, evalO, ofConst, argFr, binF, intF, unF, idxN_nat, reduceIte, reduceCtorEq, Nat.reduceEqDiff, Nat.reduceAdd, Nat.reduceMul, Option.getD_some, Option.getD_none, Option.map_some, Option.map_none, Option.bind_some, Option.some.injEq, Prod.mk.injEq, List.getElem?_toArray, List.getElem?_cons_zero, List.getElem?_cons_succ, List.getElem?_nil, Nat.succ_ne_zero, and_self, true_and, and_true, true_or, or_true, false_or, or_false, exists_eq_left, exists_eq_left', exists_eq, exists_and_left, and_assoc, if_true, if_false, decide_true, decide_false, Bool.false_eq_true, beq_self_eq_true, Bool.true_beq, Bool.false_beq, Bool.not_true, Bool.not_false, ne_eq, not_true_eq_false, not_false_eq_true, List.length_cons, List.length_nil, decide_eq_true_eq, decide_eq_false_iff_not, callB, List.zip_cons_cons, List.zip_nil_right, List.zip_nil_left, List.map_cons, List.map_nil, List.size_toArray, partF, TI.agg, scal, isAgg, cellsOf, tokRo, cellOk, List.all_cons, List.all_nil, Bool.and_true, Bool.true_and, Bool.or_true, Bool.true_or, Bool.or_false, Bool.and_self, Nat.reduceLeDiff, Nat.reduceLT, Nat.lt_add_one, Nat.zero_lt_succ, range1, range2, range3, range4, Option.isSome_some, splice, fillF, List.take_zero, List.drop_zero, List.drop_succ_cons, List.take_succ_cons, List.nil_append, List.cons_append, Int.reduceEq, Int.reduceLT, Int.reduceAdd, Int.reduceSub, Int.reduceMul, W_regionD, xrE, OpsW_eqnil, OpsW_neqnil, NilW_sl, List.set_cons_zero, List.set_cons_succ, List.headD_cons, T3, T4, T9, T22, T23, T25, T27, T37, T41, T54, T68, T89, b]
    refine OpsW_pl alive_plain rfl rfl rfl ?_
    simp only [W_skip, W_region, W_seq, W_cond, W_block, W_exit, W_label, W_ret, W_range, OpsW_nil, OpsW_app, OpsW_app', OpsW_op, OpsW_guard, upd_some, upd_none, Br_W1, Br_W2, Br_O1, Br_O2, opF, evalT, evalO, ofConst, argFr, binF, intF, unF, idxN_nat, reduceIte, reduceCtorEq, Nat.reduceEqDiff, Nat.reduceAdd, Nat.reduceMul, Option.getD_some, Option.getD_none, Option.map_some, Option.map_none, Option.bind_some, Option.some.injEq, Prod.mk.injEq, List.getElem?_toArray, List.getElem?_cons_zero, List.getElem?_cons_succ, List.getElem?_nil, Nat.succ_ne_zero, and_self, true_and, and_true, true_or, or_true, false_or, or_false, exists_eq_left, exists_eq_left', exists_eq, exists_and_left, and_assoc, if_true, if_false, decide_true, decide_false, Bool.false_eq_true, beq_self_eq_true, Bool.true_beq, Bool.false_beq, Bool.not_true, Bool.not_false, ne_eq, not_true_eq_false, not_false_eq_true, List.length_cons, List.length_nil, decide_eq_true_eq, decide_eq_false_iff_not, callB, List.zip_cons_cons, List.zip_nil_right, List.zip_nil_left, List.map_cons, List.map_nil, List.size_toArray, partF, TI.agg, scal, isAgg, cellsOf, tokRo, cellOk, List.all_cons, List.all_nil, Bool.and_true, Bool.true_and, Bool.or_true, Bool.true_or, Bool.or_false, Bool.and_self, Nat.reduceLeDiff, Nat.reduceLT, Nat.lt_add_one, Nat.zero_lt_succ, range1, range2, range3, range4, Option.isSome_some, splice, fillF, List.take_zero, List.drop_zero, List.drop_succ_cons, List.take_succ_cons, List.nil_append, List.cons_append, Int.reduceEq, Int.reduceLT, Int.reduceAdd, Int.reduceSub, Int.reduceMul, W_regionD, xrE, OpsW_eqnil, OpsW_neqnil, NilW_sl, List.set_cons_zero, List.set_cons_succ, List.headD_cons, T3, T4, T9, T22, T23, T25, T27, T37, T41, T54, T68, T89, resF, resAll, resOne]
    exact ⟨1, by rw [pub_bool]⟩

/-! ### What a parameter of the collations' type is -/
def shInt : Sh := .int .i64
def shInts : Sh := .slice 3 1 shInt
def shEl : Sh := .strct (.cons 0 1 3 shInt (.cons 1 1 3 shInt (.cons 2 1 3 shInt (.cons 3 1 4 .bool .nil))))
def shEnt : Sh := .strct (.cons 0 1 37 shInts (.cons 1 1 41 (.slice 68 4 shEl) .nil))
def shGrp : Sh := .strct (.cons 0 1 9 .str (.cons 1 1 3 shInt (.cons 2 1 3 shInt .nil)))
def shColl : Sh := .strct (.cons 0 1 22 (.slice 54 2 shEnt) (.cons 1 1 23 (.slice 89 3 shGrp) (.cons 2 1 3 shInt (.cons 3 1 3 shInt (.cons 4 1 3 shInt .nil)))))
theorem shColl_ok : shColl.okB Go.Proofs.Tryz.prog 25 = true := by kernel_rfl
theorem rows_of {α : Type} {R : List PV → Prop} {F : α → List PV} {P : α → Prop} (h : ∀ r, R r → ∃ x, r = F x ∧ P x) : ∀ rows : List (List PV), (∀ r ∈ rows, R r) → ∃ l : List α, rows = l.map F ∧ ∀ x ∈ l, P x
  | [], _ => ⟨[], rfl, fun x hx => by simp at hx⟩
  | r :: rows, hr => by
    obtain ⟨x, rfl, px⟩ := h r (hr r (by simp))
    obtain ⟨l, rfl, pl⟩ := rows_of h rows (fun r' hr' => hr r' (by simp [hr']))
    exact ⟨x :: l, rfl, fun y hy => by
      rcases List.mem_cons.1 hy with e | e
      · rw [e]; exact px
      · exact pl y e⟩
def In64 (n : Int) : Prop := -9223372036854775808 ≤ n ∧ n ≤ 9223372036854775807
theorem int_of {ps : List PV} (h : shInt.Typed ps) : ∃ n : Int, ps = [.int .i64 n] ∧ In64 n := by
  simp only [shInt, Sh.Typed] at h
  obtain ⟨n, rfl, hw⟩ := h
  refine ⟨n, rfl, ?_⟩
  simp only [Lit.wf, Bool.and_eq_true, decide_eq_true_eq] at hw
  exact ⟨hw.1, hw.2⟩
theorem ints_of {ps : List PV} (h : shInts.Typed ps) : ∃ l : List Int, ps = [.sl 1 (ints l) .ro] ∧ l.length ≤ maxLen ∧ ∀ n ∈ l, In64 n := by
  simp only [shInts, Sh.Typed] at h
  obtain ⟨rows, rfl, hl, hr⟩ := h
  obtain ⟨l, rfl, pl⟩ := rows_of (F := fun n : Int => [PV.int .i64 n]) (P := In64) (fun r hr => int_of hr) rows hr
  exact ⟨l, rfl, by simpa using hl, pl⟩
theorem el_of {ps : List PV} (h : shEl.Typed ps) : ∃ e : Elem, ps = e.cells ∧ In64 e.p ∧ In64 e.s ∧ In64 e.t := by
  simp only [shEl, Sh.Typed, FS.Typed] at h
  obtain ⟨a, b, rfl, _, ha, c, d, rfl, _, hc, e, f, rfl, _, he, g, i, rfl, _, ⟨v, rfl⟩, rfl⟩ := h
  obtain ⟨n1, rfl, h1⟩ := int_of ha
  obtain ⟨n2, rfl, h2⟩ := int_of hc
  obtain ⟨n3, rfl, h3⟩ := int_of he
  exact ⟨⟨n1, n2, n3, v⟩, rfl, h1, h2, h3⟩
def EntOk (x : Entry) : Prop := x.a = false ∧ x.b = false ∧ x.codes.length ≤ maxLen ∧ x.els.length ≤ maxLen ∧ (∀ n ∈ x.codes, In64 n) ∧ ∀ e ∈ x.els, In64 e.p ∧ In64 e.s ∧ In64 e.t
theorem ent_of {ps : List PV} (h : shEnt.Typed ps) : ∃ x : Entry, ps = x.cells ∧ EntOk x := by
  simp only [shEnt, Sh.Typed, FS.Typed] at h
  obtain ⟨a, b, rfl, _, ha, c, d, rfl, _, ⟨rows, rfl, hl, hr⟩, rfl⟩ := h
  obtain ⟨l, rfl, h1, h2⟩ := ints_of ha
  obtain ⟨es, rfl, h3⟩ := rows_of (F := Elem.cells) (fun r hr => el_of hr) rows hr
  exact ⟨⟨l, es, false, false⟩, rfl, rfl, rfl, h1, by simpa using hl, h2, h3⟩
def GrpOk (g : Grp) : Prop := g.name.length ≤ maxLen ∧ In64 g.lo ∧ In64 g.hi
theorem grp_of {ps : List PV} (h : shGrp.Typed ps) : ∃ g : Grp, ps = g.cells ∧ GrpOk g := by
  simp only [shGrp, Sh.Typed, FS.Typed] at h
  obtain ⟨a, b, rfl, _, ⟨s, rfl, hs⟩, c, d, rfl, _, hc, e, f, rfl, _, he, rfl⟩ := h
  obtain ⟨n2, rfl, h2⟩ := int_of hc
  obtain ⟨n3, rfl, h3⟩ := int_of he
  exact ⟨⟨s, n2, n3⟩, rfl, hs, h2, h3⟩
/-- A collation that came in. -/
structure CollOk (c : Coll) : Prop where
  a : c.a = false
  b : c.b = false
  el : c.ents.length ≤ maxLen
  gl : c.grps.length ≤ maxLen
  ents : ∀ x ∈ c.ents, EntOk x
  grps : ∀ g ∈ c.grps, GrpOk g
  base : In64 c.base
  second : In64 c.second
  third : In64 c.third
theorem coll_of {ps : List PV} (h : shColl.Typed ps) : ∃ c : Coll, ps = c.cells ∧ CollOk c := by
  simp only [shColl, Sh.Typed, FS.Typed] at h
  obtain ⟨a, b, rfl, _, ⟨r1, rfl, l1, t1⟩, c, d, rfl, _, ⟨r2, rfl, l2, t2⟩, e, f, rfl, _, he, g, i, rfl, _, hg, j, k, rfl, _, hj, rfl⟩ := h
  obtain ⟨x1, rfl, p1⟩ := rows_of (F := Entry.cells) (fun r hr => ent_of hr) r1 t1
  obtain ⟨x2, rfl, p2⟩ := rows_of (F := Grp.cells) (fun r hr => grp_of hr) r2 t2
  obtain ⟨n1, rfl, h1⟩ := int_of he
  obtain ⟨n2, rfl, h2⟩ := int_of hg
  obtain ⟨n3, rfl, h3⟩ := int_of hj
  exact ⟨⟨x1, x2, n1, n2, n3, false, false⟩, rfl, rfl, rfl, by simpa using l1, by simpa using l2, p1, p2, h1, h2, h3⟩
theorem CollOk.fits {c : Coll} (h : CollOk c) : Fits c := by
  have hm : maxLen = 9223372036854775807 := rfl
  refine ⟨by have := h.el; omega, by have := h.gl; omega, fun g hg => ?_, fun x hx => ?_, fun x hx => ?_⟩
  · have := (h.grps g hg).1; omega
  · have := (h.ents x hx).2.2.1; omega
  · have := (h.ents x hx).2.2.2.1; omega
end Go.Pv.Ct
end
